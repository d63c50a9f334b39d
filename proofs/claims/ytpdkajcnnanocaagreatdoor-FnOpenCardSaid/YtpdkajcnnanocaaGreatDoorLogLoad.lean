/-
  Contracts: the commands that bytes begin with, by the program's function and by the reference's.
-/
import Derived.Test.YtpdkajcnnanocaaGreatDoorCmList
import Derived.Test.YtpdkajcnnanocaaGreatDoorScan
namespace Go.Proofs.YtpdkajcnnanocaaGreatDoor
open Go Go.RowKit
set_option linter.unusedVariables false
set_option linter.unusedSimpArgs false

def taken (bs : List (List Int)) : List (List Int) := (bs.takeWhile fromOk).take 20
def logOf (l : List Int) : List Cm := (taken (scan l)).map cmOf
def logUsed (l : List Int) : Nat := usedF (taken (scan l))
theorem taken_eq {bs : List (List Int)} {k : Nat} (hall : ∀ b ∈ bs.take k, fromOk b = true) (hk : k ≤ bs.length) (h20 : k ≤ 20) (hend : k = bs.length ∨ k = 20 ∨ ∃ b, bs[k]? = some b ∧ fromOk b = false) : taken bs = bs.take k := by
  have hl : (bs.take k).length = k := by simp; omega
  have e : bs.takeWhile fromOk = bs.take k ++ (bs.drop k).takeWhile fromOk := by
    rw [← List.takeWhile_append_of_pos hall, List.take_append_drop]
  unfold taken
  rw [e]
  rcases hend with h | h | ⟨b, hb, hf⟩
  · rw [List.drop_eq_nil_of_le (by omega), List.takeWhile_nil, List.append_nil, List.take_of_length_le (by omega)]
  · rw [List.take_append_of_le_length (by omega), List.take_of_length_le (by omega)]
  · have hlt := (List.getElem?_eq_some_iff.1 hb).1
    rw [List.drop_eq_getElem_cons hlt, (List.getElem?_eq_some_iff.1 hb).2, List.takeWhile_cons, hf]
    simp only [Bool.false_eq_true, if_false, List.append_nil]
    exact List.take_of_length_le (by omega)
theorem usedF_take {bs : List (List Int)} {k : Nat} {b : List Int} (h : bs[k]? = some b) : usedF (bs.take (k + 1)) = usedF (bs.take k) + b.length + 2 := by
  rw [List.take_add_one, h]; exact usedF_snoc _ _
theorem usedF_le {bs : List (List Int)} (h : ∀ b ∈ bs, fromOk b = true) : usedF bs ≤ 18 * bs.length := by
  induction bs with
  | nil => simp [usedF]
  | cons b r ih =>
    have h1 := h b (List.mem_cons_self ..)
    have h2 := ih (fun c hc => h c (List.mem_cons_of_mem _ hc))
    have h3 : bodyOk b = true := by unfold fromOk at h1; simp at h1; exact h1.1.2
    have := body_len h3
    simp [usedF] at *; omega
theorem fromOk_body {b : List Int} (h : fromOk b = true) : bodyOk b = true := by unfold fromOk at h; simp at h; exact h.1.2
theorem logOf_len (l : List Int) : (logOf l).length ≤ 20 := by unfold logOf taken; simp; omega

theorem c_specLogLoad {v : Value} {l : List Int} {w : World} (h : RdL tInt w v l) (hs : l.length ≤ 4294967296) : Cl Tryz.prog 35 [v] w (fun u w' => ∃ r, u = .tuple #[r, .int .i64 (logUsed l)] ∧ OwL tCm w' w.heap.size 65 r (logOf l) ∧ Below w.heap.size w w') := by
  refine calls_start 54 Tryz.func35 rfl rfl rfl ?_
  repeat' (first | (apply isL; first | apply L_nil | refine L_move rfl rfl ?_ | (apply isGuarded; first | refine L_guard_dec rfl rfl (fun hg => ?_) (fun hg => ?_) | refine L_guard_yes rfl rfl ?_ | refine L_guard_no rfl rfl rfl rfl ?_ | refine L_guard_undef rfl rfl rfl ?_ | refine L_guard_split rfl rfl (fun hg => ?_) (fun hg => ?_)) | (apply isCall; first | refine L_lenL rfl rd_ rfl (fun hlen => ?_) | (refine L_call rfl rfl (c_specFramesScan (h.ext hB3) hs) (fun u w4 hQ => ?_); obtain ⟨r, rows, rfl, hRL, hB4⟩ := hQ; have hO4 := hO3.ext hB4; have hB04 : Below w.heap.size w w4 := below_step hB3 hB4) ) | (apply isBin; first | refine L_do rfl rfl rfl (do_cmp rfl rfl rfl) ?_ | refine L_do rfl rfl rfl (do_add rfl rfl om_) ?_ ) | (apply isLoad; first | refine L_loadPt rfl (by rfl) pt_ (by rfl) rfl ?_ | refine L_loadPt2 rfl (by rfl) pt_ (by rfl) rfl ?_ | refine L_loadPt0 rfl pt_ (by rfl) rfl ?_ | refine L_loadAgg rfl pt_ (by rfl) rfl ?_ | refine L_loadSub rfl (by rfl) pt_ (by rfl) rfl ?_) | refine L_assign rfl rfl ?_ | refine L_do rfl rfl rfl (do_pick_true rfl rfl) ?_ | refine L_do rfl rfl rfl (do_pick_false rfl rfl) ?_ | refine L_do rfl rfl rfl (do_notDec rfl) ?_ | refine L_do rfl rfl rfl (do_not rfl) ?_ | refine L_do rfl rfl rfl (do_extract rfl rfl) ?_ | refine L_buildSlice0 (w0 := w) tCm bw_ rfl (fun w3 hO3 hB3 hC3 => ?_) | refine L_indexL rfl rfl rd_ (by rfl) om_ om_ rfl (fun a y hy hab hp => ?_) | (apply isAllocStore; refine L_allocStoreV (w0 := w) bw_ rfl rfl rfl rfl ?_ rfl (fun w1 hz1 hB hB1 hv => ?_); (focus (first | exact Ty.one _ _ | simp [Value.oneCell'])); have hp := pt_of_block hv) ) | (apply isW; first | apply W_seq | apply W_region | refine W_cond_dec rfl (fun hg => ?_) (fun hg => ?_) | refine W_cond_true rfl ?_ | refine W_cond_false rfl ?_ | refine W_cond rfl (fun hg => ?_) (fun hg => ?_) | apply W_skip | apply W_ret | apply W_exit | apply W_block) | (apply isAt; first | apply At_then | apply At_then_ret | apply At_then_exit | apply At_block_normal | apply At_block_ret | apply At_block_hit | refine At_block_miss rfl ?_ | refine At_end1 rfl rfl ?_ | refine At_end1n rfl rfl ?_ | refine At_end2 rfl rfl rfl ?_ | refine At_end3 rfl rfl rfl rfl ?_ | refine At_end4 rfl rfl rfl rfl rfl ?_ | refine At_mix kp_ ?_))
  have hbd := scan_bodies (l := l)
  generalize hbs : scan l = bs at *
  clear hO3 hB3 hB4 hC3
  refine W_loopF (fun m fr w' => ∃ (k : Nat) (u : Value), m = bs.length - k ∧ k ≤ bs.length ∧ k ≤ 20 ∧ fr = [(4, u), (5, r), (7, .int .i64 (usedF (bs.take k))), (8, .int .i64 k)] ∧ Below w.heap.size w w' ∧ OwL tCm w' w.heap.size 65 u ((bs.take k).map cmOf) ∧ (∀ b ∈ bs.take k, fromOk b = true) ∧ OwLL tInt w' w3.heap.size 31 3 r rows bs) bs.length
    [(4, .slice (some ⟨w.heap.size, 0, none⟩) 0 0), (5, r), (7, .int .i64 0), (8, .int .i64 0)] sl_ ⟨0, _, rfl, Nat.zero_le _, by omega, rfl, hB04, hO4, fun b hb => by simp at hb, hRL⟩ ?_
  clear hO4 hRL hB04
  rintro _ _ w' ⟨k, u, rfl, hk, h20, rfl, hBk, hO, hall, hRL⟩
  have hul : ((bs.take k).map cmOf).length = k := by simp; omega
  have huf := usedF_le hall
  have htl : (bs.take k).length = k := by simp; omega
  have hrl := hRL.len
  have hfin : (k = bs.length ∨ k = 20 ∨ ∃ b, bs[k]? = some b ∧ fromOk b = false) → logOf l = (bs.take k).map cmOf ∧ logUsed l = usedF (bs.take k) := fun e => by
    unfold logOf logUsed; rw [hbs, taken_eq hall hk h20 e]; exact ⟨rfl, rfl⟩
  rcases Nat.lt_or_ge k bs.length with hkl | hkl
  · obtain ⟨r0, hr0⟩ : ∃ r0, rows[k]? = some r0 := ⟨_, List.getElem?_eq_getElem (by omega)⟩
    obtain ⟨b0, hb0, hrb0⟩ := hRL.at_ k r0 hr0
    have hbb := body_len (hbd b0 (List.mem_of_getElem? hb0))
    repeat' (first | (apply isL; first | apply L_nil | refine L_move rfl rfl ?_ | (apply isGuarded; first | refine L_guard_dec rfl rfl (fun hg => ?_) (fun hg => ?_) | refine L_guard_yes rfl rfl ?_ | refine L_guard_no rfl rfl rfl rfl ?_ | refine L_guard_undef rfl rfl rfl ?_ | refine L_guard_split rfl rfl (fun hg => ?_) (fun hg => ?_)) | (apply isCall; first | refine L_lenL rfl rd_ rfl (fun hlen => ?_) | (refine L_callV rfl rfl (c_specCommandFrom (hrb0.rd.ext bw_) om_) (fun w5 hB5 => ?_); cases hok : fromOk b0) | (have hB77 : Below w'.heap.size w' w7 := bw_; have hO77 := hO.ext hB77; refine L_append (w0 := w) rfl rfl (below_step hBk hB77) hO77 hO7.rd rfl (by simp; omega) (by simp; omega) rfl (fun v9 w9 hO9 hBw9 hg9 => ?_); have hR9 := (hRL.ext hB77).kept hO77 (by decide) (by decide) hg9) | refine L_do rfl rfl rfl (do_len rfl hrb0.rd.rd) ?_ | refine L_do rfl rfl rfl (do_len rfl hO.rd.rd) ?_ | refine L_do rfl rfl rfl (do_len rfl hRL.own.rd.rd) ?_ ) | (apply isBin; first | refine L_do rfl rfl rfl (do_cmp rfl rfl rfl) ?_ | refine L_do rfl rfl rfl (do_add rfl rfl om_) ?_ ) | (apply isLoad; first | refine L_loadPt rfl (by rfl) pt_ (by rfl) rfl ?_ | refine L_loadPt2 rfl (by rfl) pt_ (by rfl) rfl ?_ | refine L_loadPt0 rfl pt_ (by rfl) rfl ?_ | refine L_loadAgg rfl pt_ (by rfl) rfl ?_ | refine L_loadSub rfl (by rfl) pt_ (by rfl) rfl ?_) | refine L_assign rfl rfl ?_ | refine L_do rfl rfl rfl (do_pick_true rfl rfl) ?_ | refine L_do rfl rfl rfl (do_pick_false rfl rfl) ?_ | refine L_do rfl rfl rfl (do_notDec rfl) ?_ | refine L_do rfl rfl rfl (do_not rfl) ?_ | refine L_do rfl rfl rfl (do_extract rfl rfl) ?_ | (refine L_indexL rfl rfl (hRL.own.rd.ext bw_) rfl om_ om_ rfl (fun a y hy hab hp => ?_); have hyy : rows[k]? = some y := hy; rw [hr0] at hyy; obtain rfl := Option.some.inj hyy) | refine L_buildSliceL tCm [cmFrom b0] rfl rfl rfl rfl rfl rfl rfl rfl (fun w7 hO7 hB7 => ?_) | (refine L_indexL rfl rfl hR9.own.rd rfl om_ om_ rfl (fun a y hy hab hp => ?_); have hyy : rows[k]? = some y := hy; rw [hr0] at hyy; obtain rfl := Option.some.inj hyy) | refine L_indexL rfl rfl rd_ (by rfl) om_ om_ rfl (fun a y hy hab hp => ?_) | (apply isAllocStore; refine L_allocStoreV (w0 := w) bw_ rfl rfl rfl rfl ?_ rfl (fun w1 hz1 hB hB1 hv => ?_); (focus (first | exact Ty.one _ _ | simp [Value.oneCell'])); have hp := pt_of_block hv) ) | (apply isW; first | apply W_seq | apply W_region | refine W_cond_dec rfl (fun hg => ?_) (fun hg => ?_) | refine W_cond_true rfl ?_ | refine W_cond_false rfl ?_ | refine W_cond rfl (fun hg => ?_) (fun hg => ?_) | apply W_skip | apply W_ret | apply W_exit | apply W_block) | (apply isAt; first | apply At_then | apply At_then_ret | apply At_then_exit | apply At_block_normal | apply At_block_ret | apply At_block_hit | refine At_block_miss rfl ?_ | refine At_end1 rfl rfl ?_ | refine At_end1n rfl rfl ?_ | refine At_end2 rfl rfl rfl ?_ | refine At_end3 rfl rfl rfl rfl ?_ | refine At_end4 rfl rfl rfl rfl rfl ?_ | refine At_mix kp_ ?_))
    case inl.refine_1.refine_1.true.refine_2 =>
      have e1 : (bs.take k).map cmOf ++ [cmFrom b0] = (bs.take (k + 1)).map cmOf := by rw [List.take_add_one, hb0, cmFrom, hok]; simp
      rw [e1] at hO9
      exact At_round _ [(4, v9), (5, r), (7, .int .i64 (usedF (bs.take (k + 1)))), (8, .int .i64 ((k + 1 : Nat) : Int))] (by rw [usedF_take hb0, show ((usedF (bs.take k) + b0.length + 2 : Nat) : Int) = usedF (bs.take k) + b0.length + 2 by omega]; repeat (first | exact get_nil_slots _ | refine get_cons_slots rfl ?_)) (by omega) ⟨k + 1, v9, rfl, by omega, by omega, rfl, hBw9, hO9, by
        intro b hb
        rw [List.take_add_one, hb0] at hb
        rcases List.mem_append.1 hb with hb | hb
        · exact hall b hb
        · simp at hb; subst hb; exact hok, hR9⟩
    all_goals first | (exfalso; omega) | skip
    case inl.refine_1.refine_1.false.refine_2 =>
      obtain ⟨e1, e2⟩ := hfin (.inr (.inr ⟨b0, hb0, hok⟩))
      exact ⟨u, by rw [e2], by rw [e1]; exact hO.ext bw_, below_step hBk bw_⟩
    case inl.refine_1.refine_2 =>
      obtain ⟨e1, e2⟩ := hfin (.inr (.inl (by omega)))
      exact ⟨u, by rw [e2], by rw [e1]; exact hO.ext bw_, below_step hBk bw_⟩
  · repeat' (first | (apply isL; first | apply L_nil | refine L_move rfl rfl ?_ | (apply isGuarded; first | refine L_guard_dec rfl rfl (fun hg => ?_) (fun hg => ?_) | refine L_guard_yes rfl rfl ?_ | refine L_guard_no rfl rfl rfl rfl ?_ | refine L_guard_undef rfl rfl rfl ?_ | refine L_guard_split rfl rfl (fun hg => ?_) (fun hg => ?_)) | (apply isCall; first | refine L_lenL rfl rd_ rfl (fun hlen => ?_) | refine L_do rfl rfl rfl (do_len rfl hRL.own.rd.rd) ?_ ) | (apply isBin; first | refine L_do rfl rfl rfl (do_cmp rfl rfl rfl) ?_ | refine L_do rfl rfl rfl (do_add rfl rfl om_) ?_ ) | (apply isLoad; first | refine L_loadPt rfl (by rfl) pt_ (by rfl) rfl ?_ | refine L_loadPt2 rfl (by rfl) pt_ (by rfl) rfl ?_ | refine L_loadPt0 rfl pt_ (by rfl) rfl ?_ | refine L_loadAgg rfl pt_ (by rfl) rfl ?_ | refine L_loadSub rfl (by rfl) pt_ (by rfl) rfl ?_) | refine L_assign rfl rfl ?_ | refine L_do rfl rfl rfl (do_pick_true rfl rfl) ?_ | refine L_do rfl rfl rfl (do_pick_false rfl rfl) ?_ | refine L_do rfl rfl rfl (do_notDec rfl) ?_ | refine L_do rfl rfl rfl (do_not rfl) ?_ | refine L_do rfl rfl rfl (do_extract rfl rfl) ?_ | refine L_indexL rfl rfl rd_ (by rfl) om_ om_ rfl (fun a y hy hab hp => ?_) | (apply isAllocStore; refine L_allocStoreV (w0 := w) bw_ rfl rfl rfl rfl ?_ rfl (fun w1 hz1 hB hB1 hv => ?_); (focus (first | exact Ty.one _ _ | simp [Value.oneCell'])); have hp := pt_of_block hv) ) | (apply isW; first | apply W_seq | apply W_region | refine W_cond_dec rfl (fun hg => ?_) (fun hg => ?_) | refine W_cond_true rfl ?_ | refine W_cond_false rfl ?_ | refine W_cond rfl (fun hg => ?_) (fun hg => ?_) | apply W_skip | apply W_ret | apply W_exit | apply W_block) | (apply isAt; first | apply At_then | apply At_then_ret | apply At_then_exit | apply At_block_normal | apply At_block_ret | apply At_block_hit | refine At_block_miss rfl ?_ | refine At_end1 rfl rfl ?_ | refine At_end1n rfl rfl ?_ | refine At_end2 rfl rfl rfl ?_ | refine At_end3 rfl rfl rfl rfl ?_ | refine At_end4 rfl rfl rfl rfl rfl ?_ | refine At_mix kp_ ?_))
    all_goals first | (exfalso; omega) | skip
    obtain ⟨e1, e2⟩ := hfin (.inl (by omega))
    exact ⟨u, by rw [e2], by rw [e1]; exact hO, hBk⟩
theorem c_implLogLoad {v : Value} {l : List Int} {w : World} (h : RdL tInt w v l) (hs : l.length ≤ 4294967296) (hm : MLen w) : Cl Tryz.prog 30 [v] w (fun u w' => ∃ r, u = .tuple #[r, .int .i64 (logUsed l)] ∧ OwL tCm w' w.heap.size 65 r (logOf l) ∧ Below w.heap.size w w') := by
  refine calls_start 47 Tryz.func30 rfl rfl rfl ?_
  repeat' (first | (apply isL; first | apply L_nil | refine L_move rfl rfl ?_ | (apply isGuarded; first | refine L_guard_dec rfl rfl (fun hg => ?_) (fun hg => ?_) | refine L_guard_yes rfl rfl ?_ | refine L_guard_no rfl rfl rfl rfl ?_ | refine L_guard_undef rfl rfl rfl ?_ | refine L_guard_split rfl rfl (fun hg => ?_) (fun hg => ?_)) | (apply isCall; first | refine L_lenL rfl rd_ rfl (fun hlen => ?_) | (refine L_call rfl rfl (c_implFramesScan h hs) (fun u w4 hQ => ?_); obtain ⟨r, rows, rfl, hRL, hB04⟩ := hQ) | refine L_do rfl rfl rfl (do_len rfl hRL.own.rd.rd) ?_ ) | (apply isBin; first | refine L_do rfl rfl rfl (do_cmp rfl rfl rfl) ?_ | refine L_do rfl rfl rfl (do_add rfl rfl om_) ?_ ) | (apply isLoad; first | refine L_loadPt rfl (by rfl) pt_ (by rfl) rfl ?_ | refine L_loadPt2 rfl (by rfl) pt_ (by rfl) rfl ?_ | refine L_loadPt0 rfl pt_ (by rfl) rfl ?_ | refine L_loadAgg rfl pt_ (by rfl) rfl ?_ | refine L_loadSub rfl (by rfl) pt_ (by rfl) rfl ?_) | refine L_assign rfl rfl ?_ | refine L_do rfl rfl rfl (do_pick_true rfl rfl) ?_ | refine L_do rfl rfl rfl (do_pick_false rfl rfl) ?_ | refine L_do rfl rfl rfl (do_notDec rfl) ?_ | refine L_do rfl rfl rfl (do_not rfl) ?_ | refine L_do rfl rfl rfl (do_extract rfl rfl) ?_ | refine L_indexL rfl rfl rd_ (by rfl) om_ om_ rfl (fun a y hy hab hp => ?_) | (apply isAllocStore; refine L_allocStoreV (w0 := w) bw_ rfl rfl rfl rfl ?_ rfl (fun w1 hz1 hB hB1 hv => ?_); (focus (first | exact Ty.one _ _ | simp [Value.oneCell'])); have hp := pt_of_block hv) ) | (apply isW; first | apply W_seq | apply W_region | refine W_cond_dec rfl (fun hg => ?_) (fun hg => ?_) | refine W_cond_true rfl ?_ | refine W_cond_false rfl ?_ | refine W_cond rfl (fun hg => ?_) (fun hg => ?_) | apply W_skip | apply W_ret | apply W_exit | apply W_block) | (apply isAt; first | apply At_then | apply At_then_ret | apply At_then_exit | apply At_block_normal | apply At_block_ret | apply At_block_hit | refine At_block_miss rfl ?_ | refine At_end1 rfl rfl ?_ | refine At_end1n rfl rfl ?_ | refine At_end2 rfl rfl rfl ?_ | refine At_end3 rfl rfl rfl rfl ?_ | refine At_end4 rfl rfl rfl rfl rfl ?_ | refine At_mix kp_ ?_))
  have hbd := scan_bodies (l := l)
  generalize hbs : scan l = bs at *
  have hrl := hRL.len
  refine W_loopF (fun m fr w' => ∃ (k : Nat) (u : Value), m = bs.length - k ∧ k ≤ bs.length ∧ k ≤ 20 ∧ fr = [(6, u), (7, .int .i64 (usedF (bs.take k))), (17, r), (18, .int .i64 rows.length), (19, .int .i64 k)] ∧ Below w.heap.size w w' ∧ OwL tCm w' w.heap.size 65 u ((bs.take k).map cmOf) ∧ (∀ b ∈ bs.take k, fromOk b = true) ∧ OwLL tInt w' w.heap.size 31 3 r rows bs) bs.length
    [(6, .slice none 0 0), (7, .int .i64 0), (17, r), (18, .int .i64 rows.length), (19, .int .i64 0)] sl_ ⟨0, _, rfl, Nat.zero_le _, by omega, rfl, hB04, ⟨by simp, .inl ⟨rfl, rfl⟩⟩, fun b hb => by simp at hb, hRL⟩ ?_
  clear hRL hB04
  rintro _ _ w' ⟨k, u, rfl, hk, h20, rfl, hBk, hO, hall, hRL⟩
  have hul : ((bs.take k).map cmOf).length = k := by simp; omega
  have huf := usedF_le hall
  have htl : (bs.take k).length = k := by simp; omega
  have hfin : (k = bs.length ∨ k = 20 ∨ ∃ b, bs[k]? = some b ∧ fromOk b = false) → logOf l = (bs.take k).map cmOf ∧ logUsed l = usedF (bs.take k) := fun e => by
    unfold logOf logUsed; rw [hbs, taken_eq hall hk h20 e]; exact ⟨rfl, rfl⟩
  rcases Nat.lt_or_ge k bs.length with hkl | hkl
  · obtain ⟨r0, hr0⟩ : ∃ r0, rows[k]? = some r0 := ⟨_, List.getElem?_eq_getElem (by omega)⟩
    obtain ⟨b0, hb0, hrb0⟩ := hRL.at_ k r0 hr0
    have hbb := body_len (hbd b0 (List.mem_of_getElem? hb0))
    repeat' (first | (apply isL; first | apply L_nil | refine L_move rfl rfl ?_ | (apply isGuarded; first | refine L_guard_dec rfl rfl (fun hg => ?_) (fun hg => ?_) | refine L_guard_yes rfl rfl ?_ | refine L_guard_no rfl rfl rfl rfl ?_ | refine L_guard_undef rfl rfl rfl ?_ | refine L_guard_split rfl rfl (fun hg => ?_) (fun hg => ?_)) | (apply isCall; first | refine L_lenL rfl rd_ rfl (fun hlen => ?_) | (refine L_callV rfl rfl (c_implCommandFrom (hrb0.rd.ext bw_) om_ (hm.ext (below_step hBk bw_))) (fun w5 hB5 => ?_); cases hok : fromOk b0) | (have hB77 : Below w'.heap.size w' w7 := bw_; have hO77 := hO.ext hB77; refine L_append (w0 := w) rfl rfl (below_step hBk hB77) hO77 hO7.rd rfl (by simp; omega) (by simp; omega) rfl (fun v9 w9 hO9 hBw9 hg9 => ?_); have hR9 := (hRL.ext hB77).kept hO77 (by decide) (by decide) hg9) | refine L_do rfl rfl rfl (do_len rfl hrb0.rd.rd) ?_ | refine L_do rfl rfl rfl (do_len rfl hO.rd.rd) ?_ | refine L_do rfl rfl rfl (do_len rfl hRL.own.rd.rd) ?_ ) | (apply isBin; first | refine L_do rfl rfl rfl (do_cmp rfl rfl rfl) ?_ | refine L_do rfl rfl rfl (do_add rfl rfl om_) ?_ ) | (apply isLoad; first | refine L_loadPt rfl (by rfl) pt_ (by rfl) rfl ?_ | refine L_loadPt2 rfl (by rfl) pt_ (by rfl) rfl ?_ | refine L_loadPt0 rfl pt_ (by rfl) rfl ?_ | refine L_loadAgg rfl pt_ (by rfl) rfl ?_ | refine L_loadSub rfl (by rfl) pt_ (by rfl) rfl ?_) | refine L_assign rfl rfl ?_ | refine L_do rfl rfl rfl (do_pick_true rfl rfl) ?_ | refine L_do rfl rfl rfl (do_pick_false rfl rfl) ?_ | refine L_do rfl rfl rfl (do_notDec rfl) ?_ | refine L_do rfl rfl rfl (do_not rfl) ?_ | refine L_do rfl rfl rfl (do_extract rfl rfl) ?_ | (refine L_indexL rfl rfl (hRL.own.rd.ext bw_) rfl om_ om_ rfl (fun a y hy hab hp => ?_); have hyy : rows[k]? = some y := hy; rw [hr0] at hyy; obtain rfl := Option.some.inj hyy) | refine L_buildSliceL tCm [cmFrom b0] rfl rfl rfl rfl rfl rfl rfl rfl (fun w7 hO7 hB7 => ?_) | (refine L_indexL rfl rfl hR9.own.rd rfl om_ om_ rfl (fun a y hy hab hp => ?_); have hyy : rows[k]? = some y := hy; rw [hr0] at hyy; obtain rfl := Option.some.inj hyy) | refine L_indexL rfl rfl rd_ (by rfl) om_ om_ rfl (fun a y hy hab hp => ?_) | (apply isAllocStore; refine L_allocStoreV (w0 := w) bw_ rfl rfl rfl rfl ?_ rfl (fun w1 hz1 hB hB1 hv => ?_); (focus (first | exact Ty.one _ _ | simp [Value.oneCell'])); have hp := pt_of_block hv) ) | (apply isW; first | apply W_seq | apply W_region | refine W_cond_dec rfl (fun hg => ?_) (fun hg => ?_) | refine W_cond_true rfl ?_ | refine W_cond_false rfl ?_ | refine W_cond rfl (fun hg => ?_) (fun hg => ?_) | apply W_skip | apply W_ret | apply W_exit | apply W_block) | (apply isAt; first | apply At_then | apply At_then_ret | apply At_then_exit | apply At_block_normal | apply At_block_ret | apply At_block_hit | refine At_block_miss rfl ?_ | refine At_end1 rfl rfl ?_ | refine At_end1n rfl rfl ?_ | refine At_end2 rfl rfl rfl ?_ | refine At_end3 rfl rfl rfl rfl ?_ | refine At_end4 rfl rfl rfl rfl rfl ?_ | refine At_mix kp_ ?_))
    case inl.refine_1.false.refine_2 =>
      obtain ⟨e1, e2⟩ := hfin (.inr (.inr ⟨b0, hb0, hok⟩))
      exact ⟨u, by rw [e2], by rw [e1]; exact hO.ext bw_, below_step hBk bw_⟩
    case inl.refine_1.true.refine_2.refine_1 =>
      obtain ⟨e1, e2⟩ := hfin (.inr (.inl (by omega)))
      exact ⟨u, by rw [e2], by rw [e1]; exact hO.ext bw_, below_step hBk bw_⟩
    case inl.refine_1.true.refine_2.refine_2 =>
      have e1 : (bs.take k).map cmOf ++ [cmFrom b0] = (bs.take (k + 1)).map cmOf := by rw [List.take_add_one, hb0, cmFrom, hok]; simp
      rw [e1] at hO9
      exact At_round _ [(6, v9), (7, .int .i64 (usedF (bs.take (k + 1)))), (17, r), (18, .int .i64 rows.length), (19, .int .i64 ((k + 1 : Nat) : Int))] (by rw [usedF_take hb0, show ((usedF (bs.take k) + b0.length + 2 : Nat) : Int) = usedF (bs.take k) + (b0.length + 2) by omega]; repeat (first | exact get_nil_slots _ | refine get_cons_slots rfl ?_)) (by omega) ⟨k + 1, v9, rfl, by omega, by omega, rfl, hBw9, hO9, by
        intro b hb
        rw [List.take_add_one, hb0] at hb
        rcases List.mem_append.1 hb with hb | hb
        · exact hall b hb
        · simp at hb; subst hb; exact hok, hR9⟩
    all_goals first | (exfalso; omega) | skip
  · repeat' (first | (apply isL; first | apply L_nil | refine L_move rfl rfl ?_ | (apply isGuarded; first | refine L_guard_dec rfl rfl (fun hg => ?_) (fun hg => ?_) | refine L_guard_yes rfl rfl ?_ | refine L_guard_no rfl rfl rfl rfl ?_ | refine L_guard_undef rfl rfl rfl ?_ | refine L_guard_split rfl rfl (fun hg => ?_) (fun hg => ?_)) | (apply isCall; first | refine L_lenL rfl rd_ rfl (fun hlen => ?_) | refine L_do rfl rfl rfl (do_len rfl hRL.own.rd.rd) ?_ ) | (apply isBin; first | refine L_do rfl rfl rfl (do_cmp rfl rfl rfl) ?_ | refine L_do rfl rfl rfl (do_add rfl rfl om_) ?_ ) | (apply isLoad; first | refine L_loadPt rfl (by rfl) pt_ (by rfl) rfl ?_ | refine L_loadPt2 rfl (by rfl) pt_ (by rfl) rfl ?_ | refine L_loadPt0 rfl pt_ (by rfl) rfl ?_ | refine L_loadAgg rfl pt_ (by rfl) rfl ?_ | refine L_loadSub rfl (by rfl) pt_ (by rfl) rfl ?_) | refine L_assign rfl rfl ?_ | refine L_do rfl rfl rfl (do_pick_true rfl rfl) ?_ | refine L_do rfl rfl rfl (do_pick_false rfl rfl) ?_ | refine L_do rfl rfl rfl (do_notDec rfl) ?_ | refine L_do rfl rfl rfl (do_not rfl) ?_ | refine L_do rfl rfl rfl (do_extract rfl rfl) ?_ | refine L_indexL rfl rfl rd_ (by rfl) om_ om_ rfl (fun a y hy hab hp => ?_) | (apply isAllocStore; refine L_allocStoreV (w0 := w) bw_ rfl rfl rfl rfl ?_ rfl (fun w1 hz1 hB hB1 hv => ?_); (focus (first | exact Ty.one _ _ | simp [Value.oneCell'])); have hp := pt_of_block hv) ) | (apply isW; first | apply W_seq | apply W_region | refine W_cond_dec rfl (fun hg => ?_) (fun hg => ?_) | refine W_cond_true rfl ?_ | refine W_cond_false rfl ?_ | refine W_cond rfl (fun hg => ?_) (fun hg => ?_) | apply W_skip | apply W_ret | apply W_exit | apply W_block) | (apply isAt; first | apply At_then | apply At_then_ret | apply At_then_exit | apply At_block_normal | apply At_block_ret | apply At_block_hit | refine At_block_miss rfl ?_ | refine At_end1 rfl rfl ?_ | refine At_end1n rfl rfl ?_ | refine At_end2 rfl rfl rfl ?_ | refine At_end3 rfl rfl rfl rfl ?_ | refine At_end4 rfl rfl rfl rfl rfl ?_ | refine At_mix kp_ ?_))
    all_goals first | (exfalso; omega) | skip
    obtain ⟨e1, e2⟩ := hfin (.inl (by omega))
    exact ⟨u, by rw [e2], by rw [e1]; exact hO, hBk⟩
end Go.Proofs.YtpdkajcnnanocaaGreatDoor
