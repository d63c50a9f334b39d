/-
  Contracts: the bytes of a book, the book of bytes, by the program's functions and by the reference's.
-/
import Derived.Test.YtpdkajcnnanocaaGreatDoorBookPlain
namespace Go.Proofs.YtpdkajcnnanocaaGreatDoor
open Go Go.RowKit
set_option linter.unusedVariables false
set_option linter.unusedSimpArgs false

theorem blk_on {w w' : World} {b : Nat} {o : Obj} (h : w.heap[b]? = some o) (hB : Below w.heap.size w w') : w'.heap[b]? = some o := (hB.block b (Array.getElem?_eq_some_iff.1 h).1).trans h
abbrev vBk (e : Int) (v : Value) : Value := .agg #[.int .i64 e, v]
theorem c_isEpoch {n : Int} {w : World} : Cl Tryz.prog 21 [.int .i64 n] w (V w (.bool (decide (0 ≤ n ∧ n ≤ 99)))) := by
  refine calls_start 5 Tryz.func21 rfl rfl rfl ?_
  repeat' (first | (apply isL; first | apply L_nil | refine L_move rfl rfl ?_ | (apply isCall; first | refine L_callV rfl rfl c_in (fun w2 hB2 => ?_) ) | refine L_assign rfl rfl ?_ ) | (apply isW; first | apply W_seq | apply W_region | refine W_cond_dec rfl (fun hg => ?_) (fun hg => ?_) | refine W_cond_true rfl ?_ | refine W_cond_false rfl ?_ | refine W_cond rfl (fun hg => ?_) (fun hg => ?_) | apply W_skip | apply W_ret | apply W_exit | apply W_block) | (apply isAt; first | apply At_then | apply At_then_ret | apply At_then_exit | apply At_block_normal | apply At_block_ret | apply At_block_hit | refine At_block_miss rfl ?_ | refine At_end1 rfl rfl ?_ | refine At_end1n rfl rfl ?_ | refine At_end2 rfl rfl rfl ?_ | refine At_end3 rfl rfl rfl rfl ?_ | refine At_end4 rfl rfl rfl rfl rfl ?_ | refine At_mix kp_ ?_))
  exact ⟨rfl, hB2⟩
theorem bookOk_no {e : Int} {l : List Cm} (h : ¬ (logOk l = true ∧ 0 ≤ e ∧ e ≤ 99)) : bookOk e l = false ∧ bookBytes e l = [] := by
  have : bookOk e l = false := by rw [Bool.eq_false_iff]; exact fun e => h (bookOk_parts e)
  exact ⟨this, by unfold bookBytes; rw [this]; rfl⟩
theorem bookOk_yes {e : Int} {l : List Cm} (h1 : logOk l = true) (h : 0 ≤ e ∧ e ≤ 99) : bookOk e l = true := by unfold bookOk; rw [h1]; simpa using h

theorem c_implBookBytes {e : Int} {v : Value} {l : List Cm} {w : World} (h : RdL tCm w v l) (hm : MLen w) (hs : ShortC l) : Cl Tryz.prog 9 [vBk e v] w (fun u w' => ∃ r, u = .tuple #[r, .bool (bookOk e l)] ∧ OwL tInt w' w.heap.size 3 r (bookBytes e l) ∧ Below w.heap.size w w') := by
  obtain ⟨a0, c0, rfl, _, _⟩ := h.slice
  have hbl := logBytes_len l
  refine calls_start 26 Tryz.func9 rfl rfl rfl ?_
  repeat' (first | (apply isL; first | apply L_nil | refine L_move rfl rfl ?_ | (apply isGuarded; first | refine L_guard_dec rfl rfl (fun hg => ?_) (fun hg => ?_) | refine L_guard_yes rfl rfl ?_ | refine L_guard_no rfl rfl rfl rfl ?_ | refine L_guard_undef rfl rfl rfl ?_ | refine L_guard_split rfl rfl (fun hg => ?_) (fun hg => ?_)) | (apply isCall; first | (refine L_call rfl rfl (c_implLogBytes (h.ext bw_) (hm.ext bw_) hs) (fun _ w3 hR => ?_); obtain ⟨r3, rfl, hO3, hB3⟩ := hR) | refine L_callV rfl rfl (c_isEpoch (n := e)) (fun w4 hB4 => ?_) | (refine L_call rfl rfl (c_implFrameOf hO5.rd) (fun u6 w6 hR => ?_); obtain ⟨hO6, hB6⟩ := hR) | (have hfl := fm1_len (e := e) (by simp_all); refine L_append (w0 := w5) rfl rfl hB6 hO6 (hO3.rd.ext bw_) rfl om_ om_ rfl (fun v7 w7 hO7 hB7 hg7 => ?_)) ) | (apply isLoad; first | refine L_loadPt rfl (by rfl) pt_ (by rfl) rfl ?_ | refine L_loadPt2 rfl (by rfl) pt_ (by rfl) rfl ?_ | refine L_loadPt0 rfl pt_ (by rfl) rfl ?_ | refine L_loadAgg rfl pt_ (by rfl) rfl ?_ | refine L_loadSub rfl (by rfl) pt_ (by rfl) rfl ?_) | refine L_assign rfl rfl ?_ | refine L_do rfl rfl rfl (do_pick_true rfl rfl) ?_ | refine L_do rfl rfl rfl (do_pick_false rfl rfl) ?_ | refine L_do rfl rfl rfl (do_notDec rfl) ?_ | refine L_do rfl rfl rfl (do_not rfl) ?_ | refine L_do rfl rfl rfl (do_extract rfl rfl) ?_ | refine L_do rfl rfl rfl (do_fieldAddr rfl) ?_ | refine L_buildSliceL tInt [e] rfl rfl rfl rfl rfl rfl rfl rfl (fun w5 hO5 hB5 => ?_) | (apply isBox; refine L_boxV (w0 := w) bw_ rfl rfl (fun w1 hz1 hB hB1 hv => ?_); have hp := pt_of_block hv) ) | (apply isW; first | apply W_seq | apply W_region | refine W_cond_dec rfl (fun hg => ?_) (fun hg => ?_) | refine W_cond_true rfl ?_ | refine W_cond_false rfl ?_ | refine W_cond rfl (fun hg => ?_) (fun hg => ?_) | apply W_skip | apply W_ret | apply W_exit | apply W_block) | (apply isAt; first | apply At_then | apply At_then_ret | apply At_then_exit | apply At_block_normal | apply At_block_ret | apply At_block_hit | refine At_block_miss rfl ?_ | refine At_end1 rfl rfl ?_ | refine At_end1n rfl rfl ?_ | refine At_end2 rfl rfl rfl ?_ | refine At_end3 rfl rfl rfl rfl ?_ | refine At_end4 rfl rfl rfl rfl rfl ?_ | refine At_mix kp_ ?_))
  · have hn := bookOk_no (e := e) (l := l) (fun hh => by have := hh.1; simp_all)
    exact ⟨_, by rw [hn.1], by rw [hn.2]; exact ⟨by simp, .inl ⟨rfl, rfl⟩⟩, bw_⟩
  · have hn := bookOk_no (e := e) (l := l) (fun hh => hg hh.2)
    exact ⟨_, by rw [hn.1], by rw [hn.2]; exact ⟨by simp, .inl ⟨rfl, rfl⟩⟩, bw_⟩
  · have h1 : logOk l = true := by simpa using (show (!logOk l) = false by assumption)
    have hy := bookOk_yes h1 (Classical.not_not.1 hg)
    exact ⟨v7, by rw [hy], by rw [bookBytes_eq hy]; exact hO7.rebase (by have := hB1.size; have := hB3.size; have := hB4.size; have := hB5.size; omega), bw_⟩
theorem c_specBookBytes {e : Int} {v : Value} {l : List Cm} {w : World} (h : RdL tCm w v l) (hs : ShortC l) : Cl Tryz.prog 25 [vBk e v] w (fun u w' => ∃ r, u = .tuple #[r, .bool (bookOk e l)] ∧ OwL tInt w' w.heap.size 3 r (bookBytes e l) ∧ Below w.heap.size w w') := by
  obtain ⟨a0, c0, rfl, _, _⟩ := h.slice
  have hbl := logBytes_len l
  refine calls_start 27 Tryz.func25 rfl rfl rfl ?_
  repeat' (first | (apply isL; first | apply L_nil | refine L_move rfl rfl ?_ | (apply isGuarded; first | refine L_guard_dec rfl rfl (fun hg => ?_) (fun hg => ?_) | refine L_guard_yes rfl rfl ?_ | refine L_guard_no rfl rfl rfl rfl ?_ | refine L_guard_undef rfl rfl rfl ?_ | refine L_guard_split rfl rfl (fun hg => ?_) (fun hg => ?_)) | (apply isCall; first | (refine L_call rfl rfl (c_specLogBytes (h.ext bw_) hs) (fun _ w3 hR => ?_); obtain ⟨r3, rfl, hO3, hB3⟩ := hR) | refine L_callV rfl rfl (c_l6In) (fun w4 hB4 => ?_) | (refine L_call rfl rfl (c_specFrameOf hO5.rd) (fun u6 w6 hR => ?_); obtain ⟨hO6, hB6⟩ := hR) | (have hfl := fm1_len (e := e) (by simp_all); refine L_append (w0 := w5) rfl rfl hB6 hO6 (hO3.rd.ext bw_) rfl om_ om_ rfl (fun v7 w7 hO7 hB7 hg7 => ?_)) ) | (apply isLoad; first | refine L_loadPt rfl (by rfl) pt_ (by rfl) rfl ?_ | refine L_loadPt2 rfl (by rfl) pt_ (by rfl) rfl ?_ | refine L_loadPt0 rfl pt_ (by rfl) rfl ?_ | refine L_loadAgg rfl pt_ (by rfl) rfl ?_ | refine L_loadSub rfl (by rfl) pt_ (by rfl) rfl ?_) | refine L_assign rfl rfl ?_ | refine L_do rfl rfl rfl (do_pick_true rfl rfl) ?_ | refine L_do rfl rfl rfl (do_pick_false rfl rfl) ?_ | refine L_do rfl rfl rfl (do_notDec rfl) ?_ | refine L_do rfl rfl rfl (do_not rfl) ?_ | refine L_do rfl rfl rfl (do_extract rfl rfl) ?_ | refine L_do rfl rfl rfl (do_fieldAddr rfl) ?_ | refine L_buildSliceL tInt [e] rfl rfl rfl rfl rfl rfl rfl rfl (fun w5 hO5 hB5 => ?_) | refine L_buildSlice0 (w0 := w) tInt bw_ rfl (fun w8 hO8 hB8 hC8 => ?_) | (apply isBox; refine L_boxV (w0 := w) bw_ rfl rfl (fun w1 hz1 hB hB1 hv => ?_); have hp := pt_of_block hv) ) | (apply isW; first | apply W_seq | apply W_region | refine W_cond_dec rfl (fun hg => ?_) (fun hg => ?_) | refine W_cond_true rfl ?_ | refine W_cond_false rfl ?_ | refine W_cond rfl (fun hg => ?_) (fun hg => ?_) | apply W_skip | apply W_ret | apply W_exit | apply W_block) | (apply isAt; first | apply At_then | apply At_then_ret | apply At_then_exit | apply At_block_normal | apply At_block_ret | apply At_block_hit | refine At_block_miss rfl ?_ | refine At_end1 rfl rfl ?_ | refine At_end1n rfl rfl ?_ | refine At_end2 rfl rfl rfl ?_ | refine At_end3 rfl rfl rfl rfl ?_ | refine At_end4 rfl rfl rfl rfl rfl ?_ | refine At_mix kp_ ?_))
  · have hn := bookOk_no (e := e) (l := l) (fun hh => by have := hh.1; simp_all)
    exact ⟨_, by rw [hn.1], by rw [hn.2]; exact hO8, bw_⟩
  · have hn := bookOk_no (e := e) (l := l) (fun hh => hg hh.2)
    exact ⟨_, by rw [hn.1], by rw [hn.2]; exact hO8, bw_⟩
  · have h1 : logOk l = true := by simpa using (show (!logOk l) = false by assumption)
    have hy := bookOk_yes h1 (Classical.not_not.1 hg)
    exact ⟨v7, by rw [hy], by rw [bookBytes_eq hy]; exact hO7.rebase (by have := hB1.size; have := hB3.size; have := hB4.size; have := hB5.size; omega), bw_⟩

theorem head_none {bs : List Int} (h : headF bs = none) : bookHead bs = none := by unfold bookHead; rw [h]
theorem head_many {bs b : List Int} (h : headF bs = some b) (hl : ¬ b.length = 1) : bookHead bs = none := by
  unfold bookHead; rw [h]
  split
  · rename_i e; injection e with e; subst e; simp at hl
  · rfl
theorem head_one {bs b : List Int} {y : Int} (h : headF bs = some b) (hl : b.length = 1) (hy : b[0]? = some y) : bookHead bs = (if y ≤ 99 then some y else none) ∧ 0 ≤ y ∧ 3 ≤ bs.length := by
  match b, hl with
  | [x], _ =>
    obtain rfl : x = y := by simpa using hy
    have h1 := headF_body h
    have h2 := headF_len h
    simp [bodyOk, bytesOk, byteOk] at h1
    refine ⟨by unfold bookHead; rw [h], h1.1, by simpa using h2⟩
theorem ep_none {bs : List Int} (h : bookHead bs = none) : bookEp bs = 0 ∧ bookLog bs = [] := by unfold bookEp bookLog; rw [h]; exact ⟨rfl, rfl⟩
theorem ep_some {bs : List Int} {e : Int} (h : bookHead bs = some e) : bookEp bs = e ∧ bookLog bs = logOf (bs.drop 3) := by unfold bookEp bookLog; rw [h]; exact ⟨rfl, rfl⟩
theorem scan_head {l b : List Int} {rs : List (List Int)} (h : scan l = b :: rs) : headF l = some b := by
  cases hf : headF l with
  | none => rw [scan_none hf] at h; cases h
  | some x => rw [scan_some hf] at h; injection h with h _; rw [h]
theorem scan_head0 {l : List Int} (h : scan l = []) : headF l = none := by
  cases hf : headF l with
  | none => rfl
  | some x => rw [scan_some hf] at h; cases h
theorem own_nil {α : Type} {T : Ty α} {w : World} {b e : Nat} : OwL T w b e (.slice none 0 0) [] := ⟨by simp, .inl ⟨rfl, rfl⟩⟩

theorem c_implBookLoad {v : Value} {l : List Int} {w : World} (h : RdL tInt w v l) (hs : l.length ≤ 4294967296) (hm : MLen w) : Cl Tryz.prog 13 [v] w (fun u w' => ∃ r, u = .tuple #[vBk (bookEp l) r, .bool (bookHead l).isSome] ∧ OwL tCm w' w.heap.size 65 r (bookLog l) ∧ Below w.heap.size w w') := by
  refine calls_start 31 Tryz.func13 rfl rfl rfl ?_
  have hml := h.maxLen
  have hnil : ∀ w, RdL tInt w (.slice none 0 0) [] := fun _ => RdL.nil
  repeat' (first | (apply isL; first | apply L_nil | refine L_move rfl rfl ?_ | (apply isGuarded; first | refine L_guard_dec rfl rfl (fun hg => ?_) (fun hg => ?_) | refine L_guard_yes rfl rfl ?_ | refine L_guard_no rfl rfl rfl rfl ?_ | refine L_guard_undef rfl rfl rfl ?_ | refine L_guard_split rfl rfl (fun hg => ?_) (fun hg => ?_)) | (apply isCall; first | refine L_lenL rfl rd_ rfl (fun hlen => ?_) | (refine L_call rfl rfl (c_frame h) (fun fv w2 hQ => ?_); obtain ⟨hB2, hfr⟩ := hQ; replace h := h.ext hB2; replace hvc := blk_on hvc hB2; replace hBa := below_step hBa hB2; rcases hfr with ⟨hh, rfl⟩ | ⟨b, hh, hfv⟩) | refine L_do rfl rfl rfl (do_len rfl (hnil w2).rd) ?_ | refine L_do rfl rfl rfl (do_len rfl hfv.rd) ?_ | (refine L_callV rfl rfl (c_isEpoch (n := y)) (fun w3 hB3 => ?_); replace h := h.ext hB3; replace hvc := blk_on hvc hB3; replace hBa := below_step hBa hB3; have hfv3 := hfv.ext hB3; obtain ⟨ho1, ho2, ho3⟩ := head_one hh om_ hy) | (have hsl1 : RdL tInt w3 sv (l.drop 3) := hsl; refine L_call rfl rfl (c_implLogLoad hsl1 (by simp; omega) (hm.ext hBa)) (fun _ w4 hR => ?_); obtain ⟨r4, rfl, hO4, hB4⟩ := hR; replace hvc := blk_on hvc hB4; have hBb := below_step hBa hB4; obtain ⟨a4, c4, rfl, _, _⟩ := hO4.rd.slice) ) | (apply isBin; first | refine L_do rfl rfl rfl (do_cmp rfl rfl rfl) ?_ ) | (apply isLoad; first | refine L_loadPt rfl (by rfl) pt_ (by rfl) rfl ?_ | refine L_loadPt2 rfl (by rfl) pt_ (by rfl) rfl ?_ | refine L_loadPt0 rfl pt_ (by rfl) rfl ?_ | refine L_loadAgg rfl pt_ (by rfl) rfl ?_ | refine L_loadSub rfl (by rfl) pt_ (by rfl) rfl ?_) | refine L_assign rfl rfl ?_ | refine L_do rfl rfl rfl (do_pick_true rfl rfl) ?_ | refine L_do rfl rfl rfl (do_pick_false rfl rfl) ?_ | refine L_do rfl rfl rfl (do_notDec rfl) ?_ | refine L_do rfl rfl rfl (do_not rfl) ?_ | refine L_do rfl rfl rfl (do_extract rfl rfl) ?_ | (apply isAlloc; refine L_allocV (w0 := w) (Below.refl _ _) rfl (fun w1 hz1 hB1 hC1 hvc => ?_); replace h := h.ext hC1; have hBa : Below w.heap.size w w1 := hC1) | refine L_indexL rfl rfl hfv (by rfl) om_ om_ rfl (fun a y hy hab hp => ?_) | refine L_sliceL rfl rfl h rfl om_ om_ rfl (fun sv hsl hob => ?_) | refine L_indexL rfl rfl (hfv3.ext hB4) (by rfl) om_ om_ rfl (fun a y1 hy1 hab1 hp1 => ?_) | refine L_do rfl rfl rfl (do_build (t := 27) (ps := []) (cells := #[.int .i64 0, .slice none 0 0]) rfl (by kernel_rfl)) ?_ | refine L_do rfl rfl rfl (do_build (t := 27) (ps := [(0, .int .i64 y1), (1, .slice a4 (logOf (l.drop 3)).length c4)]) (cells := #[.int .i64 y1, .slice a4 (logOf (l.drop 3)).length c4]) rfl (by kernel_rfl)) ?_ | (apply isStore; refine L_storeAt (b := w.heap.size) (off := 0) (cs := [_, _]) rfl rfl rfl rfl (by simp [Value.oneCell']) hvc (Nat.le_of_ble_eq_true rfl) rfl (fun w9 hv9 hg9 hz9 => ?_)) | refine L_indexL rfl rfl rd_ (by rfl) om_ om_ rfl (fun a y hy hab hp => ?_) | (apply isAllocStore; refine L_allocStoreV (w0 := w) bw_ rfl rfl rfl rfl ?_ rfl (fun w1 hz1 hB hB1 hv => ?_); (focus (first | exact Ty.one _ _ | simp [Value.oneCell'])); have hp := pt_of_block hv) ) | (apply isW; first | apply W_seq | apply W_region | refine W_cond_dec rfl (fun hg => ?_) (fun hg => ?_) | refine W_cond_true rfl ?_ | refine W_cond_false rfl ?_ | refine W_cond rfl (fun hg => ?_) (fun hg => ?_) | apply W_skip | apply W_ret | apply W_exit | apply W_block) | (apply isAt; first | apply At_then | apply At_then_ret | apply At_then_exit | apply At_block_normal | apply At_block_ret | apply At_block_hit | refine At_block_miss rfl ?_ | refine At_end1 rfl rfl ?_ | refine At_end1n rfl rfl ?_ | refine At_end2 rfl rfl rfl ?_ | refine At_end3 rfl rfl rfl rfl ?_ | refine At_end4 rfl rfl rfl rfl rfl ?_ | refine At_mix kp_ ?_))
  all_goals first | (exfalso; simp at hg; done) | skip
  · obtain ⟨e1, e2⟩ := ep_none (head_none hh)
    exact At_endCell2 rfl rfl rfl hv9 rfl ⟨.slice none 0 0, by rw [e1, head_none hh]; rfl, by rw [e2]; exact own_nil, below_grow0 hBa hg9 (fun k hk => by cases hk; omega)⟩
  · have hno := head_many hh (by omega)
    obtain ⟨e1, e2⟩ := ep_none hno
    exact At_endCell2 rfl rfl rfl hv9 rfl ⟨.slice none 0 0, by rw [e1, hno]; rfl, by rw [e2]; exact own_nil, below_grow0 hBa hg9 (fun k hk => by cases hk; omega)⟩
  · have hno : bookHead l = none := by rw [ho1, if_neg (by omega)]
    obtain ⟨e1, e2⟩ := ep_none hno
    exact At_endCell2 rfl rfl rfl hv9 rfl ⟨.slice none 0 0, by rw [e1, hno]; rfl, by rw [e2]; exact own_nil, below_grow0 hBa hg9 (fun k hk => by cases hk; omega)⟩
  · obtain rfl := Option.some.inj (hy.symm.trans hy1)
    have hso : bookHead l = some y := by rw [ho1, if_pos (by omega)]
    obtain ⟨e1, e2⟩ := ep_some hso
    have hz := hBa.size
    exact At_endCell2 rfl rfl rfl hv9 rfl ⟨.slice a4 (logOf (l.drop 3)).length c4, by rw [e1, hso]; rfl, by rw [e2]; exact (hO4.kept hg9 (hO4.ne_ (by have := hB2.size; have := hB3.size; omega))).rebase hz, below_grow0 hBb hg9 (fun k hk => by cases hk; omega)⟩

theorem c_specBookLoad {v : Value} {l : List Int} {w : World} (h : RdL tInt w v l) (hs : l.length ≤ 4294967296) : Cl Tryz.prog 15 [v] w (fun u w' => ∃ r, u = .tuple #[vBk (bookEp l) r, .bool (bookHead l).isSome] ∧ OwL tCm w' w.heap.size 65 r (bookLog l) ∧ Below w.heap.size w w') := by
  refine calls_start 45 Tryz.func15 rfl rfl rfl ?_
  have hml := h.maxLen
  repeat' (first | (apply isL; first | apply L_nil | refine L_move rfl rfl ?_ | (apply isGuarded; first | refine L_guard_dec rfl rfl (fun hg => ?_) (fun hg => ?_) | refine L_guard_yes rfl rfl ?_ | refine L_guard_no rfl rfl rfl rfl ?_ | refine L_guard_undef rfl rfl rfl ?_ | refine L_guard_split rfl rfl (fun hg => ?_) (fun hg => ?_)) | (apply isCall; first | refine L_lenL rfl rd_ rfl (fun hlen => ?_) | (refine L_call rfl rfl (c_specFramesScan h hs) (fun _ w2 hQ => ?_); obtain ⟨r2, rows, rfl, hRL, hB2⟩ := hQ; replace h := h.ext hB2; replace hvc := blk_on hvc hB2; replace hBa := below_step hBa hB2; have hrl := hRL.len; rcases hsc : scan l with _ | ⟨b, rs⟩; rotate_left; obtain ⟨r0, hr0⟩ : ∃ r0, rows[0]? = some r0 := ⟨_, List.getElem?_eq_getElem (by rw [hsc] at hrl; simp at hrl; omega)⟩; obtain ⟨b0, hb0, hrb0⟩ := hRL.at_ 0 r0 hr0; rw [hsc] at hb0; obtain rfl : b = b0 := (by simpa using hb0); have hh := scan_head hsc; obtain ⟨e0, he0⟩ : ∃ e0 : Int, (0 < b.length → b[0]? = some e0) := (by cases b with | nil => exact ⟨0, fun h => by simp at h⟩ | cons x r => exact ⟨x, fun _ => rfl⟩)) | refine L_do rfl rfl rfl (do_len rfl hRL.own.rd.rd) ?_ | refine L_do rfl rfl rfl (do_len rfl hrb0.rd.rd) ?_ | (have hsl1 : RdL tInt w2 sv (l.drop 3) := hsl; refine L_call rfl rfl (c_specLogLoad hsl1 (by simp; omega)) (fun _ w4 hR => ?_); obtain ⟨r4, rfl, hO4, hB4⟩ := hR; replace hvc := blk_on hvc hB4; have hBb := below_step hBa hB4; obtain ⟨a4, c4, rfl, _, _⟩ := hO4.rd.slice) ) | (apply isBin; first | refine L_do rfl rfl rfl (do_cmp rfl rfl rfl) ?_ ) | (apply isLoad; first | refine L_loadPt rfl (by rfl) pt_ (by rfl) rfl ?_ | refine L_loadPt2 rfl (by rfl) pt_ (by rfl) rfl ?_ | refine L_loadPt0 rfl pt_ (by rfl) rfl ?_ | refine L_loadAgg rfl pt_ (by rfl) rfl ?_ | refine L_loadSub rfl (by rfl) pt_ (by rfl) rfl ?_) | refine L_assign rfl rfl ?_ | refine L_do rfl rfl rfl (do_pick_true rfl rfl) ?_ | refine L_do rfl rfl rfl (do_pick_false rfl rfl) ?_ | refine L_do rfl rfl rfl (do_extract rfl rfl) ?_ | (apply isAlloc; refine L_allocV (w0 := w) (Below.refl _ _) rfl (fun w1 hz1 hB1 hC1 hvc => ?_); replace h := h.ext hC1; have hBa : Below w.heap.size w w1 := hC1) | (refine L_indexL rfl rfl (hRL.own.rd.ext bw_) rfl om_ om_ rfl (fun a y hy hab hp => ?_); have hyy : rows[0]? = some y := hy; rw [hr0] at hyy; obtain rfl := Option.some.inj hyy) | (refine L_indexL rfl rfl (hrb0.rd.ext bw_) (by rfl) om_ om_ rfl (fun a y1 hy1 hab hp => ?_); obtain rfl := Option.some.inj ((he0 om_).symm.trans hy1); obtain ⟨ho1, ho2, ho3⟩ := head_one hh om_ hy1) | refine L_sliceL rfl rfl h rfl om_ om_ rfl (fun sv hsl hob => ?_) | refine L_do rfl rfl rfl (do_build (t := 27) (ps := []) (cells := #[.int .i64 0, .slice none 0 0]) rfl (by kernel_rfl)) ?_ | refine L_do rfl rfl rfl (do_build (t := 27) (ps := [(0, .int .i64 e0), (1, .slice a4 (logOf (l.drop 3)).length c4)]) (cells := #[.int .i64 e0, .slice a4 (logOf (l.drop 3)).length c4]) rfl (by kernel_rfl)) ?_ | (apply isStore; refine L_storeAt (b := w.heap.size) (off := 0) (cs := [_, _]) rfl rfl rfl rfl (by simp [Value.oneCell']) hvc (Nat.le_of_ble_eq_true rfl) rfl (fun w9 hv9 hg9 hz9 => ?_)) | refine L_indexL rfl rfl rd_ (by rfl) om_ om_ rfl (fun a y hy hab hp => ?_) | (apply isAllocStore; refine L_allocStoreV (w0 := w) bw_ rfl rfl rfl rfl ?_ rfl (fun w1 hz1 hB hB1 hv => ?_); (focus (first | exact Ty.one _ _ | simp [Value.oneCell'])); have hp := pt_of_block hv) ) | (apply isW; first | apply W_seq | apply W_region | refine W_cond_dec rfl (fun hg => ?_) (fun hg => ?_) | refine W_cond_true rfl ?_ | refine W_cond_false rfl ?_ | refine W_cond rfl (fun hg => ?_) (fun hg => ?_) | apply W_skip | apply W_ret | apply W_exit | apply W_block) | (apply isAt; first | apply At_then | apply At_then_ret | apply At_then_exit | apply At_block_normal | apply At_block_ret | apply At_block_hit | refine At_block_miss rfl ?_ | refine At_end1 rfl rfl ?_ | refine At_end1n rfl rfl ?_ | refine At_end2 rfl rfl rfl ?_ | refine At_end3 rfl rfl rfl rfl ?_ | refine At_end4 rfl rfl rfl rfl rfl ?_ | refine At_mix kp_ ?_))
  all_goals first | (exfalso; rw [hsc] at hrl; simp at hrl; omega) | (exfalso; rw [hsc] at hrl; simp at hrl; rw [hrl] at hg; exact hg rfl) | skip
  · have hno := head_many hh (by omega)
    obtain ⟨e1, e2⟩ := ep_none hno
    exact At_endCell2 rfl rfl rfl hv9 rfl ⟨.slice none 0 0, by rw [e1, hno]; rfl, by rw [e2]; exact own_nil, below_grow0 hBa hg9 (fun k hk => by cases hk; omega)⟩
  · have hno : bookHead l = none := by rw [ho1, if_neg (by omega)]
    obtain ⟨e1, e2⟩ := ep_none hno
    exact At_endCell2 rfl rfl rfl hv9 rfl ⟨.slice none 0 0, by rw [e1, hno]; rfl, by rw [e2]; exact own_nil, below_grow0 hBa hg9 (fun k hk => by cases hk; omega)⟩
  · have hso : bookHead l = some e0 := by rw [ho1, if_pos (by omega)]
    obtain ⟨e1, e2⟩ := ep_some hso
    have hz := hBa.size
    exact At_endCell2 rfl rfl rfl hv9 rfl ⟨.slice a4 (logOf (l.drop 3)).length c4, by rw [e1, hso]; rfl, by rw [e2]; exact (hO4.kept hg9 (hO4.ne_ (by have := hB2.size; omega))).rebase hz, below_grow0 hBb hg9 (fun k hk => by cases hk; omega)⟩
  · have hno := head_none (scan_head0 hsc)
    obtain ⟨e1, e2⟩ := ep_none hno
    exact At_endCell2 rfl rfl rfl hv9 rfl ⟨.slice none 0 0, by rw [e1, hno]; rfl, by rw [e2]; exact own_nil, below_grow0 hBa hg9 (fun k hk => by cases hk; omega)⟩
end Go.Proofs.YtpdkajcnnanocaaGreatDoor
