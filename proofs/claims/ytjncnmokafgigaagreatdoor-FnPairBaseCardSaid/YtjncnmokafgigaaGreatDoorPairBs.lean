/-
  Contracts: the common tree, by the program's function and by the reference's.
-/
import Derived.Test.YtjncnmokafgigaaGreatDoorPairTr
import Derived.Test.YtjncnmokafgigaaGreatDoorPlB
import Derived.Test.YtjncnmokafgigaaGreatDoorSortA
import Derived.Test.YtjncnmokafgigaaGreatDoorApart
import Derived.Test.YtjncnmokafgigaaGreatDoorCanon
namespace Go.Proofs.YtjncnmokafgigaaGreatDoor
open Go Go.RowKit
set_option linter.unusedVariables false
set_option linter.unusedSimpArgs false

theorem c_l21Kept {v v2 : Value} {xs ys : List Cm} {w : World} (h : RdL tCm w v xs) (h2 : RdL tCm w v2 ys) (ha : canonOk xs = true) (hb : canonOk ys = true) (hsh : ShortC xs) (hsh2 : ShortC ys) : Cl Tryz.prog 64 [v, v2] w (fun u w' => OwL tCm w' w.heap.size 57 u (keptL xs ys) ∧ Below w.heap.size w w') := by
  refine calls_start 32 Tryz.func64 rfl rfl rfl ?_
  have hml := h.maxLen
  have hlx := (canonOk_short ha).1
  have hly := (canonOk_short hb).1
  have hpa : ∀ d ∈ xs, isPath d.path = true := fun d hd => cmOk_path ((canonOk_short ha).2 d hd)
  have hpb : ∀ d ∈ ys, isPath d.path = true := fun d hd => cmOk_path ((canonOk_short hb).2 d hd)
  have hso : safeOf xs ys = safeL xs ys := by unfold safeOf; rw [ha, hb]; rfl
  have hsl : (safeL xs ys).length ≤ ys.length := List.length_filter_le ..
  have hkd : keptL xs ys = sortC (safeL xs ys ++ xs.filter (fun c => !dispB c ys)) := rfl
  rw [hkd]
  generalize hq : (fun c => !dispB c ys) = q
  repeat' (first | (apply isL; first | apply L_nil | refine L_move rfl rfl ?_ | (apply isCall; first | refine L_lenL rfl rd_ rfl (fun hlen => ?_) | (refine L_call rfl rfl (c_specSafeOf (h.ext bw_) (h2.ext bw_) hsh hsh2) (fun u4 w4 hR => ?_); obtain ⟨hO4, hB4⟩ := hR; rw [hso] at hO4) ) | (apply isBin; first | refine L_do rfl rfl rfl (do_cmp rfl rfl rfl) ?_ | refine L_do rfl rfl rfl (do_add rfl rfl om_) ?_ ) | (apply isLoad; first | refine L_loadPt rfl (by rfl) pt_ (by rfl) rfl ?_ | refine L_loadPt2 rfl (by rfl) pt_ (by rfl) rfl ?_ | refine L_loadPt0 rfl pt_ (by rfl) rfl ?_ | refine L_loadAgg rfl pt_ (by rfl) rfl ?_ | refine L_loadSub rfl (by rfl) pt_ (by rfl) rfl ?_) | refine L_assign rfl rfl ?_ | refine L_do rfl rfl rfl (do_notDec rfl) ?_ | refine L_do rfl rfl rfl (do_not rfl) ?_ | refine L_indexL rfl rfl rd_ (by rfl) om_ om_ rfl (fun a y hy hab hp => ?_) ) | (apply isW; first | apply W_seq | apply W_region | refine W_cond_dec rfl (fun hg => ?_) (fun hg => ?_) | refine W_cond_true rfl ?_ | refine W_cond_false rfl ?_ | refine W_cond rfl (fun hg => ?_) (fun hg => ?_) | apply W_skip | apply W_ret | apply W_exit | apply W_block) | (apply isAt; first | apply At_then | apply At_then_ret | apply At_then_exit | apply At_block_normal | apply At_block_ret | apply At_block_hit | refine At_block_miss rfl ?_ | refine At_end1 rfl rfl ?_ | refine At_end1n rfl rfl ?_ | refine At_end2 rfl rfl rfl ?_ | refine At_end3 rfl rfl rfl rfl ?_ | refine At_end4 rfl rfl rfl rfl rfl ?_ | refine At_end5 rfl rfl rfl rfl rfl rfl ?_ | refine At_mix kp_ ?_))
  generalize safeL xs ys = S at *
  refine W_loopF (fun m fr w' => ∃ (k : Nat) (u : Value), m = xs.length - k ∧ k ≤ xs.length ∧ fr = [(0, v), (1, v2), (5, u), (6, .int .i64 k)] ∧ Below w.heap.size w w' ∧ OwL tCm w' w.heap.size 57 u (S ++ (xs.take k).filter q)) xs.length
    [(0, v), (1, v2), (5, u4), (6, .int .i64 0)] sl_ ⟨0, _, rfl, Nat.zero_le _, rfl, hB4, by simpa using hO4⟩ ?_
  clear hO4 hB4
  rintro _ _ w' ⟨k, u, rfl, hk, rfl, hBk, hO⟩
  have hfl : ((xs.take k).filter q).length ≤ k := Nat.le_trans (List.length_filter_le ..) (by simp; omega)
  rcases Nat.lt_or_ge k xs.length with hkl | hkl
  · obtain ⟨c0, hc0⟩ : ∃ c0, xs[k]? = some c0 := ⟨_, List.getElem?_eq_getElem hkl⟩
    have hm0 := List.mem_of_getElem? hc0
    have hst := filter_step3 (q := q) hc0
    have hqc : q c0 = !dispB c0 ys := by rw [← hq]
    repeat' (first | (apply isL; first | apply L_nil | refine L_move rfl rfl ?_ | (apply isCall; first | refine L_lenL rfl rd_ rfl (fun hlen => ?_) | refine L_callV rfl rfl (c_l16Some (c := c0) (h2.ext bw_) hpb (hpa c0 hm0)) (fun w3 hB3 => ?_) | refine L_append (w0 := w) rfl rfl bw_ (hO.ext bw_) hO6.rd rfl (by simp; omega) (by simp; omega) rfl (fun v7 w7 hO7 hB7 hg7 => ?_) ) | (apply isBin; first | refine L_do rfl rfl rfl (do_cmp rfl rfl rfl) ?_ | refine L_do rfl rfl rfl (do_add rfl rfl om_) ?_ ) | (apply isLoad; first | refine L_loadPt rfl (by rfl) pt_ (by rfl) rfl ?_ | refine L_loadPt2 rfl (by rfl) pt_ (by rfl) rfl ?_ | refine L_loadPt0 rfl pt_ (by rfl) rfl ?_ | refine L_loadAgg rfl pt_ (by rfl) rfl ?_ | refine L_loadSub rfl (by rfl) pt_ (by rfl) rfl ?_) | refine L_assign rfl rfl ?_ | refine L_do rfl rfl rfl (do_notDec rfl) ?_ | refine L_do rfl rfl rfl (do_not rfl) ?_ | (refine L_indexL rfl rfl (h.ext bw_) (by rfl) om_ om_ rfl (fun a y9 hy9 hab hp => ?_); have hyy : xs[k]? = some y9 := hy9; rw [hc0] at hyy; obtain rfl := Option.some.inj hyy) | refine L_buildSliceL tCm [c0] rfl rfl rfl rfl rfl rfl rfl rfl (fun w6 hO6 hB6 => ?_) | refine L_indexL rfl rfl rd_ (by rfl) om_ om_ rfl (fun a y hy hab hp => ?_) ) | (apply isW; first | apply W_seq | apply W_region | refine W_cond_dec rfl (fun hg => ?_) (fun hg => ?_) | refine W_cond_true rfl ?_ | refine W_cond_false rfl ?_ | refine W_cond rfl (fun hg => ?_) (fun hg => ?_) | apply W_skip | apply W_ret | apply W_exit | apply W_block) | (apply isAt; first | apply At_then | apply At_then_ret | apply At_then_exit | apply At_block_normal | apply At_block_ret | apply At_block_hit | refine At_block_miss rfl ?_ | refine At_end1 rfl rfl ?_ | refine At_end1n rfl rfl ?_ | refine At_end2 rfl rfl rfl ?_ | refine At_end3 rfl rfl rfl rfl ?_ | refine At_end4 rfl rfl rfl rfl rfl ?_ | refine At_end5 rfl rfl rfl rfl rfl rfl ?_ | refine At_mix kp_ ?_))
    all_goals first | (exfalso; omega) | skip
    · rw [hqc, show (!dispB c0 ys) = true by assumption, if_pos rfl] at hst
      exact At_round _ [(0, v), (1, v2), (5, v7), (6, .int .i64 ((k + 1 : Nat) : Int))] sl_ (by omega) ⟨k + 1, v7, rfl, by omega, rfl, hB7, by rw [hst, ← List.append_assoc]; exact hO7⟩
    · rw [hqc, show (!dispB c0 ys) = false by assumption] at hst
      exact At_round _ [(0, v), (1, v2), (5, u), (6, .int .i64 ((k + 1 : Nat) : Int))] sl_ (by omega) ⟨k + 1, u, rfl, by omega, rfl, bw_, by rw [hst]; simpa using hO.ext bw_⟩
  · rw [List.take_of_length_le (by omega)] at hO
    have hfq : (xs.filter q).length ≤ xs.length := List.length_filter_le ..
    repeat' (first | (apply isL; first | apply L_nil | refine L_move rfl rfl ?_ | (apply isCall; first | refine L_lenL rfl rd_ rfl (fun hlen => ?_) | (refine L_call rfl rfl (c_l14Sort (hO.rd.ext bw_) (by simp; omega)) (fun u8 w8 hR => ?_); obtain ⟨hO8, hB8⟩ := hR) ) | (apply isBin; first | refine L_do rfl rfl rfl (do_cmp rfl rfl rfl) ?_ | refine L_do rfl rfl rfl (do_add rfl rfl om_) ?_ ) | (apply isLoad; first | refine L_loadPt rfl (by rfl) pt_ (by rfl) rfl ?_ | refine L_loadPt2 rfl (by rfl) pt_ (by rfl) rfl ?_ | refine L_loadPt0 rfl pt_ (by rfl) rfl ?_ | refine L_loadAgg rfl pt_ (by rfl) rfl ?_ | refine L_loadSub rfl (by rfl) pt_ (by rfl) rfl ?_) | refine L_assign rfl rfl ?_ | refine L_do rfl rfl rfl (do_notDec rfl) ?_ | refine L_do rfl rfl rfl (do_not rfl) ?_ | refine L_indexL rfl rfl rd_ (by rfl) om_ om_ rfl (fun a y hy hab hp => ?_) ) | (apply isW; first | apply W_seq | apply W_region | refine W_cond_dec rfl (fun hg => ?_) (fun hg => ?_) | refine W_cond_true rfl ?_ | refine W_cond_false rfl ?_ | refine W_cond rfl (fun hg => ?_) (fun hg => ?_) | apply W_skip | apply W_ret | apply W_exit | apply W_block) | (apply isAt; first | apply At_then | apply At_then_ret | apply At_then_exit | apply At_block_normal | apply At_block_ret | apply At_block_hit | refine At_block_miss rfl ?_ | refine At_end1 rfl rfl ?_ | refine At_end1n rfl rfl ?_ | refine At_end2 rfl rfl rfl ?_ | refine At_end3 rfl rfl rfl rfl ?_ | refine At_end4 rfl rfl rfl rfl rfl ?_ | refine At_end5 rfl rfl rfl rfl rfl rfl ?_ | refine At_mix kp_ ?_))
    all_goals first | (exfalso; omega) | skip
    exact ⟨hO8.rebase hBk.size, below_step hBk hB8⟩
theorem c_specPairBase {v v1 v2 : Value} {ts : List Nd} {xs ys : List Cm} {w : World} (ht : RdL tNd w v ts) (h : RdL tCm w v1 xs) (h2 : RdL tCm w v2 ys) (hst : ShortN ts) (hsh : ShortC xs) (hsh2 : ShortC ys) : Cl Tryz.prog 29 [v, v1, v2] w (fun u w' => ∃ r, u = .tuple #[r, .bool (pairBase ts xs ys).isSome] ∧ OwL tNd w' w.heap.size 69 r ((pairBase ts xs ys).getD []) ∧ Below w.heap.size w w') := by
  refine calls_start 32 Tryz.func29 rfl rfl rfl ?_
  cases hf : pairFits ts xs ys
  · repeat' (first | (apply isL; first | apply L_nil | refine L_move rfl rfl ?_ | (apply isCall; first | (refine L_callV rfl rfl (c_specPairFits (ht.ext bw_) (h.ext bw_) (h2.ext bw_) hst hsh hsh2) (fun w2 hB2 => ?_); rw [hf]) ) | refine L_assign rfl rfl ?_ | refine L_do rfl rfl rfl (do_notDec rfl) ?_ | refine L_do rfl rfl rfl (do_not rfl) ?_ | refine L_do rfl rfl rfl (do_extract rfl rfl) ?_ | refine L_buildSlice0 (w0 := w) tNd bw_ rfl (fun w1 hO1 hB1 hC1 => ?_) ) | (apply isW; first | apply W_seq | apply W_region | refine W_cond_dec rfl (fun hg => ?_) (fun hg => ?_) | refine W_cond_true rfl ?_ | refine W_cond_false rfl ?_ | refine W_cond rfl (fun hg => ?_) (fun hg => ?_) | apply W_skip | apply W_ret | apply W_exit | apply W_block) | (apply isAt; first | apply At_then | apply At_then_ret | apply At_then_exit | apply At_block_normal | apply At_block_ret | apply At_block_hit | refine At_block_miss rfl ?_ | refine At_end1 rfl rfl ?_ | refine At_end1n rfl rfl ?_ | refine At_end2 rfl rfl rfl ?_ | refine At_end3 rfl rfl rfl rfl ?_ | refine At_end4 rfl rfl rfl rfl rfl ?_ | refine At_end5 rfl rfl rfl rfl rfl rfl ?_ | refine At_mix kp_ ?_))
    all_goals first | (exfalso; simp at hg; done) | skip
    exact ⟨_, by rw [pairBase_no hf]; rfl, by rw [pairBase_no hf]; exact hO1, bw_⟩
  · obtain ⟨T, htree, hfa, hfb⟩ := two_of hf
    obtain ⟨hc1, hc2, hf1, hf2⟩ := pair_parts hf
    have hks : ShortC (keptL xs ys) := fun c hc => by have := isPath_len (cmOk_path (T.kept_ok c hc)); omega
    have hpe := pairBase_eq hf
    cases hlf : logFits ts (keptL xs ys)
    · have hpn : pairBase ts xs ys = none := by
        rw [hpe, if_neg]
        rintro ⟨h1, h3⟩
        have : logFits ts (keptL xs ys) = true := by unfold logFits; rw [htree, logOk_of T.kept_ok h1, decide_eq_true h3]; rfl
        rw [hlf] at this; cases this
      rw [hpn]
      repeat' (first | (apply isL; first | apply L_nil | refine L_move rfl rfl ?_ | (apply isCall; first | (refine L_callV rfl rfl (c_specPairFits (ht.ext bw_) (h.ext bw_) (h2.ext bw_) hst hsh hsh2) (fun w2 hB2 => ?_); rw [hf]) | (refine L_call rfl rfl (c_l21Kept (h.ext bw_) (h2.ext bw_) hc1 hc2 hsh hsh2) (fun u3 w3 hR => ?_); obtain ⟨hO3, hB3⟩ := hR) | (refine L_callV rfl rfl (c_specLogFits (ht.ext bw_) hO3.rd hst hks) (fun w4 hB4 => ?_); rw [hlf]) ) | refine L_assign rfl rfl ?_ | refine L_do rfl rfl rfl (do_notDec rfl) ?_ | refine L_do rfl rfl rfl (do_not rfl) ?_ | refine L_do rfl rfl rfl (do_extract rfl rfl) ?_ | refine L_buildSlice0 (w0 := w) tNd bw_ rfl (fun w1 hO1 hB1 hC1 => ?_) ) | (apply isW; first | apply W_seq | apply W_region | refine W_cond_dec rfl (fun hg => ?_) (fun hg => ?_) | refine W_cond_true rfl ?_ | refine W_cond_false rfl ?_ | refine W_cond rfl (fun hg => ?_) (fun hg => ?_) | apply W_skip | apply W_ret | apply W_exit | apply W_block) | (apply isAt; first | apply At_then | apply At_then_ret | apply At_then_exit | apply At_block_normal | apply At_block_ret | apply At_block_hit | refine At_block_miss rfl ?_ | refine At_end1 rfl rfl ?_ | refine At_end1n rfl rfl ?_ | refine At_end2 rfl rfl rfl ?_ | refine At_end3 rfl rfl rfl rfl ?_ | refine At_end4 rfl rfl rfl rfl rfl ?_ | refine At_end5 rfl rfl rfl rfl rfl rfl ?_ | refine At_mix kp_ ?_))
      all_goals first | (exfalso; simp at hg; done) | skip
      exact ⟨_, rfl, hO1, bw_⟩
    · obtain ⟨_, hlk, hfu⟩ := full_of_fits hlf
      have hpn : pairBase ts xs ys = some (logGo ts (keptL xs ys)).1 := by rw [hpe, if_pos ⟨(logOk_parts hlk).1, hfu⟩]
      have hlt : logT ts (keptL xs ys) = (logGo ts (keptL xs ys)).1 := by unfold logT; rw [htree, hlk]; rfl
      rw [hpn]
      repeat' (first | (apply isL; first | apply L_nil | refine L_move rfl rfl ?_ | (apply isCall; first | (refine L_callV rfl rfl (c_specPairFits (ht.ext bw_) (h.ext bw_) (h2.ext bw_) hst hsh hsh2) (fun w2 hB2 => ?_); rw [hf]) | (refine L_call rfl rfl (c_l21Kept (h.ext bw_) (h2.ext bw_) hc1 hc2 hsh hsh2) (fun u3 w3 hR => ?_); obtain ⟨hO3, hB3⟩ := hR) | (refine L_callV rfl rfl (c_specLogFits (ht.ext bw_) hO3.rd hst hks) (fun w4 hB4 => ?_); rw [hlf]) | (refine L_call rfl rfl (c_specLogApply (ht.ext bw_) (hO3.rd.ext bw_) hst hks) (fun _ w5 hR => ?_); obtain ⟨r5, rfl, hO5, hB5⟩ := hR; rw [hlt] at hO5) ) | refine L_assign rfl rfl ?_ | refine L_do rfl rfl rfl (do_notDec rfl) ?_ | refine L_do rfl rfl rfl (do_not rfl) ?_ | refine L_do rfl rfl rfl (do_extract rfl rfl) ?_ | refine L_buildSlice0 (w0 := w) tNd bw_ rfl (fun w1 hO1 hB1 hC1 => ?_) ) | (apply isW; first | apply W_seq | apply W_region | refine W_cond_dec rfl (fun hg => ?_) (fun hg => ?_) | refine W_cond_true rfl ?_ | refine W_cond_false rfl ?_ | refine W_cond rfl (fun hg => ?_) (fun hg => ?_) | apply W_skip | apply W_ret | apply W_exit | apply W_block) | (apply isAt; first | apply At_then | apply At_then_ret | apply At_then_exit | apply At_block_normal | apply At_block_ret | apply At_block_hit | refine At_block_miss rfl ?_ | refine At_end1 rfl rfl ?_ | refine At_end1n rfl rfl ?_ | refine At_end2 rfl rfl rfl ?_ | refine At_end3 rfl rfl rfl rfl ?_ | refine At_end4 rfl rfl rfl rfl rfl ?_ | refine At_end5 rfl rfl rfl rfl rfl rfl ?_ | refine At_mix kp_ ?_))
      all_goals first | (exfalso; simp at hg; done) | skip
      exact ⟨r5, rfl, hO5.rebase (Nat.le_trans hB2.size (Nat.le_trans hB3.size hB4.size)), bw_⟩
theorem c_implPairBase {v v1 v2 : Value} {ts : List Nd} {xs ys : List Cm} {w : World} (ht : RdL tNd w v ts) (h : RdL tCm w v1 xs) (h2 : RdL tCm w v2 ys) (hm : MLen w) (hst : ShortN ts) (hsh : ShortC xs) (hsh2 : ShortC ys) : Cl Tryz.prog 30 [v, v1, v2] w (fun u w' => ∃ r, u = .tuple #[r, .bool (pairBase ts xs ys).isSome] ∧ OwL tNd w' w.heap.size 69 r ((pairBase ts xs ys).getD []) ∧ Below w.heap.size w w') := by
  refine calls_start 44 Tryz.func30 rfl rfl rfl ?_
  cases hf : pairFits ts xs ys
  · repeat' (first | (apply isL; first | apply L_nil | refine L_move rfl rfl ?_ | (apply isCall; first | refine L_lenL rfl rd_ rfl (fun hlen => ?_) | (refine L_callV rfl rfl (c_implPairFits (ht.ext bw_) (h.ext bw_) (h2.ext bw_) (hm.ext bw_) hst hsh hsh2) (fun w2 hB2 => ?_); rw [hf]) ) | (apply isBin; first | refine L_do rfl rfl rfl (do_cmp rfl rfl rfl) ?_ | refine L_do rfl rfl rfl (do_add rfl rfl om_) ?_ ) | (apply isLoad; first | refine L_loadPt rfl (by rfl) pt_ (by rfl) rfl ?_ | refine L_loadPt2 rfl (by rfl) pt_ (by rfl) rfl ?_ | refine L_loadPt0 rfl pt_ (by rfl) rfl ?_ | refine L_loadAgg rfl pt_ (by rfl) rfl ?_ | refine L_loadSub rfl (by rfl) pt_ (by rfl) rfl ?_) | refine L_assign rfl rfl ?_ | refine L_do rfl rfl rfl (do_notDec rfl) ?_ | refine L_do rfl rfl rfl (do_not rfl) ?_ | refine L_do rfl rfl rfl (do_extract rfl rfl) ?_ | refine L_indexL rfl rfl rd_ (by rfl) om_ om_ rfl (fun a y hy hab hp => ?_) | (apply isAllocStore; refine L_allocStoreV (w0 := w) bw_ rfl rfl rfl rfl ?_ rfl (fun w1 hz1 hB hB1 hv => ?_); (focus (first | exact Ty.one _ _ | simp [Value.oneCell'])); have hp := pt_of_block hv) ) | (apply isW; first | apply W_seq | apply W_region | refine W_cond_dec rfl (fun hg => ?_) (fun hg => ?_) | refine W_cond_true rfl ?_ | refine W_cond_false rfl ?_ | refine W_cond rfl (fun hg => ?_) (fun hg => ?_) | apply W_skip | apply W_ret | apply W_exit | apply W_block) | (apply isAt; first | apply At_then | apply At_then_ret | apply At_then_exit | apply At_block_normal | apply At_block_ret | apply At_block_hit | refine At_block_miss rfl ?_ | refine At_end1 rfl rfl ?_ | refine At_end1n rfl rfl ?_ | refine At_end2 rfl rfl rfl ?_ | refine At_end3 rfl rfl rfl rfl ?_ | refine At_end4 rfl rfl rfl rfl rfl ?_ | refine At_end5 rfl rfl rfl rfl rfl rfl ?_ | refine At_mix kp_ ?_))
    all_goals first | (exfalso; simp at hg; done) | skip
    exact ⟨_, by rw [pairBase_no hf]; rfl, by rw [pairBase_no hf]; exact own_nil0, bw_⟩
  obtain ⟨T, htree, hfa, hfb⟩ := two_of hf
  obtain ⟨hc1, hc2, hf1, hf2⟩ := pair_parts hf
  have hlx := (canonOk_short hc1).1
  have hly := (canonOk_short hc2).1
  have hml := h.maxLen
  have hso : safeOf xs ys = safeL xs ys := by unfold safeOf; rw [hc1, hc2]; rfl
  have hsl : (safeL xs ys).length ≤ ys.length := List.length_filter_le ..
  have hpe := pairBase_eq hf
  have hro := T.raw_once
  have hko := T.kept_ok
  have hkd : keptL xs ys = sortC (safeL xs ys ++ xs.filter (fun c => !dispB c ys)) := rfl
  have hrd : keptRaw xs ys = safeL xs ys ++ xs.filter (fun c => !dispB c ys) := rfl
  have hkl := keptL_len xs ys
  rw [hrd] at hro
  generalize hq : (fun c => !dispB c ys) = q at hkd hro hkl
  repeat' (first | (apply isL; first | apply L_nil | refine L_move rfl rfl ?_ | (apply isCall; first | refine L_lenL rfl rd_ rfl (fun hlen => ?_) | (refine L_callV rfl rfl (c_implPairFits (ht.ext bw_) (h.ext bw_) (h2.ext bw_) (hm.ext bw_) hst hsh hsh2) (fun w2 hB2 => ?_); rw [hf]) | (refine L_call rfl rfl (c_SafeOf (h.ext bw_) (h2.ext bw_) (hm.ext bw_) hsh hsh2 om_) (fun u4 w4 hR => ?_); obtain ⟨hO4, hB4⟩ := hR; rw [hso] at hO4; replace hO4 := hO4.rebase hB2.size; have hB04 := below_step hB2 hB4; clear hB2 hB4) ) | (apply isBin; first | refine L_do rfl rfl rfl (do_cmp rfl rfl rfl) ?_ | refine L_do rfl rfl rfl (do_add rfl rfl om_) ?_ ) | (apply isLoad; first | refine L_loadPt rfl (by rfl) pt_ (by rfl) rfl ?_ | refine L_loadPt2 rfl (by rfl) pt_ (by rfl) rfl ?_ | refine L_loadPt0 rfl pt_ (by rfl) rfl ?_ | refine L_loadAgg rfl pt_ (by rfl) rfl ?_ | refine L_loadSub rfl (by rfl) pt_ (by rfl) rfl ?_) | refine L_assign rfl rfl ?_ | refine L_do rfl rfl rfl (do_notDec rfl) ?_ | refine L_do rfl rfl rfl (do_not rfl) ?_ | refine L_do rfl rfl rfl (do_extract rfl rfl) ?_ | refine L_indexL rfl rfl rd_ (by rfl) om_ om_ rfl (fun a y hy hab hp => ?_) | (apply isAllocStore; refine L_allocStoreV (w0 := w) bw_ rfl rfl rfl rfl ?_ rfl (fun w1 hz1 hB hB1 hv => ?_); (focus (first | exact Ty.one _ _ | simp [Value.oneCell'])); have hp := pt_of_block hv) ) | (apply isW; first | apply W_seq | apply W_region | refine W_cond_dec rfl (fun hg => ?_) (fun hg => ?_) | refine W_cond_true rfl ?_ | refine W_cond_false rfl ?_ | refine W_cond rfl (fun hg => ?_) (fun hg => ?_) | apply W_skip | apply W_ret | apply W_exit | apply W_block) | (apply isAt; first | apply At_then | apply At_then_ret | apply At_then_exit | apply At_block_normal | apply At_block_ret | apply At_block_hit | refine At_block_miss rfl ?_ | refine At_end1 rfl rfl ?_ | refine At_end1n rfl rfl ?_ | refine At_end2 rfl rfl rfl ?_ | refine At_end3 rfl rfl rfl rfl ?_ | refine At_end4 rfl rfl rfl rfl rfl ?_ | refine At_end5 rfl rfl rfl rfl rfl rfl ?_ | refine At_mix kp_ ?_))
  all_goals first | (exfalso; simp at hg; done) | skip
  refine W_loopF (fun m fr w' => ∃ (k : Nat) (u : Value), m = xs.length - k ∧ k ≤ xs.length ∧ fr = [(0, v), (2, v2), (8, u), (19, v1), (20, .int .i64 xs.length), (21, .int .i64 k)] ∧ Below w.heap.size w w' ∧ OwL tCm w' w.heap.size 57 u (safeL xs ys ++ (xs.take k).filter q)) xs.length
    [(0, v), (2, v2), (8, u4), (19, v1), (20, .int .i64 xs.length), (21, .int .i64 0)] sl_ ⟨0, _, rfl, Nat.zero_le _, rfl, hB04, by simpa using hO4⟩ ?_
  clear hO4 hB04
  rintro _ _ w' ⟨k, u, rfl, hk, rfl, hBk, hO⟩
  have hfl : ((xs.take k).filter q).length ≤ k := Nat.le_trans (List.length_filter_le ..) (by simp; omega)
  rcases Nat.lt_or_ge k xs.length with hkl | hkl
  · obtain ⟨c0, hc0⟩ : ∃ c0, xs[k]? = some c0 := ⟨_, List.getElem?_eq_getElem hkl⟩
    have hm0 := List.mem_of_getElem? hc0
    have hst := filter_step3 (q := q) hc0
    have hqc : q c0 = !dispB c0 ys := by rw [← hq]
    have hcs := hsh c0 hm0
    repeat' (first | (apply isL; first | apply L_nil | refine L_move rfl rfl ?_ | (apply isCall; first | refine L_lenL rfl rd_ rfl (fun hlen => ?_) | refine L_callV rfl rfl (c_disputed (c := c0) (h2.ext bw_) hcs hsh2) (fun w5 hB5 => ?_) | refine L_append (w0 := w) rfl rfl bw_ (hO.ext bw_) hO6.rd rfl (by simp; omega) (by simp; omega) rfl (fun v7 w7 hO7 hB7 hg7 => ?_) ) | (apply isBin; first | refine L_do rfl rfl rfl (do_cmp rfl rfl rfl) ?_ | refine L_do rfl rfl rfl (do_add rfl rfl om_) ?_ ) | (apply isLoad; first | refine L_loadPt rfl (by rfl) pt_ (by rfl) rfl ?_ | refine L_loadPt2 rfl (by rfl) pt_ (by rfl) rfl ?_ | refine L_loadPt0 rfl pt_ (by rfl) rfl ?_ | refine L_loadAgg rfl pt_ (by rfl) rfl ?_ | refine L_loadSub rfl (by rfl) pt_ (by rfl) rfl ?_) | refine L_assign rfl rfl ?_ | refine L_do rfl rfl rfl (do_notDec rfl) ?_ | refine L_do rfl rfl rfl (do_not rfl) ?_ | refine L_do rfl rfl rfl (do_extract rfl rfl) ?_ | (refine L_indexL rfl rfl (h.ext bw_) (by rfl) om_ om_ rfl (fun a y9 hy9 hab hp => ?_); have hyy : xs[k]? = some y9 := hy9; rw [hc0] at hyy; obtain rfl := Option.some.inj hyy) | (apply isAlloc; refine L_allocV (w0 := w) bw_ rfl (fun w1 hz1 hB1 hC1 hv1 => ?_)) | (apply isStore; refine L_storeAt (b := w'.heap.size) (off := 0) (cs := tCm.enc c0) rfl rfl rfl rfl (tCm.one _) hv1 (Nat.le_of_ble_eq_true rfl) (cur' := tCm.enc c0) rfl (fun w3 hv3 hg3 hz3 => ?_); have hC3 : Below w'.heap.size w' w3 := below_grow0 hC1 hg3 (fun k hk => by cases hk; omega); have hp3 := pt_of_block hv3; clear hB1 hC1 hv1 hg3) | refine L_buildSliceL tCm [c0] rfl rfl rfl rfl rfl rfl rfl rfl (fun w6 hO6 hB6 => ?_) | refine L_indexL rfl rfl rd_ (by rfl) om_ om_ rfl (fun a y hy hab hp => ?_) | (apply isAllocStore; refine L_allocStoreV (w0 := w) bw_ rfl rfl rfl rfl ?_ rfl (fun w1 hz1 hB hB1 hv => ?_); (focus (first | exact Ty.one _ _ | simp [Value.oneCell'])); have hp := pt_of_block hv) ) | (apply isW; first | apply W_seq | apply W_region | refine W_cond_dec rfl (fun hg => ?_) (fun hg => ?_) | refine W_cond_true rfl ?_ | refine W_cond_false rfl ?_ | refine W_cond rfl (fun hg => ?_) (fun hg => ?_) | apply W_skip | apply W_ret | apply W_exit | apply W_block) | (apply isAt; first | apply At_then | apply At_then_ret | apply At_then_exit | apply At_block_normal | apply At_block_ret | apply At_block_hit | refine At_block_miss rfl ?_ | refine At_end1 rfl rfl ?_ | refine At_end1n rfl rfl ?_ | refine At_end2 rfl rfl rfl ?_ | refine At_end3 rfl rfl rfl rfl ?_ | refine At_end4 rfl rfl rfl rfl rfl ?_ | refine At_end5 rfl rfl rfl rfl rfl rfl ?_ | refine At_mix kp_ ?_))
    all_goals first | (exfalso; omega) | skip
    · rw [hqc, show (!dispB c0 ys) = true by assumption, if_pos rfl] at hst
      exact At_round _ [(0, v), (2, v2), (8, v7), (19, v1), (20, .int .i64 xs.length), (21, .int .i64 ((k + 1 : Nat) : Int))] sl_ (by omega) ⟨k + 1, v7, rfl, by omega, rfl, hB7, by rw [hst, ← List.append_assoc]; exact hO7⟩
    · rw [hqc, show (!dispB c0 ys) = false by assumption] at hst
      exact At_round _ [(0, v), (2, v2), (8, u), (19, v1), (20, .int .i64 xs.length), (21, .int .i64 ((k + 1 : Nat) : Int))] sl_ (by omega) ⟨k + 1, u, rfl, by omega, rfl, bw_, by rw [hst]; simpa using hO.ext bw_⟩
  · rw [List.take_of_length_le (by omega)] at hO
    rw [hpe]
    have hfq : (xs.filter q).length ≤ xs.length := List.length_filter_le ..
    have hlk : (keptL xs ys).length = (safeL xs ys ++ xs.filter q).length := by rw [hkd, sortC_len]
    repeat' (first | (apply isL; first | apply L_nil | refine L_move rfl rfl ?_ | (apply isCall; first | refine L_lenL rfl rd_ rfl (fun hlen => ?_) | refine L_lenL rfl hO.rd rfl (fun hlen => ?_) | (refine L_call rfl rfl (c_SortFunc_cm hO hro (by simp; omega)) (fun _ w8 hR => ?_); obtain ⟨rfl, hO8, hg8⟩ := hR; rw [← hkd] at hO8; have hB8 := below_own hBk hO (Nat.le_refl _) hg8) | (refine L_call rfl rfl (c_all (ht.ext hB8) hO8.rd (hm.ext hB8) htree hko) (fun _ w9 hR => ?_); obtain ⟨r9, rfl, hO9, hB9⟩ := hR) ) | (apply isBin; first | refine L_do rfl rfl rfl (do_cmp rfl rfl rfl) ?_ | refine L_do rfl rfl rfl (do_add rfl rfl om_) ?_ ) | (apply isLoad; first | refine L_loadPt rfl (by rfl) pt_ (by rfl) rfl ?_ | refine L_loadPt2 rfl (by rfl) pt_ (by rfl) rfl ?_ | refine L_loadPt0 rfl pt_ (by rfl) rfl ?_ | refine L_loadAgg rfl pt_ (by rfl) rfl ?_ | refine L_loadSub rfl (by rfl) pt_ (by rfl) rfl ?_) | refine L_assign rfl rfl ?_ | refine L_do rfl rfl rfl (do_notDec rfl) ?_ | refine L_do rfl rfl rfl (do_not rfl) ?_ | refine L_do rfl rfl rfl (do_extract rfl rfl) ?_ | refine L_indexL rfl rfl rd_ (by rfl) om_ om_ rfl (fun a y hy hab hp => ?_) | (apply isAllocStore; refine L_allocStoreV (w0 := w) bw_ rfl rfl rfl rfl ?_ rfl (fun w1 hz1 hB hB1 hv => ?_); (focus (first | exact Ty.one _ _ | simp [Value.oneCell'])); have hp := pt_of_block hv) ) | (apply isW; first | apply W_seq | apply W_region | refine W_cond_dec rfl (fun hg => ?_) (fun hg => ?_) | refine W_cond_true rfl ?_ | refine W_cond_false rfl ?_ | refine W_cond rfl (fun hg => ?_) (fun hg => ?_) | apply W_skip | apply W_ret | apply W_exit | apply W_block) | (apply isAt; first | apply At_then | apply At_then_ret | apply At_then_exit | apply At_block_normal | apply At_block_ret | apply At_block_hit | refine At_block_miss rfl ?_ | refine At_end1 rfl rfl ?_ | refine At_end1n rfl rfl ?_ | refine At_end2 rfl rfl rfl ?_ | refine At_end3 rfl rfl rfl rfl ?_ | refine At_end4 rfl rfl rfl rfl rfl ?_ | refine At_end5 rfl rfl rfl rfl rfl rfl ?_ | refine At_mix kp_ ?_))
    all_goals first | (exfalso; omega) | skip
    · rw [if_neg (fun e => by omega)]
      exact ⟨_, rfl, own_nil0, hBk⟩
    · by_cases e : (logGo ts (keptL xs ys)).2 = (keptL xs ys).length
      · rw [if_pos e] at hO9
        rw [if_pos ⟨by omega, e⟩, decide_eq_true e]
        exact ⟨r9, rfl, hO9.rebase hB8.size, below_step hB8 hB9⟩
      · rw [if_neg e] at hO9
        rw [if_neg (fun h => e h.2), decide_eq_false e]
        exact ⟨r9, rfl, hO9.rebase hB8.size, below_step hB8 hB9⟩
theorem c_implPairBase_some {v v1 v2 : Value} {ts : List Nd} {xs ys : List Cm} {w : World} {B : List Nd} (hP : pairBase ts xs ys = some B) (ht : RdL tNd w v ts) (h : RdL tCm w v1 xs) (h2 : RdL tCm w v2 ys) (hm : MLen w) (hst : ShortN ts) (hsh : ShortC xs) (hsh2 : ShortC ys) : Cl Tryz.prog 30 [v, v1, v2] w (fun u w' => ∃ r, u = .tuple #[r, .bool true] ∧ OwL tNd w' w.heap.size 69 r B ∧ Below w.heap.size w w') := by
  have := c_implPairBase ht h h2 hm hst hsh hsh2
  rw [hP] at this; exact this
theorem c_implPairBase_none {v v1 v2 : Value} {ts : List Nd} {xs ys : List Cm} {w : World} (hP : pairBase ts xs ys = none) (ht : RdL tNd w v ts) (h : RdL tCm w v1 xs) (h2 : RdL tCm w v2 ys) (hm : MLen w) (hst : ShortN ts) (hsh : ShortC xs) (hsh2 : ShortC ys) : Cl Tryz.prog 30 [v, v1, v2] w (fun u w' => ∃ r, u = .tuple #[r, .bool false] ∧ OwL tNd w' w.heap.size 69 r [] ∧ Below w.heap.size w w') := by
  have := c_implPairBase ht h h2 hm hst hsh hsh2
  rw [hP] at this; exact this
theorem c_specPairBase_some {v v1 v2 : Value} {ts : List Nd} {xs ys : List Cm} {w : World} {B : List Nd} (hP : pairBase ts xs ys = some B) (ht : RdL tNd w v ts) (h : RdL tCm w v1 xs) (h2 : RdL tCm w v2 ys) (hst : ShortN ts) (hsh : ShortC xs) (hsh2 : ShortC ys) : Cl Tryz.prog 29 [v, v1, v2] w (fun u w' => ∃ r, u = .tuple #[r, .bool true] ∧ OwL tNd w' w.heap.size 69 r B ∧ Below w.heap.size w w') := by
  have := c_specPairBase ht h h2 hst hsh hsh2
  rw [hP] at this; exact this
theorem c_specPairBase_none {v v1 v2 : Value} {ts : List Nd} {xs ys : List Cm} {w : World} (hP : pairBase ts xs ys = none) (ht : RdL tNd w v ts) (h : RdL tCm w v1 xs) (h2 : RdL tCm w v2 ys) (hst : ShortN ts) (hsh : ShortC xs) (hsh2 : ShortC ys) : Cl Tryz.prog 29 [v, v1, v2] w (fun u w' => ∃ r, u = .tuple #[r, .bool false] ∧ OwL tNd w' w.heap.size 69 r [] ∧ Below w.heap.size w w') := by
  have := c_specPairBase ht h h2 hst hsh hsh2
  rw [hP] at this; exact this
end Go.Proofs.YtjncnmokafgigaaGreatDoor
