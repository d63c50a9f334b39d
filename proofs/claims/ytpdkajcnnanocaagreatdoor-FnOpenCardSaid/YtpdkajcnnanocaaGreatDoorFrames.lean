/-
  Contracts: sums and frames of bodies.
-/
import Derived.Test.YtpdkajcnnanocaaGreatDoorCmFrom
namespace Go.Proofs.YtpdkajcnnanocaaGreatDoor
open Go Go.RowKit
set_option linter.unusedVariables false
set_option linter.unusedSimpArgs false

def sumStep (s b : Int) : Int := (31 * s + b) % 251
def sumOf (xs : List Int) : Int := xs.foldl sumStep 7
def fmOf (xs : List Int) : List Int := if bodyOk xs then (xs.length : Int) :: (xs ++ [sumOf xs]) else []
theorem sumOf_step {xs : List Int} {k : Nat} {y : Int} (h : xs[k]? = some y) : sumOf (xs.take (k + 1)) = sumStep (sumOf (xs.take k)) y := by
  unfold sumOf; rw [List.take_add_one, h]; simp
theorem body_len {xs : List Int} (h : bodyOk xs = true) : 1 ≤ xs.length ∧ xs.length ≤ 16 := by
  unfold bodyOk at h; simp at h; omega
theorem fmOf_len (xs : List Int) : (fmOf xs).length ≤ 18 := by
  unfold fmOf
  split
  · rename_i h; have := body_len h; simp; omega
  · simp
theorem sumOf_bd (xs : List Int) : 0 ≤ sumOf xs ∧ sumOf xs ≤ 250 := by
  unfold sumOf
  rcases List.eq_nil_or_concat xs with rfl | ⟨l, a, rfl⟩
  · simp
  · simp only [List.concat_eq_append, List.foldl_append, List.foldl_cons, List.foldl_nil, sumStep]; omega

theorem c_l4Sum {v : Value} {xs : List Int} {w : World} (h : RdL tInt w v xs) (hb : bodyOk xs = true) : Cl Tryz.prog 53 [v] w (V w (.int .i64 (sumOf xs))) := by
  refine calls_start 20 Tryz.func53 rfl rfl rfl ?_
  repeat' (first | (apply isL; first | apply L_nil | refine L_move rfl rfl ?_ | (apply isCall; first | refine L_lenL rfl rd_ rfl (fun hlen => ?_) ) | (apply isBin; first | refine L_do rfl rfl rfl (do_cmp rfl rfl rfl) ?_ | refine L_do rfl rfl rfl (do_add rfl rfl om_) ?_ ) | (apply isLoad; first | refine L_loadPt rfl (by rfl) pt_ (by rfl) rfl ?_ | refine L_loadPt2 rfl (by rfl) pt_ (by rfl) rfl ?_ | refine L_loadPt0 rfl pt_ (by rfl) rfl ?_ | refine L_loadAgg rfl pt_ (by rfl) rfl ?_ | refine L_loadSub rfl (by rfl) pt_ (by rfl) rfl ?_) | refine L_assign rfl rfl ?_ | refine L_indexL rfl rfl rd_ (by rfl) om_ om_ rfl (fun a y hy hab hp => ?_) ) | (apply isW; first | apply W_seq | apply W_region | refine W_cond_dec rfl (fun hg => ?_) (fun hg => ?_) | refine W_cond_true rfl ?_ | refine W_cond_false rfl ?_ | refine W_cond rfl (fun hg => ?_) (fun hg => ?_) | apply W_skip | apply W_ret | apply W_exit | apply W_block) | (apply isAt; first | apply At_then | apply At_then_ret | apply At_then_exit | apply At_block_normal | apply At_block_ret | apply At_block_hit | refine At_block_miss rfl ?_ | refine At_end1 rfl rfl ?_ | refine At_end1n rfl rfl ?_ | refine At_end2 rfl rfl rfl ?_ | refine At_end3 rfl rfl rfl rfl ?_ | refine At_end4 rfl rfl rfl rfl rfl ?_ | refine At_mix kp_ ?_))
  refine W_loopF (fun m fr w' => ∃ k : Nat, m = xs.length - k ∧ k ≤ xs.length ∧ fr = [(0, v), (3, .int .i64 (sumOf (xs.take k))), (4, .int .i64 k)] ∧ Below w.heap.size w w') xs.length
    [(0, v), (3, .int .i64 7), (4, .int .i64 0)] sl_ ⟨0, rfl, Nat.zero_le _, rfl, bw_⟩ ?_
  rintro _ _ w' ⟨k, rfl, hk, rfl, hB⟩
  have hs := sumOf_bd (xs.take k)
  repeat' (first | (apply isL; first | apply L_nil | refine L_move rfl rfl ?_ | (apply isCall; first | refine L_lenL rfl rd_ rfl (fun hlen => ?_) ) | (apply isBin; first | refine L_do rfl rfl rfl (do_cmp rfl rfl rfl) ?_ | refine L_do rfl rfl rfl (do_add rfl rfl om_) ?_ | refine L_do rfl rfl rfl (do_mul rfl rfl om_) ?_ | refine L_rem rfl rfl om_ om_ rfl (fun hm => ?_) ) | (apply isLoad; first | refine L_loadPt rfl (by rfl) pt_ (by rfl) rfl ?_ | refine L_loadPt2 rfl (by rfl) pt_ (by rfl) rfl ?_ | refine L_loadPt0 rfl pt_ (by rfl) rfl ?_ | refine L_loadAgg rfl pt_ (by rfl) rfl ?_ | refine L_loadSub rfl (by rfl) pt_ (by rfl) rfl ?_) | refine L_assign rfl rfl ?_ | (refine L_indexL rfl rfl (h.ext bw_) rfl om_ om_ rfl (fun a y hy hab hp => ?_); have hyb := bytes_at hb hy) | refine L_indexL rfl rfl rd_ (by rfl) om_ om_ rfl (fun a y hy hab hp => ?_) ) | (apply isW; first | apply W_seq | apply W_region | refine W_cond_dec rfl (fun hg => ?_) (fun hg => ?_) | refine W_cond_true rfl ?_ | refine W_cond_false rfl ?_ | refine W_cond rfl (fun hg => ?_) (fun hg => ?_) | apply W_skip | apply W_ret | apply W_exit | apply W_block) | (apply isAt; first | apply At_then | apply At_then_ret | apply At_then_exit | apply At_block_normal | apply At_block_ret | apply At_block_hit | refine At_block_miss rfl ?_ | refine At_end1 rfl rfl ?_ | refine At_end1n rfl rfl ?_ | refine At_end2 rfl rfl rfl ?_ | refine At_end3 rfl rfl rfl rfl ?_ | refine At_end4 rfl rfl rfl rfl rfl ?_ | refine At_mix kp_ ?_))
  · have hyy : xs[k]? = some y := hy
    exact At_round _ [(0, v), (3, .int .i64 (sumOf (xs.take (k + 1)))), (4, .int .i64 ((k + 1 : Nat) : Int))] (by rw [sumOf_step hyy]; repeat (first | exact get_nil_slots _ | refine get_cons_slots rfl ?_)) (by omega) ⟨k + 1, rfl, by omega, rfl, bw_⟩
  · rw [List.take_of_length_le (by omega)]
    exact ⟨rfl, hB⟩
theorem c_implBodySum {v : Value} {xs : List Int} {w : World} (h : RdL tInt w v xs) : Cl Tryz.prog 44 [v] w (V w (.int .i64 (if bodyOk xs then sumOf xs else -1))) := by
  refine calls_start 22 Tryz.func44 rfl rfl rfl ?_
  repeat' (first | (apply isL; first | apply L_nil | refine L_move rfl rfl ?_ | (apply isCall; first | refine L_lenL rfl rd_ rfl (fun hlen => ?_) | refine L_callV rfl rfl (c_isBody (h.ext bw_)) (fun w2 hB2 => ?_) ) | (apply isBin; first | refine L_do rfl rfl rfl (do_cmp rfl rfl rfl) ?_ | refine L_do rfl rfl rfl (do_add rfl rfl om_) ?_ ) | (apply isLoad; first | refine L_loadPt rfl (by rfl) pt_ (by rfl) rfl ?_ | refine L_loadPt2 rfl (by rfl) pt_ (by rfl) rfl ?_ | refine L_loadPt0 rfl pt_ (by rfl) rfl ?_ | refine L_loadAgg rfl pt_ (by rfl) rfl ?_ | refine L_loadSub rfl (by rfl) pt_ (by rfl) rfl ?_) | refine L_assign rfl rfl ?_ | refine L_do rfl rfl rfl (do_notDec rfl) ?_ | refine L_do rfl rfl rfl (do_not rfl) ?_ | refine L_indexL rfl rfl rd_ (by rfl) om_ om_ rfl (fun a y hy hab hp => ?_) ) | (apply isW; first | apply W_seq | apply W_region | refine W_cond_dec rfl (fun hg => ?_) (fun hg => ?_) | refine W_cond_true rfl ?_ | refine W_cond_false rfl ?_ | refine W_cond rfl (fun hg => ?_) (fun hg => ?_) | apply W_skip | apply W_ret | apply W_exit | apply W_block) | (apply isAt; first | apply At_then | apply At_then_ret | apply At_then_exit | apply At_block_normal | apply At_block_ret | apply At_block_hit | refine At_block_miss rfl ?_ | refine At_end1 rfl rfl ?_ | refine At_end1n rfl rfl ?_ | refine At_end2 rfl rfl rfl ?_ | refine At_end3 rfl rfl rfl rfl ?_ | refine At_end4 rfl rfl rfl rfl rfl ?_ | refine At_mix kp_ ?_))
  · have hb : bodyOk xs = false := by simpa using hg
    exact ⟨by rw [hb]; rfl, bw_⟩
  have hb : bodyOk xs = true := by simpa using hg
  refine W_loopF (fun m fr w' => ∃ k : Nat, m = xs.length - k ∧ k ≤ xs.length ∧ fr = [(3, .int .i64 (sumOf (xs.take k))), (9, v), (10, .int .i64 xs.length), (11, .int .i64 k)] ∧ Below w.heap.size w w') xs.length
    [(3, .int .i64 7), (9, v), (10, .int .i64 xs.length), (11, .int .i64 0)] sl_ ⟨0, rfl, Nat.zero_le _, rfl, bw_⟩ ?_
  rintro _ _ w' ⟨k, rfl, hk, rfl, hB⟩
  have hs := sumOf_bd (xs.take k)
  repeat' (first | (apply isL; first | apply L_nil | refine L_move rfl rfl ?_ | (apply isCall; first | refine L_lenL rfl rd_ rfl (fun hlen => ?_) ) | (apply isBin; first | refine L_do rfl rfl rfl (do_cmp rfl rfl rfl) ?_ | refine L_do rfl rfl rfl (do_add rfl rfl om_) ?_ | refine L_do rfl rfl rfl (do_mul rfl rfl om_) ?_ | refine L_rem rfl rfl om_ om_ rfl (fun hm => ?_) ) | (apply isLoad; first | refine L_loadPt rfl (by rfl) pt_ (by rfl) rfl ?_ | refine L_loadPt2 rfl (by rfl) pt_ (by rfl) rfl ?_ | refine L_loadPt0 rfl pt_ (by rfl) rfl ?_ | refine L_loadAgg rfl pt_ (by rfl) rfl ?_ | refine L_loadSub rfl (by rfl) pt_ (by rfl) rfl ?_) | refine L_assign rfl rfl ?_ | refine L_do rfl rfl rfl (do_notDec rfl) ?_ | refine L_do rfl rfl rfl (do_not rfl) ?_ | (refine L_indexL rfl rfl (h.ext bw_) rfl om_ om_ rfl (fun a y hy hab hp => ?_); have hyb := bytes_at hb hy) | refine L_indexL rfl rfl rd_ (by rfl) om_ om_ rfl (fun a y hy hab hp => ?_) ) | (apply isW; first | apply W_seq | apply W_region | refine W_cond_dec rfl (fun hg => ?_) (fun hg => ?_) | refine W_cond_true rfl ?_ | refine W_cond_false rfl ?_ | refine W_cond rfl (fun hg => ?_) (fun hg => ?_) | apply W_skip | apply W_ret | apply W_exit | apply W_block) | (apply isAt; first | apply At_then | apply At_then_ret | apply At_then_exit | apply At_block_normal | apply At_block_ret | apply At_block_hit | refine At_block_miss rfl ?_ | refine At_end1 rfl rfl ?_ | refine At_end1n rfl rfl ?_ | refine At_end2 rfl rfl rfl ?_ | refine At_end3 rfl rfl rfl rfl ?_ | refine At_end4 rfl rfl rfl rfl rfl ?_ | refine At_mix kp_ ?_))
  · have hyy : xs[k]? = some y := hy
    exact At_round _ [(3, .int .i64 (sumOf (xs.take (k + 1)))), (9, v), (10, .int .i64 xs.length), (11, .int .i64 ((k + 1 : Nat) : Int))] (by rw [sumOf_step hyy]; repeat (first | exact get_nil_slots _ | refine get_cons_slots rfl ?_)) (by omega) ⟨k + 1, rfl, by omega, rfl, bw_⟩
  · rw [List.take_of_length_le (by omega), hb]
    exact ⟨rfl, hB⟩

theorem c_specFrameOf {v : Value} {xs : List Int} {w : World} (h : RdL tInt w v xs) : Cl Tryz.prog 47 [v] w (fun u w' => OwL tInt w' w.heap.size 3 u (fmOf xs) ∧ Below w.heap.size w w') := by
  refine calls_start 18 Tryz.func47 rfl rfl rfl ?_
  have e0 : bodyOk xs = true → xs.length ≤ 16 := fun h => (body_len h).2
  repeat' (first | (apply isL; first | apply L_nil | refine L_move rfl rfl ?_ | (apply isCall; first | refine L_lenL rfl rd_ rfl (fun hlen => ?_) | (refine L_callV rfl rfl (c_l4Body (h.ext bw_)) (fun w2 hB2 => ?_); cases hok : bodyOk xs) | (refine L_callV rfl rfl (c_l4Sum (h.ext bw_) hok) (fun w6 hB6 => ?_); have hO6 := hO5.ext hB6; have hBw6 : Below w.heap.size w w6 := below_step hBw5 hB6) | (have hle := e0 hok; refine L_append (w0 := w) rfl rfl bw_ (hO4.rebase (by have := hB2.size; omega)) (h.ext bw_) rfl (by simp; omega) (by simp; omega) rfl (fun v5 w5 hO5 hBw5 hg5 => ?_)) | (refine L_append (w0 := w) rfl rfl bw_ (hO6.ext hB7) hO7.rd rfl (by simp; omega) (by simp; omega) rfl (fun v8 w8 hO8 hBw8 hg8 => ?_)) ) | refine L_assign rfl rfl ?_ | refine L_do rfl rfl rfl (do_notDec rfl) ?_ | refine L_do rfl rfl rfl (do_not rfl) ?_ | refine L_buildSlice0 (w0 := w) tInt bw_ rfl (fun w3 hO3 hB3 hC3 => ?_) | refine L_buildSliceL tInt [(xs.length : Int)] rfl rfl rfl rfl rfl rfl rfl rfl (fun w4 hO4 hB4 => ?_) | refine L_buildSliceL tInt [sumOf xs] rfl rfl rfl rfl rfl rfl rfl rfl (fun w7 hO7 hB7 => ?_) ) | (apply isW; first | apply W_seq | apply W_region | refine W_cond_dec rfl (fun hg => ?_) (fun hg => ?_) | refine W_cond_true rfl ?_ | refine W_cond_false rfl ?_ | refine W_cond rfl (fun hg => ?_) (fun hg => ?_) | apply W_skip | apply W_ret | apply W_exit | apply W_block) | (apply isAt; first | apply At_then | apply At_then_ret | apply At_then_exit | apply At_block_normal | apply At_block_ret | apply At_block_hit | refine At_block_miss rfl ?_ | refine At_end1 rfl rfl ?_ | refine At_end1n rfl rfl ?_ | refine At_end2 rfl rfl rfl ?_ | refine At_end3 rfl rfl rfl rfl ?_ | refine At_end4 rfl rfl rfl rfl rfl ?_ | refine At_mix kp_ ?_))
  · exact ⟨by rw [fmOf, hok]; exact hO3, hB3⟩
  · exact ⟨by rw [fmOf, hok, if_pos rfl, ← List.cons_append]; exact hO8, hBw8⟩
theorem c_implFrameOf {v : Value} {xs : List Int} {w : World} (h : RdL tInt w v xs) : Cl Tryz.prog 22 [v] w (fun u w' => OwL tInt w' w.heap.size 3 u (fmOf xs) ∧ Below w.heap.size w w') := by
  refine calls_start 15 Tryz.func22 rfl rfl rfl ?_
  have e0 : bodyOk xs = true → xs.length ≤ 16 := fun h => (body_len h).2
  repeat' (first | (apply isL; first | apply L_nil | refine L_move rfl rfl ?_ | (apply isCall; first | refine L_lenL rfl rd_ rfl (fun hlen => ?_) | (refine L_callV rfl rfl (c_isBody (h.ext bw_)) (fun w2 hB2 => ?_); cases hok : bodyOk xs) | (refine L_callV rfl rfl (c_implBodySum (h.ext bw_)) (fun w6 hB6 => ?_); rw [hok, if_pos rfl]; have hO6 := hO5.ext hB6; have hBw6 : Below w.heap.size w w6 := below_step hBw5 hB6) | (have hle := e0 hok; refine L_append (w0 := w) rfl rfl bw_ (hO4.rebase (by have := hB2.size; omega)) (h.ext bw_) rfl (by simp; omega) (by simp; omega) rfl (fun v5 w5 hO5 hBw5 hg5 => ?_)) | (refine L_append (w0 := w) rfl rfl bw_ (hO6.ext hB7) hO7.rd rfl (by simp; omega) (by simp; omega) rfl (fun v8 w8 hO8 hBw8 hg8 => ?_)) ) | refine L_assign rfl rfl ?_ | refine L_do rfl rfl rfl (do_notDec rfl) ?_ | refine L_do rfl rfl rfl (do_not rfl) ?_ | refine L_buildSliceL tInt [(xs.length : Int)] rfl rfl rfl rfl rfl rfl rfl rfl (fun w4 hO4 hB4 => ?_) | refine L_buildSliceL tInt [sumOf xs] rfl rfl rfl rfl rfl rfl rfl rfl (fun w7 hO7 hB7 => ?_) ) | (apply isW; first | apply W_seq | apply W_region | refine W_cond_dec rfl (fun hg => ?_) (fun hg => ?_) | refine W_cond_true rfl ?_ | refine W_cond_false rfl ?_ | refine W_cond rfl (fun hg => ?_) (fun hg => ?_) | apply W_skip | apply W_ret | apply W_exit | apply W_block) | (apply isAt; first | apply At_then | apply At_then_ret | apply At_then_exit | apply At_block_normal | apply At_block_ret | apply At_block_hit | refine At_block_miss rfl ?_ | refine At_end1 rfl rfl ?_ | refine At_end1n rfl rfl ?_ | refine At_end2 rfl rfl rfl ?_ | refine At_end3 rfl rfl rfl rfl ?_ | refine At_end4 rfl rfl rfl rfl rfl ?_ | refine At_mix kp_ ?_))
  · exact ⟨by rw [fmOf, hok]; exact ⟨by simp, .inl ⟨rfl, rfl⟩⟩, bw_⟩
  · exact ⟨by rw [fmOf, hok, if_pos rfl, ← List.cons_append]; exact hO8, hBw8⟩
end Go.Proofs.YtpdkajcnnanocaaGreatDoor
