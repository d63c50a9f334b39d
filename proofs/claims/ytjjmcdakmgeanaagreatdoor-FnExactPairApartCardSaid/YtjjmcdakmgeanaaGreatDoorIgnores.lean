/-
  Contracts: lists of ignored paths, by the program's function and by the reference's; lists of texts: sizes, copies, equality; searches by a predicate.
-/
import Derived.Test.YtjjmcdakmgeanaaGreatDoorPaths
import Derived.Test.YtjjmcdakmgeanaaGreatDoorBase2
namespace Go.Proofs.YtjjmcdakmgeanaaGreatDoor
open Go Go.RowKit
set_option linter.unusedVariables false
set_option linter.unusedSimpArgs false

def Short (ss : List Str) : Prop := ∀ s ∈ ss, s.length ≤ 1048576
def ignOne (s : Str) : Bool := isPath s && decide (¬ s = [47])
def ignOk (ss : List Str) : Bool := decide (ss.length ≤ 4) && ss.all ignOne

theorem not_any_not2 {α : Type} (p : α → Bool) (xs : List α) : (!xs.any fun n => !p n) = xs.all p := by
  induction xs with
  | nil => rfl
  | cons x r ih => simp only [List.any_cons, List.all_cons, Bool.not_or, Bool.not_not, ih]

theorem ign_depth (s : Str) : ((if isPath s then ((s.length / 2 : Nat) : Int) else -1) < 1) ↔ ignOne s = false := by
  unfold ignOne
  cases h : isPath s with
  | false => simp
  | true =>
    have := isPath_root_len h
    simp only [if_pos, Bool.true_and, decide_eq_false_iff_not, Classical.not_not]
    rw [← this]
    omega

/-! ### Lists of texts in an exact law -/
/-- A list of texts that came in. -/
structure RdStrs (w : World) (v : Value) (xs : List Str) : Prop where
  rd : RdL tStr w v xs
  max : ∀ s ∈ xs, s.length ≤ 9223372036854775807
theorem set_replicate_stepS {α : Type} {xs : List α} {k : Nat} {x d : α} (hx : xs[k]? = some x) : (xs.take k ++ List.replicate (xs.length - k) d).set k x = xs.take (k + 1) ++ List.replicate (xs.length - (k + 1)) d := by
  have hk : k < xs.length := (List.getElem?_eq_some_iff.1 hx).1
  rw [List.set_append_right _ _ (by simp; omega), List.take_add_one, hx]
  have h1 : (List.take k xs).length = k := by simp; omega
  rw [h1, Nat.sub_self, show xs.length - k = (xs.length - (k + 1)) + 1 by omega, List.replicate_succ]
  simp
theorem c_eqStringS {v v2 : Value} {xs ys : List Str} {w : World} (h : RdL tStr w v xs) (h2 : RdL tStr w v2 ys) : Cl Tryz.prog 38 [v, v2] w (V w (.bool (decide (xs = ys)))) := by
  refine calls_start 26 Tryz.func38 rfl rfl rfl ?_
  repeat' (first | (apply isL; first | apply L_nil | refine L_move rfl rfl ?_ | (apply isCall; first | refine L_lenL rfl rd_ rfl (fun hlen => ?_) ) | (apply isBin; first | refine L_do rfl rfl rfl (do_cmp rfl rfl rfl) ?_ | refine L_do rfl rfl rfl (do_cmpStr rfl rfl rfl) ?_ | refine L_do rfl rfl rfl (do_add rfl rfl om_) ?_ ) | (apply isLoad; first | refine L_loadPt rfl (by rfl) pt_ (by rfl) rfl ?_ | refine L_loadPt2 rfl (by rfl) pt_ (by rfl) rfl ?_ | refine L_loadPt0 rfl pt_ (by rfl) rfl ?_ | refine L_loadAgg rfl pt_ (by rfl) rfl ?_ | refine L_loadSub rfl (by rfl) pt_ (by rfl) rfl ?_) | refine L_assign rfl rfl ?_ | refine L_indexL rfl rfl rd_ (by rfl) om_ om_ rfl (fun a y hy hab hp => ?_) ) | (apply isLQ; first | refine LQ_nil (fun w1 hBq => ?_) | apply LQ_mix | refine LQ_move rfl rfl ?_ | (apply isBinQ; first | refine LQ_do rfl rfl rfl (fun _ _ => do_cmp rfl rfl rfl) ?_ | refine LQ_do rfl rfl rfl (fun _ _ => do_cmpStr rfl rfl rfl) ?_ | refine LQ_do rfl rfl rfl (fun _ _ => do_add rfl rfl om_) ?_ | refine LQ_do rfl rfl rfl (fun _ _ => do_sub rfl rfl om_) ?_ ) | (apply isLoadQ; first | refine LQ_loadPt rfl (by rfl) pt_ (by rfl) rfl ?_ | refine LQ_loadPt2 rfl (by rfl) pt_ (by rfl) rfl ?_ | refine LQ_loadPt0 rfl pt_ (by rfl) rfl ?_ | refine LQ_loadAgg rfl pt_ (by rfl) rfl ?_ | refine LQ_loadSub rfl (by rfl) pt_ (by rfl) rfl ?_) | refine LQ_assign rfl rfl ?_ | refine LQ_do rfl rfl rfl (fun _ _ => do_notDec rfl) ?_ | refine LQ_do rfl rfl rfl (fun _ _ => do_not rfl) ?_ | refine LQ_indexL rfl rfl rd_ (by rfl) om_ om_ rfl (fun a y hy hab hp => ?_)) | (apply isW; first | apply W_seq | apply W_region | refine W_region_Q mixed (by kernel_rfl) ?_ | refine W_cond_dec rfl (fun hg => ?_) (fun hg => ?_) | refine W_cond_true rfl ?_ | refine W_cond_false rfl ?_ | refine W_cond rfl (fun hg => ?_) (fun hg => ?_) | apply W_skip | apply W_ret | apply W_exit | apply W_block) | (apply isLM) | (apply isAt; first | apply At_then | apply At_then_ret | apply At_then_exit | apply At_block_normal | apply At_block_ret | apply At_block_hit | refine At_block_miss rfl ?_ | refine At_end1 rfl rfl ?_ | refine At_end1n rfl rfl ?_ | refine At_end2 rfl rfl rfl ?_ | refine At_end3 rfl rfl rfl rfl ?_ | refine At_end4 rfl rfl rfl rfl rfl ?_ | refine At_mix kp_ ?_))
  · exact ⟨by rw [decide_eq_false (fun e => hg (by rw [e]))], bw_⟩
  refine W_loopF (fun m fr w' => ∃ k : Nat, m = xs.length - k ∧ k ≤ xs.length ∧ fr = [(0, v), (1, v2), (5, .int .i64 k)] ∧ Below w.heap.size w w' ∧ xs.take k = ys.take k) xs.length
    [(0, v), (1, v2), (5, .int .i64 0)] sl_ ⟨0, rfl, Nat.zero_le _, rfl, bw_, rfl⟩ ?_
  rintro _ _ w' ⟨k, rfl, hk, rfl, hB, hf⟩
  repeat' (first | (apply isL; first | apply L_nil | refine L_move rfl rfl ?_ | (apply isCall; first | refine L_lenL rfl rd_ rfl (fun hlen => ?_) ) | (apply isBin; first | refine L_do rfl rfl rfl (do_cmp rfl rfl rfl) ?_ | refine L_do rfl rfl rfl (do_cmpStr rfl rfl rfl) ?_ | refine L_do rfl rfl rfl (do_add rfl rfl om_) ?_ ) | (apply isLoad; first | refine L_loadPt rfl (by rfl) pt_ (by rfl) rfl ?_ | refine L_loadPt2 rfl (by rfl) pt_ (by rfl) rfl ?_ | refine L_loadPt0 rfl pt_ (by rfl) rfl ?_ | refine L_loadAgg rfl pt_ (by rfl) rfl ?_ | refine L_loadSub rfl (by rfl) pt_ (by rfl) rfl ?_) | refine L_assign rfl rfl ?_ | refine L_indexL rfl rfl rd_ (by rfl) om_ om_ rfl (fun a y hy hab hp => ?_) ) | (apply isLQ; first | refine LQ_nil (fun w1 hBq => ?_) | apply LQ_mix | refine LQ_move rfl rfl ?_ | (apply isBinQ; first | refine LQ_do rfl rfl rfl (fun _ _ => do_cmp rfl rfl rfl) ?_ | refine LQ_do rfl rfl rfl (fun _ _ => do_cmpStr rfl rfl rfl) ?_ | refine LQ_do rfl rfl rfl (fun _ _ => do_add rfl rfl om_) ?_ | refine LQ_do rfl rfl rfl (fun _ _ => do_sub rfl rfl om_) ?_ ) | (apply isLoadQ; first | refine LQ_loadPt rfl (by rfl) pt_ (by rfl) rfl ?_ | refine LQ_loadPt2 rfl (by rfl) pt_ (by rfl) rfl ?_ | refine LQ_loadPt0 rfl pt_ (by rfl) rfl ?_ | refine LQ_loadAgg rfl pt_ (by rfl) rfl ?_ | refine LQ_loadSub rfl (by rfl) pt_ (by rfl) rfl ?_) | refine LQ_assign rfl rfl ?_ | refine LQ_do rfl rfl rfl (fun _ _ => do_notDec rfl) ?_ | refine LQ_do rfl rfl rfl (fun _ _ => do_not rfl) ?_ | refine LQ_indexL rfl rfl rd_ (by rfl) om_ om_ rfl (fun a y hy hab hp => ?_)) | (apply isW; first | apply W_seq | apply W_region | refine W_region_Q mixed (by kernel_rfl) ?_ | refine W_cond_dec rfl (fun hg => ?_) (fun hg => ?_) | refine W_cond_true rfl ?_ | refine W_cond_false rfl ?_ | refine W_cond rfl (fun hg => ?_) (fun hg => ?_) | apply W_skip | apply W_ret | apply W_exit | apply W_block) | (apply isLM) | (apply isAt; first | apply At_then | apply At_then_ret | apply At_then_exit | apply At_block_normal | apply At_block_ret | apply At_block_hit | refine At_block_miss rfl ?_ | refine At_end1 rfl rfl ?_ | refine At_end1n rfl rfl ?_ | refine At_end2 rfl rfl rfl ?_ | refine At_end3 rfl rfl rfl rfl ?_ | refine At_end4 rfl rfl rfl rfl rfl ?_ | refine At_mix kp_ ?_))
  · exact ⟨by rw [decide_eq_false (ne_of_at (by assumption) (by assumption) hg)], bw_⟩
  · exact At_round _ [(0, v), (1, v2), (5, .int .i64 ((k + 1 : Nat) : Int))] sl_ (by omega) ⟨k + 1, rfl, by omega, rfl, bw_, take_eq_step hf (by assumption) (by assumption) (Classical.not_not.1 hg)⟩
  · exact ⟨by rw [decide_eq_true (eq_of_take hf (by omega) (by omega))], hB⟩

end Go.Proofs.YtjjmcdakmgeanaaGreatDoor
