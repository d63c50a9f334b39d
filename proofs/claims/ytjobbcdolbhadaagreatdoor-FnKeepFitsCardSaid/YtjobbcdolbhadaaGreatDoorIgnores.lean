/-
  Contracts: lists of ignored paths, by the program's function and by the reference's; lists of texts: sizes, copies, equality; searches by a predicate.
-/
import Derived.Test.YtjobbcdolbhadaaGreatDoorPaths
import Derived.Test.YtjobbcdolbhadaaGreatDoorBase2
namespace Go.Proofs.YtjobbcdolbhadaaGreatDoor
open Go Go.RowKit
set_option linter.unusedVariables false
set_option linter.unusedSimpArgs false

def Short (ss : List Str) : Prop := ∀ s ∈ ss, s.length ≤ 1048576
def ignOne (s : Str) : Bool := isPath s && decide (¬ s = [47])
def ignOk (ss : List Str) : Bool := decide (ss.length ≤ 4) && ss.all ignOne

theorem c_IndexFunc_str {v : Value} {xs : List Str} {w : World} {f : FuncId} [Enters Tryz.prog f] {cap : List Value} (p : Str → Bool) (h : RdL tStr w v xs)
    (hpr : ∀ x, x ∈ xs → ∀ w', Below w.heap.size w w' → Cl Tryz.prog f ([.string (mk x)] ++ cap) w' (V w' (.bool (p x)))) :
    Cl Tryz.prog 146 [v, .func (.func f) #[] cap.toArray] w (V w (.int .i64 (idxOf p xs))) := by
  refine calls_start 19 Tryz.func146 rfl rfl rfl ?_
  have hml := h.maxLen
  repeat' (first | (apply isL; first | apply L_nil | refine L_move rfl rfl ?_ | (apply isCall; first | refine L_lenL rfl rd_ rfl (fun hlen => ?_) ) | (apply isBin; first | refine L_do rfl rfl rfl (do_cmp rfl rfl rfl) ?_ | refine L_do rfl rfl rfl (do_add rfl rfl om_) ?_ ) | (apply isLoad; first | refine L_loadPt rfl (by rfl) pt_ (by rfl) rfl ?_ | refine L_loadPt2 rfl (by rfl) pt_ (by rfl) rfl ?_ | refine L_loadPt0 rfl pt_ (by rfl) rfl ?_ | refine L_loadAgg rfl pt_ (by rfl) rfl ?_ | refine L_loadSub rfl (by rfl) pt_ (by rfl) rfl ?_) | refine L_assign rfl rfl ?_ | refine L_indexL rfl rfl rd_ (by rfl) om_ om_ rfl (fun a y hy hab hp => ?_) ) | (apply isW; first | apply W_seq | apply W_region | refine W_cond_dec rfl (fun hg => ?_) (fun hg => ?_) | refine W_cond_true rfl ?_ | refine W_cond_false rfl ?_ | refine W_cond rfl (fun hg => ?_) (fun hg => ?_) | apply W_skip | apply W_ret | apply W_exit | apply W_block) | (apply isAt; first | apply At_then | apply At_then_ret | apply At_then_exit | apply At_block_normal | apply At_block_ret | apply At_block_hit | refine At_block_miss rfl ?_ | refine At_end1 rfl rfl ?_ | refine At_end1n rfl rfl ?_ | refine At_end2 rfl rfl rfl ?_ | refine At_end3 rfl rfl rfl rfl ?_ | refine At_end4 rfl rfl rfl rfl rfl ?_ | refine At_end5 rfl rfl rfl rfl rfl rfl ?_ | refine At_mix kp_ ?_))
  refine W_loopF (fun m fr w' => ∃ k : Nat, m = xs.length - k ∧ k ≤ xs.length ∧ fr = [(0, v), (1, .func (.func f) #[] cap.toArray), (7, .int .i64 xs.length), (8, .int .i64 k)] ∧ Below w.heap.size w w' ∧ ∀ j x, j < k → xs[j]? = some x → p x = false) xs.length
    [(0, v), (1, .func (.func f) #[] cap.toArray), (7, .int .i64 xs.length), (8, .int .i64 0)] sl_ ⟨0, rfl, Nat.zero_le _, rfl, bw_, fun j x hj => absurd hj (by omega)⟩ ?_
  rintro _ _ w' ⟨k, rfl, hk, rfl, hB, hf⟩
  repeat' (first | (apply isL; first | apply L_nil | refine L_move rfl rfl ?_ | (apply isCall; first | refine L_lenL rfl rd_ rfl (fun hlen => ?_) | refine L_callFn rfl rfl rfl (hpr _ (List.mem_of_getElem? hy) _ bw_) (fun w2 hB2 => ?_) ) | (apply isBin; first | refine L_do rfl rfl rfl (do_cmp rfl rfl rfl) ?_ | refine L_do rfl rfl rfl (do_add rfl rfl om_) ?_ ) | (apply isLoad; first | refine L_loadPt rfl (by rfl) pt_ (by rfl) rfl ?_ | refine L_loadPt2 rfl (by rfl) pt_ (by rfl) rfl ?_ | refine L_loadPt0 rfl pt_ (by rfl) rfl ?_ | refine L_loadAgg rfl pt_ (by rfl) rfl ?_ | refine L_loadSub rfl (by rfl) pt_ (by rfl) rfl ?_) | refine L_assign rfl rfl ?_ | refine L_indexL rfl rfl rd_ (by rfl) om_ om_ rfl (fun a y hy hab hp => ?_) ) | (apply isW; first | apply W_seq | apply W_region | refine W_cond_dec rfl (fun hg => ?_) (fun hg => ?_) | refine W_cond_true rfl ?_ | refine W_cond_false rfl ?_ | refine W_cond rfl (fun hg => ?_) (fun hg => ?_) | apply W_skip | apply W_ret | apply W_exit | apply W_block) | (apply isAt; first | apply At_then | apply At_then_ret | apply At_then_exit | apply At_block_normal | apply At_block_ret | apply At_block_hit | refine At_block_miss rfl ?_ | refine At_end1 rfl rfl ?_ | refine At_end1n rfl rfl ?_ | refine At_end2 rfl rfl rfl ?_ | refine At_end3 rfl rfl rfl rfl ?_ | refine At_end4 rfl rfl rfl rfl rfl ?_ | refine At_end5 rfl rfl rfl rfl rfl rfl ?_ | refine At_mix kp_ ?_))
  · have hkk : idxOf p xs = k := idxOf_at hf hy hg
    exact ⟨by rw [hkk], bw_⟩
  · have hpy : p y = false := by assumption
    exact At_round _ [(0, v), (1, .func (.func f) #[] cap.toArray), (7, .int .i64 xs.length), (8, .int .i64 ((k + 1 : Nat) : Int))] sl_ (by omega) ⟨k + 1, rfl, by omega, rfl, bw_, fun j x hj hx => by
      by_cases e : j = k
      · subst e; rw [show y = x from Option.some.inj (hy.symm.trans hx)] at hpy; exact hpy
      · exact hf j x (by omega) hx⟩
  · exact ⟨by rw [idxOf_none (fun j x hj hx => hf j x (by omega) hx)], hB⟩
theorem c_ContainsFunc_str {v : Value} {xs : List Str} {w : World} {f : FuncId} [Enters Tryz.prog f] {cap : List Value} (p : Str → Bool) (h : RdL tStr w v xs)
    (hpr : ∀ x, x ∈ xs → ∀ w', Below w.heap.size w w' → Cl Tryz.prog f ([.string (mk x)] ++ cap) w' (V w' (.bool (p x)))) :
    Cl Tryz.prog 124 [v, .func (.func f) #[] cap.toArray] w (V w (.bool (xs.any p))) := by
  refine calls_start 9 Tryz.func124 rfl rfl rfl ?_
  repeat' (first | (apply isL; first | apply L_nil | refine L_move rfl rfl ?_ | (apply isCall; first | refine L_callV rfl rfl (c_IndexFunc_str p h hpr) (fun w2 hB2 => ?_) ) | (apply isBin; first | refine L_do rfl rfl rfl (do_cmp rfl rfl rfl) ?_ ) | refine L_assign rfl rfl ?_ ) | (apply isW; first | apply W_seq | apply W_region | refine W_cond_dec rfl (fun hg => ?_) (fun hg => ?_) | refine W_cond_true rfl ?_ | refine W_cond_false rfl ?_ | refine W_cond rfl (fun hg => ?_) (fun hg => ?_) | apply W_skip | apply W_ret | apply W_exit | apply W_block) | (apply isAt; first | apply At_then | apply At_then_ret | apply At_then_exit | apply At_block_normal | apply At_block_ret | apply At_block_hit | refine At_block_miss rfl ?_ | refine At_end1 rfl rfl ?_ | refine At_end1n rfl rfl ?_ | refine At_end2 rfl rfl rfl ?_ | refine At_end3 rfl rfl rfl rfl ?_ | refine At_end4 rfl rfl rfl rfl rfl ?_ | refine At_end5 rfl rfl rfl rfl rfl rfl ?_ | refine At_mix kp_ ?_))
  exact ⟨by rw [idxOf_nonneg], hB2⟩

theorem c_IgnoresValid1 {s : Str} {w : World} (hm : MLen w) (hs : s.length ≤ 4294967280) : Cl Tryz.prog 125 [.string (mk s)] w (V w (.bool (!ignOne s))) := by
  refine calls_start 10 Tryz.func125 rfl rfl rfl ?_
  repeat' (first | (apply isL; first | apply L_nil | refine L_move rfl rfl ?_ | (apply isGuarded; first | refine L_guard_dec rfl rfl (fun hg => ?_) (fun hg => ?_) | refine L_guard_yes rfl rfl ?_ | refine L_guard_no rfl rfl rfl rfl ?_ | refine L_guard_undef rfl rfl rfl ?_ | refine L_guard_split rfl rfl (fun hg => ?_) (fun hg => ?_)) | (apply isCall; first | refine L_callV rfl rfl (c_implPathValid hm hs) (fun w2 hB2 => ?_) ) | (apply isBin; first | refine L_do rfl rfl rfl (do_cmpStr rfl rfl rfl) ?_ ) | refine L_assign rfl rfl ?_ | refine L_do rfl rfl rfl (do_pick_true rfl rfl) ?_ | refine L_do rfl rfl rfl (do_pick_false rfl rfl) ?_ | refine L_do rfl rfl rfl (do_notDec rfl) ?_ | refine L_do rfl rfl rfl (do_not rfl) ?_ ) | (apply isW; first | apply W_seq | apply W_region | refine W_cond_dec rfl (fun hg => ?_) (fun hg => ?_) | refine W_cond_true rfl ?_ | refine W_cond_false rfl ?_ | refine W_cond rfl (fun hg => ?_) (fun hg => ?_) | apply W_skip | apply W_ret | apply W_exit | apply W_block) | (apply isAt; first | apply At_then | apply At_then_ret | apply At_then_exit | apply At_block_normal | apply At_block_ret | apply At_block_hit | refine At_block_miss rfl ?_ | refine At_end1 rfl rfl ?_ | refine At_end1n rfl rfl ?_ | refine At_end2 rfl rfl rfl ?_ | refine At_end3 rfl rfl rfl rfl ?_ | refine At_end4 rfl rfl rfl rfl rfl ?_ | refine At_end5 rfl rfl rfl rfl rfl rfl ?_ | refine At_mix kp_ ?_))
  · have : isPath s = false := by simpa using hg
    exact ⟨by rw [ignOne, this]; rfl, bw_⟩
  · have : isPath s = true := by simpa using hg
    exact ⟨by rw [ignOne, this, Bool.true_and]; by_cases e : s = [47] <;> simp [e], bw_⟩

theorem not_any_not2 {α : Type} (p : α → Bool) (xs : List α) : (!xs.any fun n => !p n) = xs.all p := by
  induction xs with
  | nil => rfl
  | cons x r ih => simp only [List.any_cons, List.all_cons, Bool.not_or, Bool.not_not, ih]

theorem c_implIgnoresValid {v : Value} {xs : List Str} {w : World} (h : RdL tStr w v xs) (hm : MLen w) (hsm : Short xs) : Cl Tryz.prog 84 [v] w (V w (.bool (ignOk xs))) := by
  refine calls_start 11 Tryz.func84 rfl rfl rfl ?_
  repeat' (first | (apply isL; first | apply L_nil | refine L_move rfl rfl ?_ | (apply isGuarded; first | refine L_guard_dec rfl rfl (fun hg => ?_) (fun hg => ?_) | refine L_guard_yes rfl rfl ?_ | refine L_guard_no rfl rfl rfl rfl ?_ | refine L_guard_undef rfl rfl rfl ?_ | refine L_guard_split rfl rfl (fun hg => ?_) (fun hg => ?_)) | (apply isCall; first | refine L_lenL rfl rd_ rfl (fun hlen => ?_) | refine L_callV rfl rfl (c_ContainsFunc_str (cap := []) (fun s => !ignOne s) h (fun x hx w' hB' => c_IgnoresValid1 (hm.ext hB') (by have := hsm x hx; omega))) (fun w2 hB2 => ?_) ) | (apply isBin; first | refine L_do rfl rfl rfl (do_cmp rfl rfl rfl) ?_ ) | refine L_assign rfl rfl ?_ | refine L_do rfl rfl rfl (do_pick_true rfl rfl) ?_ | refine L_do rfl rfl rfl (do_pick_false rfl rfl) ?_ | refine L_do rfl rfl rfl (do_notDec rfl) ?_ | refine L_do rfl rfl rfl (do_not rfl) ?_ ) | (apply isW; first | apply W_seq | apply W_region | refine W_cond_dec rfl (fun hg => ?_) (fun hg => ?_) | refine W_cond_true rfl ?_ | refine W_cond_false rfl ?_ | refine W_cond rfl (fun hg => ?_) (fun hg => ?_) | apply W_skip | apply W_ret | apply W_exit | apply W_block) | (apply isAt; first | apply At_then | apply At_then_ret | apply At_then_exit | apply At_block_normal | apply At_block_ret | apply At_block_hit | refine At_block_miss rfl ?_ | refine At_end1 rfl rfl ?_ | refine At_end1n rfl rfl ?_ | refine At_end2 rfl rfl rfl ?_ | refine At_end3 rfl rfl rfl rfl ?_ | refine At_end4 rfl rfl rfl rfl rfl ?_ | refine At_end5 rfl rfl rfl rfl rfl rfl ?_ | refine At_mix kp_ ?_))
  · refine ⟨?_, bw_⟩
    rw [not_any_not2, ignOk, decide_eq_true (by omega), Bool.true_and]
  · exact ⟨by rw [ignOk, decide_eq_false (by omega)]; rfl, bw_⟩

theorem ign_depth (s : Str) : ((if isPath s then ((s.length / 2 : Nat) : Int) else -1) < 1) ↔ ignOne s = false := by
  unfold ignOne
  cases h : isPath s with
  | false => simp
  | true =>
    have := isPath_root_len h
    simp only [if_pos, Bool.true_and, decide_eq_false_iff_not, Classical.not_not]
    rw [← this]
    omega

/-! ### Lists of texts in an exact law -/
/-- A list of texts that came in. -/
structure RdStrs (w : World) (v : Value) (xs : List Str) : Prop where
  rd : RdL tStr w v xs
  max : ∀ s ∈ xs, s.length ≤ 9223372036854775807
theorem set_replicate_stepS {α : Type} {xs : List α} {k : Nat} {x d : α} (hx : xs[k]? = some x) : (xs.take k ++ List.replicate (xs.length - k) d).set k x = xs.take (k + 1) ++ List.replicate (xs.length - (k + 1)) d := by
  have hk : k < xs.length := (List.getElem?_eq_some_iff.1 hx).1
  rw [List.set_append_right _ _ (by simp; omega), List.take_add_one, hx]
  have h1 : (List.take k xs).length = k := by simp; omega
  rw [h1, Nat.sub_self, show xs.length - k = (xs.length - (k + 1)) + 1 by omega, List.replicate_succ]
  simp
end Go.Proofs.YtjobbcdolbhadaaGreatDoor
