/-
  Contracts: lists of ignored paths, by the program's function and by the reference's; lists of texts: sizes, copies, equality; searches by a predicate.
-/
import Derived.Test.YtjncnmokafgigaaGreatDoorPaths
import Derived.Test.YtjncnmokafgigaaGreatDoorBase2
namespace Go.Proofs.YtjncnmokafgigaaGreatDoor
open Go Go.RowKit
set_option linter.unusedVariables false
set_option linter.unusedSimpArgs false

def Short (ss : List Str) : Prop := ∀ s ∈ ss, s.length ≤ 1048576
def ignOne (s : Str) : Bool := isPath s && decide (¬ s = [47])
def ignOk (ss : List Str) : Bool := decide (ss.length ≤ 4) && ss.all ignOne

theorem not_any_not2 {α : Type} (p : α → Bool) (xs : List α) : (!xs.any fun n => !p n) = xs.all p := by
  induction xs with
  | nil => rfl
  | cons x r ih => simp only [List.any_cons, List.all_cons, Bool.not_or, Bool.not_not, ih]

theorem ign_depth (s : Str) : ((if isPath s then ((s.length / 2 : Nat) : Int) else -1) < 1) ↔ ignOne s = false := by
  unfold ignOne
  cases h : isPath s with
  | false => simp
  | true =>
    have := isPath_root_len h
    simp only [if_pos, Bool.true_and, decide_eq_false_iff_not, Classical.not_not]
    rw [← this]
    omega

/-! ### Lists of texts in an exact law -/
/-- A list of texts that came in. -/
structure RdStrs (w : World) (v : Value) (xs : List Str) : Prop where
  rd : RdL tStr w v xs
  max : ∀ s ∈ xs, s.length ≤ 9223372036854775807
theorem set_replicate_stepS {α : Type} {xs : List α} {k : Nat} {x d : α} (hx : xs[k]? = some x) : (xs.take k ++ List.replicate (xs.length - k) d).set k x = xs.take (k + 1) ++ List.replicate (xs.length - (k + 1)) d := by
  have hk : k < xs.length := (List.getElem?_eq_some_iff.1 hx).1
  rw [List.set_append_right _ _ (by simp; omega), List.take_add_one, hx]
  have h1 : (List.take k xs).length = k := by simp; omega
  rw [h1, Nat.sub_self, show xs.length - k = (xs.length - (k + 1)) + 1 by omega, List.replicate_succ]
  simp
end Go.Proofs.YtjncnmokafgigaaGreatDoor
