/-
  How long the tree of a side is, and the list of paths at which both sides differ. No program in sight.
-/
import Derived.Test.YtjjmcdakmgeanaaGreatDoorPairPl2
namespace Go.Proofs.YtjjmcdakmgeanaaGreatDoor
open Go Go.RowKit
set_option linter.unusedVariables false
set_option linter.unusedSimpArgs false

theorem pairTree_len (t : List Nd) (a b : List Cm) : ((pairTree t a b).getD []).length ≤ 40 := by
  cases h : pairTree t a b with
  | none => simp
  | some O => exact Nat.le_trans (tree_len (pairTree_some h).2.1) (by omega)
theorem resolve_len (t : List Nd) (a b : List Cm) (s : Int) : ((resolveTree t a b s).getD []).length ≤ 40 := by
  unfold resolveTree
  split
  · exact pairTree_len ..
  · split
    · exact pairTree_len ..
    · simp
theorem apart_len (t : List Nd) (a b : List Cm) : (pairApart t a b).length ≤ 40 := by
  cases h : pairTree t a b with
  | none => rw [apart_none (.inl h)]; simp
  | some O =>
    cases h2 : pairTree t b a with
    | none => rw [apart_none (.inr h2)]; simp
    | some R =>
      rw [apart_some h h2]
      exact Nat.le_trans (chg_len (pairTree_some h).2.1 (pairTree_some h2).2.1) (by omega)
end Go.Proofs.YtjjmcdakmgeanaaGreatDoor
