/-
  How long the common tree is, and the steps. No program in sight.
-/
import Derived.Test.YtjncnmokafgigaaGreatDoorPlB
namespace Go.Proofs.YtjncnmokafgigaaGreatDoor
open Go Go.RowKit
set_option linter.unusedVariables false
set_option linter.unusedSimpArgs false

theorem pairBase_len (t : List Nd) (a b : List Cm) : ((pairBase t a b).getD []).length ≤ 40 := by
  cases h : pairBase t a b with
  | none => simp
  | some O => exact Nat.le_trans (tree_len (pairBase_some h).2.1) (by omega)
theorem steps_len (t : List Nd) (a b : List Cm) (s s2 : Int) : ((resolveSteps t a b s s2).getD []).length ≤ 40 := by
  cases h : resolveSteps t a b s s2 with
  | none => simp
  | some D =>
    obtain ⟨x, y, hx, hy, rfl⟩ := steps_some h
    have h1 := diff_len (resolve_ok hx) (resolve_ok hy)
    have h2 := chg_len (resolve_ok hx) (resolve_ok hy)
    show (diffL x y).length ≤ 40
    omega
end Go.Proofs.YtjncnmokafgigaaGreatDoor
