/-
  Contracts: numbers are written over all elements, and looked at again (how an exact law tells that memory is not shared).
-/
import Derived.Test.YtjobbcdolbhadaaGreatDoorBase2
namespace Go.Proofs.YtjobbcdolbhadaaGreatDoor
open Go Go.RowKit
set_option linter.unusedVariables false

def marks (k : Int) (n : Nat) : List Int := (List.range n).map (fun i : Nat => k + (i : Int))
theorem marks_len (k : Int) (n : Nat) : (marks k n).length = n := by simp [marks]
theorem marks_at {k : Int} {n i : Nat} (h : i < n) : (marks k n)[i]? = some (k + i) := by simp [marks, h]
theorem marks_set {k : Int} {xs : List Int} {i : Nat} (h : i < xs.length) : (marks k i ++ xs.drop i).set i (k + i) = marks k (i + 1) ++ xs.drop (i + 1) := by
  rw [List.set_append_right _ _ (by rw [marks_len]; omega), marks_len, Nat.sub_self, List.drop_eq_getElem_cons h, List.set_cons_zero]
  simp [marks, List.range_succ]

end Go.Proofs.YtjobbcdolbhadaaGreatDoor
