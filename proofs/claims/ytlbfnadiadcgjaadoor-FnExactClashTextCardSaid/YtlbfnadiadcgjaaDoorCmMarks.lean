/-
  Contracts: marks written over lists of commands, and looked at again.
-/
import Derived.Test.YtlbfnadiadcgjaaDoorCmList
namespace Go.Proofs.YtlbfnadiadcgjaaDoor
open Go Go.RowKit
set_option linter.unusedVariables false
set_option linter.unusedSimpArgs false

def dg (k : Nat) : UInt8 := UInt8.ofNat (48 + k % 10)
theorem dg_val (k : Nat) : ((dg k).toNat : Int) = 48 + (k : Int) % 10 := by
  unfold dg
  rw [UInt8.toNat_ofNat_of_lt' (by simp only [UInt8.size]; omega)]
  omega
def mdig (k : Nat) (acc : Str) : Str := if h : k = 0 then acc else mdig (k / 10) (dg k :: acc)
termination_by k
decreasing_by omega
theorem mdig_step {k : Nat} {acc : Str} (h : 0 < k) : mdig k acc = mdig (k / 10) (dg k :: acc) := by
  rw [mdig, dif_neg (by omega)]
theorem mdig_zero {acc : Str} : mdig 0 acc = acc := by rw [mdig, dif_pos rfl]
def mtext (k : Int) : Str := 109 :: mdig k.toNat []

def mcm (k : Int) : Cm := ⟨mtext k, ⟨k + 1, k + 2⟩, ⟨k + 3, k + 4⟩⟩
def marksC (k : Int) (n : Nat) : List Cm := (List.range n).map (fun i : Nat => mcm (k + 5 * i))
theorem marksC_len (k : Int) (n : Nat) : (marksC k n).length = n := by simp [marksC]
theorem marksC_at {k : Int} {n i : Nat} (h : i < n) : (marksC k n)[i]? = some (mcm (k + 5 * i)) := by simp [marksC, h]
theorem marksC_set {k : Int} {xs : List Cm} {i : Nat} (h : i < xs.length) : (marksC k i ++ xs.drop i).set i (mcm (k + 5 * i)) = marksC k (i + 1) ++ xs.drop (i + 1) := by
  rw [List.set_append_right _ _ (by rw [marksC_len]; omega), marksC_len, Nat.sub_self, List.drop_eq_getElem_cons h, List.set_cons_zero]
  simp [marksC, List.range_succ]
theorem set_at {α : Type} {xs : List α} {k : Nat} {y x : α} (h : xs[k]? = some x) : (xs.set k y)[k]? = some y := by
  have := (List.getElem?_eq_some_iff.1 h).1
  simp [this]

end Go.Proofs.YtlbfnadiadcgjaaDoor
