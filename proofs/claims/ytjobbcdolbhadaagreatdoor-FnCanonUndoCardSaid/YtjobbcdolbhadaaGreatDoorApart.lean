/-
  Slices that different steps of a call own do not share a block.
-/
import Derived.Test.YtjobbcdolbhadaaGreatDoorFlB
namespace Go.Proofs.YtjobbcdolbhadaaGreatDoor
open Go Go.RowKit
section
variable {α β : Type} {T : Ty α} {U : Ty β} {w1 w2 w : World} {b1 b2 e1 e2 : Nat} {v1 v2 : Value} {xs : List α} {ys : List β}
/-- The first was whole before the second one's base. -/
theorem own_apart (h1 : OwL T w1 b1 e1 v1 xs) (h2 : OwL U w2 b2 e2 v2 ys) (hb : w1.heap.size ≤ b2) : v1.ownBlock = none ∨ v1.ownBlock ≠ v2.ownBlock := by
  cases e : v1.ownBlock with
  | none => exact .inl rfl
  | some k =>
    refine .inr fun e2' => ?_
    have := (h1.lt k e).2
    have := (h2.lt k e2'.symm).1
    omega
theorem own_apart' (h1 : OwL T w1 b1 e1 v1 xs) (h2 : OwL U w2 b2 e2 v2 ys) (hb : w1.heap.size ≤ b2) : v2.ownBlock = none ∨ v2.ownBlock ≠ v1.ownBlock := by
  rcases own_apart h1 h2 hb with h | h
  · cases e : v2.ownBlock with
    | none => exact .inl rfl
    | some k => exact .inr (by rw [h]; simp)
  · exact .inr fun e => h e.symm
/-- What a call writes into a slice that it owns lies above the base. -/
theorem below_own {w0 : World} (hB : Below w0.heap.size w0 w) (h : OwL T w b1 e1 v1 xs) (hb : w0.heap.size ≤ b1) (hg : w.grownBy w2 v1.ownBlock) : Below w0.heap.size w0 w2 :=
  below_grow0 hB hg (fun k e => Nat.le_trans hb (h.lt k e).1)
end
end Go.Proofs.YtjobbcdolbhadaaGreatDoor
