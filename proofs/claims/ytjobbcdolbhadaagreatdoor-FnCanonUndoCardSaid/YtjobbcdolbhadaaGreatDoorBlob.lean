/-
  Contracts on slices of integers that are made and written, and on files (blobs) and disks.
-/
import Derived.Test.YtjobbcdolbhadaaGreatDoorBase2
namespace Go.Proofs.YtjobbcdolbhadaaGreatDoor
open Go Go.RowKit
set_option linter.unusedVariables false

/-! ### Copies of integer slices -/
theorem set_replicate_step {α : Type} {xs : List α} {k : Nat} {x d : α} (hx : xs[k]? = some x) : (xs.take k ++ List.replicate (xs.length - k) d).set k x = xs.take (k + 1) ++ List.replicate (xs.length - (k + 1)) d := by
  have hk : k < xs.length := (List.getElem?_eq_some_iff.1 hx).1
  rw [List.set_append_right _ _ (by simp; omega), List.take_add_one, hx]
  have h1 : (List.take k xs).length = k := by simp; omega
  rw [h1, Nat.sub_self, show xs.length - k = (xs.length - (k + 1)) + 1 by omega, List.replicate_succ]
  simp

/-! ### Files -/
structure Bl where
  name : Int
  safe : List Int
  fresh : List Int
  deriving DecidableEq
structure BlOf (w : World) (r : Row3) (b : Bl) : Prop where
  name : r.name = b.name
  safe : RdL tInt w r.safe b.safe
  fresh : RdL tInt w r.fresh b.fresh
theorem BlOf.ext {w w' : World} {r : Row3} {b : Bl} (h : BlOf w r b) (hB : Below w.heap.size w w') : BlOf w' r b := ⟨h.name, h.safe.ext hB, h.fresh.ext hB⟩
/-- The slice value v reads as files. -/
structure RdBl (w : World) (v : Value) (rows : List Row3) (bs : List Bl) : Prop where
  rd : RdL tRow3 w v rows
  len : rows.length = bs.length
  at_ : ∀ (i : Nat) r, rows[i]? = some r → ∃ b, bs[i]? = some b ∧ BlOf w r b
theorem RdBl.ext {w w' : World} {v : Value} {rows : List Row3} {bs : List Bl} (h : RdBl w v rows bs) (hB : Below w.heap.size w w') : RdBl w' v rows bs :=
  ⟨h.rd.ext hB, h.len, fun i r hr => let ⟨b, hb, hr'⟩ := h.at_ i r hr; ⟨b, hb, hr'.ext hB⟩⟩

def szI (n : Nat) (left : Int) : Int := if left - n < 0 then -1 else left - n
def szB (b : Bl) (left : Int) : Int := if szI b.safe.length left < 0 then -1 else szI b.fresh.length (szI b.safe.length left)
theorem szB_bd {b : Bl} {left : Int} (h0 : 0 ≤ left) (h1 : left ≤ 1048576) : szB b left ≤ left ∧ (0 ≤ szB b left → b.safe.length ≤ 1048576 ∧ b.fresh.length ≤ 1048576) := by
  unfold szB szI
  repeat' split
  all_goals (constructor; omega; intro h; constructor <;> omega)

/-- What a size that is not negative says. -/
def Small (bs : List Bl) : Prop := bs.length ≤ 1048576 ∧ ∀ b ∈ bs, b.safe.length ≤ 1048576 ∧ b.fresh.length ≤ 1048576
/-! ### Copies of files -/
/-- A slice of numbers that reads in all worlds to come: it is empty, or it is the call's own. -/
structure InL (w : World) (base : Nat) (v : Value) (xs : List Int) : Prop where
  rd : RdL tInt w v xs
  own : xs = [] ∨ OwL tInt w base 3 v xs
theorem InL.of {w : World} {base : Nat} {v : Value} {xs : List Int} (h : OwL tInt w base 3 v xs) : InL w base v xs := ⟨h.rd, .inr h⟩
theorem InL.empty {w : World} {base : Nat} {v : Value} (h : RdL tInt w v []) : InL w base v [] := ⟨h, .inl rfl⟩
theorem InL.kept {w w' : World} {base : Nat} {row : Option Nat} {v : Value} {xs : List Int} (h : InL w base v xs) (hg : w.grownBy w' row) (hne : OwL tInt w base 3 v xs → v.ownBlock = none ∨ v.ownBlock ≠ row) : InL w' base v xs := by
  rcases h.own with he | ho
  · exact ⟨rdl_empty h.rd he, .inl he⟩
  · exact .of (ho.kept hg (hne ho))
theorem InL.ext {w w' : World} {base : Nat} {v : Value} {xs : List Int} (h : InL w base v xs) (hB : Below w.heap.size w w') : InL w' base v xs := ⟨h.rd.ext hB, h.own.imp id (·.ext hB)⟩
theorem InL.rebase {w : World} {base base' : Nat} {v : Value} {xs : List Int} (h : InL w base v xs) (hb : base' ≤ base) : InL w base' v xs := ⟨h.rd, h.own.imp id (·.rebase hb)⟩
theorem arith1 {p4 p3 p' p k : Nat} (a : p4 ≤ p3 + 210) (b : p3 ≤ p' + 1 + 210) (c : p' ≤ p + 421 * k) : p4 ≤ p + 421 * (k + 1) := by rw [Nat.mul_add]; omega
theorem arith2 {p' p k : Nat} (c : p' ≤ p + 421 * k) : p' + 1 ≤ p + 421 * (k + 1) := by rw [Nat.mul_add]; omega
/-- A slice that fills its row. -/
def FullSl (lo hi : Nat) (v : Value) (n : Nat) : Prop := ∃ g, v = .slice (some ⟨g, 0, none⟩) n n ∧ lo ≤ g ∧ g < hi
theorem FullSl.mono {lo hi lo' hi' : Nat} {v : Value} {n : Nat} (h : FullSl lo hi v n) (h1 : lo' ≤ lo) (h2 : hi ≤ hi') : FullSl lo' hi' v n := let ⟨g, e, a, b⟩ := h; ⟨g, e, by omega, by omega⟩
/-! ### Equality of files -/
end Go.Proofs.YtjobbcdolbhadaaGreatDoor
