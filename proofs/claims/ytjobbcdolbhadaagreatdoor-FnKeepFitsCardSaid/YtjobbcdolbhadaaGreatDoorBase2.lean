/-
  Contracts: the library's searches by a predicate over a slice of integers; what the program's own texts make of them; equality of integer slices.
-/
import Derived.Test.YtjobbcdolbhadaaGreatDoorBase
namespace Go.Proofs.YtjobbcdolbhadaaGreatDoor
open Go Go.RowKit
set_option linter.unusedVariables false

/-- the place of the first element that meets p, or -1 -/
def idxOf {α : Type} (p : α → Bool) (xs : List α) : Int := match xs.findIdx? p with | some i => i | none => -1
theorem idxOf_nonneg {α : Type} (p : α → Bool) (xs : List α) : decide (0 ≤ idxOf p xs) = xs.any p := by
  unfold idxOf
  rw [Bool.eq_iff_iff]
  cases h : xs.findIdx? p with
  | none => simp [List.findIdx?_eq_none_iff] at h ⊢; exact h
  | some i =>
    simp
    obtain ⟨hi, h1, _⟩ := List.findIdx?_eq_some_iff_getElem.1 h
    exact ⟨_, List.getElem_mem _, h1⟩
theorem idxOf_at {α : Type} {p : α → Bool} {xs : List α} {k : Nat} {y : α} (hf : ∀ j x, j < k → xs[j]? = some x → p x = false) (hy : xs[k]? = some y) (hp : p y = true) : idxOf p xs = k := by
  unfold idxOf
  obtain ⟨hk, hy'⟩ := List.getElem?_eq_some_iff.1 hy
  have : xs.findIdx? p = some k := List.findIdx?_eq_some_iff_getElem.2 ⟨hk, by rw [hy']; exact hp, fun j hj => by rw [hf j _ hj (List.getElem?_eq_getElem (by omega))]; simp⟩
  rw [this]
theorem idxOf_none {α : Type} {p : α → Bool} {xs : List α} (hf : ∀ j x, j < xs.length → xs[j]? = some x → p x = false) : idxOf p xs = -1 := by
  unfold idxOf
  have : xs.findIdx? p = none := by
    rw [List.findIdx?_eq_none_iff]
    intro x hx
    obtain ⟨j, hj, rfl⟩ := List.getElem_of_mem hx
    exact hf j _ hj (List.getElem?_eq_getElem hj)
  rw [this]

theorem not_any_bad (xs : List Int) : (!xs.any fun n => !byteOk n) = bytesOk xs := by
  unfold bytesOk
  induction xs with
  | nil => rfl
  | cons x r ih => simp only [List.any_cons, List.all_cons, Bool.not_or, Bool.not_not, ih]
/-! ### Equality -/
theorem take_eq_step {α : Type} {xs ys : List α} {k : Nat} {x y : α} (h : xs.take k = ys.take k) (hx : xs[k]? = some x) (hy : ys[k]? = some y) (e : x = y) : xs.take (k + 1) = ys.take (k + 1) := by
  rw [List.take_add_one, List.take_add_one, h, hx, hy, e]
theorem eq_of_take {α : Type} {xs ys : List α} {k : Nat} (h : xs.take k = ys.take k) (hl : xs.length = ys.length) (hk : xs.length ≤ k) : xs = ys := by
  rw [List.take_of_length_le hk, List.take_of_length_le (by omega)] at h; exact h
theorem ne_of_at {α : Type} {xs ys : List α} {k : Nat} {x y : α} (hx : xs[k]? = some x) (hy : ys[k]? = some y) (e : ¬ x = y) : ¬ xs = ys := fun h => by
  subst h; rw [hx] at hy; exact e (Option.some.inj hy)

end Go.Proofs.YtjobbcdolbhadaaGreatDoor
