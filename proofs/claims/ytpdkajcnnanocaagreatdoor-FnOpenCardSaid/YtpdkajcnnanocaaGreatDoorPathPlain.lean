/-
  Plain laws: paths are short, what a valid command tells. No program in sight.
-/
import Derived.Test.YtpdkajcnnanocaaGreatDoorCmds
namespace Go.Proofs.YtpdkajcnnanocaaGreatDoor
open Go Go.RowKit
set_option linter.unusedVariables false
set_option linter.unusedSimpArgs false

theorem pieces_size : ∀ s : Str, s.length + 1 = ((pieces s).map (fun p => p.length + 1)).sum
  | [] => by simp [pieces]
  | c :: r => by
    have ih := pieces_size r
    simp only [pieces]
    split
    · simp [← ih]; omega
    · split
      · rename_i p ps h; rw [h] at ih; simp at ih ⊢; omega
      · rename_i h; exact absurd h (pieces_ne r)
theorem sum_ones : ∀ l : List Str, l.all isNameB = true → (l.map (fun p => p.length + 1)).sum = 2 * l.length
  | [], _ => rfl
  | p :: r, h => by
    simp only [List.all_cons, Bool.and_eq_true] at h
    have := sum_ones r h.2
    have h1 : p.length = 1 := by
      match p, h.1 with
      | [_], _ => rfl
    simp only [List.map_cons, List.sum_cons, List.length_cons, this, h1]; omega
theorem isPath_len {s : Str} (h : isPath s = true) : s.length ≤ 8 := by
  unfold isPath at h
  rcases (Bool.or_eq_true _ _).mp h with h | h
  · have : s = root := by simpa using h
    subst this; decide
  · match s, h with
    | c :: r, h =>
      by_cases hc : c = 47
      · subst hc
        simp only [Bool.and_eq_true, decide_eq_true_eq] at h
        have h1 := pieces_size r
        rw [sum_ones _ h.1] at h1
        simp; omega
      · exfalso; revert h; split
        · rename_i e; cases e; exact absurd rfl hc
        · simp
theorem cmOk_path {c : Cm} (h : cmOk c = true) : isPath c.path = true := by unfold cmOk at h; simp at h; exact h.1.1.1.1
theorem cmOk_len {c : Cm} (h : cmOk c = true) : 1 ≤ c.path.length ∧ c.path.length ≤ 8 := by
  have hp := cmOk_path h
  refine ⟨?_, isPath_len hp⟩
  cases hc : c.path with
  | nil => rw [hc] at hp; exact absurd hp (by decide)
  | cons a r => simp
theorem contOk_bd {c : Cont} (h : contOk c = true) : (0 ≤ c.kind ∧ c.kind ≤ 255) ∧ 0 ≤ c.value ∧ c.value ≤ 255 := by
  unfold contOk at h; simp at h; omega
theorem cmOk_conts {c : Cm} (h : cmOk c = true) : contOk c.fr = true ∧ contOk c.to = true := by unfold cmOk at h; simp at h; exact ⟨h.1.1.2, h.1.2⟩
end Go.Proofs.YtpdkajcnnanocaaGreatDoor
