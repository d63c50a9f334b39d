/-
  A book that is read was written, in plain Lean. No program in sight.
-/
import Derived.Test.YtpdkajcnnanocaaGreatDoorBookPlain
namespace Go.Proofs.YtpdkajcnnanocaaGreatDoor
open Go Go.RowKit
set_option linter.unusedVariables false
set_option linter.unusedSimpArgs false

theorem head_take {l : List Int} {e : Int} (h : headF l = some [e]) (he : 0 ≤ e ∧ e ≤ 99) : fmOf [e] = l.take 3 := by
  have h1 := scan_take l
  have h2 := scan_some h
  have h3 := fm1_len he
  rw [h2, List.flatMap_cons] at h1
  have h4 : usedF ([e] :: scan (l.drop ([e].length + 2))) = 3 + usedF (scan (l.drop ([e].length + 2))) := by simp [usedF]
  rw [h4] at h1
  have h5 := congrArg (List.take 3) h1
  rw [List.take_left' h3, List.take_take, Nat.min_eq_left (by omega)] at h5
  exact h5
theorem book_written {l : List Int} {e : Int} (h : bookHead l = some e) : bookBytes e (bookLog l) = l.take (bookBytes e (bookLog l)).length := by
  obtain ⟨h1, h2, h3, h4⟩ := head_parts h
  obtain ⟨hok, _, _, _⟩ := book_epoch h
  have e1 : bookLog l = logOf (l.drop 3) := by unfold bookLog; rw [h]; rfl
  obtain ⟨b1, b2, b3⟩ := bytes_load (l.drop 3)
  refine List.prefix_iff_eq_take.1 ?_
  rw [bookBytes_eq hok, e1, b2, head_take h1 ⟨h2, h3⟩]
  exact ⟨(l.drop 3).drop (logUsed (l.drop 3)), by rw [List.append_assoc, List.take_append_drop, List.take_append_drop]⟩
end Go.Proofs.YtpdkajcnnanocaaGreatDoor
