/-
  A disk's book lies in one file, in plain Lean. No program in sight.
-/
import Derived.Test.YtpdkajcnnanocaaGreatDoorRead
namespace Go.Proofs.YtpdkajcnnanocaaGreatDoor
open Go Go.RowKit
set_option linter.unusedVariables false
set_option linter.unusedSimpArgs false

theorem from_mem : ∀ {bs : List Bl} {last : Int} {b : Bl}, diskFrom last bs = true → b ∈ bs → blOk b = true
  | [], _, _, _, h => by cases h
  | x :: r, last, b, hd, h => by
    unfold diskFrom at hd
    simp only [Bool.and_eq_true] at hd
    rcases List.mem_cons.1 h with rfl | h
    · exact hd.1.2
    · exact from_mem hd.2 h
/-- Other files have no influence. -/
theorem open_other {bs : List Bl} {i : Nat} {b : Bl} (hd : diskOk bs = true) (hb : bs[i]? = some b) (hn : b.name = 1) (hf : ∀ j x, j < i → bs[j]? = some x → ¬ x.name = 1) : readOf [b] 1 = readOf bs 1 := by
  have hp : (fun x : Bl => decide (x.name = 1)) b = true := decide_eq_true hn
  have e1 : findNm bs 1 = i := idxOf_at (fun j x hj hx => decide_eq_false (hf j x hj hx)) hb hp
  have e2 : findNm [b] 1 = (0 : Nat) := idxOf_at (fun j x hj => absurd hj (by omega)) (by rfl) hp
  have hbl := from_mem (b := b) hd (List.mem_of_getElem? hb)
  have hd2 : diskOk [b] = true := by
    unfold diskOk diskFrom diskFrom
    rw [hbl, hn]; rfl
  have r1 : readOk bs 1 = true := by unfold readOk; rw [hd, e1]; simp
  have r2 : readOk [b] 1 = true := by unfold readOk; rw [hd2, e2]; rfl
  unfold readOf
  rw [r1, r2, e1, e2]
  simp [hb]
/-- If there is something to read, there is such a file. -/
theorem open_found {bs : List Bl} (h : readOk bs 1 = true) : diskOk bs = true ∧ ∃ (i : Nat) (b : Bl), bs[i]? = some b ∧ b.name = 1 := by
  unfold readOk at h
  simp only [Bool.and_eq_true, decide_eq_true_eq] at h
  refine ⟨h.1, Classical.byContradiction fun hn => ?_⟩
  have : findNm bs 1 = -1 := idxOf_none (fun j x hj hx => decide_eq_false (fun e => hn ⟨j, x, hx, e⟩))
  omega
end Go.Proofs.YtpdkajcnnanocaaGreatDoor
