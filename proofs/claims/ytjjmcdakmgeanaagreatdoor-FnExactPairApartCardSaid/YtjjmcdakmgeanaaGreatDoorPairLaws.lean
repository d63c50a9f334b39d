/-
  Two logs that fit a tree, in plain Lean: what is safe can be done if the nodes have place. No program in sight.
-/
import Derived.Test.YtjjmcdakmgeanaaGreatDoorPlA
namespace Go.Proofs.YtjjmcdakmgeanaaGreatDoor
open Go Go.RowKit
set_option linter.unusedVariables false
set_option linter.unusedSimpArgs false

theorem full_of_fits {t : List Nd} {cs : List Cm} (h : logFits t cs = true) : treeOk t = true ∧ logOk cs = true ∧ (logGo t cs).2 = cs.length := by
  unfold logFits at h
  simp only [Bool.and_eq_true, decide_eq_true_eq] at h
  exact ⟨h.1.1, h.1.2, h.2⟩
theorem pair_parts {t : List Nd} {a b : List Cm} (h : pairFits t a b = true) : canonOk a = true ∧ canonOk b = true ∧ logFits t a = true ∧ logFits t b = true := by
  unfold pairFits at h
  simp only [Bool.and_eq_true] at h
  exact ⟨h.1.1.1, h.1.1.2, h.1.2, h.2⟩
theorem two_of {t : List Nd} {a b : List Cm} (h : pairFits t a b = true) : Two (get t) a b ∧ treeOk t = true ∧ (logGo t a).2 = a.length ∧ (logGo t b).2 = b.length := by
  obtain ⟨h1, h2, h3, h4⟩ := pair_parts h
  obtain ⟨_, ao, asr⟩ := canonOk_iff.1 h1
  obtain ⟨_, bo, bsr⟩ := canonOk_iff.1 h2
  obtain ⟨ht, _, fa⟩ := full_of_fits h3
  obtain ⟨_, _, fb⟩ := full_of_fits h4
  exact ⟨⟨tree_good ht, allOk_of_full fa, allOk_of_full fb, ao, bo, fits_of_full ao fa, fits_of_full bo fb, good_full ht ao fa, good_full ht bo fb⟩, ht, fa, fb⟩
/-- What is safe fits exactly if there is place for the nodes. -/
theorem safe_law {t : List Nd} {a b : List Cm} (h : pairFits t a b = true) : logFits (logGo t a).1 (safeL a b) = decide (((logGo t a).1.length : Int) + deltas (safeL a b) ≤ 10) := by
  obtain ⟨T, ht, fa, fb⟩ := two_of h
  have hb := (pair_parts h).2.1
  have hown := logGo_tree (cs := a) ht
  have hget : get (logGo t a).1 = ovr (get t) a := funext (get_full ht T.ao fa)
  have hs : Sorted (safeL a b) := (canonOk_iff.1 hb).2.2.sub (List.filter_sublist ..)
  have hf : Fits (get (logGo t a).1) (safeL a b) := by rw [hget]; exact T.safe_fits
  have hg : Good (ovr (get (logGo t a).1) (safeL a b)) := by rw [hget]; exact T.safe_good
  have hl : (safeL a b).length ≤ 20 := Nat.le_trans (List.length_filter_le ..) (logOk_parts (canonOk_iff.1 hb).1).1
  have hlk : logOk (safeL a b) = true := logOk_of T.safe_ok hl
  unfold logFits
  rw [hown, hlk, Bool.true_and, Bool.true_and, decide_eq_decide]
  constructor
  · intro hfull
    have h1 := runL_len (tree_clean hown) T.safe_ok T.safe_once hf
    have h2 := tree_len (logGo_tree (cs := safeL a b) hown)
    rw [logGo_full hfull] at h2
    omega
  · intro hle
    rw [canon_all hown T.safe_ok T.safe_once hf hs hg hle]
end Go.Proofs.YtjjmcdakmgeanaaGreatDoor
