/-
  What is kept of a canonical log fits, and touches nothing that is ignored: in plain Lean. No program in sight.
-/
import Derived.Test.YtjobbcdolbhadaaGreatDoorPlA
namespace Go.Proofs.YtjobbcdolbhadaaGreatDoor
open Go Go.RowKit
set_option linter.unusedVariables false
set_option linter.unusedSimpArgs false

theorem filt_keep {cs : List Cm} {ig : List Str} (h : logOk cs = true) (hi : ignOk ig = true) : filtL false cs ig = keepL ig cs := by
  unfold filtL keepL
  rw [h, hi, Bool.and_self, if_pos rfl]
  congr 1
  funext c
  cases touB ig c <;> rfl
theorem keep_log {cs : List Cm} {ig : List Str} (h : logOk cs = true) : logOk (keepL ig cs) = true := by
  obtain ⟨hl, ha⟩ := logOk_parts h
  exact logOk_of (fun c hc => ha c (keep_mem.1 hc).1) (Nat.le_trans (List.length_filter_le ..) hl)
theorem keep_facts {xs ys : List Nd} {ig : List Str} (hx : treeOk xs = true) (hy : treeOk ys = true) (hi : ignOk ig = true) :
    ((logGo xs (keepL ig (diffL xs ys))).2 < (keepL ig (diffL xs ys)).length → (logGo xs (keepL ig (diffL xs ys))).1.length = 10) ∧
    ((logGo xs (keepL ig (diffL xs ys))).2 = (keepL ig (diffL xs ys)).length → ∀ q, covB ig q = true → get (logGo xs (keepL ig (diffL xs ys))).1 q = get xs q) := by
  have hcn := canonOk_iff.1 (diff_canon hx hy)
  have ha := (logOk_parts hcn.1).2
  have hg2 : Good (ovr (get xs) (diffL xs ys)) := by
    have : get ys = ovr (get xs) (diffL xs ys) := funext (diff_over hx hy)
    rw [← this]; exact tree_good hy
  have hKo : Once (keepL ig (diffL xs ys)) := hcn.2.1.sub (List.filter_sublist ..)
  refine ⟨fun hn => ?_, fun hf q hq => ?_⟩
  · exact (canon_stops hx (fun c hc => ha c (keep_mem.1 hc).1) hKo (fun c hc => diff_fits c (keep_mem.1 hc).1) (hcn.2.2.sub (List.filter_sublist ..)) (keep_good (tree_good hx) hg2 ha hcn.2.1 diff_fits hi) hn).1
  · rw [get_full hx hKo hf q, keep_same hq]
end Go.Proofs.YtjobbcdolbhadaaGreatDoor
