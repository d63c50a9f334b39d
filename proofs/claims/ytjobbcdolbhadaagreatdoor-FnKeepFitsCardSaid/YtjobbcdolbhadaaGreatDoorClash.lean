/-
  Contracts: when two commands are in conflict; the conflicts of two logs, by both sides.
-/
import Derived.Test.YtjobbcdolbhadaaGreatDoorImplCanon
import Derived.Test.YtjobbcdolbhadaaGreatDoorUnder
import Derived.Test.YtjobbcdolbhadaaGreatDoorSpecFilt
import Derived.Test.YtjobbcdolbhadaaGreatDoorPlA
namespace Go.Proofs.YtjobbcdolbhadaaGreatDoor
open Go Go.RowKit
set_option linter.unusedVariables false
set_option linter.unusedSimpArgs false

theorem own_nilC {α : Type} {T : Ty α} {w : World} {b e : Nat} : OwL T w b e (.slice none 0 0) [] := ⟨by simp, .inl ⟨rfl, rfl⟩⟩
theorem blk_ext2 {w w' : World} {b : Nat} {o : Obj} (h : w.heap[b]? = some o) (hB : Below w.heap.size w w') : w'.heap[b]? = some o := (hB.block b (Array.getElem?_eq_some_iff.1 h).1).trans h
def tPr : Ty Pr := ⟨2, fun p => [.int .i64 p.1, .int .i64 p.2], fun _ => rfl, fun _ u h => by simp at h; rcases h with rfl | rfl <;> rfl⟩
theorem clashB_cases (c d : Cm) : clashB c d = ((decide (c.path = d.path) && !decide (c.to.kind = d.to.kind ∧ c.to.value = d.to.value)) || stopsB c d || stopsB d c) := by
  have e : decide (c.to = d.to) = decide (c.to.kind = d.to.kind ∧ c.to.value = d.to.value) := by
    rw [decide_eq_decide]; exact ⟨fun h => by rw [h]; exact ⟨rfl, rfl⟩, fun h => cont_eq.1 h⟩
  unfold clashB; rw [e]
theorem canonOk_short {cs : List Cm} (h : canonOk cs = true) : cs.length ≤ 20 ∧ AllOk cs := logOk_parts (canonOk_iff.1 h).1
theorem OwL.ne_cells {α : Type} {T : Ty α} {w : World} {base e e2 b : Nat} {v : Value} {xs : List α} {cs : Array Value} (h : OwL T w base e v xs) (hb : w.heap[b]? = some (.cells cs e2)) (he : e ≠ e2) : ∀ g, v.ownBlock = some g → g ≠ b := fun g hg hgb => by
  subst hgb
  obtain ⟨_, k1⟩ := h.own
  rcases k1 with ⟨rfl, _⟩ | ⟨g1, c1, u1, rfl, _, hg1, _⟩
  · cases hg
  · simp only [Value.ownBlock, Option.some.injEq] at hg
    have e' : g1 = g := by simpa using hg
    subst e'
    rw [hg1] at hb
    injection hb with hb
    injection hb with _ hb _
    exact he hb
theorem kept_cells {α : Type} {T : Ty α} {w w' : World} {base e e2 b : Nat} {v : Value} {xs : List α} {cs : Array Value} (h : OwL T w base e v xs) (hb : w.heap[b]? = some (.cells cs e2)) (he : e ≠ e2) (hg : w.grownBy w' v.ownBlock) : w'.heap[b]? = some (.cells cs e2) :=
  (hg.block b (Array.getElem?_eq_some_iff.1 hb).1 (fun e' => h.ne_cells hb he b e'.symm rfl)).trans hb
theorem canon_path {cs : List Cm} (h : canonOk cs = true) {i : Nat} {c : Cm} (hc : cs[i]? = some c) : isPath c.path = true := (cmOk_path ((canonOk_short h).2 c (List.mem_of_getElem? hc)))
end Go.Proofs.YtjobbcdolbhadaaGreatDoor
