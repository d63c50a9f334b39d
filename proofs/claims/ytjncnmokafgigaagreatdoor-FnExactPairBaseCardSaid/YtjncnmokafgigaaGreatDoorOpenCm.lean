/-
  Arguments as they are read: commands.
-/
import Derived.Test.YtjncnmokafgigaaGreatDoorCmds
import Derived.Test.YtjncnmokafgigaaGreatDoorOpA
namespace Go.Proofs.YtjncnmokafgigaaGreatDoor
open Go Go.RowKit Go.ChangeShapes Go.WideShapes Go.ChangeAt
set_option linter.unusedVariables false
section
variable {H : Type} {enc : TypeId × Value → H} {w : World} {base : Nat} {spare : Nat → Bool} {held : Bool}
set_option maxRecDepth 100000 in
theorem open_cont {fuel : Nat} {cs : List Value} {x : DataW H × List MemPlace} (h : DataW.trod enc Tryz.prog w base spare held fuel 76 cs = some x) : ∃ c : Cont, cs = [.int .i64 c.kind, .int .i64 c.value] := by
  obtain ⟨xs, n', _, _, hl, hxl, hg⟩ := DataW.trod_struct Tryz.underlying76 h
  have hc : Tryz.prog.cellsOf 76 = 2 := by kernel_rfl
  have hci : Tryz.prog.cellsOf 3 = 1 := by kernel_rfl
  rw [hc] at hl
  match cs, hl with
  | [c0, c1], _ =>
    match xs, hxl with
    | [y0, y1], _ =>
      have g0 : DataW.trod enc Tryz.prog w base spare held n' 3 [c0] = some y0 := hg 0 _ rfl
      have g1 : DataW.trod enc Tryz.prog w base spare held n' 3 [c1] = some y1 := hg 1 _ rfl
      obtain ⟨a, h0, _, _⟩ := DataW.trod_int Tryz.underlying3 g0
      obtain ⟨b, h1, _, _⟩ := DataW.trod_int Tryz.underlying3 g1
      simp only [List.cons.injEq, and_true] at h0 h1
      subst h0 h1
      exact ⟨⟨a, b⟩, rfl⟩
set_option maxRecDepth 100000 in
theorem open_cm {fuel : Nat} {cs : List Value} {x : DataW H × List MemPlace} (h : DataW.trod enc Tryz.prog w base spare held fuel 81 cs = some x) : ∃ c : Cm, cs = (vCm c).cells.toList ∧ c.path.length ≤ 9223372036854775807 := by
  obtain ⟨xs, n', _, _, hl, hxl, hg⟩ := DataW.trod_struct Tryz.underlying81 h
  have hc : Tryz.prog.cellsOf 81 = 5 := by kernel_rfl
  have hcs : Tryz.prog.cellsOf 9 = 1 := by kernel_rfl
  have hcc : Tryz.prog.cellsOf 76 = 2 := by kernel_rfl
  rw [hc] at hl
  match cs, hl with
  | [c0, c1, c2, c3, c4], _ =>
    match xs, hxl with
    | [y0, y1, y2], _ =>
      have g0 : DataW.trod enc Tryz.prog w base spare held n' 9 [c0] = some y0 := hg 0 _ rfl
      have g1 : DataW.trod enc Tryz.prog w base spare held n' 76 [c1, c2] = some y1 := hg 1 _ rfl
      have g2 : DataW.trod enc Tryz.prog w base spare held n' 76 [c3, c4] = some y2 := hg 2 _ rfl
      obtain ⟨s, h0, _, hs⟩ := DataW.trod_string Tryz.underlying9 g0
      obtain ⟨f, h1⟩ := open_cont g1
      obtain ⟨t, h2⟩ := open_cont g2
      simp only [List.cons.injEq, and_true] at h0 h1 h2
      obtain ⟨rfl, rfl⟩ := h1
      obtain ⟨rfl, rfl⟩ := h2
      subst h0
      refine ⟨⟨s.data.toList, f, t⟩, ?_, ?_⟩
      · have e : s = mk s.data.toList := by cases s; rfl
        show [Value.string s, _, _, _, _] = [Value.string (mk s.data.toList), _, _, _, _]
        rw [← e]
      · have : s.data.toList.length = s.size := by rw [Array.length_toList]; rfl
        unfold maxLen at hs; show s.data.toList.length ≤ 9223372036854775807; omega
end
end Go.Proofs.YtjncnmokafgigaaGreatDoor
