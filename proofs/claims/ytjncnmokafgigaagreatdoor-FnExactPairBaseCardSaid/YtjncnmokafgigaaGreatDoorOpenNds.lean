/-
  Arguments as they are read: lists of nodes.
-/
import Derived.Test.YtjncnmokafgigaaGreatDoorOpenCm
import Derived.Test.YtjncnmokafgigaaGreatDoorNodeMarks
namespace Go.Proofs.YtjncnmokafgigaaGreatDoor
open Go Go.RowKit Go.ChangeShapes Go.WideShapes Go.ChangeAt
set_option linter.unusedVariables false
section
variable {H : Type} {enc : TypeId × Value → H} {w : World} {base : Nat} {spare : Nat → Bool} {held : Bool}
set_option maxRecDepth 100000 in
theorem open_nd {fuel : Nat} {cs : List Value} {x : DataW H × List MemPlace} (h : DataW.trod enc Tryz.prog w base spare held fuel 78 cs = some x) : ∃ n : Nd, cs = tNd.enc n ∧ n.path.length ≤ 9223372036854775807 := by
  obtain ⟨xs, n', _, _, hl, hxl, hg⟩ := DataW.trod_struct Tryz.underlying78 h
  have hc : Tryz.prog.cellsOf 78 = 3 := by kernel_rfl
  have hcs : Tryz.prog.cellsOf 9 = 1 := by kernel_rfl
  have hcc : Tryz.prog.cellsOf 76 = 2 := by kernel_rfl
  rw [hc] at hl
  match cs, hl with
  | [c0, c1, c2], _ =>
    match xs, hxl with
    | [y0, y1], _ =>
      have g0 : DataW.trod enc Tryz.prog w base spare held n' 9 [c0] = some y0 := hg 0 _ rfl
      have g1 : DataW.trod enc Tryz.prog w base spare held n' 76 [c1, c2] = some y1 := hg 1 _ rfl
      obtain ⟨s, h0, _, hs⟩ := DataW.trod_string Tryz.underlying9 g0
      obtain ⟨f, h1⟩ := open_cont g1
      simp only [List.cons.injEq, and_true] at h0 h1
      obtain ⟨rfl, rfl⟩ := h1
      subst h0
      refine ⟨⟨s.data.toList, f⟩, ?_, ?_⟩
      · have e : s = mk s.data.toList := by cases s; rfl
        show [Value.string s, _, _] = [Value.string (mk s.data.toList), _, _]
        rw [← e]
      · have : s.data.toList.length = s.size := by rw [Array.length_toList]; rfl
        unfold maxLen at hs; show s.data.toList.length ≤ 9223372036854775807; omega
set_option maxRecDepth 100000 in
theorem open_nodes {fuel : Nat} {v : Value} {x : DataW H × List MemPlace}
    (h : DataW.trod enc Tryz.prog w base spare held fuel 39 [v] = some x) : ∃ xs : List Nd, RdNds w v xs := by
  obtain ⟨xs, hx, hp⟩ := rdl_open tNd (fun c => c.path.length ≤ 9223372036854775807) Tryz.underlying39 (by kernel_rfl) (by decide) h (fun cs n y hy => open_nd hy)
  refine ⟨xs, hx, fun s hs => ?_⟩
  obtain ⟨i, hi, rfl⟩ := List.getElem_of_mem hs
  exact hp i _ (List.getElem?_eq_getElem hi)
end
end Go.Proofs.YtjncnmokafgigaaGreatDoor
