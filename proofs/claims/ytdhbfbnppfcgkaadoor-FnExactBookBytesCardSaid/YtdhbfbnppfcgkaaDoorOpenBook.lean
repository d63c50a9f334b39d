/-
  Arguments as they are read: books.
-/
import Derived.Test.YtdhbfbnppfcgkaaDoorOpenCms
import Derived.Test.YtdhbfbnppfcgkaaDoorBooks
namespace Go.Proofs.YtdhbfbnppfcgkaaDoor
open Go Go.RowKit Go.ChangeShapes Go.WideShapes Go.ChangeAt
set_option linter.unusedVariables false
set_option maxRecDepth 100000 in
theorem open_book {H : Type} {enc : TypeId × Value → H} {w : World} {base : Nat} {spare : Nat → Bool} {held : Bool} {fuel : Nat} {cs : List Value} {x : DataW H × List MemPlace}
    (h : DataW.trod enc Tryd.prog w base spare held fuel 38 cs = some x) : ∃ (e : Int) (v : Value) (xs : List Cm), cs = [.int .i64 e, v] ∧ RdCms w v xs := by
  obtain ⟨xs, n', _, _, hl, hxl, hg⟩ := DataW.trod_struct Tryd.underlying38 h
  have hc : Tryd.prog.cellsOf 38 = 2 := by kernel_rfl
  have hci : Tryd.prog.cellsOf 3 = 1 := by kernel_rfl
  have hcs : Tryd.prog.cellsOf 36 = 1 := by kernel_rfl
  rw [hc] at hl
  match cs, hl with
  | [c0, c1], _ =>
    match xs, hxl with
    | [y0, y1], _ =>
      have g0 : DataW.trod enc Tryd.prog w base spare held n' 3 [c0] = some y0 := hg 0 _ rfl
      have g1 : DataW.trod enc Tryd.prog w base spare held n' 36 [c1] = some y1 := hg 1 _ rfl
      obtain ⟨a, h0, _, _⟩ := DataW.trod_int Tryd.underlying3 g0
      obtain ⟨l, h1⟩ := open_cmds g1
      simp only [List.cons.injEq, and_true] at h0
      subst h0
      exact ⟨a, c1, l, rfl, h1⟩
end Go.Proofs.YtdhbfbnppfcgkaaDoor
