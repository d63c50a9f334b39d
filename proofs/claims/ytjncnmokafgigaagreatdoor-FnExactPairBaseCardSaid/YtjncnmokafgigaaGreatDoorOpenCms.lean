/-
  Arguments as they are read: lists of commands.
-/
import Derived.Test.YtjncnmokafgigaaGreatDoorOpenCm
import Derived.Test.YtjncnmokafgigaaGreatDoorCmList
namespace Go.Proofs.YtjncnmokafgigaaGreatDoor
open Go Go.RowKit Go.ChangeShapes Go.WideShapes Go.ChangeAt
set_option linter.unusedVariables false
set_option maxRecDepth 100000 in
theorem open_cmds {H : Type} {enc : TypeId × Value → H} {w : World} {base : Nat} {spare : Nat → Bool} {held : Bool} {fuel : Nat} {v : Value} {x : DataW H × List MemPlace}
    (h : DataW.trod enc Tryz.prog w base spare held fuel 40 [v] = some x) : ∃ xs : List Cm, RdCms w v xs := by
  obtain ⟨xs, hx, hp⟩ := rdl_open tCm (fun c => c.path.length ≤ 9223372036854775807) Tryz.underlying40 (by kernel_rfl) (by decide) h (fun cs n y hy => open_cm hy)
  refine ⟨xs, hx, fun s hs => ?_⟩
  obtain ⟨i, hi, rfl⟩ := List.getElem_of_mem hs
  exact hp i _ (List.getElem?_eq_getElem hi)
end Go.Proofs.YtjncnmokafgigaaGreatDoor
