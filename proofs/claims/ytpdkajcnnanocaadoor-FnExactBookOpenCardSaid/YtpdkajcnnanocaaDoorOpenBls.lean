/-
  A disk, as the card hands it, is read.
-/
import Derived.Test.YtpdkajcnnanocaaDoorOpenBl
import Derived.Test.YtpdkajcnnanocaaDoorLawExBookOpen
namespace Go.Proofs.YtpdkajcnnanocaaDoor
open Go Go.RowKit
set_option linter.unusedVariables false
set_option linter.unusedSimpArgs false

theorem open_blobs2 {H : Type} {enc : TypeId × Value → H} {w : World} {base : Nat} {spare : Nat → Bool} {held : Bool} {fuel : Nat} {v : Value} {x : DataW H × List MemPlace}
    (h : DataW.trod enc Tryd.prog w base spare held fuel 22 [v] = some x) : ∃ xs : List Bl, RdBs w v xs := by
  obtain ⟨rows, bs, hr⟩ := open_blobs h
  exact ⟨bs, ⟨rows, hr⟩⟩
end Go.Proofs.YtpdkajcnnanocaaDoor
