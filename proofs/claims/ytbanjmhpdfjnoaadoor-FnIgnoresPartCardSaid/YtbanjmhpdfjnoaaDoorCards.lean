/-
  DERIVED. GIVEN WITH THE SEED: THE CARDS: each row of YtbanjmhpdfjnoaaDoorRows.lean that lists a variable, with what it lists TIED to the program's text (the seventh form; the later family's looks); each row that meets fmt, with fmt's text TOLD by the authors' own Lean function (tested against real Go, not proved from fmt's source: count such statements apart). THE CARD IS WHAT COUNTS. Prove the row's statement (the work); the ties are given (YtbanjmhpdfjnoaaDoorTie.lean); close each card by the builder's one call (the guide's Derived/Test/ToyasCard.lean, 'card_holds'). Laid BY PROGRAM, IN A SANDBOX (cutbox-door.mjs). By AI agents, Wed Nov 11 2026. No macro, syntax, notation, axiom, sorry.
-/
import Derived.Test.YtbanjmhpdfjnoaaDoorRows
import GoSem.ClaimSeven
namespace Go.Proofs.YtbanjmhpdfjnoaaDoor
namespace Rows

/-- THE TIED CARD OF 'laws.FnExactIgnoresValid'. -/
def fnExactIgnoresValidCard : Claim7 := { stood := { row := fnExactIgnoresValidRow, standIns := [], harness := (true, "16ceecf3b0b5f0332b942897332077071eeecbad55dd1b2bb76dde7be98af56d"), looks := false }, kinds := [], alts := [], laidByText := true, laidKinds := [.data, .pinned], laidTests := true, laidLooks := .later }
def FnExactIgnoresValidCardSaid : Prop := Claim7.holds Tryd.pinned (.plain (OpenSpec.ofChange fnExactIgnoresValidSpec)) fnExactIgnoresValidCard

/-- THE TIED CARD OF 'laws.FnIgnoresPart'. -/
def fnIgnoresPartCard : Claim7 := { stood := { row := fnIgnoresPartRow, standIns := [], harness := (true, "16ceecf3b0b5f0332b942897332077071eeecbad55dd1b2bb76dde7be98af56d"), looks := false }, kinds := [], alts := [], laidByText := true, laidKinds := [.data, .pinned], laidTests := true, laidLooks := .later }
def FnIgnoresPartCardSaid : Prop := Claim7.holds Tryd.pinned (.plain (OpenSpec.ofChange fnIgnoresPartSpec)) fnIgnoresPartCard

/-- THE SECOND FORM's CARD OF 'laws.FnExactIgnoresValid'. -/
def fnExactIgnoresValidUptoCard : Claim7 := { stood := { row := fnExactIgnoresValidUptoRow, standIns := [], harness := (true, "16ceecf3b0b5f0332b942897332077071eeecbad55dd1b2bb76dde7be98af56d"), looks := false }, kinds := [], alts := [], laidByText := true, laidKinds := [.data, .pinned], laidTests := true, laidLooks := .later }
def FnExactIgnoresValidUptoCardSaid : Prop := Claim7.holds Tryd.pinned (.plain (OpenSpec.upto fnExactIgnoresValidSpec)) fnExactIgnoresValidUptoCard

/-- THE SECOND FORM's CARD OF 'laws.FnIgnoresPart'. -/
def fnIgnoresPartUptoCard : Claim7 := { stood := { row := fnIgnoresPartUptoRow, standIns := [], harness := (true, "16ceecf3b0b5f0332b942897332077071eeecbad55dd1b2bb76dde7be98af56d"), looks := false }, kinds := [], alts := [], laidByText := true, laidKinds := [.data, .pinned], laidTests := true, laidLooks := .later }
def FnIgnoresPartUptoCardSaid : Prop := Claim7.holds Tryd.pinned (.plain (OpenSpec.upto fnIgnoresPartSpec)) fnIgnoresPartUptoCard
end Rows
end Go.Proofs.YtbanjmhpdfjnoaaDoor
