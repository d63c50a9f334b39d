/-
  DERIVED. GIVEN WITH THE SEED: THE CARDS: each row of YtpdkajcnnanocaaDoorRows.lean that lists a variable, with what it lists TIED to the program's text (the seventh form; the later family's looks); each row that meets fmt, with fmt's text TOLD by the authors' own Lean function (tested against real Go, not proved from fmt's source: count such statements apart). THE CARD IS WHAT COUNTS. Prove the row's statement (the work); the ties are given (YtpdkajcnnanocaaDoorTie.lean); close each card by the builder's one call (the guide's Derived/Test/ToyasCard.lean, 'card_holds'). Laid BY PROGRAM, IN A SANDBOX (cutbox-door.mjs). By AI agents, Wed Nov 11 2026. No macro, syntax, notation, axiom, sorry.
-/
import Derived.Test.YtpdkajcnnanocaaDoorRows
import GoSem.ClaimSeven
namespace Go.Proofs.YtpdkajcnnanocaaDoor
namespace Rows

/-- THE TIED CARD OF 'laws.FnExactBookOpen'. -/
def fnExactBookOpenCard : Claim7 := { stood := { row := fnExactBookOpenRow, standIns := [], harness := (true, "0db6f456d707de04cd7d4c17f0fd73da24a9f1b7eac5155a29f24fe1e6e92550"), looks := false }, kinds := [], alts := [], laidByText := true, laidKinds := [.data, .pinned], laidTests := true, laidLooks := .later }
def FnExactBookOpenCardSaid : Prop := Claim7.holds Tryd.pinned (.plain (OpenSpec.ofChange fnExactBookOpenSpec)) fnExactBookOpenCard

/-- THE TIED CARD OF 'laws.FnOpenOther'. -/
def fnOpenOtherCard : Claim7 := { stood := { row := fnOpenOtherRow, standIns := [], harness := (true, "0db6f456d707de04cd7d4c17f0fd73da24a9f1b7eac5155a29f24fe1e6e92550"), looks := false }, kinds := [], alts := [], laidByText := true, laidKinds := [.data, .pinned], laidTests := true, laidLooks := .later }
def FnOpenOtherCardSaid : Prop := Claim7.holds Tryd.pinned (.plain (OpenSpec.ofChange fnOpenOtherSpec)) fnOpenOtherCard

/-- THE SECOND FORM's CARD OF 'laws.FnExactBookOpen'. -/
def fnExactBookOpenUptoCard : Claim7 := { stood := { row := fnExactBookOpenUptoRow, standIns := [], harness := (true, "0db6f456d707de04cd7d4c17f0fd73da24a9f1b7eac5155a29f24fe1e6e92550"), looks := false }, kinds := [], alts := [], laidByText := true, laidKinds := [.data, .pinned], laidTests := true, laidLooks := .later }
def FnExactBookOpenUptoCardSaid : Prop := Claim7.holds Tryd.pinned (.plain (OpenSpec.upto fnExactBookOpenSpec)) fnExactBookOpenUptoCard

/-- THE SECOND FORM's CARD OF 'laws.FnOpenOther'. -/
def fnOpenOtherUptoCard : Claim7 := { stood := { row := fnOpenOtherUptoRow, standIns := [], harness := (true, "0db6f456d707de04cd7d4c17f0fd73da24a9f1b7eac5155a29f24fe1e6e92550"), looks := false }, kinds := [], alts := [], laidByText := true, laidKinds := [.data, .pinned], laidTests := true, laidLooks := .later }
def FnOpenOtherUptoCardSaid : Prop := Claim7.holds Tryd.pinned (.plain (OpenSpec.upto fnOpenOtherSpec)) fnOpenOtherUptoCard
end Rows
end Go.Proofs.YtpdkajcnnanocaaDoor
