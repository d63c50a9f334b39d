/-
  DERIVED. GIVEN WITH THE SEED: THE CARDS: each row of YthcibemmhmiedaaDoorRows.lean that lists a variable, with what it lists TIED to the program's text (the seventh form; the later family's looks); each row that meets fmt, with fmt's text TOLD by the authors' own Lean function (tested against real Go, not proved from fmt's source: count such statements apart). THE CARD IS WHAT COUNTS. Prove the row's statement (the work); the ties are given (YthcibemmhmiedaaDoorTie.lean); close each card by the builder's one call (the guide's Derived/Test/ToyasCard.lean, 'card_holds'). Laid BY PROGRAM, IN A SANDBOX (cutbox-door.mjs). By AI agents, Wed Nov 11 2026. No macro, syntax, notation, axiom, sorry.
-/
import Derived.Test.YthcibemmhmiedaaDoorRows
import GoSem.ClaimSeven
namespace Go.Proofs.YthcibemmhmiedaaDoor
namespace Rows

/-- THE TIED CARD OF 'laws.FnExactCommandBytes'. -/
def fnExactCommandBytesCard : Claim7 := { stood := { row := fnExactCommandBytesRow, standIns := [], harness := (true, "4ccc586cff943e77617798d0e3c7f12f4c2598fa4bec82c47f79be4378641c5e"), looks := false }, kinds := [], alts := [], laidByText := true, laidKinds := [.data, .pinned], laidTests := true, laidLooks := .later }
def FnExactCommandBytesCardSaid : Prop := Claim7.holds Tryd.pinned (.plain (OpenSpec.ofChange fnExactCommandBytesSpec)) fnExactCommandBytesCard

/-- THE TIED CARD OF 'laws.FnExactCommandFrom'. -/
def fnExactCommandFromCard : Claim7 := { stood := { row := fnExactCommandFromRow, standIns := [], harness := (true, "4ccc586cff943e77617798d0e3c7f12f4c2598fa4bec82c47f79be4378641c5e"), looks := false }, kinds := [], alts := [], laidByText := true, laidKinds := [.data, .pinned], laidTests := true, laidLooks := .later }
def FnExactCommandFromCardSaid : Prop := Claim7.holds Tryd.pinned (.plain (OpenSpec.ofChange fnExactCommandFromSpec)) fnExactCommandFromCard

/-- THE TIED CARD OF 'laws.FnExactLogBytes'. -/
def fnExactLogBytesCard : Claim7 := { stood := { row := fnExactLogBytesRow, standIns := [], harness := (true, "4ccc586cff943e77617798d0e3c7f12f4c2598fa4bec82c47f79be4378641c5e"), looks := false }, kinds := [], alts := [], laidByText := true, laidKinds := [.data, .pinned], laidTests := true, laidLooks := .later }
def FnExactLogBytesCardSaid : Prop := Claim7.holds Tryd.pinned (.plain (OpenSpec.ofChange fnExactLogBytesSpec)) fnExactLogBytesCard

/-- THE TIED CARD OF 'laws.FnExactLogLoad'. -/
def fnExactLogLoadCard : Claim7 := { stood := { row := fnExactLogLoadRow, standIns := [], harness := (true, "4ccc586cff943e77617798d0e3c7f12f4c2598fa4bec82c47f79be4378641c5e"), looks := false }, kinds := [], alts := [], laidByText := true, laidKinds := [.data, .pinned], laidTests := true, laidLooks := .later }
def FnExactLogLoadCardSaid : Prop := Claim7.holds Tryd.pinned (.plain (OpenSpec.ofChange fnExactLogLoadSpec)) fnExactLogLoadCard

/-- THE SECOND FORM's CARD OF 'laws.FnExactCommandBytes'. -/
def fnExactCommandBytesUptoCard : Claim7 := { stood := { row := fnExactCommandBytesUptoRow, standIns := [], harness := (true, "4ccc586cff943e77617798d0e3c7f12f4c2598fa4bec82c47f79be4378641c5e"), looks := false }, kinds := [], alts := [], laidByText := true, laidKinds := [.data, .pinned], laidTests := true, laidLooks := .later }
def FnExactCommandBytesUptoCardSaid : Prop := Claim7.holds Tryd.pinned (.plain (OpenSpec.upto fnExactCommandBytesSpec)) fnExactCommandBytesUptoCard

/-- THE SECOND FORM's CARD OF 'laws.FnExactCommandFrom'. -/
def fnExactCommandFromUptoCard : Claim7 := { stood := { row := fnExactCommandFromUptoRow, standIns := [], harness := (true, "4ccc586cff943e77617798d0e3c7f12f4c2598fa4bec82c47f79be4378641c5e"), looks := false }, kinds := [], alts := [], laidByText := true, laidKinds := [.data, .pinned], laidTests := true, laidLooks := .later }
def FnExactCommandFromUptoCardSaid : Prop := Claim7.holds Tryd.pinned (.plain (OpenSpec.upto fnExactCommandFromSpec)) fnExactCommandFromUptoCard

/-- THE SECOND FORM's CARD OF 'laws.FnExactLogBytes'. -/
def fnExactLogBytesUptoCard : Claim7 := { stood := { row := fnExactLogBytesUptoRow, standIns := [], harness := (true, "4ccc586cff943e77617798d0e3c7f12f4c2598fa4bec82c47f79be4378641c5e"), looks := false }, kinds := [], alts := [], laidByText := true, laidKinds := [.data, .pinned], laidTests := true, laidLooks := .later }
def FnExactLogBytesUptoCardSaid : Prop := Claim7.holds Tryd.pinned (.plain (OpenSpec.upto fnExactLogBytesSpec)) fnExactLogBytesUptoCard

/-- THE SECOND FORM's CARD OF 'laws.FnExactLogLoad'. -/
def fnExactLogLoadUptoCard : Claim7 := { stood := { row := fnExactLogLoadUptoRow, standIns := [], harness := (true, "4ccc586cff943e77617798d0e3c7f12f4c2598fa4bec82c47f79be4378641c5e"), looks := false }, kinds := [], alts := [], laidByText := true, laidKinds := [.data, .pinned], laidTests := true, laidLooks := .later }
def FnExactLogLoadUptoCardSaid : Prop := Claim7.holds Tryd.pinned (.plain (OpenSpec.upto fnExactLogLoadSpec)) fnExactLogLoadUptoCard
end Rows
end Go.Proofs.YthcibemmhmiedaaDoor
