/-
  DERIVED. GIVEN WITH THE SEED: THE CARDS: each row of YtlbfnadiadcgjaaDoorRows.lean that lists a variable, with what it lists TIED to the program's text (the seventh form; the later family's looks); each row that meets fmt, with fmt's text TOLD by the authors' own Lean function (tested against real Go, not proved from fmt's source: count such statements apart). THE CARD IS WHAT COUNTS. Prove the row's statement (the work); the ties are given (YtlbfnadiadcgjaaDoorTie.lean); close each card by the builder's one call (the guide's Derived/Test/ToyasCard.lean, 'card_holds'). Laid BY PROGRAM, IN A SANDBOX (cutbox-door.mjs). By AI agents, Wed Nov 11 2026. No macro, syntax, notation, axiom, sorry.
-/
import Derived.Test.YtlbfnadiadcgjaaDoorRows
import GoSem.ClaimSeven
namespace Go.Proofs.YtlbfnadiadcgjaaDoor
namespace Rows

/-- THE TIED CARD OF 'laws.FnPair'. -/
def fnPairCard : Claim7 := { stood := { row := fnPairRow, standIns := [], harness := (true, "f44abaeed4a7ad771407737a891b984ffe79a7a1b87944707f7889493669393d"), looks := false }, kinds := [], alts := [], laidByText := true, laidKinds := [.data, .pinned], laidTests := true, laidLooks := .later }
def FnPairCardSaid : Prop := Claim7.holds Tryd.pinned (.plain (OpenSpec.ofChange fnPairSpec)) fnPairCard

/-- THE TIED CARD OF 'laws.FnExactPairFits'. -/
def fnExactPairFitsCard : Claim7 := { stood := { row := fnExactPairFitsRow, standIns := [], harness := (true, "f44abaeed4a7ad771407737a891b984ffe79a7a1b87944707f7889493669393d"), looks := false }, kinds := [], alts := [], laidByText := true, laidKinds := [.data, .pinned], laidTests := true, laidLooks := .later }
def FnExactPairFitsCardSaid : Prop := Claim7.holds Tryd.pinned (.plain (OpenSpec.ofChange fnExactPairFitsSpec)) fnExactPairFitsCard

/-- THE TIED CARD OF 'laws.FnExactClashText'. -/
def fnExactClashTextCard : Claim7 := { stood := { row := fnExactClashTextRow, standIns := [], harness := (true, "f44abaeed4a7ad771407737a891b984ffe79a7a1b87944707f7889493669393d"), looks := false }, kinds := [], alts := [], laidByText := true, laidKinds := [.data, .data, .data, .data, .pinned], laidTests := true, laidLooks := .later }
def FnExactClashTextCardSaid : Prop := Claim7.holds Tryd.pinned (.plain (OpenSpec.ofChange fnExactClashTextSpec)) fnExactClashTextCard

/-- THE SECOND FORM's CARD OF 'laws.FnPair'. -/
def fnPairUptoCard : Claim7 := { stood := { row := fnPairUptoRow, standIns := [], harness := (true, "f44abaeed4a7ad771407737a891b984ffe79a7a1b87944707f7889493669393d"), looks := false }, kinds := [], alts := [], laidByText := true, laidKinds := [.data, .pinned], laidTests := true, laidLooks := .later }
def FnPairUptoCardSaid : Prop := Claim7.holds Tryd.pinned (.plain (OpenSpec.upto fnPairSpec)) fnPairUptoCard

/-- THE SECOND FORM's CARD OF 'laws.FnExactPairFits'. -/
def fnExactPairFitsUptoCard : Claim7 := { stood := { row := fnExactPairFitsUptoRow, standIns := [], harness := (true, "f44abaeed4a7ad771407737a891b984ffe79a7a1b87944707f7889493669393d"), looks := false }, kinds := [], alts := [], laidByText := true, laidKinds := [.data, .pinned], laidTests := true, laidLooks := .later }
def FnExactPairFitsUptoCardSaid : Prop := Claim7.holds Tryd.pinned (.plain (OpenSpec.upto fnExactPairFitsSpec)) fnExactPairFitsUptoCard

/-- THE SECOND FORM's CARD OF 'laws.FnExactClashText'. -/
def fnExactClashTextUptoCard : Claim7 := { stood := { row := fnExactClashTextUptoRow, standIns := [], harness := (true, "f44abaeed4a7ad771407737a891b984ffe79a7a1b87944707f7889493669393d"), looks := false }, kinds := [], alts := [], laidByText := true, laidKinds := [.data, .data, .data, .data, .pinned], laidTests := true, laidLooks := .later }
def FnExactClashTextUptoCardSaid : Prop := Claim7.holds Tryd.pinned (.plain (OpenSpec.upto fnExactClashTextSpec)) fnExactClashTextUptoCard
end Rows
end Go.Proofs.YtlbfnadiadcgjaaDoor
