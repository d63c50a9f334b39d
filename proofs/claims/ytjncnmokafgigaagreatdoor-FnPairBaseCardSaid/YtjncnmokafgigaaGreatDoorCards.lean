/-
  DERIVED. GIVEN WITH THE SEED: THE CARDS: each row of YtjncnmokafgigaaGreatDoorRows.lean that lists a variable, with what it lists TIED to the program's text (the seventh form; the later family's looks); each row that meets fmt, with fmt's text TOLD by the authors' own Lean function (tested against real Go, not proved from fmt's source: count such statements apart). THE CARD IS WHAT COUNTS. Prove the row's statement (the work); the ties are given (YtjncnmokafgigaaGreatDoorTie.lean); close each card by the builder's one call (the guide's Derived/Test/ToyasCard.lean, 'card_holds'). Laid BY PROGRAM, IN A SANDBOX (cutbox-door.mjs). By AI agents, Wed Nov 11 2026. No macro, syntax, notation, axiom, sorry.
-/
import Derived.Test.YtjncnmokafgigaaGreatDoorRows
import GoSem.ClaimSeven
namespace Go.Proofs.YtjncnmokafgigaaGreatDoor
namespace Rows

/-- THE TIED CARD OF 'laws.FnSteps'. -/
def fnStepsCard : Claim7 := { stood := { row := fnStepsRow, standIns := [], harness := (true, "a969b75f80a0fe2b2acdc8b3c3258326733766ff45ada534016c4a3b74e05c0b"), looks := false }, kinds := [], alts := [], laidByText := true, laidKinds := [.data, .pinned], laidTests := true, laidLooks := .later }
def FnStepsCardSaid : Prop := Claim7.holds Tryz.pinned (.plain (OpenSpec.ofChange fnStepsSpec)) fnStepsCard

/-- THE TIED CARD OF 'laws.FnStepsNone'. -/
def fnStepsNoneCard : Claim7 := { stood := { row := fnStepsNoneRow, standIns := [], harness := (true, "a969b75f80a0fe2b2acdc8b3c3258326733766ff45ada534016c4a3b74e05c0b"), looks := false }, kinds := [], alts := [], laidByText := true, laidKinds := [.data, .pinned], laidTests := true, laidLooks := .later }
def FnStepsNoneCardSaid : Prop := Claim7.holds Tryz.pinned (.plain (OpenSpec.ofChange fnStepsNoneSpec)) fnStepsNoneCard

/-- THE TIED CARD OF 'laws.FnExactResolveSteps'. -/
def fnExactResolveStepsCard : Claim7 := { stood := { row := fnExactResolveStepsRow, standIns := [], harness := (true, "a969b75f80a0fe2b2acdc8b3c3258326733766ff45ada534016c4a3b74e05c0b"), looks := false }, kinds := [], alts := [], laidByText := true, laidKinds := [.data, .pinned], laidTests := true, laidLooks := .later }
def FnExactResolveStepsCardSaid : Prop := Claim7.holds Tryz.pinned (.plain (OpenSpec.ofChange fnExactResolveStepsSpec)) fnExactResolveStepsCard

/-- THE TIED CARD OF 'laws.FnExactPairBase'. -/
def fnExactPairBaseCard : Claim7 := { stood := { row := fnExactPairBaseRow, standIns := [], harness := (true, "a969b75f80a0fe2b2acdc8b3c3258326733766ff45ada534016c4a3b74e05c0b"), looks := false }, kinds := [], alts := [], laidByText := true, laidKinds := [.data, .pinned], laidTests := true, laidLooks := .later }
def FnExactPairBaseCardSaid : Prop := Claim7.holds Tryz.pinned (.plain (OpenSpec.ofChange fnExactPairBaseSpec)) fnExactPairBaseCard

/-- THE TIED CARD OF 'laws.FnPairLeft'. -/
def fnPairLeftCard : Claim7 := { stood := { row := fnPairLeftRow, standIns := [], harness := (true, "a969b75f80a0fe2b2acdc8b3c3258326733766ff45ada534016c4a3b74e05c0b"), looks := false }, kinds := [], alts := [], laidByText := true, laidKinds := [.data, .pinned], laidTests := true, laidLooks := .later }
def FnPairLeftCardSaid : Prop := Claim7.holds Tryz.pinned (.plain (OpenSpec.ofChange fnPairLeftSpec)) fnPairLeftCard

/-- THE TIED CARD OF 'laws.FnPairAgain'. -/
def fnPairAgainCard : Claim7 := { stood := { row := fnPairAgainRow, standIns := [], harness := (true, "a969b75f80a0fe2b2acdc8b3c3258326733766ff45ada534016c4a3b74e05c0b"), looks := false }, kinds := [], alts := [], laidByText := true, laidKinds := [.data, .pinned], laidTests := true, laidLooks := .later }
def FnPairAgainCardSaid : Prop := Claim7.holds Tryz.pinned (.plain (OpenSpec.ofChange fnPairAgainSpec)) fnPairAgainCard

/-- THE TIED CARD OF 'laws.FnPairSame'. -/
def fnPairSameCard : Claim7 := { stood := { row := fnPairSameRow, standIns := [], harness := (true, "a969b75f80a0fe2b2acdc8b3c3258326733766ff45ada534016c4a3b74e05c0b"), looks := false }, kinds := [], alts := [], laidByText := true, laidKinds := [.data, .pinned], laidTests := true, laidLooks := .later }
def FnPairSameCardSaid : Prop := Claim7.holds Tryz.pinned (.plain (OpenSpec.ofChange fnPairSameSpec)) fnPairSameCard

/-- THE TIED CARD OF 'laws.FnPairBase'. -/
def fnPairBaseCard : Claim7 := { stood := { row := fnPairBaseRow, standIns := [], harness := (true, "a969b75f80a0fe2b2acdc8b3c3258326733766ff45ada534016c4a3b74e05c0b"), looks := false }, kinds := [], alts := [], laidByText := true, laidKinds := [.data, .pinned], laidTests := true, laidLooks := .later }
def FnPairBaseCardSaid : Prop := Claim7.holds Tryz.pinned (.plain (OpenSpec.ofChange fnPairBaseSpec)) fnPairBaseCard

/-- THE SECOND FORM's CARD OF 'laws.FnSteps'. -/
def fnStepsUptoCard : Claim7 := { stood := { row := fnStepsUptoRow, standIns := [], harness := (true, "a969b75f80a0fe2b2acdc8b3c3258326733766ff45ada534016c4a3b74e05c0b"), looks := false }, kinds := [], alts := [], laidByText := true, laidKinds := [.data, .pinned], laidTests := true, laidLooks := .later }
def FnStepsUptoCardSaid : Prop := Claim7.holds Tryz.pinned (.plain (OpenSpec.upto fnStepsSpec)) fnStepsUptoCard

/-- THE SECOND FORM's CARD OF 'laws.FnStepsNone'. -/
def fnStepsNoneUptoCard : Claim7 := { stood := { row := fnStepsNoneUptoRow, standIns := [], harness := (true, "a969b75f80a0fe2b2acdc8b3c3258326733766ff45ada534016c4a3b74e05c0b"), looks := false }, kinds := [], alts := [], laidByText := true, laidKinds := [.data, .pinned], laidTests := true, laidLooks := .later }
def FnStepsNoneUptoCardSaid : Prop := Claim7.holds Tryz.pinned (.plain (OpenSpec.upto fnStepsNoneSpec)) fnStepsNoneUptoCard

/-- THE SECOND FORM's CARD OF 'laws.FnExactResolveSteps'. -/
def fnExactResolveStepsUptoCard : Claim7 := { stood := { row := fnExactResolveStepsUptoRow, standIns := [], harness := (true, "a969b75f80a0fe2b2acdc8b3c3258326733766ff45ada534016c4a3b74e05c0b"), looks := false }, kinds := [], alts := [], laidByText := true, laidKinds := [.data, .pinned], laidTests := true, laidLooks := .later }
def FnExactResolveStepsUptoCardSaid : Prop := Claim7.holds Tryz.pinned (.plain (OpenSpec.upto fnExactResolveStepsSpec)) fnExactResolveStepsUptoCard

/-- THE SECOND FORM's CARD OF 'laws.FnExactPairBase'. -/
def fnExactPairBaseUptoCard : Claim7 := { stood := { row := fnExactPairBaseUptoRow, standIns := [], harness := (true, "a969b75f80a0fe2b2acdc8b3c3258326733766ff45ada534016c4a3b74e05c0b"), looks := false }, kinds := [], alts := [], laidByText := true, laidKinds := [.data, .pinned], laidTests := true, laidLooks := .later }
def FnExactPairBaseUptoCardSaid : Prop := Claim7.holds Tryz.pinned (.plain (OpenSpec.upto fnExactPairBaseSpec)) fnExactPairBaseUptoCard

/-- THE SECOND FORM's CARD OF 'laws.FnPairLeft'. -/
def fnPairLeftUptoCard : Claim7 := { stood := { row := fnPairLeftUptoRow, standIns := [], harness := (true, "a969b75f80a0fe2b2acdc8b3c3258326733766ff45ada534016c4a3b74e05c0b"), looks := false }, kinds := [], alts := [], laidByText := true, laidKinds := [.data, .pinned], laidTests := true, laidLooks := .later }
def FnPairLeftUptoCardSaid : Prop := Claim7.holds Tryz.pinned (.plain (OpenSpec.upto fnPairLeftSpec)) fnPairLeftUptoCard

/-- THE SECOND FORM's CARD OF 'laws.FnPairAgain'. -/
def fnPairAgainUptoCard : Claim7 := { stood := { row := fnPairAgainUptoRow, standIns := [], harness := (true, "a969b75f80a0fe2b2acdc8b3c3258326733766ff45ada534016c4a3b74e05c0b"), looks := false }, kinds := [], alts := [], laidByText := true, laidKinds := [.data, .pinned], laidTests := true, laidLooks := .later }
def FnPairAgainUptoCardSaid : Prop := Claim7.holds Tryz.pinned (.plain (OpenSpec.upto fnPairAgainSpec)) fnPairAgainUptoCard

/-- THE SECOND FORM's CARD OF 'laws.FnPairSame'. -/
def fnPairSameUptoCard : Claim7 := { stood := { row := fnPairSameUptoRow, standIns := [], harness := (true, "a969b75f80a0fe2b2acdc8b3c3258326733766ff45ada534016c4a3b74e05c0b"), looks := false }, kinds := [], alts := [], laidByText := true, laidKinds := [.data, .pinned], laidTests := true, laidLooks := .later }
def FnPairSameUptoCardSaid : Prop := Claim7.holds Tryz.pinned (.plain (OpenSpec.upto fnPairSameSpec)) fnPairSameUptoCard

/-- THE SECOND FORM's CARD OF 'laws.FnPairBase'. -/
def fnPairBaseUptoCard : Claim7 := { stood := { row := fnPairBaseUptoRow, standIns := [], harness := (true, "a969b75f80a0fe2b2acdc8b3c3258326733766ff45ada534016c4a3b74e05c0b"), looks := false }, kinds := [], alts := [], laidByText := true, laidKinds := [.data, .pinned], laidTests := true, laidLooks := .later }
def FnPairBaseUptoCardSaid : Prop := Claim7.holds Tryz.pinned (.plain (OpenSpec.upto fnPairBaseSpec)) fnPairBaseUptoCard
end Rows
end Go.Proofs.YtjncnmokafgigaaGreatDoor
