/-
  DERIVED. GIVEN WITH THE SEED: THE CARDS: each row of YtjobbcdolbhadaaGreatDoorRows.lean that lists a variable, with what it lists TIED to the program's text (the seventh form; the later family's looks); each row that meets fmt, with fmt's text TOLD by the authors' own Lean function (tested against real Go, not proved from fmt's source: count such statements apart). THE CARD IS WHAT COUNTS. Prove the row's statement (the work); the ties are given (YtjobbcdolbhadaaGreatDoorTie.lean); close each card by the builder's one call (the guide's Derived/Test/ToyasCard.lean, 'card_holds'). Laid BY PROGRAM, IN A SANDBOX (cutbox-door.mjs). By AI agents, Wed Nov 11 2026. No macro, syntax, notation, axiom, sorry.
-/
import Derived.Test.YtjobbcdolbhadaaGreatDoorRows
import GoSem.ClaimSeven
namespace Go.Proofs.YtjobbcdolbhadaaGreatDoor
namespace Rows

/-- THE TIED CARD OF 'laws.FnCanonUndo'. -/
def fnCanonUndoCard : Claim7 := { stood := { row := fnCanonUndoRow, standIns := [], harness := (true, "ab24ba3c6fd33eac1f090e9f78007e13e0200c944cb2d0a395ed103970da0c1b"), looks := false }, kinds := [], alts := [], laidByText := true, laidKinds := [.data, .pinned], laidTests := true, laidLooks := .later }
def FnCanonUndoCardSaid : Prop := Claim7.holds Tryz.pinned (.plain (OpenSpec.ofChange fnCanonUndoSpec)) fnCanonUndoCard

/-- THE TIED CARD OF 'laws.FnOrderCanon'. -/
def fnOrderCanonCard : Claim7 := { stood := { row := fnOrderCanonRow, standIns := [], harness := (true, "ab24ba3c6fd33eac1f090e9f78007e13e0200c944cb2d0a395ed103970da0c1b"), looks := false }, kinds := [], alts := [], laidByText := true, laidKinds := [.data, .pinned], laidTests := true, laidLooks := .later }
def FnOrderCanonCardSaid : Prop := Claim7.holds Tryz.pinned (.plain (OpenSpec.ofChange fnOrderCanonSpec)) fnOrderCanonCard

/-- THE TIED CARD OF 'laws.FnCanonIsDiff'. -/
def fnCanonIsDiffCard : Claim7 := { stood := { row := fnCanonIsDiffRow, standIns := [], harness := (true, "ab24ba3c6fd33eac1f090e9f78007e13e0200c944cb2d0a395ed103970da0c1b"), looks := false }, kinds := [], alts := [], laidByText := true, laidKinds := [.data, .pinned], laidTests := true, laidLooks := .later }
def FnCanonIsDiffCardSaid : Prop := Claim7.holds Tryz.pinned (.plain (OpenSpec.ofChange fnCanonIsDiffSpec)) fnCanonIsDiffCard

/-- THE TIED CARD OF 'laws.FnKeepFits'. -/
def fnKeepFitsCard : Claim7 := { stood := { row := fnKeepFitsRow, standIns := [], harness := (true, "ab24ba3c6fd33eac1f090e9f78007e13e0200c944cb2d0a395ed103970da0c1b"), looks := false }, kinds := [], alts := [], laidByText := true, laidKinds := [.data, .pinned], laidTests := true, laidLooks := .later }
def FnKeepFitsCardSaid : Prop := Claim7.holds Tryz.pinned (.plain (OpenSpec.ofChange fnKeepFitsSpec)) fnKeepFitsCard

/-- THE TIED CARD OF 'laws.FnCanonNone'. -/
def fnCanonNoneCard : Claim7 := { stood := { row := fnCanonNoneRow, standIns := [], harness := (true, "ab24ba3c6fd33eac1f090e9f78007e13e0200c944cb2d0a395ed103970da0c1b"), looks := false }, kinds := [], alts := [], laidByText := true, laidKinds := [.data, .pinned], laidTests := true, laidLooks := .later }
def FnCanonNoneCardSaid : Prop := Claim7.holds Tryz.pinned (.plain (OpenSpec.ofChange fnCanonNoneSpec)) fnCanonNoneCard

/-- THE TIED CARD OF 'laws.FnCanonDiff'. -/
def fnCanonDiffCard : Claim7 := { stood := { row := fnCanonDiffRow, standIns := [], harness := (true, "ab24ba3c6fd33eac1f090e9f78007e13e0200c944cb2d0a395ed103970da0c1b"), looks := false }, kinds := [], alts := [], laidByText := true, laidKinds := [.data, .pinned], laidTests := true, laidLooks := .later }
def FnCanonDiffCardSaid : Prop := Claim7.holds Tryz.pinned (.plain (OpenSpec.ofChange fnCanonDiffSpec)) fnCanonDiffCard

/-- THE TIED CARD OF 'laws.FnOrderAll'. -/
def fnOrderAllCard : Claim7 := { stood := { row := fnOrderAllRow, standIns := [], harness := (true, "ab24ba3c6fd33eac1f090e9f78007e13e0200c944cb2d0a395ed103970da0c1b"), looks := false }, kinds := [], alts := [], laidByText := true, laidKinds := [.data, .pinned], laidTests := true, laidLooks := .later }
def FnOrderAllCardSaid : Prop := Claim7.holds Tryz.pinned (.plain (OpenSpec.ofChange fnOrderAllSpec)) fnOrderAllCard

/-- THE SECOND FORM's CARD OF 'laws.FnCanonUndo'. -/
def fnCanonUndoUptoCard : Claim7 := { stood := { row := fnCanonUndoUptoRow, standIns := [], harness := (true, "ab24ba3c6fd33eac1f090e9f78007e13e0200c944cb2d0a395ed103970da0c1b"), looks := false }, kinds := [], alts := [], laidByText := true, laidKinds := [.data, .pinned], laidTests := true, laidLooks := .later }
def FnCanonUndoUptoCardSaid : Prop := Claim7.holds Tryz.pinned (.plain (OpenSpec.upto fnCanonUndoSpec)) fnCanonUndoUptoCard

/-- THE SECOND FORM's CARD OF 'laws.FnOrderCanon'. -/
def fnOrderCanonUptoCard : Claim7 := { stood := { row := fnOrderCanonUptoRow, standIns := [], harness := (true, "ab24ba3c6fd33eac1f090e9f78007e13e0200c944cb2d0a395ed103970da0c1b"), looks := false }, kinds := [], alts := [], laidByText := true, laidKinds := [.data, .pinned], laidTests := true, laidLooks := .later }
def FnOrderCanonUptoCardSaid : Prop := Claim7.holds Tryz.pinned (.plain (OpenSpec.upto fnOrderCanonSpec)) fnOrderCanonUptoCard

/-- THE SECOND FORM's CARD OF 'laws.FnCanonIsDiff'. -/
def fnCanonIsDiffUptoCard : Claim7 := { stood := { row := fnCanonIsDiffUptoRow, standIns := [], harness := (true, "ab24ba3c6fd33eac1f090e9f78007e13e0200c944cb2d0a395ed103970da0c1b"), looks := false }, kinds := [], alts := [], laidByText := true, laidKinds := [.data, .pinned], laidTests := true, laidLooks := .later }
def FnCanonIsDiffUptoCardSaid : Prop := Claim7.holds Tryz.pinned (.plain (OpenSpec.upto fnCanonIsDiffSpec)) fnCanonIsDiffUptoCard

/-- THE SECOND FORM's CARD OF 'laws.FnKeepFits'. -/
def fnKeepFitsUptoCard : Claim7 := { stood := { row := fnKeepFitsUptoRow, standIns := [], harness := (true, "ab24ba3c6fd33eac1f090e9f78007e13e0200c944cb2d0a395ed103970da0c1b"), looks := false }, kinds := [], alts := [], laidByText := true, laidKinds := [.data, .pinned], laidTests := true, laidLooks := .later }
def FnKeepFitsUptoCardSaid : Prop := Claim7.holds Tryz.pinned (.plain (OpenSpec.upto fnKeepFitsSpec)) fnKeepFitsUptoCard

/-- THE SECOND FORM's CARD OF 'laws.FnCanonNone'. -/
def fnCanonNoneUptoCard : Claim7 := { stood := { row := fnCanonNoneUptoRow, standIns := [], harness := (true, "ab24ba3c6fd33eac1f090e9f78007e13e0200c944cb2d0a395ed103970da0c1b"), looks := false }, kinds := [], alts := [], laidByText := true, laidKinds := [.data, .pinned], laidTests := true, laidLooks := .later }
def FnCanonNoneUptoCardSaid : Prop := Claim7.holds Tryz.pinned (.plain (OpenSpec.upto fnCanonNoneSpec)) fnCanonNoneUptoCard

/-- THE SECOND FORM's CARD OF 'laws.FnCanonDiff'. -/
def fnCanonDiffUptoCard : Claim7 := { stood := { row := fnCanonDiffUptoRow, standIns := [], harness := (true, "ab24ba3c6fd33eac1f090e9f78007e13e0200c944cb2d0a395ed103970da0c1b"), looks := false }, kinds := [], alts := [], laidByText := true, laidKinds := [.data, .pinned], laidTests := true, laidLooks := .later }
def FnCanonDiffUptoCardSaid : Prop := Claim7.holds Tryz.pinned (.plain (OpenSpec.upto fnCanonDiffSpec)) fnCanonDiffUptoCard

/-- THE SECOND FORM's CARD OF 'laws.FnOrderAll'. -/
def fnOrderAllUptoCard : Claim7 := { stood := { row := fnOrderAllUptoRow, standIns := [], harness := (true, "ab24ba3c6fd33eac1f090e9f78007e13e0200c944cb2d0a395ed103970da0c1b"), looks := false }, kinds := [], alts := [], laidByText := true, laidKinds := [.data, .pinned], laidTests := true, laidLooks := .later }
def FnOrderAllUptoCardSaid : Prop := Claim7.holds Tryz.pinned (.plain (OpenSpec.upto fnOrderAllSpec)) fnOrderAllUptoCard
end Rows
end Go.Proofs.YtjobbcdolbhadaaGreatDoor
