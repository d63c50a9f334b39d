/-
  DERIVED. GIVEN WITH THE SEED: THE CARDS: each row of YtdhbfbnppfcgkaaDoorRows.lean that lists a variable, with what it lists TIED to the program's text (the seventh form; the later family's looks); each row that meets fmt, with fmt's text TOLD by the authors' own Lean function (tested against real Go, not proved from fmt's source: count such statements apart). THE CARD IS WHAT COUNTS. Prove the row's statement (the work); the ties are given (YtdhbfbnppfcgkaaDoorTie.lean); close each card by the builder's one call (the guide's Derived/Test/ToyasCard.lean, 'card_holds'). Laid BY PROGRAM, IN A SANDBOX (cutbox-door.mjs). By AI agents, Wed Nov 11 2026. No macro, syntax, notation, axiom, sorry.
-/
import Derived.Test.YtdhbfbnppfcgkaaDoorRows
import GoSem.ClaimSeven
namespace Go.Proofs.YtdhbfbnppfcgkaaDoor
namespace Rows

/-- THE TIED CARD OF 'laws.FnBytes'. -/
def fnBytesCard : Claim7 := { stood := { row := fnBytesRow, standIns := [], harness := (true, "1015337735b10fa840e9dbff87170476983583c83c72f606bbb2f18d6e6140b6"), looks := false }, kinds := [], alts := [], laidByText := true, laidKinds := [.data, .pinned], laidTests := true, laidLooks := .later }
def FnBytesCardSaid : Prop := Claim7.holds Tryd.pinned (.plain (OpenSpec.ofChange fnBytesSpec)) fnBytesCard

/-- THE TIED CARD OF 'laws.FnFrom'. -/
def fnFromCard : Claim7 := { stood := { row := fnFromRow, standIns := [], harness := (true, "1015337735b10fa840e9dbff87170476983583c83c72f606bbb2f18d6e6140b6"), looks := false }, kinds := [], alts := [], laidByText := true, laidKinds := [.data, .pinned], laidTests := true, laidLooks := .later }
def FnFromCardSaid : Prop := Claim7.holds Tryd.pinned (.plain (OpenSpec.ofChange fnFromSpec)) fnFromCard

/-- THE TIED CARD OF 'laws.FnExactBookBytes'. -/
def fnExactBookBytesCard : Claim7 := { stood := { row := fnExactBookBytesRow, standIns := [], harness := (true, "1015337735b10fa840e9dbff87170476983583c83c72f606bbb2f18d6e6140b6"), looks := false }, kinds := [], alts := [], laidByText := true, laidKinds := [.data, .pinned], laidTests := true, laidLooks := .later }
def FnExactBookBytesCardSaid : Prop := Claim7.holds Tryd.pinned (.plain (OpenSpec.ofChange fnExactBookBytesSpec)) fnExactBookBytesCard

/-- THE TIED CARD OF 'laws.FnExactBookLoad'. -/
def fnExactBookLoadCard : Claim7 := { stood := { row := fnExactBookLoadRow, standIns := [], harness := (true, "1015337735b10fa840e9dbff87170476983583c83c72f606bbb2f18d6e6140b6"), looks := false }, kinds := [], alts := [], laidByText := true, laidKinds := [.data, .pinned], laidTests := true, laidLooks := .later }
def FnExactBookLoadCardSaid : Prop := Claim7.holds Tryd.pinned (.plain (OpenSpec.ofChange fnExactBookLoadSpec)) fnExactBookLoadCard

/-- THE TIED CARD OF 'laws.FnLogBytesJoin'. -/
def fnLogBytesJoinCard : Claim7 := { stood := { row := fnLogBytesJoinRow, standIns := [], harness := (true, "1015337735b10fa840e9dbff87170476983583c83c72f606bbb2f18d6e6140b6"), looks := false }, kinds := [], alts := [], laidByText := true, laidKinds := [.data, .pinned], laidTests := true, laidLooks := .later }
def FnLogBytesJoinCardSaid : Prop := Claim7.holds Tryd.pinned (.plain (OpenSpec.ofChange fnLogBytesJoinSpec)) fnLogBytesJoinCard

/-- THE TIED CARD OF 'laws.FnLogBytes'. -/
def fnLogBytesCard : Claim7 := { stood := { row := fnLogBytesRow, standIns := [], harness := (true, "1015337735b10fa840e9dbff87170476983583c83c72f606bbb2f18d6e6140b6"), looks := false }, kinds := [], alts := [], laidByText := true, laidKinds := [.data, .pinned], laidTests := true, laidLooks := .later }
def FnLogBytesCardSaid : Prop := Claim7.holds Tryd.pinned (.plain (OpenSpec.ofChange fnLogBytesSpec)) fnLogBytesCard

/-- THE TIED CARD OF 'laws.FnLogTorn'. -/
def fnLogTornCard : Claim7 := { stood := { row := fnLogTornRow, standIns := [], harness := (true, "1015337735b10fa840e9dbff87170476983583c83c72f606bbb2f18d6e6140b6"), looks := false }, kinds := [], alts := [], laidByText := true, laidKinds := [.data, .pinned], laidTests := true, laidLooks := .later }
def FnLogTornCardSaid : Prop := Claim7.holds Tryd.pinned (.plain (OpenSpec.ofChange fnLogTornSpec)) fnLogTornCard

/-- THE TIED CARD OF 'laws.FnBookTorn'. -/
def fnBookTornCard : Claim7 := { stood := { row := fnBookTornRow, standIns := [], harness := (true, "1015337735b10fa840e9dbff87170476983583c83c72f606bbb2f18d6e6140b6"), looks := false }, kinds := [], alts := [], laidByText := true, laidKinds := [.data, .pinned], laidTests := true, laidLooks := .later }
def FnBookTornCardSaid : Prop := Claim7.holds Tryd.pinned (.plain (OpenSpec.ofChange fnBookTornSpec)) fnBookTornCard

/-- THE TIED CARD OF 'laws.FnBook'. -/
def fnBookCard : Claim7 := { stood := { row := fnBookRow, standIns := [], harness := (true, "1015337735b10fa840e9dbff87170476983583c83c72f606bbb2f18d6e6140b6"), looks := false }, kinds := [], alts := [], laidByText := true, laidKinds := [.data, .pinned], laidTests := true, laidLooks := .later }
def FnBookCardSaid : Prop := Claim7.holds Tryd.pinned (.plain (OpenSpec.ofChange fnBookSpec)) fnBookCard

/-- THE TIED CARD OF 'laws.FnLoadAgain'. -/
def fnLoadAgainCard : Claim7 := { stood := { row := fnLoadAgainRow, standIns := [], harness := (true, "1015337735b10fa840e9dbff87170476983583c83c72f606bbb2f18d6e6140b6"), looks := false }, kinds := [], alts := [], laidByText := true, laidKinds := [.data, .pinned], laidTests := true, laidLooks := .later }
def FnLoadAgainCardSaid : Prop := Claim7.holds Tryd.pinned (.plain (OpenSpec.ofChange fnLoadAgainSpec)) fnLoadAgainCard

/-- THE TIED CARD OF 'laws.FnLoad'. -/
def fnLoadCard : Claim7 := { stood := { row := fnLoadRow, standIns := [], harness := (true, "1015337735b10fa840e9dbff87170476983583c83c72f606bbb2f18d6e6140b6"), looks := false }, kinds := [], alts := [], laidByText := true, laidKinds := [.data, .pinned], laidTests := true, laidLooks := .later }
def FnLoadCardSaid : Prop := Claim7.holds Tryd.pinned (.plain (OpenSpec.ofChange fnLoadSpec)) fnLoadCard

/-- THE TIED CARD OF 'laws.FnBookEpoch'. -/
def fnBookEpochCard : Claim7 := { stood := { row := fnBookEpochRow, standIns := [], harness := (true, "1015337735b10fa840e9dbff87170476983583c83c72f606bbb2f18d6e6140b6"), looks := false }, kinds := [], alts := [], laidByText := true, laidKinds := [.data, .pinned], laidTests := true, laidLooks := .later }
def FnBookEpochCardSaid : Prop := Claim7.holds Tryd.pinned (.plain (OpenSpec.ofChange fnBookEpochSpec)) fnBookEpochCard

/-- THE SECOND FORM's CARD OF 'laws.FnBytes'. -/
def fnBytesUptoCard : Claim7 := { stood := { row := fnBytesUptoRow, standIns := [], harness := (true, "1015337735b10fa840e9dbff87170476983583c83c72f606bbb2f18d6e6140b6"), looks := false }, kinds := [], alts := [], laidByText := true, laidKinds := [.data, .pinned], laidTests := true, laidLooks := .later }
def FnBytesUptoCardSaid : Prop := Claim7.holds Tryd.pinned (.plain (OpenSpec.upto fnBytesSpec)) fnBytesUptoCard

/-- THE SECOND FORM's CARD OF 'laws.FnFrom'. -/
def fnFromUptoCard : Claim7 := { stood := { row := fnFromUptoRow, standIns := [], harness := (true, "1015337735b10fa840e9dbff87170476983583c83c72f606bbb2f18d6e6140b6"), looks := false }, kinds := [], alts := [], laidByText := true, laidKinds := [.data, .pinned], laidTests := true, laidLooks := .later }
def FnFromUptoCardSaid : Prop := Claim7.holds Tryd.pinned (.plain (OpenSpec.upto fnFromSpec)) fnFromUptoCard

/-- THE SECOND FORM's CARD OF 'laws.FnExactBookBytes'. -/
def fnExactBookBytesUptoCard : Claim7 := { stood := { row := fnExactBookBytesUptoRow, standIns := [], harness := (true, "1015337735b10fa840e9dbff87170476983583c83c72f606bbb2f18d6e6140b6"), looks := false }, kinds := [], alts := [], laidByText := true, laidKinds := [.data, .pinned], laidTests := true, laidLooks := .later }
def FnExactBookBytesUptoCardSaid : Prop := Claim7.holds Tryd.pinned (.plain (OpenSpec.upto fnExactBookBytesSpec)) fnExactBookBytesUptoCard

/-- THE SECOND FORM's CARD OF 'laws.FnExactBookLoad'. -/
def fnExactBookLoadUptoCard : Claim7 := { stood := { row := fnExactBookLoadUptoRow, standIns := [], harness := (true, "1015337735b10fa840e9dbff87170476983583c83c72f606bbb2f18d6e6140b6"), looks := false }, kinds := [], alts := [], laidByText := true, laidKinds := [.data, .pinned], laidTests := true, laidLooks := .later }
def FnExactBookLoadUptoCardSaid : Prop := Claim7.holds Tryd.pinned (.plain (OpenSpec.upto fnExactBookLoadSpec)) fnExactBookLoadUptoCard

/-- THE SECOND FORM's CARD OF 'laws.FnLogBytesJoin'. -/
def fnLogBytesJoinUptoCard : Claim7 := { stood := { row := fnLogBytesJoinUptoRow, standIns := [], harness := (true, "1015337735b10fa840e9dbff87170476983583c83c72f606bbb2f18d6e6140b6"), looks := false }, kinds := [], alts := [], laidByText := true, laidKinds := [.data, .pinned], laidTests := true, laidLooks := .later }
def FnLogBytesJoinUptoCardSaid : Prop := Claim7.holds Tryd.pinned (.plain (OpenSpec.upto fnLogBytesJoinSpec)) fnLogBytesJoinUptoCard

/-- THE SECOND FORM's CARD OF 'laws.FnLogBytes'. -/
def fnLogBytesUptoCard : Claim7 := { stood := { row := fnLogBytesUptoRow, standIns := [], harness := (true, "1015337735b10fa840e9dbff87170476983583c83c72f606bbb2f18d6e6140b6"), looks := false }, kinds := [], alts := [], laidByText := true, laidKinds := [.data, .pinned], laidTests := true, laidLooks := .later }
def FnLogBytesUptoCardSaid : Prop := Claim7.holds Tryd.pinned (.plain (OpenSpec.upto fnLogBytesSpec)) fnLogBytesUptoCard

/-- THE SECOND FORM's CARD OF 'laws.FnLogTorn'. -/
def fnLogTornUptoCard : Claim7 := { stood := { row := fnLogTornUptoRow, standIns := [], harness := (true, "1015337735b10fa840e9dbff87170476983583c83c72f606bbb2f18d6e6140b6"), looks := false }, kinds := [], alts := [], laidByText := true, laidKinds := [.data, .pinned], laidTests := true, laidLooks := .later }
def FnLogTornUptoCardSaid : Prop := Claim7.holds Tryd.pinned (.plain (OpenSpec.upto fnLogTornSpec)) fnLogTornUptoCard

/-- THE SECOND FORM's CARD OF 'laws.FnBookTorn'. -/
def fnBookTornUptoCard : Claim7 := { stood := { row := fnBookTornUptoRow, standIns := [], harness := (true, "1015337735b10fa840e9dbff87170476983583c83c72f606bbb2f18d6e6140b6"), looks := false }, kinds := [], alts := [], laidByText := true, laidKinds := [.data, .pinned], laidTests := true, laidLooks := .later }
def FnBookTornUptoCardSaid : Prop := Claim7.holds Tryd.pinned (.plain (OpenSpec.upto fnBookTornSpec)) fnBookTornUptoCard

/-- THE SECOND FORM's CARD OF 'laws.FnBook'. -/
def fnBookUptoCard : Claim7 := { stood := { row := fnBookUptoRow, standIns := [], harness := (true, "1015337735b10fa840e9dbff87170476983583c83c72f606bbb2f18d6e6140b6"), looks := false }, kinds := [], alts := [], laidByText := true, laidKinds := [.data, .pinned], laidTests := true, laidLooks := .later }
def FnBookUptoCardSaid : Prop := Claim7.holds Tryd.pinned (.plain (OpenSpec.upto fnBookSpec)) fnBookUptoCard

/-- THE SECOND FORM's CARD OF 'laws.FnLoadAgain'. -/
def fnLoadAgainUptoCard : Claim7 := { stood := { row := fnLoadAgainUptoRow, standIns := [], harness := (true, "1015337735b10fa840e9dbff87170476983583c83c72f606bbb2f18d6e6140b6"), looks := false }, kinds := [], alts := [], laidByText := true, laidKinds := [.data, .pinned], laidTests := true, laidLooks := .later }
def FnLoadAgainUptoCardSaid : Prop := Claim7.holds Tryd.pinned (.plain (OpenSpec.upto fnLoadAgainSpec)) fnLoadAgainUptoCard

/-- THE SECOND FORM's CARD OF 'laws.FnLoad'. -/
def fnLoadUptoCard : Claim7 := { stood := { row := fnLoadUptoRow, standIns := [], harness := (true, "1015337735b10fa840e9dbff87170476983583c83c72f606bbb2f18d6e6140b6"), looks := false }, kinds := [], alts := [], laidByText := true, laidKinds := [.data, .pinned], laidTests := true, laidLooks := .later }
def FnLoadUptoCardSaid : Prop := Claim7.holds Tryd.pinned (.plain (OpenSpec.upto fnLoadSpec)) fnLoadUptoCard

/-- THE SECOND FORM's CARD OF 'laws.FnBookEpoch'. -/
def fnBookEpochUptoCard : Claim7 := { stood := { row := fnBookEpochUptoRow, standIns := [], harness := (true, "1015337735b10fa840e9dbff87170476983583c83c72f606bbb2f18d6e6140b6"), looks := false }, kinds := [], alts := [], laidByText := true, laidKinds := [.data, .pinned], laidTests := true, laidLooks := .later }
def FnBookEpochUptoCardSaid : Prop := Claim7.holds Tryd.pinned (.plain (OpenSpec.upto fnBookEpochSpec)) fnBookEpochUptoCard
end Rows
end Go.Proofs.YtdhbfbnppfcgkaaDoor
