/-
  NARROWER THAN 'FOR EVERY INPUT', by the rows' own cells (each row's printed sentence says how): FnBytes: laid · FnFrom: laid · FnExactBookBytes: laid · FnExactBookLoad: laid · FnLogBytesJoin: laid · FnLogBytes: laid · FnLogTorn: laid · FnBookTorn: laid · FnBook: laid · FnLoadAgain: laid · FnLoad: laid · FnBookEpoch: laid.
  DERIVED. THE GIVEN ROWS OF THIS SEAT. 12 by the template 'for every input the law returns true; each argument reads behind the call as it read before'; 0 by the template 'total and deterministic' (their statements: YtdhbfbnppfcgkaaDoorTotals.lean).
  GIVEN WITH THE SEED: the statements are not yours to turn. If you find one false, say at which input.
  Laid BY PROGRAM, IN A SANDBOX (cutbox-rows.mjs): the forced cells as the released guide's own fill.sh prints them over the translation 0503290e321ac131… (all of the seat's roots in one cut). By AI agents, Wed Nov 11 2026. No macro, syntax, notation, axiom, sorry.
-/
import Derived.Test.YtdhbfbnppfcgkaaDoorChecked
import GoSem.PinnedTables
import GoSem.Claim
import GoSem.ClaimJoined
import GoSem.ClaimMapViews
import Derived.JoinedTies
import Derived.KernelRfl
namespace Go.Proofs.YtdhbfbnppfcgkaaDoor
/- THE CELL 'sum', in the pinned program and in every row, IS THE sha256 OF THE DUMP (.gsa) THAT YtdhbfbnppfcgkaaDoorProg.lean LOADS. Nothing in Lean hashes anything: it is a label: what it is worth is what the hold of that sum in a sandbox is worth. -/
noncomputable def Tryd.pinned : Pinned := { name := "ytdhbfbnppfcgkaadoor", sum := "0503290e321ac131cfa86622a3ea86d1926ce01ed27fef499a7c23be5121e41a", checked := Tryd.checked }
namespace Rows
def none {H : Type} : Left H := { results := [], args := [] }

/- WHAT THE LISTED PACKAGE-LEVEL VARIABLES READ AS WHEN THE CALL BEGINS. Each datum BY PROGRAM (the guide's laid-datum.mjs) off the statement by which the dump's own 'gosem.cut.vars' lays the variable. In a bare row this is a premise. The card (YtdhbfbnppfcgkaaDoorCards.lean) ties it to the program's text. -/
def laid_unicode_utf8_acceptRanges {H : Type} : DataW H := .agg [.agg [.lit (.int .u8 128), .lit (.int .u8 191)], .agg [.lit (.int .u8 160), .lit (.int .u8 191)], .agg [.lit (.int .u8 128), .lit (.int .u8 159)], .agg [.lit (.int .u8 144), .lit (.int .u8 191)], .agg [.lit (.int .u8 128), .lit (.int .u8 143)], .agg [.lit (.int .u8 0), .lit (.int .u8 0)], .agg [.lit (.int .u8 0), .lit (.int .u8 0)], .agg [.lit (.int .u8 0), .lit (.int .u8 0)], .agg [.lit (.int .u8 0), .lit (.int .u8 0)], .agg [.lit (.int .u8 0), .lit (.int .u8 0)], .agg [.lit (.int .u8 0), .lit (.int .u8 0)], .agg [.lit (.int .u8 0), .lit (.int .u8 0)], .agg [.lit (.int .u8 0), .lit (.int .u8 0)], .agg [.lit (.int .u8 0), .lit (.int .u8 0)], .agg [.lit (.int .u8 0), .lit (.int .u8 0)], .agg [.lit (.int .u8 0), .lit (.int .u8 0)]]
/-- One of Go's own tables, pinned by name: the form's constant. -/
def laid_unicode_utf8_first : DataW Unit := Go.Pinned.utf8First

/-- 'laws.FnBytes': WHATEVER THE INPUT: true; the input reads as it did. -/
def fnBytesSpec : ChangeSpec := { name := "fnBytes", fn := fun _ => fun
  | [d] => { results := [.lit (.bool true)], args := [d] }
  | _ => none }
def fnBytesRow : OpenClaim := { program := "ytdhbfbnppfcgkaadoor", sum := "0503290e321ac131cfa86622a3ea86d1926ce01ed27fef499a7c23be5121e41a", func := "loop.example/filereconciler/laws.FnBytes", spec := "fnBytes", inPlace := ["internal/bytealg.CountString", "internal/bytealg.IndexByteString", "internal/bytealg.IndexString"], unfollowed := true, recurses := true, named := ["unicode/utf8.first", "unicode/utf8.acceptRanges", "internal/bytealg.MaxLen"], apart := false, laid := [("unicode/utf8.acceptRanges", laid_unicode_utf8_acceptRanges), ("unicode/utf8.first", laid_unicode_utf8_first)] }
def FnBytesSaid : Prop := fnBytesRow.holds Tryd.pinned (OpenSpec.ofChange fnBytesSpec)

/-- ITS FALSE NEIGHBOUR: 'it returns false'. Refute it at one input. -/
def fnBytesWrong : ChangeSpec := { name := "fnBytes", fn := fun _ => fun
  | [d] => { results := [.lit (.bool false)], args := [d] }
  | _ => none }
def FnBytesWrongFalsely : Prop := fnBytesRow.holds Tryd.pinned (OpenSpec.ofChange fnBytesWrong)

/-- 'laws.FnFrom': WHATEVER THE INPUT: true; the input reads as it did. -/
def fnFromSpec : ChangeSpec := { name := "fnFrom", fn := fun _ => fun
  | [d] => { results := [.lit (.bool true)], args := [d] }
  | _ => none }
def fnFromRow : OpenClaim := { program := "ytdhbfbnppfcgkaadoor", sum := "0503290e321ac131cfa86622a3ea86d1926ce01ed27fef499a7c23be5121e41a", func := "loop.example/filereconciler/laws.FnFrom", spec := "fnFrom", inPlace := ["internal/bytealg.CountString", "internal/bytealg.IndexByteString", "internal/bytealg.IndexString"], unfollowed := true, recurses := true, named := ["unicode/utf8.first", "unicode/utf8.acceptRanges", "internal/bytealg.MaxLen"], apart := false, laid := [("unicode/utf8.acceptRanges", laid_unicode_utf8_acceptRanges), ("unicode/utf8.first", laid_unicode_utf8_first)] }
def FnFromSaid : Prop := fnFromRow.holds Tryd.pinned (OpenSpec.ofChange fnFromSpec)

/-- ITS FALSE NEIGHBOUR: 'it returns false'. Refute it at one input. -/
def fnFromWrong : ChangeSpec := { name := "fnFrom", fn := fun _ => fun
  | [d] => { results := [.lit (.bool false)], args := [d] }
  | _ => none }
def FnFromWrongFalsely : Prop := fnFromRow.holds Tryd.pinned (OpenSpec.ofChange fnFromWrong)

/-- 'laws.FnExactBookBytes': WHATEVER THE INPUT: true; the input reads as it did. -/
def fnExactBookBytesSpec : ChangeSpec := { name := "fnExactBookBytes", fn := fun _ => fun
  | [d] => { results := [.lit (.bool true)], args := [d] }
  | _ => none }
def fnExactBookBytesRow : OpenClaim := { program := "ytdhbfbnppfcgkaadoor", sum := "0503290e321ac131cfa86622a3ea86d1926ce01ed27fef499a7c23be5121e41a", func := "loop.example/filereconciler/laws.FnExactBookBytes", spec := "fnExactBookBytes", inPlace := ["internal/bytealg.CountString", "internal/bytealg.IndexByteString", "internal/bytealg.IndexString"], unfollowed := true, recurses := true, named := ["unicode/utf8.first", "unicode/utf8.acceptRanges", "internal/bytealg.MaxLen"], apart := false, laid := [("unicode/utf8.acceptRanges", laid_unicode_utf8_acceptRanges), ("unicode/utf8.first", laid_unicode_utf8_first)] }
def FnExactBookBytesSaid : Prop := fnExactBookBytesRow.holds Tryd.pinned (OpenSpec.ofChange fnExactBookBytesSpec)

/-- ITS FALSE NEIGHBOUR: 'it returns false'. Refute it at one input. -/
def fnExactBookBytesWrong : ChangeSpec := { name := "fnExactBookBytes", fn := fun _ => fun
  | [d] => { results := [.lit (.bool false)], args := [d] }
  | _ => none }
def FnExactBookBytesWrongFalsely : Prop := fnExactBookBytesRow.holds Tryd.pinned (OpenSpec.ofChange fnExactBookBytesWrong)

/-- 'laws.FnExactBookLoad': WHATEVER THE INPUT: true; the input reads as it did. -/
def fnExactBookLoadSpec : ChangeSpec := { name := "fnExactBookLoad", fn := fun _ => fun
  | [d] => { results := [.lit (.bool true)], args := [d] }
  | _ => none }
def fnExactBookLoadRow : OpenClaim := { program := "ytdhbfbnppfcgkaadoor", sum := "0503290e321ac131cfa86622a3ea86d1926ce01ed27fef499a7c23be5121e41a", func := "loop.example/filereconciler/laws.FnExactBookLoad", spec := "fnExactBookLoad", inPlace := ["internal/bytealg.CountString", "internal/bytealg.IndexByteString", "internal/bytealg.IndexString"], unfollowed := true, recurses := true, named := ["unicode/utf8.first", "unicode/utf8.acceptRanges", "internal/bytealg.MaxLen"], apart := false, laid := [("unicode/utf8.acceptRanges", laid_unicode_utf8_acceptRanges), ("unicode/utf8.first", laid_unicode_utf8_first)] }
def FnExactBookLoadSaid : Prop := fnExactBookLoadRow.holds Tryd.pinned (OpenSpec.ofChange fnExactBookLoadSpec)

/-- ITS FALSE NEIGHBOUR: 'it returns false'. Refute it at one input. -/
def fnExactBookLoadWrong : ChangeSpec := { name := "fnExactBookLoad", fn := fun _ => fun
  | [d] => { results := [.lit (.bool false)], args := [d] }
  | _ => none }
def FnExactBookLoadWrongFalsely : Prop := fnExactBookLoadRow.holds Tryd.pinned (OpenSpec.ofChange fnExactBookLoadWrong)

/-- 'laws.FnLogBytesJoin': WHATEVER THE INPUT: true; the input reads as it did. -/
def fnLogBytesJoinSpec : ChangeSpec := { name := "fnLogBytesJoin", fn := fun _ => fun
  | [d1, d2] => { results := [.lit (.bool true)], args := [d1, d2] }
  | _ => none }
def fnLogBytesJoinRow : OpenClaim := { program := "ytdhbfbnppfcgkaadoor", sum := "0503290e321ac131cfa86622a3ea86d1926ce01ed27fef499a7c23be5121e41a", func := "loop.example/filereconciler/laws.FnLogBytesJoin", spec := "fnLogBytesJoin", inPlace := ["internal/bytealg.CountString", "internal/bytealg.IndexByteString", "internal/bytealg.IndexString"], unfollowed := true, recurses := true, named := ["unicode/utf8.first", "unicode/utf8.acceptRanges", "internal/bytealg.MaxLen"], apart := false, laid := [("unicode/utf8.acceptRanges", laid_unicode_utf8_acceptRanges), ("unicode/utf8.first", laid_unicode_utf8_first)] }
def FnLogBytesJoinSaid : Prop := fnLogBytesJoinRow.holds Tryd.pinned (OpenSpec.ofChange fnLogBytesJoinSpec)

/-- ITS FALSE NEIGHBOUR: 'it returns false'. Refute it at one input. -/
def fnLogBytesJoinWrong : ChangeSpec := { name := "fnLogBytesJoin", fn := fun _ => fun
  | [d1, d2] => { results := [.lit (.bool false)], args := [d1, d2] }
  | _ => none }
def FnLogBytesJoinWrongFalsely : Prop := fnLogBytesJoinRow.holds Tryd.pinned (OpenSpec.ofChange fnLogBytesJoinWrong)

/-- 'laws.FnLogBytes': WHATEVER THE INPUT: true; the input reads as it did. -/
def fnLogBytesSpec : ChangeSpec := { name := "fnLogBytes", fn := fun _ => fun
  | [d] => { results := [.lit (.bool true)], args := [d] }
  | _ => none }
def fnLogBytesRow : OpenClaim := { program := "ytdhbfbnppfcgkaadoor", sum := "0503290e321ac131cfa86622a3ea86d1926ce01ed27fef499a7c23be5121e41a", func := "loop.example/filereconciler/laws.FnLogBytes", spec := "fnLogBytes", inPlace := ["internal/bytealg.CountString", "internal/bytealg.IndexByteString", "internal/bytealg.IndexString"], unfollowed := true, recurses := true, named := ["unicode/utf8.first", "unicode/utf8.acceptRanges", "internal/bytealg.MaxLen"], apart := false, laid := [("unicode/utf8.acceptRanges", laid_unicode_utf8_acceptRanges), ("unicode/utf8.first", laid_unicode_utf8_first)] }
def FnLogBytesSaid : Prop := fnLogBytesRow.holds Tryd.pinned (OpenSpec.ofChange fnLogBytesSpec)

/-- ITS FALSE NEIGHBOUR: 'it returns false'. Refute it at one input. -/
def fnLogBytesWrong : ChangeSpec := { name := "fnLogBytes", fn := fun _ => fun
  | [d] => { results := [.lit (.bool false)], args := [d] }
  | _ => none }
def FnLogBytesWrongFalsely : Prop := fnLogBytesRow.holds Tryd.pinned (OpenSpec.ofChange fnLogBytesWrong)

/-- 'laws.FnLogTorn': WHATEVER THE INPUT: true; the input reads as it did. -/
def fnLogTornSpec : ChangeSpec := { name := "fnLogTorn", fn := fun _ => fun
  | [d1, d2] => { results := [.lit (.bool true)], args := [d1, d2] }
  | _ => none }
def fnLogTornRow : OpenClaim := { program := "ytdhbfbnppfcgkaadoor", sum := "0503290e321ac131cfa86622a3ea86d1926ce01ed27fef499a7c23be5121e41a", func := "loop.example/filereconciler/laws.FnLogTorn", spec := "fnLogTorn", inPlace := ["internal/bytealg.CountString", "internal/bytealg.IndexByteString", "internal/bytealg.IndexString"], unfollowed := true, recurses := true, named := ["unicode/utf8.first", "unicode/utf8.acceptRanges", "internal/bytealg.MaxLen"], apart := false, laid := [("unicode/utf8.acceptRanges", laid_unicode_utf8_acceptRanges), ("unicode/utf8.first", laid_unicode_utf8_first)] }
def FnLogTornSaid : Prop := fnLogTornRow.holds Tryd.pinned (OpenSpec.ofChange fnLogTornSpec)

/-- ITS FALSE NEIGHBOUR: 'it returns false'. Refute it at one input. -/
def fnLogTornWrong : ChangeSpec := { name := "fnLogTorn", fn := fun _ => fun
  | [d1, d2] => { results := [.lit (.bool false)], args := [d1, d2] }
  | _ => none }
def FnLogTornWrongFalsely : Prop := fnLogTornRow.holds Tryd.pinned (OpenSpec.ofChange fnLogTornWrong)

/-- 'laws.FnBookTorn': WHATEVER THE INPUT: true; the input reads as it did. -/
def fnBookTornSpec : ChangeSpec := { name := "fnBookTorn", fn := fun _ => fun
  | [d1, d2] => { results := [.lit (.bool true)], args := [d1, d2] }
  | _ => none }
def fnBookTornRow : OpenClaim := { program := "ytdhbfbnppfcgkaadoor", sum := "0503290e321ac131cfa86622a3ea86d1926ce01ed27fef499a7c23be5121e41a", func := "loop.example/filereconciler/laws.FnBookTorn", spec := "fnBookTorn", inPlace := ["internal/bytealg.CountString", "internal/bytealg.IndexByteString", "internal/bytealg.IndexString"], unfollowed := true, recurses := true, named := ["unicode/utf8.first", "unicode/utf8.acceptRanges", "internal/bytealg.MaxLen"], apart := false, laid := [("unicode/utf8.acceptRanges", laid_unicode_utf8_acceptRanges), ("unicode/utf8.first", laid_unicode_utf8_first)] }
def FnBookTornSaid : Prop := fnBookTornRow.holds Tryd.pinned (OpenSpec.ofChange fnBookTornSpec)

/-- ITS FALSE NEIGHBOUR: 'it returns false'. Refute it at one input. -/
def fnBookTornWrong : ChangeSpec := { name := "fnBookTorn", fn := fun _ => fun
  | [d1, d2] => { results := [.lit (.bool false)], args := [d1, d2] }
  | _ => none }
def FnBookTornWrongFalsely : Prop := fnBookTornRow.holds Tryd.pinned (OpenSpec.ofChange fnBookTornWrong)

/-- 'laws.FnBook': WHATEVER THE INPUT: true; the input reads as it did. -/
def fnBookSpec : ChangeSpec := { name := "fnBook", fn := fun _ => fun
  | [d] => { results := [.lit (.bool true)], args := [d] }
  | _ => none }
def fnBookRow : OpenClaim := { program := "ytdhbfbnppfcgkaadoor", sum := "0503290e321ac131cfa86622a3ea86d1926ce01ed27fef499a7c23be5121e41a", func := "loop.example/filereconciler/laws.FnBook", spec := "fnBook", inPlace := ["internal/bytealg.CountString", "internal/bytealg.IndexByteString", "internal/bytealg.IndexString"], unfollowed := true, recurses := true, named := ["unicode/utf8.first", "unicode/utf8.acceptRanges", "internal/bytealg.MaxLen"], apart := false, laid := [("unicode/utf8.acceptRanges", laid_unicode_utf8_acceptRanges), ("unicode/utf8.first", laid_unicode_utf8_first)] }
def FnBookSaid : Prop := fnBookRow.holds Tryd.pinned (OpenSpec.ofChange fnBookSpec)

/-- ITS FALSE NEIGHBOUR: 'it returns false'. Refute it at one input. -/
def fnBookWrong : ChangeSpec := { name := "fnBook", fn := fun _ => fun
  | [d] => { results := [.lit (.bool false)], args := [d] }
  | _ => none }
def FnBookWrongFalsely : Prop := fnBookRow.holds Tryd.pinned (OpenSpec.ofChange fnBookWrong)

/-- 'laws.FnLoadAgain': WHATEVER THE INPUT: true; the input reads as it did. -/
def fnLoadAgainSpec : ChangeSpec := { name := "fnLoadAgain", fn := fun _ => fun
  | [d] => { results := [.lit (.bool true)], args := [d] }
  | _ => none }
def fnLoadAgainRow : OpenClaim := { program := "ytdhbfbnppfcgkaadoor", sum := "0503290e321ac131cfa86622a3ea86d1926ce01ed27fef499a7c23be5121e41a", func := "loop.example/filereconciler/laws.FnLoadAgain", spec := "fnLoadAgain", inPlace := ["internal/bytealg.CountString", "internal/bytealg.IndexByteString", "internal/bytealg.IndexString"], unfollowed := true, recurses := true, named := ["unicode/utf8.first", "unicode/utf8.acceptRanges", "internal/bytealg.MaxLen"], apart := false, laid := [("unicode/utf8.acceptRanges", laid_unicode_utf8_acceptRanges), ("unicode/utf8.first", laid_unicode_utf8_first)] }
def FnLoadAgainSaid : Prop := fnLoadAgainRow.holds Tryd.pinned (OpenSpec.ofChange fnLoadAgainSpec)

/-- ITS FALSE NEIGHBOUR: 'it returns false'. Refute it at one input. -/
def fnLoadAgainWrong : ChangeSpec := { name := "fnLoadAgain", fn := fun _ => fun
  | [d] => { results := [.lit (.bool false)], args := [d] }
  | _ => none }
def FnLoadAgainWrongFalsely : Prop := fnLoadAgainRow.holds Tryd.pinned (OpenSpec.ofChange fnLoadAgainWrong)

/-- 'laws.FnLoad': WHATEVER THE INPUT: true; the input reads as it did. -/
def fnLoadSpec : ChangeSpec := { name := "fnLoad", fn := fun _ => fun
  | [d] => { results := [.lit (.bool true)], args := [d] }
  | _ => none }
def fnLoadRow : OpenClaim := { program := "ytdhbfbnppfcgkaadoor", sum := "0503290e321ac131cfa86622a3ea86d1926ce01ed27fef499a7c23be5121e41a", func := "loop.example/filereconciler/laws.FnLoad", spec := "fnLoad", inPlace := ["internal/bytealg.CountString", "internal/bytealg.IndexByteString", "internal/bytealg.IndexString"], unfollowed := true, recurses := true, named := ["unicode/utf8.first", "unicode/utf8.acceptRanges", "internal/bytealg.MaxLen"], apart := false, laid := [("unicode/utf8.acceptRanges", laid_unicode_utf8_acceptRanges), ("unicode/utf8.first", laid_unicode_utf8_first)] }
def FnLoadSaid : Prop := fnLoadRow.holds Tryd.pinned (OpenSpec.ofChange fnLoadSpec)

/-- ITS FALSE NEIGHBOUR: 'it returns false'. Refute it at one input. -/
def fnLoadWrong : ChangeSpec := { name := "fnLoad", fn := fun _ => fun
  | [d] => { results := [.lit (.bool false)], args := [d] }
  | _ => none }
def FnLoadWrongFalsely : Prop := fnLoadRow.holds Tryd.pinned (OpenSpec.ofChange fnLoadWrong)

/-- 'laws.FnBookEpoch': WHATEVER THE INPUT: true; the input reads as it did. -/
def fnBookEpochSpec : ChangeSpec := { name := "fnBookEpoch", fn := fun _ => fun
  | [d] => { results := [.lit (.bool true)], args := [d] }
  | _ => none }
def fnBookEpochRow : OpenClaim := { program := "ytdhbfbnppfcgkaadoor", sum := "0503290e321ac131cfa86622a3ea86d1926ce01ed27fef499a7c23be5121e41a", func := "loop.example/filereconciler/laws.FnBookEpoch", spec := "fnBookEpoch", inPlace := ["internal/bytealg.CountString", "internal/bytealg.IndexByteString", "internal/bytealg.IndexString"], unfollowed := true, recurses := true, named := ["unicode/utf8.first", "unicode/utf8.acceptRanges", "internal/bytealg.MaxLen"], apart := false, laid := [("unicode/utf8.acceptRanges", laid_unicode_utf8_acceptRanges), ("unicode/utf8.first", laid_unicode_utf8_first)] }
def FnBookEpochSaid : Prop := fnBookEpochRow.holds Tryd.pinned (OpenSpec.ofChange fnBookEpochSpec)

/-- ITS FALSE NEIGHBOUR: 'it returns false'. Refute it at one input. -/
def fnBookEpochWrong : ChangeSpec := { name := "fnBookEpoch", fn := fun _ => fun
  | [d] => { results := [.lit (.bool false)], args := [d] }
  | _ => none }
def FnBookEpochWrongFalsely : Prop := fnBookEpochRow.holds Tryd.pinned (OpenSpec.ofChange fnBookEpochWrong)

/- THE SECOND FORM. 'bulk': how many values and letters a reading holds, each counted each time it is reached (what is shared counts as often as it is met; a slice's spare places count too). A statement '..UptoSaid' is the law's where the arguments, and the package variables that the reading takes, are together of bulk at most 1048576: NARROWER than '..Said'. Prove '..Said' where nothing that the law and all that it calls make is longer than what came in: it says more and counts as full. Else prove '..UptoSaid'. A law counts once. -/
mutual
def uptoBulk {H : Type} : DataW H → Nat
  | .lit (.string bytes) => bytes.length + 1
  | .lit _ => 1
  | .nil => 1
  | .ptr d => uptoBulk d + 1
  | .slice elems spare => uptoBulkAll elems + uptoBulkAll spare + 1
  | .agg parts => uptoBulkAll parts + 1
  | .iface _ d => uptoBulk d + 1
  | .map entries => uptoBulkEntries entries + 1
  | .held _ => 1
def uptoBulkAll {H : Type} : List (DataW H) → Nat
  | [] => 0
  | d :: r => uptoBulk d + uptoBulkAll r
def uptoBulkEntries {H : Type} : List (Lit × DataW H) → Nat
  | [] => 0
  | x :: r => uptoBulkEntry x + uptoBulkEntries r
def uptoBulkEntry {H : Type} : Lit × DataW H → Nat
  | (.string bytes, d) => bytes.length + uptoBulk d + 1
  | (_, d) => uptoBulk d + 1
 end
def uptoSmall : (H : Type) → List (DataW H) → Bool := fun _ ds => decide (uptoBulkAll ds ≤ 1048576)
def OpenSpec.upto (s : _root_.Go.ChangeSpec) : _root_.Go.OpenSpec := { _root_.Go.OpenSpec.ofChange s with cond := some uptoSmall }

/-- 'laws.FnBytes', WHERE WHAT IT READS IS OF BULK AT MOST 1048576: true; the input reads as it did. -/
def fnBytesUptoRow : OpenClaim := { program := "ytdhbfbnppfcgkaadoor", sum := "0503290e321ac131cfa86622a3ea86d1926ce01ed27fef499a7c23be5121e41a", func := "loop.example/filereconciler/laws.FnBytes", spec := "fnBytes", inPlace := ["internal/bytealg.CountString", "internal/bytealg.IndexByteString", "internal/bytealg.IndexString"], unfollowed := true, recurses := true, named := ["unicode/utf8.first", "unicode/utf8.acceptRanges", "internal/bytealg.MaxLen"], apart := false, laid := [("unicode/utf8.acceptRanges", laid_unicode_utf8_acceptRanges), ("unicode/utf8.first", laid_unicode_utf8_first)], narrowed := true }
def FnBytesUptoSaid : Prop := fnBytesUptoRow.holds Tryd.pinned (OpenSpec.upto fnBytesSpec)

/-- 'laws.FnFrom', WHERE WHAT IT READS IS OF BULK AT MOST 1048576: true; the input reads as it did. -/
def fnFromUptoRow : OpenClaim := { program := "ytdhbfbnppfcgkaadoor", sum := "0503290e321ac131cfa86622a3ea86d1926ce01ed27fef499a7c23be5121e41a", func := "loop.example/filereconciler/laws.FnFrom", spec := "fnFrom", inPlace := ["internal/bytealg.CountString", "internal/bytealg.IndexByteString", "internal/bytealg.IndexString"], unfollowed := true, recurses := true, named := ["unicode/utf8.first", "unicode/utf8.acceptRanges", "internal/bytealg.MaxLen"], apart := false, laid := [("unicode/utf8.acceptRanges", laid_unicode_utf8_acceptRanges), ("unicode/utf8.first", laid_unicode_utf8_first)], narrowed := true }
def FnFromUptoSaid : Prop := fnFromUptoRow.holds Tryd.pinned (OpenSpec.upto fnFromSpec)

/-- 'laws.FnExactBookBytes', WHERE WHAT IT READS IS OF BULK AT MOST 1048576: true; the input reads as it did. -/
def fnExactBookBytesUptoRow : OpenClaim := { program := "ytdhbfbnppfcgkaadoor", sum := "0503290e321ac131cfa86622a3ea86d1926ce01ed27fef499a7c23be5121e41a", func := "loop.example/filereconciler/laws.FnExactBookBytes", spec := "fnExactBookBytes", inPlace := ["internal/bytealg.CountString", "internal/bytealg.IndexByteString", "internal/bytealg.IndexString"], unfollowed := true, recurses := true, named := ["unicode/utf8.first", "unicode/utf8.acceptRanges", "internal/bytealg.MaxLen"], apart := false, laid := [("unicode/utf8.acceptRanges", laid_unicode_utf8_acceptRanges), ("unicode/utf8.first", laid_unicode_utf8_first)], narrowed := true }
def FnExactBookBytesUptoSaid : Prop := fnExactBookBytesUptoRow.holds Tryd.pinned (OpenSpec.upto fnExactBookBytesSpec)

/-- 'laws.FnExactBookLoad', WHERE WHAT IT READS IS OF BULK AT MOST 1048576: true; the input reads as it did. -/
def fnExactBookLoadUptoRow : OpenClaim := { program := "ytdhbfbnppfcgkaadoor", sum := "0503290e321ac131cfa86622a3ea86d1926ce01ed27fef499a7c23be5121e41a", func := "loop.example/filereconciler/laws.FnExactBookLoad", spec := "fnExactBookLoad", inPlace := ["internal/bytealg.CountString", "internal/bytealg.IndexByteString", "internal/bytealg.IndexString"], unfollowed := true, recurses := true, named := ["unicode/utf8.first", "unicode/utf8.acceptRanges", "internal/bytealg.MaxLen"], apart := false, laid := [("unicode/utf8.acceptRanges", laid_unicode_utf8_acceptRanges), ("unicode/utf8.first", laid_unicode_utf8_first)], narrowed := true }
def FnExactBookLoadUptoSaid : Prop := fnExactBookLoadUptoRow.holds Tryd.pinned (OpenSpec.upto fnExactBookLoadSpec)

/-- 'laws.FnLogBytesJoin', WHERE WHAT IT READS IS OF BULK AT MOST 1048576: true; the input reads as it did. -/
def fnLogBytesJoinUptoRow : OpenClaim := { program := "ytdhbfbnppfcgkaadoor", sum := "0503290e321ac131cfa86622a3ea86d1926ce01ed27fef499a7c23be5121e41a", func := "loop.example/filereconciler/laws.FnLogBytesJoin", spec := "fnLogBytesJoin", inPlace := ["internal/bytealg.CountString", "internal/bytealg.IndexByteString", "internal/bytealg.IndexString"], unfollowed := true, recurses := true, named := ["unicode/utf8.first", "unicode/utf8.acceptRanges", "internal/bytealg.MaxLen"], apart := false, laid := [("unicode/utf8.acceptRanges", laid_unicode_utf8_acceptRanges), ("unicode/utf8.first", laid_unicode_utf8_first)], narrowed := true }
def FnLogBytesJoinUptoSaid : Prop := fnLogBytesJoinUptoRow.holds Tryd.pinned (OpenSpec.upto fnLogBytesJoinSpec)

/-- 'laws.FnLogBytes', WHERE WHAT IT READS IS OF BULK AT MOST 1048576: true; the input reads as it did. -/
def fnLogBytesUptoRow : OpenClaim := { program := "ytdhbfbnppfcgkaadoor", sum := "0503290e321ac131cfa86622a3ea86d1926ce01ed27fef499a7c23be5121e41a", func := "loop.example/filereconciler/laws.FnLogBytes", spec := "fnLogBytes", inPlace := ["internal/bytealg.CountString", "internal/bytealg.IndexByteString", "internal/bytealg.IndexString"], unfollowed := true, recurses := true, named := ["unicode/utf8.first", "unicode/utf8.acceptRanges", "internal/bytealg.MaxLen"], apart := false, laid := [("unicode/utf8.acceptRanges", laid_unicode_utf8_acceptRanges), ("unicode/utf8.first", laid_unicode_utf8_first)], narrowed := true }
def FnLogBytesUptoSaid : Prop := fnLogBytesUptoRow.holds Tryd.pinned (OpenSpec.upto fnLogBytesSpec)

/-- 'laws.FnLogTorn', WHERE WHAT IT READS IS OF BULK AT MOST 1048576: true; the input reads as it did. -/
def fnLogTornUptoRow : OpenClaim := { program := "ytdhbfbnppfcgkaadoor", sum := "0503290e321ac131cfa86622a3ea86d1926ce01ed27fef499a7c23be5121e41a", func := "loop.example/filereconciler/laws.FnLogTorn", spec := "fnLogTorn", inPlace := ["internal/bytealg.CountString", "internal/bytealg.IndexByteString", "internal/bytealg.IndexString"], unfollowed := true, recurses := true, named := ["unicode/utf8.first", "unicode/utf8.acceptRanges", "internal/bytealg.MaxLen"], apart := false, laid := [("unicode/utf8.acceptRanges", laid_unicode_utf8_acceptRanges), ("unicode/utf8.first", laid_unicode_utf8_first)], narrowed := true }
def FnLogTornUptoSaid : Prop := fnLogTornUptoRow.holds Tryd.pinned (OpenSpec.upto fnLogTornSpec)

/-- 'laws.FnBookTorn', WHERE WHAT IT READS IS OF BULK AT MOST 1048576: true; the input reads as it did. -/
def fnBookTornUptoRow : OpenClaim := { program := "ytdhbfbnppfcgkaadoor", sum := "0503290e321ac131cfa86622a3ea86d1926ce01ed27fef499a7c23be5121e41a", func := "loop.example/filereconciler/laws.FnBookTorn", spec := "fnBookTorn", inPlace := ["internal/bytealg.CountString", "internal/bytealg.IndexByteString", "internal/bytealg.IndexString"], unfollowed := true, recurses := true, named := ["unicode/utf8.first", "unicode/utf8.acceptRanges", "internal/bytealg.MaxLen"], apart := false, laid := [("unicode/utf8.acceptRanges", laid_unicode_utf8_acceptRanges), ("unicode/utf8.first", laid_unicode_utf8_first)], narrowed := true }
def FnBookTornUptoSaid : Prop := fnBookTornUptoRow.holds Tryd.pinned (OpenSpec.upto fnBookTornSpec)

/-- 'laws.FnBook', WHERE WHAT IT READS IS OF BULK AT MOST 1048576: true; the input reads as it did. -/
def fnBookUptoRow : OpenClaim := { program := "ytdhbfbnppfcgkaadoor", sum := "0503290e321ac131cfa86622a3ea86d1926ce01ed27fef499a7c23be5121e41a", func := "loop.example/filereconciler/laws.FnBook", spec := "fnBook", inPlace := ["internal/bytealg.CountString", "internal/bytealg.IndexByteString", "internal/bytealg.IndexString"], unfollowed := true, recurses := true, named := ["unicode/utf8.first", "unicode/utf8.acceptRanges", "internal/bytealg.MaxLen"], apart := false, laid := [("unicode/utf8.acceptRanges", laid_unicode_utf8_acceptRanges), ("unicode/utf8.first", laid_unicode_utf8_first)], narrowed := true }
def FnBookUptoSaid : Prop := fnBookUptoRow.holds Tryd.pinned (OpenSpec.upto fnBookSpec)

/-- 'laws.FnLoadAgain', WHERE WHAT IT READS IS OF BULK AT MOST 1048576: true; the input reads as it did. -/
def fnLoadAgainUptoRow : OpenClaim := { program := "ytdhbfbnppfcgkaadoor", sum := "0503290e321ac131cfa86622a3ea86d1926ce01ed27fef499a7c23be5121e41a", func := "loop.example/filereconciler/laws.FnLoadAgain", spec := "fnLoadAgain", inPlace := ["internal/bytealg.CountString", "internal/bytealg.IndexByteString", "internal/bytealg.IndexString"], unfollowed := true, recurses := true, named := ["unicode/utf8.first", "unicode/utf8.acceptRanges", "internal/bytealg.MaxLen"], apart := false, laid := [("unicode/utf8.acceptRanges", laid_unicode_utf8_acceptRanges), ("unicode/utf8.first", laid_unicode_utf8_first)], narrowed := true }
def FnLoadAgainUptoSaid : Prop := fnLoadAgainUptoRow.holds Tryd.pinned (OpenSpec.upto fnLoadAgainSpec)

/-- 'laws.FnLoad', WHERE WHAT IT READS IS OF BULK AT MOST 1048576: true; the input reads as it did. -/
def fnLoadUptoRow : OpenClaim := { program := "ytdhbfbnppfcgkaadoor", sum := "0503290e321ac131cfa86622a3ea86d1926ce01ed27fef499a7c23be5121e41a", func := "loop.example/filereconciler/laws.FnLoad", spec := "fnLoad", inPlace := ["internal/bytealg.CountString", "internal/bytealg.IndexByteString", "internal/bytealg.IndexString"], unfollowed := true, recurses := true, named := ["unicode/utf8.first", "unicode/utf8.acceptRanges", "internal/bytealg.MaxLen"], apart := false, laid := [("unicode/utf8.acceptRanges", laid_unicode_utf8_acceptRanges), ("unicode/utf8.first", laid_unicode_utf8_first)], narrowed := true }
def FnLoadUptoSaid : Prop := fnLoadUptoRow.holds Tryd.pinned (OpenSpec.upto fnLoadSpec)

/-- 'laws.FnBookEpoch', WHERE WHAT IT READS IS OF BULK AT MOST 1048576: true; the input reads as it did. -/
def fnBookEpochUptoRow : OpenClaim := { program := "ytdhbfbnppfcgkaadoor", sum := "0503290e321ac131cfa86622a3ea86d1926ce01ed27fef499a7c23be5121e41a", func := "loop.example/filereconciler/laws.FnBookEpoch", spec := "fnBookEpoch", inPlace := ["internal/bytealg.CountString", "internal/bytealg.IndexByteString", "internal/bytealg.IndexString"], unfollowed := true, recurses := true, named := ["unicode/utf8.first", "unicode/utf8.acceptRanges", "internal/bytealg.MaxLen"], apart := false, laid := [("unicode/utf8.acceptRanges", laid_unicode_utf8_acceptRanges), ("unicode/utf8.first", laid_unicode_utf8_first)], narrowed := true }
def FnBookEpochUptoSaid : Prop := fnBookEpochUptoRow.holds Tryd.pinned (OpenSpec.upto fnBookEpochSpec)

end Rows
end Go.Proofs.YtdhbfbnppfcgkaaDoor
