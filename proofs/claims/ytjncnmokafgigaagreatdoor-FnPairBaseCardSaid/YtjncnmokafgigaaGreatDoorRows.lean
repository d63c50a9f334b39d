/-
  NARROWER THAN 'FOR EVERY INPUT', by the rows' own cells (each row's printed sentence says how): FnSteps: laid · FnStepsNone: laid · FnExactResolveSteps: laid · FnExactPairBase: laid · FnPairLeft: laid · FnPairAgain: laid · FnPairSame: laid · FnPairBase: laid.
  DERIVED. THE GIVEN ROWS OF THIS SEAT. 8 by the template 'for every input the law returns true; each argument reads behind the call as it read before'; 0 by the template 'total and deterministic' (their statements: YtjncnmokafgigaaGreatDoorTotals.lean).
  GIVEN WITH THE SEED: the statements are not yours to turn. If you find one false, say at which input.
  Laid BY PROGRAM, IN A SANDBOX (cutbox-rows.mjs): the forced cells as the released guide's own fill.sh prints them over the translation c512904d021cbf29… (all of the seat's roots in one cut). By AI agents, Wed Nov 11 2026. No macro, syntax, notation, axiom, sorry.
-/
import Derived.Test.YtjncnmokafgigaaGreatDoorChecked
import GoSem.PinnedTables
import GoSem.Claim
import GoSem.ClaimJoined
import GoSem.ClaimMapViews
import Derived.JoinedTies
import Derived.KernelRfl
namespace Go.Proofs.YtjncnmokafgigaaGreatDoor
/- THE CELL 'sum', in the pinned program and in every row, IS THE sha256 OF THE DUMP (.gsa) THAT YtjncnmokafgigaaGreatDoorProg.lean LOADS. Nothing in Lean hashes anything: it is a label: what it is worth is what the hold of that sum in a sandbox is worth. -/
noncomputable def Tryz.pinned : Pinned := { name := "ytjncnmokafgigaagreatdoor", sum := "c512904d021cbf298511a717888e4218cafd031abc96f1009ad7b3ff4c333f9c", checked := Tryz.checked }
namespace Rows
def none {H : Type} : Left H := { results := [], args := [] }

/- WHAT THE LISTED PACKAGE-LEVEL VARIABLES READ AS WHEN THE CALL BEGINS. Each datum BY PROGRAM (the guide's laid-datum.mjs) off the statement by which the dump's own 'gosem.cut.vars' lays the variable. In a bare row this is a premise. The card (YtjncnmokafgigaaGreatDoorCards.lean) ties it to the program's text. -/
def laid_unicode_utf8_acceptRanges {H : Type} : DataW H := .agg [.agg [.lit (.int .u8 128), .lit (.int .u8 191)], .agg [.lit (.int .u8 160), .lit (.int .u8 191)], .agg [.lit (.int .u8 128), .lit (.int .u8 159)], .agg [.lit (.int .u8 144), .lit (.int .u8 191)], .agg [.lit (.int .u8 128), .lit (.int .u8 143)], .agg [.lit (.int .u8 0), .lit (.int .u8 0)], .agg [.lit (.int .u8 0), .lit (.int .u8 0)], .agg [.lit (.int .u8 0), .lit (.int .u8 0)], .agg [.lit (.int .u8 0), .lit (.int .u8 0)], .agg [.lit (.int .u8 0), .lit (.int .u8 0)], .agg [.lit (.int .u8 0), .lit (.int .u8 0)], .agg [.lit (.int .u8 0), .lit (.int .u8 0)], .agg [.lit (.int .u8 0), .lit (.int .u8 0)], .agg [.lit (.int .u8 0), .lit (.int .u8 0)], .agg [.lit (.int .u8 0), .lit (.int .u8 0)], .agg [.lit (.int .u8 0), .lit (.int .u8 0)]]
/-- One of Go's own tables, pinned by name: the form's constant. -/
def laid_unicode_utf8_first : DataW Unit := Go.Pinned.utf8First

/-- 'laws.FnSteps': WHATEVER THE INPUT: true; the input reads as it did. -/
def fnStepsSpec : ChangeSpec := { name := "fnSteps", fn := fun _ => fun
  | [d] => { results := [.lit (.bool true)], args := [d] }
  | _ => none }
def fnStepsRow : OpenClaim := { program := "ytjncnmokafgigaagreatdoor", sum := "c512904d021cbf298511a717888e4218cafd031abc96f1009ad7b3ff4c333f9c", func := "loop.example/filereconciler/laws.FnSteps", spec := "fnSteps", inPlace := ["internal/bytealg.CountString", "internal/bytealg.IndexByteString", "internal/bytealg.IndexString", "slices.overlaps[loop.example/filereconciler/impl.Node]"], unfollowed := true, recurses := true, named := ["unicode/utf8.first", "unicode/utf8.acceptRanges", "internal/bytealg.MaxLen"], apart := false, laid := [("unicode/utf8.acceptRanges", laid_unicode_utf8_acceptRanges), ("unicode/utf8.first", laid_unicode_utf8_first)] }
def FnStepsSaid : Prop := fnStepsRow.holds Tryz.pinned (OpenSpec.ofChange fnStepsSpec)

/-- ITS FALSE NEIGHBOUR: 'it returns false'. Refute it at one input. -/
def fnStepsWrong : ChangeSpec := { name := "fnSteps", fn := fun _ => fun
  | [d] => { results := [.lit (.bool false)], args := [d] }
  | _ => none }
def FnStepsWrongFalsely : Prop := fnStepsRow.holds Tryz.pinned (OpenSpec.ofChange fnStepsWrong)

/-- 'laws.FnStepsNone': WHATEVER THE INPUT: true; the input reads as it did. -/
def fnStepsNoneSpec : ChangeSpec := { name := "fnStepsNone", fn := fun _ => fun
  | [d] => { results := [.lit (.bool true)], args := [d] }
  | _ => none }
def fnStepsNoneRow : OpenClaim := { program := "ytjncnmokafgigaagreatdoor", sum := "c512904d021cbf298511a717888e4218cafd031abc96f1009ad7b3ff4c333f9c", func := "loop.example/filereconciler/laws.FnStepsNone", spec := "fnStepsNone", inPlace := ["internal/bytealg.CountString", "internal/bytealg.IndexByteString", "internal/bytealg.IndexString", "slices.overlaps[loop.example/filereconciler/impl.Node]"], unfollowed := true, recurses := true, named := ["unicode/utf8.first", "unicode/utf8.acceptRanges", "internal/bytealg.MaxLen"], apart := false, laid := [("unicode/utf8.acceptRanges", laid_unicode_utf8_acceptRanges), ("unicode/utf8.first", laid_unicode_utf8_first)] }
def FnStepsNoneSaid : Prop := fnStepsNoneRow.holds Tryz.pinned (OpenSpec.ofChange fnStepsNoneSpec)

/-- ITS FALSE NEIGHBOUR: 'it returns false'. Refute it at one input. -/
def fnStepsNoneWrong : ChangeSpec := { name := "fnStepsNone", fn := fun _ => fun
  | [d] => { results := [.lit (.bool false)], args := [d] }
  | _ => none }
def FnStepsNoneWrongFalsely : Prop := fnStepsNoneRow.holds Tryz.pinned (OpenSpec.ofChange fnStepsNoneWrong)

/-- 'laws.FnExactResolveSteps': WHATEVER THE INPUT: true; the input reads as it did. -/
def fnExactResolveStepsSpec : ChangeSpec := { name := "fnExactResolveSteps", fn := fun _ => fun
  | [d1, d2, d3, d4, d5] => { results := [.lit (.bool true)], args := [d1, d2, d3, d4, d5] }
  | _ => none }
def fnExactResolveStepsRow : OpenClaim := { program := "ytjncnmokafgigaagreatdoor", sum := "c512904d021cbf298511a717888e4218cafd031abc96f1009ad7b3ff4c333f9c", func := "loop.example/filereconciler/laws.FnExactResolveSteps", spec := "fnExactResolveSteps", inPlace := ["internal/bytealg.CountString", "internal/bytealg.IndexByteString", "internal/bytealg.IndexString", "slices.overlaps[loop.example/filereconciler/impl.Node]"], unfollowed := true, recurses := true, named := ["unicode/utf8.first", "unicode/utf8.acceptRanges", "internal/bytealg.MaxLen"], apart := false, laid := [("unicode/utf8.acceptRanges", laid_unicode_utf8_acceptRanges), ("unicode/utf8.first", laid_unicode_utf8_first)] }
def FnExactResolveStepsSaid : Prop := fnExactResolveStepsRow.holds Tryz.pinned (OpenSpec.ofChange fnExactResolveStepsSpec)

/-- ITS FALSE NEIGHBOUR: 'it returns false'. Refute it at one input. -/
def fnExactResolveStepsWrong : ChangeSpec := { name := "fnExactResolveSteps", fn := fun _ => fun
  | [d1, d2, d3, d4, d5] => { results := [.lit (.bool false)], args := [d1, d2, d3, d4, d5] }
  | _ => none }
def FnExactResolveStepsWrongFalsely : Prop := fnExactResolveStepsRow.holds Tryz.pinned (OpenSpec.ofChange fnExactResolveStepsWrong)

/-- 'laws.FnExactPairBase': WHATEVER THE INPUT: true; the input reads as it did. -/
def fnExactPairBaseSpec : ChangeSpec := { name := "fnExactPairBase", fn := fun _ => fun
  | [d1, d2, d3] => { results := [.lit (.bool true)], args := [d1, d2, d3] }
  | _ => none }
def fnExactPairBaseRow : OpenClaim := { program := "ytjncnmokafgigaagreatdoor", sum := "c512904d021cbf298511a717888e4218cafd031abc96f1009ad7b3ff4c333f9c", func := "loop.example/filereconciler/laws.FnExactPairBase", spec := "fnExactPairBase", inPlace := ["internal/bytealg.CountString", "internal/bytealg.IndexByteString", "internal/bytealg.IndexString", "slices.overlaps[loop.example/filereconciler/impl.Node]"], unfollowed := true, recurses := true, named := ["unicode/utf8.first", "unicode/utf8.acceptRanges", "internal/bytealg.MaxLen"], apart := false, laid := [("unicode/utf8.acceptRanges", laid_unicode_utf8_acceptRanges), ("unicode/utf8.first", laid_unicode_utf8_first)] }
def FnExactPairBaseSaid : Prop := fnExactPairBaseRow.holds Tryz.pinned (OpenSpec.ofChange fnExactPairBaseSpec)

/-- ITS FALSE NEIGHBOUR: 'it returns false'. Refute it at one input. -/
def fnExactPairBaseWrong : ChangeSpec := { name := "fnExactPairBase", fn := fun _ => fun
  | [d1, d2, d3] => { results := [.lit (.bool false)], args := [d1, d2, d3] }
  | _ => none }
def FnExactPairBaseWrongFalsely : Prop := fnExactPairBaseRow.holds Tryz.pinned (OpenSpec.ofChange fnExactPairBaseWrong)

/-- 'laws.FnPairLeft': WHATEVER THE INPUT: true; the input reads as it did. -/
def fnPairLeftSpec : ChangeSpec := { name := "fnPairLeft", fn := fun _ => fun
  | [d] => { results := [.lit (.bool true)], args := [d] }
  | _ => none }
def fnPairLeftRow : OpenClaim := { program := "ytjncnmokafgigaagreatdoor", sum := "c512904d021cbf298511a717888e4218cafd031abc96f1009ad7b3ff4c333f9c", func := "loop.example/filereconciler/laws.FnPairLeft", spec := "fnPairLeft", inPlace := ["internal/bytealg.CountString", "internal/bytealg.IndexByteString", "internal/bytealg.IndexString", "slices.overlaps[loop.example/filereconciler/impl.Node]"], unfollowed := true, recurses := true, named := ["unicode/utf8.first", "unicode/utf8.acceptRanges", "internal/bytealg.MaxLen"], apart := false, laid := [("unicode/utf8.acceptRanges", laid_unicode_utf8_acceptRanges), ("unicode/utf8.first", laid_unicode_utf8_first)] }
def FnPairLeftSaid : Prop := fnPairLeftRow.holds Tryz.pinned (OpenSpec.ofChange fnPairLeftSpec)

/-- ITS FALSE NEIGHBOUR: 'it returns false'. Refute it at one input. -/
def fnPairLeftWrong : ChangeSpec := { name := "fnPairLeft", fn := fun _ => fun
  | [d] => { results := [.lit (.bool false)], args := [d] }
  | _ => none }
def FnPairLeftWrongFalsely : Prop := fnPairLeftRow.holds Tryz.pinned (OpenSpec.ofChange fnPairLeftWrong)

/-- 'laws.FnPairAgain': WHATEVER THE INPUT: true; the input reads as it did. -/
def fnPairAgainSpec : ChangeSpec := { name := "fnPairAgain", fn := fun _ => fun
  | [d] => { results := [.lit (.bool true)], args := [d] }
  | _ => none }
def fnPairAgainRow : OpenClaim := { program := "ytjncnmokafgigaagreatdoor", sum := "c512904d021cbf298511a717888e4218cafd031abc96f1009ad7b3ff4c333f9c", func := "loop.example/filereconciler/laws.FnPairAgain", spec := "fnPairAgain", inPlace := ["internal/bytealg.CountString", "internal/bytealg.IndexByteString", "internal/bytealg.IndexString", "slices.overlaps[loop.example/filereconciler/impl.Node]"], unfollowed := true, recurses := true, named := ["unicode/utf8.first", "unicode/utf8.acceptRanges", "internal/bytealg.MaxLen"], apart := false, laid := [("unicode/utf8.acceptRanges", laid_unicode_utf8_acceptRanges), ("unicode/utf8.first", laid_unicode_utf8_first)] }
def FnPairAgainSaid : Prop := fnPairAgainRow.holds Tryz.pinned (OpenSpec.ofChange fnPairAgainSpec)

/-- ITS FALSE NEIGHBOUR: 'it returns false'. Refute it at one input. -/
def fnPairAgainWrong : ChangeSpec := { name := "fnPairAgain", fn := fun _ => fun
  | [d] => { results := [.lit (.bool false)], args := [d] }
  | _ => none }
def FnPairAgainWrongFalsely : Prop := fnPairAgainRow.holds Tryz.pinned (OpenSpec.ofChange fnPairAgainWrong)

/-- 'laws.FnPairSame': WHATEVER THE INPUT: true; the input reads as it did. -/
def fnPairSameSpec : ChangeSpec := { name := "fnPairSame", fn := fun _ => fun
  | [d] => { results := [.lit (.bool true)], args := [d] }
  | _ => none }
def fnPairSameRow : OpenClaim := { program := "ytjncnmokafgigaagreatdoor", sum := "c512904d021cbf298511a717888e4218cafd031abc96f1009ad7b3ff4c333f9c", func := "loop.example/filereconciler/laws.FnPairSame", spec := "fnPairSame", inPlace := ["internal/bytealg.CountString", "internal/bytealg.IndexByteString", "internal/bytealg.IndexString", "slices.overlaps[loop.example/filereconciler/impl.Node]"], unfollowed := true, recurses := true, named := ["unicode/utf8.first", "unicode/utf8.acceptRanges", "internal/bytealg.MaxLen"], apart := false, laid := [("unicode/utf8.acceptRanges", laid_unicode_utf8_acceptRanges), ("unicode/utf8.first", laid_unicode_utf8_first)] }
def FnPairSameSaid : Prop := fnPairSameRow.holds Tryz.pinned (OpenSpec.ofChange fnPairSameSpec)

/-- ITS FALSE NEIGHBOUR: 'it returns false'. Refute it at one input. -/
def fnPairSameWrong : ChangeSpec := { name := "fnPairSame", fn := fun _ => fun
  | [d] => { results := [.lit (.bool false)], args := [d] }
  | _ => none }
def FnPairSameWrongFalsely : Prop := fnPairSameRow.holds Tryz.pinned (OpenSpec.ofChange fnPairSameWrong)

/-- 'laws.FnPairBase': WHATEVER THE INPUT: true; the input reads as it did. -/
def fnPairBaseSpec : ChangeSpec := { name := "fnPairBase", fn := fun _ => fun
  | [d] => { results := [.lit (.bool true)], args := [d] }
  | _ => none }
def fnPairBaseRow : OpenClaim := { program := "ytjncnmokafgigaagreatdoor", sum := "c512904d021cbf298511a717888e4218cafd031abc96f1009ad7b3ff4c333f9c", func := "loop.example/filereconciler/laws.FnPairBase", spec := "fnPairBase", inPlace := ["internal/bytealg.CountString", "internal/bytealg.IndexByteString", "internal/bytealg.IndexString", "slices.overlaps[loop.example/filereconciler/impl.Node]"], unfollowed := true, recurses := true, named := ["unicode/utf8.first", "unicode/utf8.acceptRanges", "internal/bytealg.MaxLen"], apart := false, laid := [("unicode/utf8.acceptRanges", laid_unicode_utf8_acceptRanges), ("unicode/utf8.first", laid_unicode_utf8_first)] }
def FnPairBaseSaid : Prop := fnPairBaseRow.holds Tryz.pinned (OpenSpec.ofChange fnPairBaseSpec)

/-- ITS FALSE NEIGHBOUR: 'it returns false'. Refute it at one input. -/
def fnPairBaseWrong : ChangeSpec := { name := "fnPairBase", fn := fun _ => fun
  | [d] => { results := [.lit (.bool false)], args := [d] }
  | _ => none }
def FnPairBaseWrongFalsely : Prop := fnPairBaseRow.holds Tryz.pinned (OpenSpec.ofChange fnPairBaseWrong)

/- THE SECOND FORM. 'bulk': how many values and letters a reading holds, each counted each time it is reached (what is shared counts as often as it is met; a slice's spare places count too). A statement '..UptoSaid' is the law's where the arguments, and the package variables that the reading takes, are together of bulk at most 1048576: NARROWER than '..Said'. Prove '..Said' where nothing that the law and all that it calls make is longer than what came in: it says more and counts as full. Else prove '..UptoSaid'. A law counts once. -/
mutual
def uptoBulk {H : Type} : DataW H → Nat
  | .lit (.string bytes) => bytes.length + 1
  | .lit _ => 1
  | .nil => 1
  | .ptr d => uptoBulk d + 1
  | .slice elems spare => uptoBulkAll elems + uptoBulkAll spare + 1
  | .agg parts => uptoBulkAll parts + 1
  | .iface _ d => uptoBulk d + 1
  | .map entries => uptoBulkEntries entries + 1
  | .held _ => 1
def uptoBulkAll {H : Type} : List (DataW H) → Nat
  | [] => 0
  | d :: r => uptoBulk d + uptoBulkAll r
def uptoBulkEntries {H : Type} : List (Lit × DataW H) → Nat
  | [] => 0
  | x :: r => uptoBulkEntry x + uptoBulkEntries r
def uptoBulkEntry {H : Type} : Lit × DataW H → Nat
  | (.string bytes, d) => bytes.length + uptoBulk d + 1
  | (_, d) => uptoBulk d + 1
 end
def uptoSmall : (H : Type) → List (DataW H) → Bool := fun _ ds => decide (uptoBulkAll ds ≤ 1048576)
def OpenSpec.upto (s : _root_.Go.ChangeSpec) : _root_.Go.OpenSpec := { _root_.Go.OpenSpec.ofChange s with cond := some uptoSmall }

/-- 'laws.FnSteps', WHERE WHAT IT READS IS OF BULK AT MOST 1048576: true; the input reads as it did. -/
def fnStepsUptoRow : OpenClaim := { program := "ytjncnmokafgigaagreatdoor", sum := "c512904d021cbf298511a717888e4218cafd031abc96f1009ad7b3ff4c333f9c", func := "loop.example/filereconciler/laws.FnSteps", spec := "fnSteps", inPlace := ["internal/bytealg.CountString", "internal/bytealg.IndexByteString", "internal/bytealg.IndexString", "slices.overlaps[loop.example/filereconciler/impl.Node]"], unfollowed := true, recurses := true, named := ["unicode/utf8.first", "unicode/utf8.acceptRanges", "internal/bytealg.MaxLen"], apart := false, laid := [("unicode/utf8.acceptRanges", laid_unicode_utf8_acceptRanges), ("unicode/utf8.first", laid_unicode_utf8_first)], narrowed := true }
def FnStepsUptoSaid : Prop := fnStepsUptoRow.holds Tryz.pinned (OpenSpec.upto fnStepsSpec)

/-- 'laws.FnStepsNone', WHERE WHAT IT READS IS OF BULK AT MOST 1048576: true; the input reads as it did. -/
def fnStepsNoneUptoRow : OpenClaim := { program := "ytjncnmokafgigaagreatdoor", sum := "c512904d021cbf298511a717888e4218cafd031abc96f1009ad7b3ff4c333f9c", func := "loop.example/filereconciler/laws.FnStepsNone", spec := "fnStepsNone", inPlace := ["internal/bytealg.CountString", "internal/bytealg.IndexByteString", "internal/bytealg.IndexString", "slices.overlaps[loop.example/filereconciler/impl.Node]"], unfollowed := true, recurses := true, named := ["unicode/utf8.first", "unicode/utf8.acceptRanges", "internal/bytealg.MaxLen"], apart := false, laid := [("unicode/utf8.acceptRanges", laid_unicode_utf8_acceptRanges), ("unicode/utf8.first", laid_unicode_utf8_first)], narrowed := true }
def FnStepsNoneUptoSaid : Prop := fnStepsNoneUptoRow.holds Tryz.pinned (OpenSpec.upto fnStepsNoneSpec)

/-- 'laws.FnExactResolveSteps', WHERE WHAT IT READS IS OF BULK AT MOST 1048576: true; the input reads as it did. -/
def fnExactResolveStepsUptoRow : OpenClaim := { program := "ytjncnmokafgigaagreatdoor", sum := "c512904d021cbf298511a717888e4218cafd031abc96f1009ad7b3ff4c333f9c", func := "loop.example/filereconciler/laws.FnExactResolveSteps", spec := "fnExactResolveSteps", inPlace := ["internal/bytealg.CountString", "internal/bytealg.IndexByteString", "internal/bytealg.IndexString", "slices.overlaps[loop.example/filereconciler/impl.Node]"], unfollowed := true, recurses := true, named := ["unicode/utf8.first", "unicode/utf8.acceptRanges", "internal/bytealg.MaxLen"], apart := false, laid := [("unicode/utf8.acceptRanges", laid_unicode_utf8_acceptRanges), ("unicode/utf8.first", laid_unicode_utf8_first)], narrowed := true }
def FnExactResolveStepsUptoSaid : Prop := fnExactResolveStepsUptoRow.holds Tryz.pinned (OpenSpec.upto fnExactResolveStepsSpec)

/-- 'laws.FnExactPairBase', WHERE WHAT IT READS IS OF BULK AT MOST 1048576: true; the input reads as it did. -/
def fnExactPairBaseUptoRow : OpenClaim := { program := "ytjncnmokafgigaagreatdoor", sum := "c512904d021cbf298511a717888e4218cafd031abc96f1009ad7b3ff4c333f9c", func := "loop.example/filereconciler/laws.FnExactPairBase", spec := "fnExactPairBase", inPlace := ["internal/bytealg.CountString", "internal/bytealg.IndexByteString", "internal/bytealg.IndexString", "slices.overlaps[loop.example/filereconciler/impl.Node]"], unfollowed := true, recurses := true, named := ["unicode/utf8.first", "unicode/utf8.acceptRanges", "internal/bytealg.MaxLen"], apart := false, laid := [("unicode/utf8.acceptRanges", laid_unicode_utf8_acceptRanges), ("unicode/utf8.first", laid_unicode_utf8_first)], narrowed := true }
def FnExactPairBaseUptoSaid : Prop := fnExactPairBaseUptoRow.holds Tryz.pinned (OpenSpec.upto fnExactPairBaseSpec)

/-- 'laws.FnPairLeft', WHERE WHAT IT READS IS OF BULK AT MOST 1048576: true; the input reads as it did. -/
def fnPairLeftUptoRow : OpenClaim := { program := "ytjncnmokafgigaagreatdoor", sum := "c512904d021cbf298511a717888e4218cafd031abc96f1009ad7b3ff4c333f9c", func := "loop.example/filereconciler/laws.FnPairLeft", spec := "fnPairLeft", inPlace := ["internal/bytealg.CountString", "internal/bytealg.IndexByteString", "internal/bytealg.IndexString", "slices.overlaps[loop.example/filereconciler/impl.Node]"], unfollowed := true, recurses := true, named := ["unicode/utf8.first", "unicode/utf8.acceptRanges", "internal/bytealg.MaxLen"], apart := false, laid := [("unicode/utf8.acceptRanges", laid_unicode_utf8_acceptRanges), ("unicode/utf8.first", laid_unicode_utf8_first)], narrowed := true }
def FnPairLeftUptoSaid : Prop := fnPairLeftUptoRow.holds Tryz.pinned (OpenSpec.upto fnPairLeftSpec)

/-- 'laws.FnPairAgain', WHERE WHAT IT READS IS OF BULK AT MOST 1048576: true; the input reads as it did. -/
def fnPairAgainUptoRow : OpenClaim := { program := "ytjncnmokafgigaagreatdoor", sum := "c512904d021cbf298511a717888e4218cafd031abc96f1009ad7b3ff4c333f9c", func := "loop.example/filereconciler/laws.FnPairAgain", spec := "fnPairAgain", inPlace := ["internal/bytealg.CountString", "internal/bytealg.IndexByteString", "internal/bytealg.IndexString", "slices.overlaps[loop.example/filereconciler/impl.Node]"], unfollowed := true, recurses := true, named := ["unicode/utf8.first", "unicode/utf8.acceptRanges", "internal/bytealg.MaxLen"], apart := false, laid := [("unicode/utf8.acceptRanges", laid_unicode_utf8_acceptRanges), ("unicode/utf8.first", laid_unicode_utf8_first)], narrowed := true }
def FnPairAgainUptoSaid : Prop := fnPairAgainUptoRow.holds Tryz.pinned (OpenSpec.upto fnPairAgainSpec)

/-- 'laws.FnPairSame', WHERE WHAT IT READS IS OF BULK AT MOST 1048576: true; the input reads as it did. -/
def fnPairSameUptoRow : OpenClaim := { program := "ytjncnmokafgigaagreatdoor", sum := "c512904d021cbf298511a717888e4218cafd031abc96f1009ad7b3ff4c333f9c", func := "loop.example/filereconciler/laws.FnPairSame", spec := "fnPairSame", inPlace := ["internal/bytealg.CountString", "internal/bytealg.IndexByteString", "internal/bytealg.IndexString", "slices.overlaps[loop.example/filereconciler/impl.Node]"], unfollowed := true, recurses := true, named := ["unicode/utf8.first", "unicode/utf8.acceptRanges", "internal/bytealg.MaxLen"], apart := false, laid := [("unicode/utf8.acceptRanges", laid_unicode_utf8_acceptRanges), ("unicode/utf8.first", laid_unicode_utf8_first)], narrowed := true }
def FnPairSameUptoSaid : Prop := fnPairSameUptoRow.holds Tryz.pinned (OpenSpec.upto fnPairSameSpec)

/-- 'laws.FnPairBase', WHERE WHAT IT READS IS OF BULK AT MOST 1048576: true; the input reads as it did. -/
def fnPairBaseUptoRow : OpenClaim := { program := "ytjncnmokafgigaagreatdoor", sum := "c512904d021cbf298511a717888e4218cafd031abc96f1009ad7b3ff4c333f9c", func := "loop.example/filereconciler/laws.FnPairBase", spec := "fnPairBase", inPlace := ["internal/bytealg.CountString", "internal/bytealg.IndexByteString", "internal/bytealg.IndexString", "slices.overlaps[loop.example/filereconciler/impl.Node]"], unfollowed := true, recurses := true, named := ["unicode/utf8.first", "unicode/utf8.acceptRanges", "internal/bytealg.MaxLen"], apart := false, laid := [("unicode/utf8.acceptRanges", laid_unicode_utf8_acceptRanges), ("unicode/utf8.first", laid_unicode_utf8_first)], narrowed := true }
def FnPairBaseUptoSaid : Prop := fnPairBaseUptoRow.holds Tryz.pinned (OpenSpec.upto fnPairBaseSpec)

end Rows
end Go.Proofs.YtjncnmokafgigaaGreatDoor
