/-
  NARROWER THAN 'FOR EVERY INPUT', by the rows' own cells (each row's printed sentence says how): FnCanonUndo: laid · FnOrderCanon: laid · FnCanonIsDiff: laid · FnKeepFits: laid · FnCanonNone: laid · FnCanonDiff: laid · FnOrderAll: laid.
  DERIVED. THE GIVEN ROWS OF THIS SEAT. 7 by the template 'for every input the law returns true; each argument reads behind the call as it read before'; 0 by the template 'total and deterministic' (their statements: YtjobbcdolbhadaaGreatDoorTotals.lean).
  GIVEN WITH THE SEED: the statements are not yours to turn. If you find one false, say at which input.
  Laid BY PROGRAM, IN A SANDBOX (cutbox-rows.mjs): the forced cells as the released guide's own fill.sh prints them over the translation a2a35ed60325f963… (all of the seat's roots in one cut). By AI agents, Wed Nov 11 2026. No macro, syntax, notation, axiom, sorry.
-/
import Derived.Test.YtjobbcdolbhadaaGreatDoorChecked
import GoSem.PinnedTables
import GoSem.Claim
import GoSem.ClaimJoined
import GoSem.ClaimMapViews
import Derived.JoinedTies
import Derived.KernelRfl
namespace Go.Proofs.YtjobbcdolbhadaaGreatDoor
/- THE CELL 'sum', in the pinned program and in every row, IS THE sha256 OF THE DUMP (.gsa) THAT YtjobbcdolbhadaaGreatDoorProg.lean LOADS. Nothing in Lean hashes anything: it is a label: what it is worth is what the hold of that sum in a sandbox is worth. -/
noncomputable def Tryz.pinned : Pinned := { name := "ytjobbcdolbhadaagreatdoor", sum := "a2a35ed60325f963e4982d0c567312eba637877660763f542db3f4d47919bb85", checked := Tryz.checked }
namespace Rows
def none {H : Type} : Left H := { results := [], args := [] }

/- WHAT THE LISTED PACKAGE-LEVEL VARIABLES READ AS WHEN THE CALL BEGINS. Each datum BY PROGRAM (the guide's laid-datum.mjs) off the statement by which the dump's own 'gosem.cut.vars' lays the variable. In a bare row this is a premise. The card (YtjobbcdolbhadaaGreatDoorCards.lean) ties it to the program's text. -/
def laid_unicode_utf8_acceptRanges {H : Type} : DataW H := .agg [.agg [.lit (.int .u8 128), .lit (.int .u8 191)], .agg [.lit (.int .u8 160), .lit (.int .u8 191)], .agg [.lit (.int .u8 128), .lit (.int .u8 159)], .agg [.lit (.int .u8 144), .lit (.int .u8 191)], .agg [.lit (.int .u8 128), .lit (.int .u8 143)], .agg [.lit (.int .u8 0), .lit (.int .u8 0)], .agg [.lit (.int .u8 0), .lit (.int .u8 0)], .agg [.lit (.int .u8 0), .lit (.int .u8 0)], .agg [.lit (.int .u8 0), .lit (.int .u8 0)], .agg [.lit (.int .u8 0), .lit (.int .u8 0)], .agg [.lit (.int .u8 0), .lit (.int .u8 0)], .agg [.lit (.int .u8 0), .lit (.int .u8 0)], .agg [.lit (.int .u8 0), .lit (.int .u8 0)], .agg [.lit (.int .u8 0), .lit (.int .u8 0)], .agg [.lit (.int .u8 0), .lit (.int .u8 0)], .agg [.lit (.int .u8 0), .lit (.int .u8 0)]]
/-- One of Go's own tables, pinned by name: the form's constant. -/
def laid_unicode_utf8_first : DataW Unit := Go.Pinned.utf8First

/-- 'laws.FnCanonUndo': WHATEVER THE INPUT: true; the input reads as it did. -/
def fnCanonUndoSpec : ChangeSpec := { name := "fnCanonUndo", fn := fun _ => fun
  | [d] => { results := [.lit (.bool true)], args := [d] }
  | _ => none }
def fnCanonUndoRow : OpenClaim := { program := "ytjobbcdolbhadaagreatdoor", sum := "a2a35ed60325f963e4982d0c567312eba637877660763f542db3f4d47919bb85", func := "loop.example/filereconciler/laws.FnCanonUndo", spec := "fnCanonUndo", inPlace := ["internal/bytealg.CountString", "internal/bytealg.IndexByteString", "internal/bytealg.IndexString", "slices.overlaps[loop.example/filereconciler/impl.Node]"], unfollowed := true, recurses := true, named := ["unicode/utf8.first", "unicode/utf8.acceptRanges", "internal/bytealg.MaxLen"], apart := false, laid := [("unicode/utf8.acceptRanges", laid_unicode_utf8_acceptRanges), ("unicode/utf8.first", laid_unicode_utf8_first)] }
def FnCanonUndoSaid : Prop := fnCanonUndoRow.holds Tryz.pinned (OpenSpec.ofChange fnCanonUndoSpec)

/-- ITS FALSE NEIGHBOUR: 'it returns false'. Refute it at one input. -/
def fnCanonUndoWrong : ChangeSpec := { name := "fnCanonUndo", fn := fun _ => fun
  | [d] => { results := [.lit (.bool false)], args := [d] }
  | _ => none }
def FnCanonUndoWrongFalsely : Prop := fnCanonUndoRow.holds Tryz.pinned (OpenSpec.ofChange fnCanonUndoWrong)

/-- 'laws.FnOrderCanon': WHATEVER THE INPUT: true; the input reads as it did. -/
def fnOrderCanonSpec : ChangeSpec := { name := "fnOrderCanon", fn := fun _ => fun
  | [d] => { results := [.lit (.bool true)], args := [d] }
  | _ => none }
def fnOrderCanonRow : OpenClaim := { program := "ytjobbcdolbhadaagreatdoor", sum := "a2a35ed60325f963e4982d0c567312eba637877660763f542db3f4d47919bb85", func := "loop.example/filereconciler/laws.FnOrderCanon", spec := "fnOrderCanon", inPlace := ["internal/bytealg.CountString", "internal/bytealg.IndexByteString", "internal/bytealg.IndexString", "slices.overlaps[loop.example/filereconciler/impl.Node]"], unfollowed := true, recurses := true, named := ["unicode/utf8.first", "unicode/utf8.acceptRanges", "internal/bytealg.MaxLen"], apart := false, laid := [("unicode/utf8.acceptRanges", laid_unicode_utf8_acceptRanges), ("unicode/utf8.first", laid_unicode_utf8_first)] }
def FnOrderCanonSaid : Prop := fnOrderCanonRow.holds Tryz.pinned (OpenSpec.ofChange fnOrderCanonSpec)

/-- ITS FALSE NEIGHBOUR: 'it returns false'. Refute it at one input. -/
def fnOrderCanonWrong : ChangeSpec := { name := "fnOrderCanon", fn := fun _ => fun
  | [d] => { results := [.lit (.bool false)], args := [d] }
  | _ => none }
def FnOrderCanonWrongFalsely : Prop := fnOrderCanonRow.holds Tryz.pinned (OpenSpec.ofChange fnOrderCanonWrong)

/-- 'laws.FnCanonIsDiff': WHATEVER THE INPUT: true; the input reads as it did. -/
def fnCanonIsDiffSpec : ChangeSpec := { name := "fnCanonIsDiff", fn := fun _ => fun
  | [d] => { results := [.lit (.bool true)], args := [d] }
  | _ => none }
def fnCanonIsDiffRow : OpenClaim := { program := "ytjobbcdolbhadaagreatdoor", sum := "a2a35ed60325f963e4982d0c567312eba637877660763f542db3f4d47919bb85", func := "loop.example/filereconciler/laws.FnCanonIsDiff", spec := "fnCanonIsDiff", inPlace := ["internal/bytealg.CountString", "internal/bytealg.IndexByteString", "internal/bytealg.IndexString", "slices.overlaps[loop.example/filereconciler/impl.Node]"], unfollowed := true, recurses := true, named := ["unicode/utf8.first", "unicode/utf8.acceptRanges", "internal/bytealg.MaxLen"], apart := false, laid := [("unicode/utf8.acceptRanges", laid_unicode_utf8_acceptRanges), ("unicode/utf8.first", laid_unicode_utf8_first)] }
def FnCanonIsDiffSaid : Prop := fnCanonIsDiffRow.holds Tryz.pinned (OpenSpec.ofChange fnCanonIsDiffSpec)

/-- ITS FALSE NEIGHBOUR: 'it returns false'. Refute it at one input. -/
def fnCanonIsDiffWrong : ChangeSpec := { name := "fnCanonIsDiff", fn := fun _ => fun
  | [d] => { results := [.lit (.bool false)], args := [d] }
  | _ => none }
def FnCanonIsDiffWrongFalsely : Prop := fnCanonIsDiffRow.holds Tryz.pinned (OpenSpec.ofChange fnCanonIsDiffWrong)

/-- 'laws.FnKeepFits': WHATEVER THE INPUT: true; the input reads as it did. -/
def fnKeepFitsSpec : ChangeSpec := { name := "fnKeepFits", fn := fun _ => fun
  | [d1, d2] => { results := [.lit (.bool true)], args := [d1, d2] }
  | _ => none }
def fnKeepFitsRow : OpenClaim := { program := "ytjobbcdolbhadaagreatdoor", sum := "a2a35ed60325f963e4982d0c567312eba637877660763f542db3f4d47919bb85", func := "loop.example/filereconciler/laws.FnKeepFits", spec := "fnKeepFits", inPlace := ["internal/bytealg.CountString", "internal/bytealg.IndexByteString", "internal/bytealg.IndexString", "slices.overlaps[loop.example/filereconciler/impl.Node]"], unfollowed := true, recurses := true, named := ["unicode/utf8.first", "unicode/utf8.acceptRanges", "internal/bytealg.MaxLen"], apart := false, laid := [("unicode/utf8.acceptRanges", laid_unicode_utf8_acceptRanges), ("unicode/utf8.first", laid_unicode_utf8_first)] }
def FnKeepFitsSaid : Prop := fnKeepFitsRow.holds Tryz.pinned (OpenSpec.ofChange fnKeepFitsSpec)

/-- ITS FALSE NEIGHBOUR: 'it returns false'. Refute it at one input. -/
def fnKeepFitsWrong : ChangeSpec := { name := "fnKeepFits", fn := fun _ => fun
  | [d1, d2] => { results := [.lit (.bool false)], args := [d1, d2] }
  | _ => none }
def FnKeepFitsWrongFalsely : Prop := fnKeepFitsRow.holds Tryz.pinned (OpenSpec.ofChange fnKeepFitsWrong)

/-- 'laws.FnCanonNone': WHATEVER THE INPUT: true; the input reads as it did. -/
def fnCanonNoneSpec : ChangeSpec := { name := "fnCanonNone", fn := fun _ => fun
  | [d] => { results := [.lit (.bool true)], args := [d] }
  | _ => none }
def fnCanonNoneRow : OpenClaim := { program := "ytjobbcdolbhadaagreatdoor", sum := "a2a35ed60325f963e4982d0c567312eba637877660763f542db3f4d47919bb85", func := "loop.example/filereconciler/laws.FnCanonNone", spec := "fnCanonNone", inPlace := ["internal/bytealg.CountString", "internal/bytealg.IndexByteString", "internal/bytealg.IndexString", "slices.overlaps[loop.example/filereconciler/impl.Node]"], unfollowed := true, recurses := true, named := ["unicode/utf8.first", "unicode/utf8.acceptRanges", "internal/bytealg.MaxLen"], apart := false, laid := [("unicode/utf8.acceptRanges", laid_unicode_utf8_acceptRanges), ("unicode/utf8.first", laid_unicode_utf8_first)] }
def FnCanonNoneSaid : Prop := fnCanonNoneRow.holds Tryz.pinned (OpenSpec.ofChange fnCanonNoneSpec)

/-- ITS FALSE NEIGHBOUR: 'it returns false'. Refute it at one input. -/
def fnCanonNoneWrong : ChangeSpec := { name := "fnCanonNone", fn := fun _ => fun
  | [d] => { results := [.lit (.bool false)], args := [d] }
  | _ => none }
def FnCanonNoneWrongFalsely : Prop := fnCanonNoneRow.holds Tryz.pinned (OpenSpec.ofChange fnCanonNoneWrong)

/-- 'laws.FnCanonDiff': WHATEVER THE INPUT: true; the input reads as it did. -/
def fnCanonDiffSpec : ChangeSpec := { name := "fnCanonDiff", fn := fun _ => fun
  | [d] => { results := [.lit (.bool true)], args := [d] }
  | _ => none }
def fnCanonDiffRow : OpenClaim := { program := "ytjobbcdolbhadaagreatdoor", sum := "a2a35ed60325f963e4982d0c567312eba637877660763f542db3f4d47919bb85", func := "loop.example/filereconciler/laws.FnCanonDiff", spec := "fnCanonDiff", inPlace := ["internal/bytealg.CountString", "internal/bytealg.IndexByteString", "internal/bytealg.IndexString", "slices.overlaps[loop.example/filereconciler/impl.Node]"], unfollowed := true, recurses := true, named := ["unicode/utf8.first", "unicode/utf8.acceptRanges", "internal/bytealg.MaxLen"], apart := false, laid := [("unicode/utf8.acceptRanges", laid_unicode_utf8_acceptRanges), ("unicode/utf8.first", laid_unicode_utf8_first)] }
def FnCanonDiffSaid : Prop := fnCanonDiffRow.holds Tryz.pinned (OpenSpec.ofChange fnCanonDiffSpec)

/-- ITS FALSE NEIGHBOUR: 'it returns false'. Refute it at one input. -/
def fnCanonDiffWrong : ChangeSpec := { name := "fnCanonDiff", fn := fun _ => fun
  | [d] => { results := [.lit (.bool false)], args := [d] }
  | _ => none }
def FnCanonDiffWrongFalsely : Prop := fnCanonDiffRow.holds Tryz.pinned (OpenSpec.ofChange fnCanonDiffWrong)

/-- 'laws.FnOrderAll': WHATEVER THE INPUT: true; the input reads as it did. -/
def fnOrderAllSpec : ChangeSpec := { name := "fnOrderAll", fn := fun _ => fun
  | [d] => { results := [.lit (.bool true)], args := [d] }
  | _ => none }
def fnOrderAllRow : OpenClaim := { program := "ytjobbcdolbhadaagreatdoor", sum := "a2a35ed60325f963e4982d0c567312eba637877660763f542db3f4d47919bb85", func := "loop.example/filereconciler/laws.FnOrderAll", spec := "fnOrderAll", inPlace := ["internal/bytealg.CountString", "internal/bytealg.IndexByteString", "internal/bytealg.IndexString", "slices.overlaps[loop.example/filereconciler/impl.Node]"], unfollowed := true, recurses := true, named := ["unicode/utf8.first", "unicode/utf8.acceptRanges", "internal/bytealg.MaxLen"], apart := false, laid := [("unicode/utf8.acceptRanges", laid_unicode_utf8_acceptRanges), ("unicode/utf8.first", laid_unicode_utf8_first)] }
def FnOrderAllSaid : Prop := fnOrderAllRow.holds Tryz.pinned (OpenSpec.ofChange fnOrderAllSpec)

/-- ITS FALSE NEIGHBOUR: 'it returns false'. Refute it at one input. -/
def fnOrderAllWrong : ChangeSpec := { name := "fnOrderAll", fn := fun _ => fun
  | [d] => { results := [.lit (.bool false)], args := [d] }
  | _ => none }
def FnOrderAllWrongFalsely : Prop := fnOrderAllRow.holds Tryz.pinned (OpenSpec.ofChange fnOrderAllWrong)

/- THE SECOND FORM. 'bulk': how many values and letters a reading holds, each counted each time it is reached (what is shared counts as often as it is met; a slice's spare places count too). A statement '..UptoSaid' is the law's where the arguments, and the package variables that the reading takes, are together of bulk at most 1048576: NARROWER than '..Said'. Prove '..Said' where nothing that the law and all that it calls make is longer than what came in: it says more and counts as full. Else prove '..UptoSaid'. A law counts once. -/
mutual
def uptoBulk {H : Type} : DataW H → Nat
  | .lit (.string bytes) => bytes.length + 1
  | .lit _ => 1
  | .nil => 1
  | .ptr d => uptoBulk d + 1
  | .slice elems spare => uptoBulkAll elems + uptoBulkAll spare + 1
  | .agg parts => uptoBulkAll parts + 1
  | .iface _ d => uptoBulk d + 1
  | .map entries => uptoBulkEntries entries + 1
  | .held _ => 1
def uptoBulkAll {H : Type} : List (DataW H) → Nat
  | [] => 0
  | d :: r => uptoBulk d + uptoBulkAll r
def uptoBulkEntries {H : Type} : List (Lit × DataW H) → Nat
  | [] => 0
  | x :: r => uptoBulkEntry x + uptoBulkEntries r
def uptoBulkEntry {H : Type} : Lit × DataW H → Nat
  | (.string bytes, d) => bytes.length + uptoBulk d + 1
  | (_, d) => uptoBulk d + 1
 end
def uptoSmall : (H : Type) → List (DataW H) → Bool := fun _ ds => decide (uptoBulkAll ds ≤ 1048576)
def OpenSpec.upto (s : _root_.Go.ChangeSpec) : _root_.Go.OpenSpec := { _root_.Go.OpenSpec.ofChange s with cond := some uptoSmall }

/-- 'laws.FnCanonUndo', WHERE WHAT IT READS IS OF BULK AT MOST 1048576: true; the input reads as it did. -/
def fnCanonUndoUptoRow : OpenClaim := { program := "ytjobbcdolbhadaagreatdoor", sum := "a2a35ed60325f963e4982d0c567312eba637877660763f542db3f4d47919bb85", func := "loop.example/filereconciler/laws.FnCanonUndo", spec := "fnCanonUndo", inPlace := ["internal/bytealg.CountString", "internal/bytealg.IndexByteString", "internal/bytealg.IndexString", "slices.overlaps[loop.example/filereconciler/impl.Node]"], unfollowed := true, recurses := true, named := ["unicode/utf8.first", "unicode/utf8.acceptRanges", "internal/bytealg.MaxLen"], apart := false, laid := [("unicode/utf8.acceptRanges", laid_unicode_utf8_acceptRanges), ("unicode/utf8.first", laid_unicode_utf8_first)], narrowed := true }
def FnCanonUndoUptoSaid : Prop := fnCanonUndoUptoRow.holds Tryz.pinned (OpenSpec.upto fnCanonUndoSpec)

/-- 'laws.FnOrderCanon', WHERE WHAT IT READS IS OF BULK AT MOST 1048576: true; the input reads as it did. -/
def fnOrderCanonUptoRow : OpenClaim := { program := "ytjobbcdolbhadaagreatdoor", sum := "a2a35ed60325f963e4982d0c567312eba637877660763f542db3f4d47919bb85", func := "loop.example/filereconciler/laws.FnOrderCanon", spec := "fnOrderCanon", inPlace := ["internal/bytealg.CountString", "internal/bytealg.IndexByteString", "internal/bytealg.IndexString", "slices.overlaps[loop.example/filereconciler/impl.Node]"], unfollowed := true, recurses := true, named := ["unicode/utf8.first", "unicode/utf8.acceptRanges", "internal/bytealg.MaxLen"], apart := false, laid := [("unicode/utf8.acceptRanges", laid_unicode_utf8_acceptRanges), ("unicode/utf8.first", laid_unicode_utf8_first)], narrowed := true }
def FnOrderCanonUptoSaid : Prop := fnOrderCanonUptoRow.holds Tryz.pinned (OpenSpec.upto fnOrderCanonSpec)

/-- 'laws.FnCanonIsDiff', WHERE WHAT IT READS IS OF BULK AT MOST 1048576: true; the input reads as it did. -/
def fnCanonIsDiffUptoRow : OpenClaim := { program := "ytjobbcdolbhadaagreatdoor", sum := "a2a35ed60325f963e4982d0c567312eba637877660763f542db3f4d47919bb85", func := "loop.example/filereconciler/laws.FnCanonIsDiff", spec := "fnCanonIsDiff", inPlace := ["internal/bytealg.CountString", "internal/bytealg.IndexByteString", "internal/bytealg.IndexString", "slices.overlaps[loop.example/filereconciler/impl.Node]"], unfollowed := true, recurses := true, named := ["unicode/utf8.first", "unicode/utf8.acceptRanges", "internal/bytealg.MaxLen"], apart := false, laid := [("unicode/utf8.acceptRanges", laid_unicode_utf8_acceptRanges), ("unicode/utf8.first", laid_unicode_utf8_first)], narrowed := true }
def FnCanonIsDiffUptoSaid : Prop := fnCanonIsDiffUptoRow.holds Tryz.pinned (OpenSpec.upto fnCanonIsDiffSpec)

/-- 'laws.FnKeepFits', WHERE WHAT IT READS IS OF BULK AT MOST 1048576: true; the input reads as it did. -/
def fnKeepFitsUptoRow : OpenClaim := { program := "ytjobbcdolbhadaagreatdoor", sum := "a2a35ed60325f963e4982d0c567312eba637877660763f542db3f4d47919bb85", func := "loop.example/filereconciler/laws.FnKeepFits", spec := "fnKeepFits", inPlace := ["internal/bytealg.CountString", "internal/bytealg.IndexByteString", "internal/bytealg.IndexString", "slices.overlaps[loop.example/filereconciler/impl.Node]"], unfollowed := true, recurses := true, named := ["unicode/utf8.first", "unicode/utf8.acceptRanges", "internal/bytealg.MaxLen"], apart := false, laid := [("unicode/utf8.acceptRanges", laid_unicode_utf8_acceptRanges), ("unicode/utf8.first", laid_unicode_utf8_first)], narrowed := true }
def FnKeepFitsUptoSaid : Prop := fnKeepFitsUptoRow.holds Tryz.pinned (OpenSpec.upto fnKeepFitsSpec)

/-- 'laws.FnCanonNone', WHERE WHAT IT READS IS OF BULK AT MOST 1048576: true; the input reads as it did. -/
def fnCanonNoneUptoRow : OpenClaim := { program := "ytjobbcdolbhadaagreatdoor", sum := "a2a35ed60325f963e4982d0c567312eba637877660763f542db3f4d47919bb85", func := "loop.example/filereconciler/laws.FnCanonNone", spec := "fnCanonNone", inPlace := ["internal/bytealg.CountString", "internal/bytealg.IndexByteString", "internal/bytealg.IndexString", "slices.overlaps[loop.example/filereconciler/impl.Node]"], unfollowed := true, recurses := true, named := ["unicode/utf8.first", "unicode/utf8.acceptRanges", "internal/bytealg.MaxLen"], apart := false, laid := [("unicode/utf8.acceptRanges", laid_unicode_utf8_acceptRanges), ("unicode/utf8.first", laid_unicode_utf8_first)], narrowed := true }
def FnCanonNoneUptoSaid : Prop := fnCanonNoneUptoRow.holds Tryz.pinned (OpenSpec.upto fnCanonNoneSpec)

/-- 'laws.FnCanonDiff', WHERE WHAT IT READS IS OF BULK AT MOST 1048576: true; the input reads as it did. -/
def fnCanonDiffUptoRow : OpenClaim := { program := "ytjobbcdolbhadaagreatdoor", sum := "a2a35ed60325f963e4982d0c567312eba637877660763f542db3f4d47919bb85", func := "loop.example/filereconciler/laws.FnCanonDiff", spec := "fnCanonDiff", inPlace := ["internal/bytealg.CountString", "internal/bytealg.IndexByteString", "internal/bytealg.IndexString", "slices.overlaps[loop.example/filereconciler/impl.Node]"], unfollowed := true, recurses := true, named := ["unicode/utf8.first", "unicode/utf8.acceptRanges", "internal/bytealg.MaxLen"], apart := false, laid := [("unicode/utf8.acceptRanges", laid_unicode_utf8_acceptRanges), ("unicode/utf8.first", laid_unicode_utf8_first)], narrowed := true }
def FnCanonDiffUptoSaid : Prop := fnCanonDiffUptoRow.holds Tryz.pinned (OpenSpec.upto fnCanonDiffSpec)

/-- 'laws.FnOrderAll', WHERE WHAT IT READS IS OF BULK AT MOST 1048576: true; the input reads as it did. -/
def fnOrderAllUptoRow : OpenClaim := { program := "ytjobbcdolbhadaagreatdoor", sum := "a2a35ed60325f963e4982d0c567312eba637877660763f542db3f4d47919bb85", func := "loop.example/filereconciler/laws.FnOrderAll", spec := "fnOrderAll", inPlace := ["internal/bytealg.CountString", "internal/bytealg.IndexByteString", "internal/bytealg.IndexString", "slices.overlaps[loop.example/filereconciler/impl.Node]"], unfollowed := true, recurses := true, named := ["unicode/utf8.first", "unicode/utf8.acceptRanges", "internal/bytealg.MaxLen"], apart := false, laid := [("unicode/utf8.acceptRanges", laid_unicode_utf8_acceptRanges), ("unicode/utf8.first", laid_unicode_utf8_first)], narrowed := true }
def FnOrderAllUptoSaid : Prop := fnOrderAllUptoRow.holds Tryz.pinned (OpenSpec.upto fnOrderAllSpec)

end Rows
end Go.Proofs.YtjobbcdolbhadaaGreatDoor
