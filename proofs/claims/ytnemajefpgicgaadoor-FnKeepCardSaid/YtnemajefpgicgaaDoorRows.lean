/-
  NARROWER THAN 'FOR EVERY INPUT', by the rows' own cells (each row's printed sentence says how): FnExactFilterHold: laid · FnExactFilterKeep: laid · FnFilterTree: laid · FnExactFilterTree: laid · FnKeep: laid · FnKeepNone: laid · FnKeepHold: laid.
  DERIVED. THE GIVEN ROWS OF THIS SEAT. 7 by the template 'for every input the law returns true; each argument reads behind the call as it read before'; 0 by the template 'total and deterministic' (their statements: YtnemajefpgicgaaDoorTotals.lean).
  GIVEN WITH THE SEED: the statements are not yours to turn. If you find one false, say at which input.
  Laid BY PROGRAM, IN A SANDBOX (cutbox-rows.mjs): the forced cells as the released guide's own fill.sh prints them over the translation 02eeec87908495d3… (all of the seat's roots in one cut). By AI agents, Wed Nov 11 2026. No macro, syntax, notation, axiom, sorry.
-/
import Derived.Test.YtnemajefpgicgaaDoorChecked
import GoSem.PinnedTables
import GoSem.Claim
import GoSem.ClaimJoined
import GoSem.ClaimMapViews
import Derived.JoinedTies
import Derived.KernelRfl
namespace Go.Proofs.YtnemajefpgicgaaDoor
/- THE CELL 'sum', in the pinned program and in every row, IS THE sha256 OF THE DUMP (.gsa) THAT YtnemajefpgicgaaDoorProg.lean LOADS. Nothing in Lean hashes anything: it is a label: what it is worth is what the hold of that sum in a sandbox is worth. -/
noncomputable def Tryd.pinned : Pinned := { name := "ytnemajefpgicgaadoor", sum := "02eeec87908495d30efe8abe72e58428eec0821046d32b59452fa4a5f6f4584e", checked := Tryd.checked }
namespace Rows
def none {H : Type} : Left H := { results := [], args := [] }

/- WHAT THE LISTED PACKAGE-LEVEL VARIABLES READ AS WHEN THE CALL BEGINS. Each datum BY PROGRAM (the guide's laid-datum.mjs) off the statement by which the dump's own 'gosem.cut.vars' lays the variable. In a bare row this is a premise. The card (YtnemajefpgicgaaDoorCards.lean) ties it to the program's text. -/
def laid_unicode_utf8_acceptRanges {H : Type} : DataW H := .agg [.agg [.lit (.int .u8 128), .lit (.int .u8 191)], .agg [.lit (.int .u8 160), .lit (.int .u8 191)], .agg [.lit (.int .u8 128), .lit (.int .u8 159)], .agg [.lit (.int .u8 144), .lit (.int .u8 191)], .agg [.lit (.int .u8 128), .lit (.int .u8 143)], .agg [.lit (.int .u8 0), .lit (.int .u8 0)], .agg [.lit (.int .u8 0), .lit (.int .u8 0)], .agg [.lit (.int .u8 0), .lit (.int .u8 0)], .agg [.lit (.int .u8 0), .lit (.int .u8 0)], .agg [.lit (.int .u8 0), .lit (.int .u8 0)], .agg [.lit (.int .u8 0), .lit (.int .u8 0)], .agg [.lit (.int .u8 0), .lit (.int .u8 0)], .agg [.lit (.int .u8 0), .lit (.int .u8 0)], .agg [.lit (.int .u8 0), .lit (.int .u8 0)], .agg [.lit (.int .u8 0), .lit (.int .u8 0)], .agg [.lit (.int .u8 0), .lit (.int .u8 0)]]
/-- One of Go's own tables, pinned by name: the form's constant. -/
def laid_unicode_utf8_first : DataW Unit := Go.Pinned.utf8First

/-- 'laws.FnExactFilterHold': WHATEVER THE INPUT: true; the input reads as it did. -/
def fnExactFilterHoldSpec : ChangeSpec := { name := "fnExactFilterHold", fn := fun _ => fun
  | [d1, d2] => { results := [.lit (.bool true)], args := [d1, d2] }
  | _ => none }
def fnExactFilterHoldRow : OpenClaim := { program := "ytnemajefpgicgaadoor", sum := "02eeec87908495d30efe8abe72e58428eec0821046d32b59452fa4a5f6f4584e", func := "loop.example/filereconciler/laws.FnExactFilterHold", spec := "fnExactFilterHold", inPlace := ["internal/bytealg.CountString", "internal/bytealg.IndexByteString", "internal/bytealg.IndexString"], unfollowed := true, recurses := true, named := ["unicode/utf8.first", "unicode/utf8.acceptRanges", "internal/bytealg.MaxLen"], apart := false, laid := [("unicode/utf8.acceptRanges", laid_unicode_utf8_acceptRanges), ("unicode/utf8.first", laid_unicode_utf8_first)] }
def FnExactFilterHoldSaid : Prop := fnExactFilterHoldRow.holds Tryd.pinned (OpenSpec.ofChange fnExactFilterHoldSpec)

/-- ITS FALSE NEIGHBOUR: 'it returns false'. Refute it at one input. -/
def fnExactFilterHoldWrong : ChangeSpec := { name := "fnExactFilterHold", fn := fun _ => fun
  | [d1, d2] => { results := [.lit (.bool false)], args := [d1, d2] }
  | _ => none }
def FnExactFilterHoldWrongFalsely : Prop := fnExactFilterHoldRow.holds Tryd.pinned (OpenSpec.ofChange fnExactFilterHoldWrong)

/-- 'laws.FnExactFilterKeep': WHATEVER THE INPUT: true; the input reads as it did. -/
def fnExactFilterKeepSpec : ChangeSpec := { name := "fnExactFilterKeep", fn := fun _ => fun
  | [d1, d2] => { results := [.lit (.bool true)], args := [d1, d2] }
  | _ => none }
def fnExactFilterKeepRow : OpenClaim := { program := "ytnemajefpgicgaadoor", sum := "02eeec87908495d30efe8abe72e58428eec0821046d32b59452fa4a5f6f4584e", func := "loop.example/filereconciler/laws.FnExactFilterKeep", spec := "fnExactFilterKeep", inPlace := ["internal/bytealg.CountString", "internal/bytealg.IndexByteString", "internal/bytealg.IndexString"], unfollowed := true, recurses := true, named := ["unicode/utf8.first", "unicode/utf8.acceptRanges", "internal/bytealg.MaxLen"], apart := false, laid := [("unicode/utf8.acceptRanges", laid_unicode_utf8_acceptRanges), ("unicode/utf8.first", laid_unicode_utf8_first)] }
def FnExactFilterKeepSaid : Prop := fnExactFilterKeepRow.holds Tryd.pinned (OpenSpec.ofChange fnExactFilterKeepSpec)

/-- ITS FALSE NEIGHBOUR: 'it returns false'. Refute it at one input. -/
def fnExactFilterKeepWrong : ChangeSpec := { name := "fnExactFilterKeep", fn := fun _ => fun
  | [d1, d2] => { results := [.lit (.bool false)], args := [d1, d2] }
  | _ => none }
def FnExactFilterKeepWrongFalsely : Prop := fnExactFilterKeepRow.holds Tryd.pinned (OpenSpec.ofChange fnExactFilterKeepWrong)

/-- 'laws.FnFilterTree': WHATEVER THE INPUT: true; the input reads as it did. -/
def fnFilterTreeSpec : ChangeSpec := { name := "fnFilterTree", fn := fun _ => fun
  | [d] => { results := [.lit (.bool true)], args := [d] }
  | _ => none }
def fnFilterTreeRow : OpenClaim := { program := "ytnemajefpgicgaadoor", sum := "02eeec87908495d30efe8abe72e58428eec0821046d32b59452fa4a5f6f4584e", func := "loop.example/filereconciler/laws.FnFilterTree", spec := "fnFilterTree", inPlace := ["internal/bytealg.CountString", "internal/bytealg.IndexByteString", "internal/bytealg.IndexString"], unfollowed := true, recurses := true, named := ["unicode/utf8.first", "unicode/utf8.acceptRanges", "internal/bytealg.MaxLen"], apart := false, laid := [("unicode/utf8.acceptRanges", laid_unicode_utf8_acceptRanges), ("unicode/utf8.first", laid_unicode_utf8_first)] }
def FnFilterTreeSaid : Prop := fnFilterTreeRow.holds Tryd.pinned (OpenSpec.ofChange fnFilterTreeSpec)

/-- ITS FALSE NEIGHBOUR: 'it returns false'. Refute it at one input. -/
def fnFilterTreeWrong : ChangeSpec := { name := "fnFilterTree", fn := fun _ => fun
  | [d] => { results := [.lit (.bool false)], args := [d] }
  | _ => none }
def FnFilterTreeWrongFalsely : Prop := fnFilterTreeRow.holds Tryd.pinned (OpenSpec.ofChange fnFilterTreeWrong)

/-- 'laws.FnExactFilterTree': WHATEVER THE INPUT: true; the input reads as it did. -/
def fnExactFilterTreeSpec : ChangeSpec := { name := "fnExactFilterTree", fn := fun _ => fun
  | [d1, d2] => { results := [.lit (.bool true)], args := [d1, d2] }
  | _ => none }
def fnExactFilterTreeRow : OpenClaim := { program := "ytnemajefpgicgaadoor", sum := "02eeec87908495d30efe8abe72e58428eec0821046d32b59452fa4a5f6f4584e", func := "loop.example/filereconciler/laws.FnExactFilterTree", spec := "fnExactFilterTree", inPlace := ["internal/bytealg.CountString", "internal/bytealg.IndexByteString", "internal/bytealg.IndexString"], unfollowed := true, recurses := true, named := ["unicode/utf8.first", "unicode/utf8.acceptRanges", "internal/bytealg.MaxLen"], apart := false, laid := [("unicode/utf8.acceptRanges", laid_unicode_utf8_acceptRanges), ("unicode/utf8.first", laid_unicode_utf8_first)] }
def FnExactFilterTreeSaid : Prop := fnExactFilterTreeRow.holds Tryd.pinned (OpenSpec.ofChange fnExactFilterTreeSpec)

/-- ITS FALSE NEIGHBOUR: 'it returns false'. Refute it at one input. -/
def fnExactFilterTreeWrong : ChangeSpec := { name := "fnExactFilterTree", fn := fun _ => fun
  | [d1, d2] => { results := [.lit (.bool false)], args := [d1, d2] }
  | _ => none }
def FnExactFilterTreeWrongFalsely : Prop := fnExactFilterTreeRow.holds Tryd.pinned (OpenSpec.ofChange fnExactFilterTreeWrong)

/-- 'laws.FnKeep': WHATEVER THE INPUT: true; the input reads as it did. -/
def fnKeepSpec : ChangeSpec := { name := "fnKeep", fn := fun _ => fun
  | [d] => { results := [.lit (.bool true)], args := [d] }
  | _ => none }
def fnKeepRow : OpenClaim := { program := "ytnemajefpgicgaadoor", sum := "02eeec87908495d30efe8abe72e58428eec0821046d32b59452fa4a5f6f4584e", func := "loop.example/filereconciler/laws.FnKeep", spec := "fnKeep", inPlace := ["internal/bytealg.CountString", "internal/bytealg.IndexByteString", "internal/bytealg.IndexString"], unfollowed := true, recurses := true, named := ["unicode/utf8.first", "unicode/utf8.acceptRanges", "internal/bytealg.MaxLen"], apart := false, laid := [("unicode/utf8.acceptRanges", laid_unicode_utf8_acceptRanges), ("unicode/utf8.first", laid_unicode_utf8_first)] }
def FnKeepSaid : Prop := fnKeepRow.holds Tryd.pinned (OpenSpec.ofChange fnKeepSpec)

/-- ITS FALSE NEIGHBOUR: 'it returns false'. Refute it at one input. -/
def fnKeepWrong : ChangeSpec := { name := "fnKeep", fn := fun _ => fun
  | [d] => { results := [.lit (.bool false)], args := [d] }
  | _ => none }
def FnKeepWrongFalsely : Prop := fnKeepRow.holds Tryd.pinned (OpenSpec.ofChange fnKeepWrong)

/-- 'laws.FnKeepNone': WHATEVER THE INPUT: true; the input reads as it did. -/
def fnKeepNoneSpec : ChangeSpec := { name := "fnKeepNone", fn := fun _ => fun
  | [d1, d2] => { results := [.lit (.bool true)], args := [d1, d2] }
  | _ => none }
def fnKeepNoneRow : OpenClaim := { program := "ytnemajefpgicgaadoor", sum := "02eeec87908495d30efe8abe72e58428eec0821046d32b59452fa4a5f6f4584e", func := "loop.example/filereconciler/laws.FnKeepNone", spec := "fnKeepNone", inPlace := ["internal/bytealg.CountString", "internal/bytealg.IndexByteString", "internal/bytealg.IndexString"], unfollowed := true, recurses := true, named := ["unicode/utf8.first", "unicode/utf8.acceptRanges", "internal/bytealg.MaxLen"], apart := false, laid := [("unicode/utf8.acceptRanges", laid_unicode_utf8_acceptRanges), ("unicode/utf8.first", laid_unicode_utf8_first)] }
def FnKeepNoneSaid : Prop := fnKeepNoneRow.holds Tryd.pinned (OpenSpec.ofChange fnKeepNoneSpec)

/-- ITS FALSE NEIGHBOUR: 'it returns false'. Refute it at one input. -/
def fnKeepNoneWrong : ChangeSpec := { name := "fnKeepNone", fn := fun _ => fun
  | [d1, d2] => { results := [.lit (.bool false)], args := [d1, d2] }
  | _ => none }
def FnKeepNoneWrongFalsely : Prop := fnKeepNoneRow.holds Tryd.pinned (OpenSpec.ofChange fnKeepNoneWrong)

/-- 'laws.FnKeepHold': WHATEVER THE INPUT: true; the input reads as it did. -/
def fnKeepHoldSpec : ChangeSpec := { name := "fnKeepHold", fn := fun _ => fun
  | [d] => { results := [.lit (.bool true)], args := [d] }
  | _ => none }
def fnKeepHoldRow : OpenClaim := { program := "ytnemajefpgicgaadoor", sum := "02eeec87908495d30efe8abe72e58428eec0821046d32b59452fa4a5f6f4584e", func := "loop.example/filereconciler/laws.FnKeepHold", spec := "fnKeepHold", inPlace := ["internal/bytealg.CountString", "internal/bytealg.IndexByteString", "internal/bytealg.IndexString"], unfollowed := true, recurses := true, named := ["unicode/utf8.first", "unicode/utf8.acceptRanges", "internal/bytealg.MaxLen"], apart := false, laid := [("unicode/utf8.acceptRanges", laid_unicode_utf8_acceptRanges), ("unicode/utf8.first", laid_unicode_utf8_first)] }
def FnKeepHoldSaid : Prop := fnKeepHoldRow.holds Tryd.pinned (OpenSpec.ofChange fnKeepHoldSpec)

/-- ITS FALSE NEIGHBOUR: 'it returns false'. Refute it at one input. -/
def fnKeepHoldWrong : ChangeSpec := { name := "fnKeepHold", fn := fun _ => fun
  | [d] => { results := [.lit (.bool false)], args := [d] }
  | _ => none }
def FnKeepHoldWrongFalsely : Prop := fnKeepHoldRow.holds Tryd.pinned (OpenSpec.ofChange fnKeepHoldWrong)

/- THE SECOND FORM. 'bulk': how many values and letters a reading holds, each counted each time it is reached (what is shared counts as often as it is met; a slice's spare places count too). A statement '..UptoSaid' is the law's where the arguments, and the package variables that the reading takes, are together of bulk at most 1048576: NARROWER than '..Said'. Prove '..Said' where nothing that the law and all that it calls make is longer than what came in: it says more and counts as full. Else prove '..UptoSaid'. A law counts once. -/
mutual
def uptoBulk {H : Type} : DataW H → Nat
  | .lit (.string bytes) => bytes.length + 1
  | .lit _ => 1
  | .nil => 1
  | .ptr d => uptoBulk d + 1
  | .slice elems spare => uptoBulkAll elems + uptoBulkAll spare + 1
  | .agg parts => uptoBulkAll parts + 1
  | .iface _ d => uptoBulk d + 1
  | .map entries => uptoBulkEntries entries + 1
  | .held _ => 1
def uptoBulkAll {H : Type} : List (DataW H) → Nat
  | [] => 0
  | d :: r => uptoBulk d + uptoBulkAll r
def uptoBulkEntries {H : Type} : List (Lit × DataW H) → Nat
  | [] => 0
  | x :: r => uptoBulkEntry x + uptoBulkEntries r
def uptoBulkEntry {H : Type} : Lit × DataW H → Nat
  | (.string bytes, d) => bytes.length + uptoBulk d + 1
  | (_, d) => uptoBulk d + 1
 end
def uptoSmall : (H : Type) → List (DataW H) → Bool := fun _ ds => decide (uptoBulkAll ds ≤ 1048576)
def OpenSpec.upto (s : _root_.Go.ChangeSpec) : _root_.Go.OpenSpec := { _root_.Go.OpenSpec.ofChange s with cond := some uptoSmall }

/-- 'laws.FnExactFilterHold', WHERE WHAT IT READS IS OF BULK AT MOST 1048576: true; the input reads as it did. -/
def fnExactFilterHoldUptoRow : OpenClaim := { program := "ytnemajefpgicgaadoor", sum := "02eeec87908495d30efe8abe72e58428eec0821046d32b59452fa4a5f6f4584e", func := "loop.example/filereconciler/laws.FnExactFilterHold", spec := "fnExactFilterHold", inPlace := ["internal/bytealg.CountString", "internal/bytealg.IndexByteString", "internal/bytealg.IndexString"], unfollowed := true, recurses := true, named := ["unicode/utf8.first", "unicode/utf8.acceptRanges", "internal/bytealg.MaxLen"], apart := false, laid := [("unicode/utf8.acceptRanges", laid_unicode_utf8_acceptRanges), ("unicode/utf8.first", laid_unicode_utf8_first)], narrowed := true }
def FnExactFilterHoldUptoSaid : Prop := fnExactFilterHoldUptoRow.holds Tryd.pinned (OpenSpec.upto fnExactFilterHoldSpec)

/-- 'laws.FnExactFilterKeep', WHERE WHAT IT READS IS OF BULK AT MOST 1048576: true; the input reads as it did. -/
def fnExactFilterKeepUptoRow : OpenClaim := { program := "ytnemajefpgicgaadoor", sum := "02eeec87908495d30efe8abe72e58428eec0821046d32b59452fa4a5f6f4584e", func := "loop.example/filereconciler/laws.FnExactFilterKeep", spec := "fnExactFilterKeep", inPlace := ["internal/bytealg.CountString", "internal/bytealg.IndexByteString", "internal/bytealg.IndexString"], unfollowed := true, recurses := true, named := ["unicode/utf8.first", "unicode/utf8.acceptRanges", "internal/bytealg.MaxLen"], apart := false, laid := [("unicode/utf8.acceptRanges", laid_unicode_utf8_acceptRanges), ("unicode/utf8.first", laid_unicode_utf8_first)], narrowed := true }
def FnExactFilterKeepUptoSaid : Prop := fnExactFilterKeepUptoRow.holds Tryd.pinned (OpenSpec.upto fnExactFilterKeepSpec)

/-- 'laws.FnFilterTree', WHERE WHAT IT READS IS OF BULK AT MOST 1048576: true; the input reads as it did. -/
def fnFilterTreeUptoRow : OpenClaim := { program := "ytnemajefpgicgaadoor", sum := "02eeec87908495d30efe8abe72e58428eec0821046d32b59452fa4a5f6f4584e", func := "loop.example/filereconciler/laws.FnFilterTree", spec := "fnFilterTree", inPlace := ["internal/bytealg.CountString", "internal/bytealg.IndexByteString", "internal/bytealg.IndexString"], unfollowed := true, recurses := true, named := ["unicode/utf8.first", "unicode/utf8.acceptRanges", "internal/bytealg.MaxLen"], apart := false, laid := [("unicode/utf8.acceptRanges", laid_unicode_utf8_acceptRanges), ("unicode/utf8.first", laid_unicode_utf8_first)], narrowed := true }
def FnFilterTreeUptoSaid : Prop := fnFilterTreeUptoRow.holds Tryd.pinned (OpenSpec.upto fnFilterTreeSpec)

/-- 'laws.FnExactFilterTree', WHERE WHAT IT READS IS OF BULK AT MOST 1048576: true; the input reads as it did. -/
def fnExactFilterTreeUptoRow : OpenClaim := { program := "ytnemajefpgicgaadoor", sum := "02eeec87908495d30efe8abe72e58428eec0821046d32b59452fa4a5f6f4584e", func := "loop.example/filereconciler/laws.FnExactFilterTree", spec := "fnExactFilterTree", inPlace := ["internal/bytealg.CountString", "internal/bytealg.IndexByteString", "internal/bytealg.IndexString"], unfollowed := true, recurses := true, named := ["unicode/utf8.first", "unicode/utf8.acceptRanges", "internal/bytealg.MaxLen"], apart := false, laid := [("unicode/utf8.acceptRanges", laid_unicode_utf8_acceptRanges), ("unicode/utf8.first", laid_unicode_utf8_first)], narrowed := true }
def FnExactFilterTreeUptoSaid : Prop := fnExactFilterTreeUptoRow.holds Tryd.pinned (OpenSpec.upto fnExactFilterTreeSpec)

/-- 'laws.FnKeep', WHERE WHAT IT READS IS OF BULK AT MOST 1048576: true; the input reads as it did. -/
def fnKeepUptoRow : OpenClaim := { program := "ytnemajefpgicgaadoor", sum := "02eeec87908495d30efe8abe72e58428eec0821046d32b59452fa4a5f6f4584e", func := "loop.example/filereconciler/laws.FnKeep", spec := "fnKeep", inPlace := ["internal/bytealg.CountString", "internal/bytealg.IndexByteString", "internal/bytealg.IndexString"], unfollowed := true, recurses := true, named := ["unicode/utf8.first", "unicode/utf8.acceptRanges", "internal/bytealg.MaxLen"], apart := false, laid := [("unicode/utf8.acceptRanges", laid_unicode_utf8_acceptRanges), ("unicode/utf8.first", laid_unicode_utf8_first)], narrowed := true }
def FnKeepUptoSaid : Prop := fnKeepUptoRow.holds Tryd.pinned (OpenSpec.upto fnKeepSpec)

/-- 'laws.FnKeepNone', WHERE WHAT IT READS IS OF BULK AT MOST 1048576: true; the input reads as it did. -/
def fnKeepNoneUptoRow : OpenClaim := { program := "ytnemajefpgicgaadoor", sum := "02eeec87908495d30efe8abe72e58428eec0821046d32b59452fa4a5f6f4584e", func := "loop.example/filereconciler/laws.FnKeepNone", spec := "fnKeepNone", inPlace := ["internal/bytealg.CountString", "internal/bytealg.IndexByteString", "internal/bytealg.IndexString"], unfollowed := true, recurses := true, named := ["unicode/utf8.first", "unicode/utf8.acceptRanges", "internal/bytealg.MaxLen"], apart := false, laid := [("unicode/utf8.acceptRanges", laid_unicode_utf8_acceptRanges), ("unicode/utf8.first", laid_unicode_utf8_first)], narrowed := true }
def FnKeepNoneUptoSaid : Prop := fnKeepNoneUptoRow.holds Tryd.pinned (OpenSpec.upto fnKeepNoneSpec)

/-- 'laws.FnKeepHold', WHERE WHAT IT READS IS OF BULK AT MOST 1048576: true; the input reads as it did. -/
def fnKeepHoldUptoRow : OpenClaim := { program := "ytnemajefpgicgaadoor", sum := "02eeec87908495d30efe8abe72e58428eec0821046d32b59452fa4a5f6f4584e", func := "loop.example/filereconciler/laws.FnKeepHold", spec := "fnKeepHold", inPlace := ["internal/bytealg.CountString", "internal/bytealg.IndexByteString", "internal/bytealg.IndexString"], unfollowed := true, recurses := true, named := ["unicode/utf8.first", "unicode/utf8.acceptRanges", "internal/bytealg.MaxLen"], apart := false, laid := [("unicode/utf8.acceptRanges", laid_unicode_utf8_acceptRanges), ("unicode/utf8.first", laid_unicode_utf8_first)], narrowed := true }
def FnKeepHoldUptoSaid : Prop := fnKeepHoldUptoRow.holds Tryd.pinned (OpenSpec.upto fnKeepHoldSpec)

end Rows
end Go.Proofs.YtnemajefpgicgaaDoor
