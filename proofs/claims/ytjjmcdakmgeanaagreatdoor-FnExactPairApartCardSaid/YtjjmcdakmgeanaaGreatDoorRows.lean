/-
  NARROWER THAN 'FOR EVERY INPUT', by the rows' own cells (each row's printed sentence says how): FnExactPairTree: laid · FnExactResolveTree: laid · FnResolveTurned: laid · FnPairUnsafe: laid · FnResolve: laid · FnResolveSame: laid · FnPairTree: laid · FnPairApartAll: laid · FnExactPairApart: laid · FnPairApart: laid.
  DERIVED. THE GIVEN ROWS OF THIS SEAT. 10 by the template 'for every input the law returns true; each argument reads behind the call as it read before'; 0 by the template 'total and deterministic' (their statements: YtjjmcdakmgeanaaGreatDoorTotals.lean).
  GIVEN WITH THE SEED: the statements are not yours to turn. If you find one false, say at which input.
  Laid BY PROGRAM, IN A SANDBOX (cutbox-rows.mjs): the forced cells as the released guide's own fill.sh prints them over the translation cc182a38b81246eb… (all of the seat's roots in one cut). By AI agents, Wed Nov 11 2026. No macro, syntax, notation, axiom, sorry.
-/
import Derived.Test.YtjjmcdakmgeanaaGreatDoorChecked
import GoSem.PinnedTables
import GoSem.Claim
import GoSem.ClaimJoined
import GoSem.ClaimMapViews
import Derived.JoinedTies
import Derived.KernelRfl
namespace Go.Proofs.YtjjmcdakmgeanaaGreatDoor
/- THE CELL 'sum', in the pinned program and in every row, IS THE sha256 OF THE DUMP (.gsa) THAT YtjjmcdakmgeanaaGreatDoorProg.lean LOADS. Nothing in Lean hashes anything: it is a label: what it is worth is what the hold of that sum in a sandbox is worth. -/
noncomputable def Tryz.pinned : Pinned := { name := "ytjjmcdakmgeanaagreatdoor", sum := "cc182a38b81246eb4723423bff43bed318389698f451b5b49c9233a077c1ce3b", checked := Tryz.checked }
namespace Rows
def none {H : Type} : Left H := { results := [], args := [] }

/- WHAT THE LISTED PACKAGE-LEVEL VARIABLES READ AS WHEN THE CALL BEGINS. Each datum BY PROGRAM (the guide's laid-datum.mjs) off the statement by which the dump's own 'gosem.cut.vars' lays the variable. In a bare row this is a premise. The card (YtjjmcdakmgeanaaGreatDoorCards.lean) ties it to the program's text. -/
def laid_unicode_utf8_acceptRanges {H : Type} : DataW H := .agg [.agg [.lit (.int .u8 128), .lit (.int .u8 191)], .agg [.lit (.int .u8 160), .lit (.int .u8 191)], .agg [.lit (.int .u8 128), .lit (.int .u8 159)], .agg [.lit (.int .u8 144), .lit (.int .u8 191)], .agg [.lit (.int .u8 128), .lit (.int .u8 143)], .agg [.lit (.int .u8 0), .lit (.int .u8 0)], .agg [.lit (.int .u8 0), .lit (.int .u8 0)], .agg [.lit (.int .u8 0), .lit (.int .u8 0)], .agg [.lit (.int .u8 0), .lit (.int .u8 0)], .agg [.lit (.int .u8 0), .lit (.int .u8 0)], .agg [.lit (.int .u8 0), .lit (.int .u8 0)], .agg [.lit (.int .u8 0), .lit (.int .u8 0)], .agg [.lit (.int .u8 0), .lit (.int .u8 0)], .agg [.lit (.int .u8 0), .lit (.int .u8 0)], .agg [.lit (.int .u8 0), .lit (.int .u8 0)], .agg [.lit (.int .u8 0), .lit (.int .u8 0)]]
/-- One of Go's own tables, pinned by name: the form's constant. -/
def laid_unicode_utf8_first : DataW Unit := Go.Pinned.utf8First

/-- 'laws.FnExactPairTree': WHATEVER THE INPUT: true; the input reads as it did. -/
def fnExactPairTreeSpec : ChangeSpec := { name := "fnExactPairTree", fn := fun _ => fun
  | [d1, d2, d3] => { results := [.lit (.bool true)], args := [d1, d2, d3] }
  | _ => none }
def fnExactPairTreeRow : OpenClaim := { program := "ytjjmcdakmgeanaagreatdoor", sum := "cc182a38b81246eb4723423bff43bed318389698f451b5b49c9233a077c1ce3b", func := "loop.example/filereconciler/laws.FnExactPairTree", spec := "fnExactPairTree", inPlace := ["internal/bytealg.CountString", "internal/bytealg.IndexByteString", "internal/bytealg.IndexString", "slices.overlaps[loop.example/filereconciler/impl.Node]"], unfollowed := true, recurses := true, named := ["unicode/utf8.first", "unicode/utf8.acceptRanges", "internal/bytealg.MaxLen"], apart := false, laid := [("unicode/utf8.acceptRanges", laid_unicode_utf8_acceptRanges), ("unicode/utf8.first", laid_unicode_utf8_first)] }
def FnExactPairTreeSaid : Prop := fnExactPairTreeRow.holds Tryz.pinned (OpenSpec.ofChange fnExactPairTreeSpec)

/-- ITS FALSE NEIGHBOUR: 'it returns false'. Refute it at one input. -/
def fnExactPairTreeWrong : ChangeSpec := { name := "fnExactPairTree", fn := fun _ => fun
  | [d1, d2, d3] => { results := [.lit (.bool false)], args := [d1, d2, d3] }
  | _ => none }
def FnExactPairTreeWrongFalsely : Prop := fnExactPairTreeRow.holds Tryz.pinned (OpenSpec.ofChange fnExactPairTreeWrong)

/-- 'laws.FnExactResolveTree': WHATEVER THE INPUT: true; the input reads as it did. -/
def fnExactResolveTreeSpec : ChangeSpec := { name := "fnExactResolveTree", fn := fun _ => fun
  | [d1, d2, d3, d4] => { results := [.lit (.bool true)], args := [d1, d2, d3, d4] }
  | _ => none }
def fnExactResolveTreeRow : OpenClaim := { program := "ytjjmcdakmgeanaagreatdoor", sum := "cc182a38b81246eb4723423bff43bed318389698f451b5b49c9233a077c1ce3b", func := "loop.example/filereconciler/laws.FnExactResolveTree", spec := "fnExactResolveTree", inPlace := ["internal/bytealg.CountString", "internal/bytealg.IndexByteString", "internal/bytealg.IndexString", "slices.overlaps[loop.example/filereconciler/impl.Node]"], unfollowed := true, recurses := true, named := ["unicode/utf8.first", "unicode/utf8.acceptRanges", "internal/bytealg.MaxLen"], apart := false, laid := [("unicode/utf8.acceptRanges", laid_unicode_utf8_acceptRanges), ("unicode/utf8.first", laid_unicode_utf8_first)] }
def FnExactResolveTreeSaid : Prop := fnExactResolveTreeRow.holds Tryz.pinned (OpenSpec.ofChange fnExactResolveTreeSpec)

/-- ITS FALSE NEIGHBOUR: 'it returns false'. Refute it at one input. -/
def fnExactResolveTreeWrong : ChangeSpec := { name := "fnExactResolveTree", fn := fun _ => fun
  | [d1, d2, d3, d4] => { results := [.lit (.bool false)], args := [d1, d2, d3, d4] }
  | _ => none }
def FnExactResolveTreeWrongFalsely : Prop := fnExactResolveTreeRow.holds Tryz.pinned (OpenSpec.ofChange fnExactResolveTreeWrong)

/-- 'laws.FnResolveTurned': WHATEVER THE INPUT: true; the input reads as it did. -/
def fnResolveTurnedSpec : ChangeSpec := { name := "fnResolveTurned", fn := fun _ => fun
  | [d] => { results := [.lit (.bool true)], args := [d] }
  | _ => none }
def fnResolveTurnedRow : OpenClaim := { program := "ytjjmcdakmgeanaagreatdoor", sum := "cc182a38b81246eb4723423bff43bed318389698f451b5b49c9233a077c1ce3b", func := "loop.example/filereconciler/laws.FnResolveTurned", spec := "fnResolveTurned", inPlace := ["internal/bytealg.CountString", "internal/bytealg.IndexByteString", "internal/bytealg.IndexString", "slices.overlaps[loop.example/filereconciler/impl.Node]"], unfollowed := true, recurses := true, named := ["unicode/utf8.first", "unicode/utf8.acceptRanges", "internal/bytealg.MaxLen"], apart := false, laid := [("unicode/utf8.acceptRanges", laid_unicode_utf8_acceptRanges), ("unicode/utf8.first", laid_unicode_utf8_first)] }
def FnResolveTurnedSaid : Prop := fnResolveTurnedRow.holds Tryz.pinned (OpenSpec.ofChange fnResolveTurnedSpec)

/-- ITS FALSE NEIGHBOUR: 'it returns false'. Refute it at one input. -/
def fnResolveTurnedWrong : ChangeSpec := { name := "fnResolveTurned", fn := fun _ => fun
  | [d] => { results := [.lit (.bool false)], args := [d] }
  | _ => none }
def FnResolveTurnedWrongFalsely : Prop := fnResolveTurnedRow.holds Tryz.pinned (OpenSpec.ofChange fnResolveTurnedWrong)

/-- 'laws.FnPairUnsafe': WHATEVER THE INPUT: true; the input reads as it did. -/
def fnPairUnsafeSpec : ChangeSpec := { name := "fnPairUnsafe", fn := fun _ => fun
  | [d] => { results := [.lit (.bool true)], args := [d] }
  | _ => none }
def fnPairUnsafeRow : OpenClaim := { program := "ytjjmcdakmgeanaagreatdoor", sum := "cc182a38b81246eb4723423bff43bed318389698f451b5b49c9233a077c1ce3b", func := "loop.example/filereconciler/laws.FnPairUnsafe", spec := "fnPairUnsafe", inPlace := ["internal/bytealg.CountString", "internal/bytealg.IndexByteString", "internal/bytealg.IndexString", "slices.overlaps[loop.example/filereconciler/impl.Node]"], unfollowed := true, recurses := true, named := ["unicode/utf8.first", "unicode/utf8.acceptRanges", "internal/bytealg.MaxLen"], apart := false, laid := [("unicode/utf8.acceptRanges", laid_unicode_utf8_acceptRanges), ("unicode/utf8.first", laid_unicode_utf8_first)] }
def FnPairUnsafeSaid : Prop := fnPairUnsafeRow.holds Tryz.pinned (OpenSpec.ofChange fnPairUnsafeSpec)

/-- ITS FALSE NEIGHBOUR: 'it returns false'. Refute it at one input. -/
def fnPairUnsafeWrong : ChangeSpec := { name := "fnPairUnsafe", fn := fun _ => fun
  | [d] => { results := [.lit (.bool false)], args := [d] }
  | _ => none }
def FnPairUnsafeWrongFalsely : Prop := fnPairUnsafeRow.holds Tryz.pinned (OpenSpec.ofChange fnPairUnsafeWrong)

/-- 'laws.FnResolve': WHATEVER THE INPUT: true; the input reads as it did. -/
def fnResolveSpec : ChangeSpec := { name := "fnResolve", fn := fun _ => fun
  | [d] => { results := [.lit (.bool true)], args := [d] }
  | _ => none }
def fnResolveRow : OpenClaim := { program := "ytjjmcdakmgeanaagreatdoor", sum := "cc182a38b81246eb4723423bff43bed318389698f451b5b49c9233a077c1ce3b", func := "loop.example/filereconciler/laws.FnResolve", spec := "fnResolve", inPlace := ["internal/bytealg.CountString", "internal/bytealg.IndexByteString", "internal/bytealg.IndexString", "slices.overlaps[loop.example/filereconciler/impl.Node]"], unfollowed := true, recurses := true, named := ["unicode/utf8.first", "unicode/utf8.acceptRanges", "internal/bytealg.MaxLen"], apart := false, laid := [("unicode/utf8.acceptRanges", laid_unicode_utf8_acceptRanges), ("unicode/utf8.first", laid_unicode_utf8_first)] }
def FnResolveSaid : Prop := fnResolveRow.holds Tryz.pinned (OpenSpec.ofChange fnResolveSpec)

/-- ITS FALSE NEIGHBOUR: 'it returns false'. Refute it at one input. -/
def fnResolveWrong : ChangeSpec := { name := "fnResolve", fn := fun _ => fun
  | [d] => { results := [.lit (.bool false)], args := [d] }
  | _ => none }
def FnResolveWrongFalsely : Prop := fnResolveRow.holds Tryz.pinned (OpenSpec.ofChange fnResolveWrong)

/-- 'laws.FnResolveSame': WHATEVER THE INPUT: true; the input reads as it did. -/
def fnResolveSameSpec : ChangeSpec := { name := "fnResolveSame", fn := fun _ => fun
  | [d] => { results := [.lit (.bool true)], args := [d] }
  | _ => none }
def fnResolveSameRow : OpenClaim := { program := "ytjjmcdakmgeanaagreatdoor", sum := "cc182a38b81246eb4723423bff43bed318389698f451b5b49c9233a077c1ce3b", func := "loop.example/filereconciler/laws.FnResolveSame", spec := "fnResolveSame", inPlace := ["internal/bytealg.CountString", "internal/bytealg.IndexByteString", "internal/bytealg.IndexString", "slices.overlaps[loop.example/filereconciler/impl.Node]"], unfollowed := true, recurses := true, named := ["unicode/utf8.first", "unicode/utf8.acceptRanges", "internal/bytealg.MaxLen"], apart := false, laid := [("unicode/utf8.acceptRanges", laid_unicode_utf8_acceptRanges), ("unicode/utf8.first", laid_unicode_utf8_first)] }
def FnResolveSameSaid : Prop := fnResolveSameRow.holds Tryz.pinned (OpenSpec.ofChange fnResolveSameSpec)

/-- ITS FALSE NEIGHBOUR: 'it returns false'. Refute it at one input. -/
def fnResolveSameWrong : ChangeSpec := { name := "fnResolveSame", fn := fun _ => fun
  | [d] => { results := [.lit (.bool false)], args := [d] }
  | _ => none }
def FnResolveSameWrongFalsely : Prop := fnResolveSameRow.holds Tryz.pinned (OpenSpec.ofChange fnResolveSameWrong)

/-- 'laws.FnPairTree': WHATEVER THE INPUT: true; the input reads as it did. -/
def fnPairTreeSpec : ChangeSpec := { name := "fnPairTree", fn := fun _ => fun
  | [d] => { results := [.lit (.bool true)], args := [d] }
  | _ => none }
def fnPairTreeRow : OpenClaim := { program := "ytjjmcdakmgeanaagreatdoor", sum := "cc182a38b81246eb4723423bff43bed318389698f451b5b49c9233a077c1ce3b", func := "loop.example/filereconciler/laws.FnPairTree", spec := "fnPairTree", inPlace := ["internal/bytealg.CountString", "internal/bytealg.IndexByteString", "internal/bytealg.IndexString", "slices.overlaps[loop.example/filereconciler/impl.Node]"], unfollowed := true, recurses := true, named := ["unicode/utf8.first", "unicode/utf8.acceptRanges", "internal/bytealg.MaxLen"], apart := false, laid := [("unicode/utf8.acceptRanges", laid_unicode_utf8_acceptRanges), ("unicode/utf8.first", laid_unicode_utf8_first)] }
def FnPairTreeSaid : Prop := fnPairTreeRow.holds Tryz.pinned (OpenSpec.ofChange fnPairTreeSpec)

/-- ITS FALSE NEIGHBOUR: 'it returns false'. Refute it at one input. -/
def fnPairTreeWrong : ChangeSpec := { name := "fnPairTree", fn := fun _ => fun
  | [d] => { results := [.lit (.bool false)], args := [d] }
  | _ => none }
def FnPairTreeWrongFalsely : Prop := fnPairTreeRow.holds Tryz.pinned (OpenSpec.ofChange fnPairTreeWrong)

/-- 'laws.FnPairApartAll': WHATEVER THE INPUT: true; the input reads as it did. -/
def fnPairApartAllSpec : ChangeSpec := { name := "fnPairApartAll", fn := fun _ => fun
  | [d] => { results := [.lit (.bool true)], args := [d] }
  | _ => none }
def fnPairApartAllRow : OpenClaim := { program := "ytjjmcdakmgeanaagreatdoor", sum := "cc182a38b81246eb4723423bff43bed318389698f451b5b49c9233a077c1ce3b", func := "loop.example/filereconciler/laws.FnPairApartAll", spec := "fnPairApartAll", inPlace := ["internal/bytealg.CountString", "internal/bytealg.IndexByteString", "internal/bytealg.IndexString", "slices.overlaps[loop.example/filereconciler/impl.Node]"], unfollowed := true, recurses := true, named := ["unicode/utf8.first", "unicode/utf8.acceptRanges", "internal/bytealg.MaxLen"], apart := false, laid := [("unicode/utf8.acceptRanges", laid_unicode_utf8_acceptRanges), ("unicode/utf8.first", laid_unicode_utf8_first)] }
def FnPairApartAllSaid : Prop := fnPairApartAllRow.holds Tryz.pinned (OpenSpec.ofChange fnPairApartAllSpec)

/-- ITS FALSE NEIGHBOUR: 'it returns false'. Refute it at one input. -/
def fnPairApartAllWrong : ChangeSpec := { name := "fnPairApartAll", fn := fun _ => fun
  | [d] => { results := [.lit (.bool false)], args := [d] }
  | _ => none }
def FnPairApartAllWrongFalsely : Prop := fnPairApartAllRow.holds Tryz.pinned (OpenSpec.ofChange fnPairApartAllWrong)

/-- 'laws.FnExactPairApart': WHATEVER THE INPUT: true; the input reads as it did. -/
def fnExactPairApartSpec : ChangeSpec := { name := "fnExactPairApart", fn := fun _ => fun
  | [d1, d2, d3] => { results := [.lit (.bool true)], args := [d1, d2, d3] }
  | _ => none }
def fnExactPairApartRow : OpenClaim := { program := "ytjjmcdakmgeanaagreatdoor", sum := "cc182a38b81246eb4723423bff43bed318389698f451b5b49c9233a077c1ce3b", func := "loop.example/filereconciler/laws.FnExactPairApart", spec := "fnExactPairApart", inPlace := ["internal/bytealg.CountString", "internal/bytealg.IndexByteString", "internal/bytealg.IndexString", "slices.overlaps[loop.example/filereconciler/impl.Node]"], unfollowed := true, recurses := true, named := ["unicode/utf8.first", "unicode/utf8.acceptRanges", "internal/bytealg.MaxLen"], apart := false, laid := [("unicode/utf8.acceptRanges", laid_unicode_utf8_acceptRanges), ("unicode/utf8.first", laid_unicode_utf8_first)] }
def FnExactPairApartSaid : Prop := fnExactPairApartRow.holds Tryz.pinned (OpenSpec.ofChange fnExactPairApartSpec)

/-- ITS FALSE NEIGHBOUR: 'it returns false'. Refute it at one input. -/
def fnExactPairApartWrong : ChangeSpec := { name := "fnExactPairApart", fn := fun _ => fun
  | [d1, d2, d3] => { results := [.lit (.bool false)], args := [d1, d2, d3] }
  | _ => none }
def FnExactPairApartWrongFalsely : Prop := fnExactPairApartRow.holds Tryz.pinned (OpenSpec.ofChange fnExactPairApartWrong)

/-- 'laws.FnPairApart': WHATEVER THE INPUT: true; the input reads as it did. -/
def fnPairApartSpec : ChangeSpec := { name := "fnPairApart", fn := fun _ => fun
  | [d] => { results := [.lit (.bool true)], args := [d] }
  | _ => none }
def fnPairApartRow : OpenClaim := { program := "ytjjmcdakmgeanaagreatdoor", sum := "cc182a38b81246eb4723423bff43bed318389698f451b5b49c9233a077c1ce3b", func := "loop.example/filereconciler/laws.FnPairApart", spec := "fnPairApart", inPlace := ["internal/bytealg.CountString", "internal/bytealg.IndexByteString", "internal/bytealg.IndexString", "slices.overlaps[loop.example/filereconciler/impl.Node]"], unfollowed := true, recurses := true, named := ["unicode/utf8.first", "unicode/utf8.acceptRanges", "internal/bytealg.MaxLen"], apart := false, laid := [("unicode/utf8.acceptRanges", laid_unicode_utf8_acceptRanges), ("unicode/utf8.first", laid_unicode_utf8_first)] }
def FnPairApartSaid : Prop := fnPairApartRow.holds Tryz.pinned (OpenSpec.ofChange fnPairApartSpec)

/-- ITS FALSE NEIGHBOUR: 'it returns false'. Refute it at one input. -/
def fnPairApartWrong : ChangeSpec := { name := "fnPairApart", fn := fun _ => fun
  | [d] => { results := [.lit (.bool false)], args := [d] }
  | _ => none }
def FnPairApartWrongFalsely : Prop := fnPairApartRow.holds Tryz.pinned (OpenSpec.ofChange fnPairApartWrong)

/- THE SECOND FORM. 'bulk': how many values and letters a reading holds, each counted each time it is reached (what is shared counts as often as it is met; a slice's spare places count too). A statement '..UptoSaid' is the law's where the arguments, and the package variables that the reading takes, are together of bulk at most 1048576: NARROWER than '..Said'. Prove '..Said' where nothing that the law and all that it calls make is longer than what came in: it says more and counts as full. Else prove '..UptoSaid'. A law counts once. -/
mutual
def uptoBulk {H : Type} : DataW H → Nat
  | .lit (.string bytes) => bytes.length + 1
  | .lit _ => 1
  | .nil => 1
  | .ptr d => uptoBulk d + 1
  | .slice elems spare => uptoBulkAll elems + uptoBulkAll spare + 1
  | .agg parts => uptoBulkAll parts + 1
  | .iface _ d => uptoBulk d + 1
  | .map entries => uptoBulkEntries entries + 1
  | .held _ => 1
def uptoBulkAll {H : Type} : List (DataW H) → Nat
  | [] => 0
  | d :: r => uptoBulk d + uptoBulkAll r
def uptoBulkEntries {H : Type} : List (Lit × DataW H) → Nat
  | [] => 0
  | x :: r => uptoBulkEntry x + uptoBulkEntries r
def uptoBulkEntry {H : Type} : Lit × DataW H → Nat
  | (.string bytes, d) => bytes.length + uptoBulk d + 1
  | (_, d) => uptoBulk d + 1
 end
def uptoSmall : (H : Type) → List (DataW H) → Bool := fun _ ds => decide (uptoBulkAll ds ≤ 1048576)
def OpenSpec.upto (s : _root_.Go.ChangeSpec) : _root_.Go.OpenSpec := { _root_.Go.OpenSpec.ofChange s with cond := some uptoSmall }

/-- 'laws.FnExactPairTree', WHERE WHAT IT READS IS OF BULK AT MOST 1048576: true; the input reads as it did. -/
def fnExactPairTreeUptoRow : OpenClaim := { program := "ytjjmcdakmgeanaagreatdoor", sum := "cc182a38b81246eb4723423bff43bed318389698f451b5b49c9233a077c1ce3b", func := "loop.example/filereconciler/laws.FnExactPairTree", spec := "fnExactPairTree", inPlace := ["internal/bytealg.CountString", "internal/bytealg.IndexByteString", "internal/bytealg.IndexString", "slices.overlaps[loop.example/filereconciler/impl.Node]"], unfollowed := true, recurses := true, named := ["unicode/utf8.first", "unicode/utf8.acceptRanges", "internal/bytealg.MaxLen"], apart := false, laid := [("unicode/utf8.acceptRanges", laid_unicode_utf8_acceptRanges), ("unicode/utf8.first", laid_unicode_utf8_first)], narrowed := true }
def FnExactPairTreeUptoSaid : Prop := fnExactPairTreeUptoRow.holds Tryz.pinned (OpenSpec.upto fnExactPairTreeSpec)

/-- 'laws.FnExactResolveTree', WHERE WHAT IT READS IS OF BULK AT MOST 1048576: true; the input reads as it did. -/
def fnExactResolveTreeUptoRow : OpenClaim := { program := "ytjjmcdakmgeanaagreatdoor", sum := "cc182a38b81246eb4723423bff43bed318389698f451b5b49c9233a077c1ce3b", func := "loop.example/filereconciler/laws.FnExactResolveTree", spec := "fnExactResolveTree", inPlace := ["internal/bytealg.CountString", "internal/bytealg.IndexByteString", "internal/bytealg.IndexString", "slices.overlaps[loop.example/filereconciler/impl.Node]"], unfollowed := true, recurses := true, named := ["unicode/utf8.first", "unicode/utf8.acceptRanges", "internal/bytealg.MaxLen"], apart := false, laid := [("unicode/utf8.acceptRanges", laid_unicode_utf8_acceptRanges), ("unicode/utf8.first", laid_unicode_utf8_first)], narrowed := true }
def FnExactResolveTreeUptoSaid : Prop := fnExactResolveTreeUptoRow.holds Tryz.pinned (OpenSpec.upto fnExactResolveTreeSpec)

/-- 'laws.FnResolveTurned', WHERE WHAT IT READS IS OF BULK AT MOST 1048576: true; the input reads as it did. -/
def fnResolveTurnedUptoRow : OpenClaim := { program := "ytjjmcdakmgeanaagreatdoor", sum := "cc182a38b81246eb4723423bff43bed318389698f451b5b49c9233a077c1ce3b", func := "loop.example/filereconciler/laws.FnResolveTurned", spec := "fnResolveTurned", inPlace := ["internal/bytealg.CountString", "internal/bytealg.IndexByteString", "internal/bytealg.IndexString", "slices.overlaps[loop.example/filereconciler/impl.Node]"], unfollowed := true, recurses := true, named := ["unicode/utf8.first", "unicode/utf8.acceptRanges", "internal/bytealg.MaxLen"], apart := false, laid := [("unicode/utf8.acceptRanges", laid_unicode_utf8_acceptRanges), ("unicode/utf8.first", laid_unicode_utf8_first)], narrowed := true }
def FnResolveTurnedUptoSaid : Prop := fnResolveTurnedUptoRow.holds Tryz.pinned (OpenSpec.upto fnResolveTurnedSpec)

/-- 'laws.FnPairUnsafe', WHERE WHAT IT READS IS OF BULK AT MOST 1048576: true; the input reads as it did. -/
def fnPairUnsafeUptoRow : OpenClaim := { program := "ytjjmcdakmgeanaagreatdoor", sum := "cc182a38b81246eb4723423bff43bed318389698f451b5b49c9233a077c1ce3b", func := "loop.example/filereconciler/laws.FnPairUnsafe", spec := "fnPairUnsafe", inPlace := ["internal/bytealg.CountString", "internal/bytealg.IndexByteString", "internal/bytealg.IndexString", "slices.overlaps[loop.example/filereconciler/impl.Node]"], unfollowed := true, recurses := true, named := ["unicode/utf8.first", "unicode/utf8.acceptRanges", "internal/bytealg.MaxLen"], apart := false, laid := [("unicode/utf8.acceptRanges", laid_unicode_utf8_acceptRanges), ("unicode/utf8.first", laid_unicode_utf8_first)], narrowed := true }
def FnPairUnsafeUptoSaid : Prop := fnPairUnsafeUptoRow.holds Tryz.pinned (OpenSpec.upto fnPairUnsafeSpec)

/-- 'laws.FnResolve', WHERE WHAT IT READS IS OF BULK AT MOST 1048576: true; the input reads as it did. -/
def fnResolveUptoRow : OpenClaim := { program := "ytjjmcdakmgeanaagreatdoor", sum := "cc182a38b81246eb4723423bff43bed318389698f451b5b49c9233a077c1ce3b", func := "loop.example/filereconciler/laws.FnResolve", spec := "fnResolve", inPlace := ["internal/bytealg.CountString", "internal/bytealg.IndexByteString", "internal/bytealg.IndexString", "slices.overlaps[loop.example/filereconciler/impl.Node]"], unfollowed := true, recurses := true, named := ["unicode/utf8.first", "unicode/utf8.acceptRanges", "internal/bytealg.MaxLen"], apart := false, laid := [("unicode/utf8.acceptRanges", laid_unicode_utf8_acceptRanges), ("unicode/utf8.first", laid_unicode_utf8_first)], narrowed := true }
def FnResolveUptoSaid : Prop := fnResolveUptoRow.holds Tryz.pinned (OpenSpec.upto fnResolveSpec)

/-- 'laws.FnResolveSame', WHERE WHAT IT READS IS OF BULK AT MOST 1048576: true; the input reads as it did. -/
def fnResolveSameUptoRow : OpenClaim := { program := "ytjjmcdakmgeanaagreatdoor", sum := "cc182a38b81246eb4723423bff43bed318389698f451b5b49c9233a077c1ce3b", func := "loop.example/filereconciler/laws.FnResolveSame", spec := "fnResolveSame", inPlace := ["internal/bytealg.CountString", "internal/bytealg.IndexByteString", "internal/bytealg.IndexString", "slices.overlaps[loop.example/filereconciler/impl.Node]"], unfollowed := true, recurses := true, named := ["unicode/utf8.first", "unicode/utf8.acceptRanges", "internal/bytealg.MaxLen"], apart := false, laid := [("unicode/utf8.acceptRanges", laid_unicode_utf8_acceptRanges), ("unicode/utf8.first", laid_unicode_utf8_first)], narrowed := true }
def FnResolveSameUptoSaid : Prop := fnResolveSameUptoRow.holds Tryz.pinned (OpenSpec.upto fnResolveSameSpec)

/-- 'laws.FnPairTree', WHERE WHAT IT READS IS OF BULK AT MOST 1048576: true; the input reads as it did. -/
def fnPairTreeUptoRow : OpenClaim := { program := "ytjjmcdakmgeanaagreatdoor", sum := "cc182a38b81246eb4723423bff43bed318389698f451b5b49c9233a077c1ce3b", func := "loop.example/filereconciler/laws.FnPairTree", spec := "fnPairTree", inPlace := ["internal/bytealg.CountString", "internal/bytealg.IndexByteString", "internal/bytealg.IndexString", "slices.overlaps[loop.example/filereconciler/impl.Node]"], unfollowed := true, recurses := true, named := ["unicode/utf8.first", "unicode/utf8.acceptRanges", "internal/bytealg.MaxLen"], apart := false, laid := [("unicode/utf8.acceptRanges", laid_unicode_utf8_acceptRanges), ("unicode/utf8.first", laid_unicode_utf8_first)], narrowed := true }
def FnPairTreeUptoSaid : Prop := fnPairTreeUptoRow.holds Tryz.pinned (OpenSpec.upto fnPairTreeSpec)

/-- 'laws.FnPairApartAll', WHERE WHAT IT READS IS OF BULK AT MOST 1048576: true; the input reads as it did. -/
def fnPairApartAllUptoRow : OpenClaim := { program := "ytjjmcdakmgeanaagreatdoor", sum := "cc182a38b81246eb4723423bff43bed318389698f451b5b49c9233a077c1ce3b", func := "loop.example/filereconciler/laws.FnPairApartAll", spec := "fnPairApartAll", inPlace := ["internal/bytealg.CountString", "internal/bytealg.IndexByteString", "internal/bytealg.IndexString", "slices.overlaps[loop.example/filereconciler/impl.Node]"], unfollowed := true, recurses := true, named := ["unicode/utf8.first", "unicode/utf8.acceptRanges", "internal/bytealg.MaxLen"], apart := false, laid := [("unicode/utf8.acceptRanges", laid_unicode_utf8_acceptRanges), ("unicode/utf8.first", laid_unicode_utf8_first)], narrowed := true }
def FnPairApartAllUptoSaid : Prop := fnPairApartAllUptoRow.holds Tryz.pinned (OpenSpec.upto fnPairApartAllSpec)

/-- 'laws.FnExactPairApart', WHERE WHAT IT READS IS OF BULK AT MOST 1048576: true; the input reads as it did. -/
def fnExactPairApartUptoRow : OpenClaim := { program := "ytjjmcdakmgeanaagreatdoor", sum := "cc182a38b81246eb4723423bff43bed318389698f451b5b49c9233a077c1ce3b", func := "loop.example/filereconciler/laws.FnExactPairApart", spec := "fnExactPairApart", inPlace := ["internal/bytealg.CountString", "internal/bytealg.IndexByteString", "internal/bytealg.IndexString", "slices.overlaps[loop.example/filereconciler/impl.Node]"], unfollowed := true, recurses := true, named := ["unicode/utf8.first", "unicode/utf8.acceptRanges", "internal/bytealg.MaxLen"], apart := false, laid := [("unicode/utf8.acceptRanges", laid_unicode_utf8_acceptRanges), ("unicode/utf8.first", laid_unicode_utf8_first)], narrowed := true }
def FnExactPairApartUptoSaid : Prop := fnExactPairApartUptoRow.holds Tryz.pinned (OpenSpec.upto fnExactPairApartSpec)

/-- 'laws.FnPairApart', WHERE WHAT IT READS IS OF BULK AT MOST 1048576: true; the input reads as it did. -/
def fnPairApartUptoRow : OpenClaim := { program := "ytjjmcdakmgeanaagreatdoor", sum := "cc182a38b81246eb4723423bff43bed318389698f451b5b49c9233a077c1ce3b", func := "loop.example/filereconciler/laws.FnPairApart", spec := "fnPairApart", inPlace := ["internal/bytealg.CountString", "internal/bytealg.IndexByteString", "internal/bytealg.IndexString", "slices.overlaps[loop.example/filereconciler/impl.Node]"], unfollowed := true, recurses := true, named := ["unicode/utf8.first", "unicode/utf8.acceptRanges", "internal/bytealg.MaxLen"], apart := false, laid := [("unicode/utf8.acceptRanges", laid_unicode_utf8_acceptRanges), ("unicode/utf8.first", laid_unicode_utf8_first)], narrowed := true }
def FnPairApartUptoSaid : Prop := fnPairApartUptoRow.holds Tryz.pinned (OpenSpec.upto fnPairApartSpec)

end Rows
end Go.Proofs.YtjjmcdakmgeanaaGreatDoor
