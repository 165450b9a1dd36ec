/-
  NARROWER THAN 'FOR EVERY INPUT', by the rows' own cells (each row's printed sentence says how): FnExactMakeWhite: laid · FnExactMakeDir: laid · FnExactMakeFile: laid · FnExactMakeLink: laid · FnExactParentOf: laid · FnExactTreeOK: laid · FnExactSameTree: laid · FnExactLayerFault: laid · FnExactLayerOK: laid · FnExactSizeOf: laid · FnExactFindRecord: laid · FnExactSameLayer: laid.
  DERIVED. THE GIVEN ROWS OF THIS SEAT. 12 by the template 'for every input the law returns true; each argument reads behind the call as it read before'; 0 by the template 'total and deterministic' (their statements: YtilogldgepaeiaaDoorTotals.lean).
  GIVEN WITH THE SEED: the statements are not yours to turn. If you find one false, say at which input.
  Laid BY PROGRAM, IN A SANDBOX (cutbox-rows.mjs): the forced cells as the released guide's own fill.sh prints them over the translation c65f77f4ad1ce743… (all of the seat's roots in one cut). By AI agents, Wed Nov 11 2026. No macro, syntax, notation, axiom, sorry.
-/
import Derived.Test.YtilogldgepaeiaaDoorChecked
import GoSem.PinnedTables
import GoSem.Claim
import GoSem.ClaimJoined
import GoSem.ClaimMapViews
import Derived.JoinedTies
import Derived.KernelRfl
namespace Go.Proofs.YtilogldgepaeiaaDoor
/- THE CELL 'sum', in the pinned program and in every row, IS THE sha256 OF THE DUMP (.gsa) THAT YtilogldgepaeiaaDoorProg.lean LOADS. Nothing in Lean hashes anything: it is a label: what it is worth is what the hold of that sum in a sandbox is worth. -/
noncomputable def Tryd.pinned : Pinned := { name := "ytilogldgepaeiaadoor", sum := "c65f77f4ad1ce743266e90954ccf9d43d48a43830c111366ee0d591722f858f0", checked := Tryd.checked }
namespace Rows
def none {H : Type} : Left H := { results := [], args := [] }

/- WHAT THE LISTED PACKAGE-LEVEL VARIABLES READ AS WHEN THE CALL BEGINS. Each datum BY PROGRAM (the guide's laid-datum.mjs) off the statement by which the dump's own 'gosem.cut.vars' lays the variable. In a bare row this is a premise. The card (YtilogldgepaeiaaDoorCards.lean) ties it to the program's text. -/
def laid_unicode_utf8_acceptRanges {H : Type} : DataW H := .agg [.agg [.lit (.int .u8 128), .lit (.int .u8 191)], .agg [.lit (.int .u8 160), .lit (.int .u8 191)], .agg [.lit (.int .u8 128), .lit (.int .u8 159)], .agg [.lit (.int .u8 144), .lit (.int .u8 191)], .agg [.lit (.int .u8 128), .lit (.int .u8 143)], .agg [.lit (.int .u8 0), .lit (.int .u8 0)], .agg [.lit (.int .u8 0), .lit (.int .u8 0)], .agg [.lit (.int .u8 0), .lit (.int .u8 0)], .agg [.lit (.int .u8 0), .lit (.int .u8 0)], .agg [.lit (.int .u8 0), .lit (.int .u8 0)], .agg [.lit (.int .u8 0), .lit (.int .u8 0)], .agg [.lit (.int .u8 0), .lit (.int .u8 0)], .agg [.lit (.int .u8 0), .lit (.int .u8 0)], .agg [.lit (.int .u8 0), .lit (.int .u8 0)], .agg [.lit (.int .u8 0), .lit (.int .u8 0)], .agg [.lit (.int .u8 0), .lit (.int .u8 0)]]
/-- One of Go's own tables, pinned by name: the form's constant. -/
def laid_unicode_utf8_first : DataW Unit := Go.Pinned.utf8First

/-- 'laws.FnExactMakeWhite': WHATEVER THE INPUT: true; the input reads as it did. -/
def fnExactMakeWhiteSpec : ChangeSpec := { name := "fnExactMakeWhite", fn := fun _ => fun
  | [d] => { results := [.lit (.bool true)], args := [d] }
  | _ => none }
def fnExactMakeWhiteRow : OpenClaim := { program := "ytilogldgepaeiaadoor", sum := "c65f77f4ad1ce743266e90954ccf9d43d48a43830c111366ee0d591722f858f0", func := "loop.example/g00798/laws.FnExactMakeWhite", spec := "fnExactMakeWhite", inPlace := ["internal/bytealg.CountString", "internal/bytealg.IndexByteString", "internal/bytealg.IndexString"], unfollowed := true, recurses := true, named := ["unicode/utf8.first", "unicode/utf8.acceptRanges", "internal/bytealg.MaxLen"], apart := false, laid := [("unicode/utf8.acceptRanges", laid_unicode_utf8_acceptRanges), ("unicode/utf8.first", laid_unicode_utf8_first)] }
def FnExactMakeWhiteSaid : Prop := fnExactMakeWhiteRow.holds Tryd.pinned (OpenSpec.ofChange fnExactMakeWhiteSpec)

/-- ITS FALSE NEIGHBOUR: 'it returns false'. Refute it at one input. -/
def fnExactMakeWhiteWrong : ChangeSpec := { name := "fnExactMakeWhite", fn := fun _ => fun
  | [d] => { results := [.lit (.bool false)], args := [d] }
  | _ => none }
def FnExactMakeWhiteWrongFalsely : Prop := fnExactMakeWhiteRow.holds Tryd.pinned (OpenSpec.ofChange fnExactMakeWhiteWrong)

/-- 'laws.FnExactMakeDir': WHATEVER THE INPUT: true; the input reads as it did. -/
def fnExactMakeDirSpec : ChangeSpec := { name := "fnExactMakeDir", fn := fun _ => fun
  | [d1, d2, d3] => { results := [.lit (.bool true)], args := [d1, d2, d3] }
  | _ => none }
def fnExactMakeDirRow : OpenClaim := { program := "ytilogldgepaeiaadoor", sum := "c65f77f4ad1ce743266e90954ccf9d43d48a43830c111366ee0d591722f858f0", func := "loop.example/g00798/laws.FnExactMakeDir", spec := "fnExactMakeDir", inPlace := ["internal/bytealg.CountString", "internal/bytealg.IndexByteString", "internal/bytealg.IndexString"], unfollowed := true, recurses := true, named := ["unicode/utf8.first", "unicode/utf8.acceptRanges", "internal/bytealg.MaxLen"], apart := false, laid := [("unicode/utf8.acceptRanges", laid_unicode_utf8_acceptRanges), ("unicode/utf8.first", laid_unicode_utf8_first)] }
def FnExactMakeDirSaid : Prop := fnExactMakeDirRow.holds Tryd.pinned (OpenSpec.ofChange fnExactMakeDirSpec)

/-- ITS FALSE NEIGHBOUR: 'it returns false'. Refute it at one input. -/
def fnExactMakeDirWrong : ChangeSpec := { name := "fnExactMakeDir", fn := fun _ => fun
  | [d1, d2, d3] => { results := [.lit (.bool false)], args := [d1, d2, d3] }
  | _ => none }
def FnExactMakeDirWrongFalsely : Prop := fnExactMakeDirRow.holds Tryd.pinned (OpenSpec.ofChange fnExactMakeDirWrong)

/-- 'laws.FnExactMakeFile': WHATEVER THE INPUT: true; the input reads as it did. -/
def fnExactMakeFileSpec : ChangeSpec := { name := "fnExactMakeFile", fn := fun _ => fun
  | [d1, d2, d3] => { results := [.lit (.bool true)], args := [d1, d2, d3] }
  | _ => none }
def fnExactMakeFileRow : OpenClaim := { program := "ytilogldgepaeiaadoor", sum := "c65f77f4ad1ce743266e90954ccf9d43d48a43830c111366ee0d591722f858f0", func := "loop.example/g00798/laws.FnExactMakeFile", spec := "fnExactMakeFile", inPlace := ["internal/bytealg.CountString", "internal/bytealg.IndexByteString", "internal/bytealg.IndexString"], unfollowed := true, recurses := true, named := ["unicode/utf8.first", "unicode/utf8.acceptRanges", "internal/bytealg.MaxLen"], apart := false, laid := [("unicode/utf8.acceptRanges", laid_unicode_utf8_acceptRanges), ("unicode/utf8.first", laid_unicode_utf8_first)] }
def FnExactMakeFileSaid : Prop := fnExactMakeFileRow.holds Tryd.pinned (OpenSpec.ofChange fnExactMakeFileSpec)

/-- ITS FALSE NEIGHBOUR: 'it returns false'. Refute it at one input. -/
def fnExactMakeFileWrong : ChangeSpec := { name := "fnExactMakeFile", fn := fun _ => fun
  | [d1, d2, d3] => { results := [.lit (.bool false)], args := [d1, d2, d3] }
  | _ => none }
def FnExactMakeFileWrongFalsely : Prop := fnExactMakeFileRow.holds Tryd.pinned (OpenSpec.ofChange fnExactMakeFileWrong)

/-- 'laws.FnExactMakeLink': WHATEVER THE INPUT: true; the input reads as it did. -/
def fnExactMakeLinkSpec : ChangeSpec := { name := "fnExactMakeLink", fn := fun _ => fun
  | [d1, d2] => { results := [.lit (.bool true)], args := [d1, d2] }
  | _ => none }
def fnExactMakeLinkRow : OpenClaim := { program := "ytilogldgepaeiaadoor", sum := "c65f77f4ad1ce743266e90954ccf9d43d48a43830c111366ee0d591722f858f0", func := "loop.example/g00798/laws.FnExactMakeLink", spec := "fnExactMakeLink", inPlace := ["internal/bytealg.CountString", "internal/bytealg.IndexByteString", "internal/bytealg.IndexString"], unfollowed := true, recurses := true, named := ["unicode/utf8.first", "unicode/utf8.acceptRanges", "internal/bytealg.MaxLen"], apart := false, laid := [("unicode/utf8.acceptRanges", laid_unicode_utf8_acceptRanges), ("unicode/utf8.first", laid_unicode_utf8_first)] }
def FnExactMakeLinkSaid : Prop := fnExactMakeLinkRow.holds Tryd.pinned (OpenSpec.ofChange fnExactMakeLinkSpec)

/-- ITS FALSE NEIGHBOUR: 'it returns false'. Refute it at one input. -/
def fnExactMakeLinkWrong : ChangeSpec := { name := "fnExactMakeLink", fn := fun _ => fun
  | [d1, d2] => { results := [.lit (.bool false)], args := [d1, d2] }
  | _ => none }
def FnExactMakeLinkWrongFalsely : Prop := fnExactMakeLinkRow.holds Tryd.pinned (OpenSpec.ofChange fnExactMakeLinkWrong)

/-- 'laws.FnExactParentOf': WHATEVER THE INPUT: true; the input reads as it did. -/
def fnExactParentOfSpec : ChangeSpec := { name := "fnExactParentOf", fn := fun _ => fun
  | [d] => { results := [.lit (.bool true)], args := [d] }
  | _ => none }
def fnExactParentOfRow : OpenClaim := { program := "ytilogldgepaeiaadoor", sum := "c65f77f4ad1ce743266e90954ccf9d43d48a43830c111366ee0d591722f858f0", func := "loop.example/g00798/laws.FnExactParentOf", spec := "fnExactParentOf", inPlace := ["internal/bytealg.CountString", "internal/bytealg.IndexByteString", "internal/bytealg.IndexString"], unfollowed := true, recurses := true, named := ["unicode/utf8.first", "unicode/utf8.acceptRanges", "internal/bytealg.MaxLen"], apart := false, laid := [("unicode/utf8.acceptRanges", laid_unicode_utf8_acceptRanges), ("unicode/utf8.first", laid_unicode_utf8_first)] }
def FnExactParentOfSaid : Prop := fnExactParentOfRow.holds Tryd.pinned (OpenSpec.ofChange fnExactParentOfSpec)

/-- ITS FALSE NEIGHBOUR: 'it returns false'. Refute it at one input. -/
def fnExactParentOfWrong : ChangeSpec := { name := "fnExactParentOf", fn := fun _ => fun
  | [d] => { results := [.lit (.bool false)], args := [d] }
  | _ => none }
def FnExactParentOfWrongFalsely : Prop := fnExactParentOfRow.holds Tryd.pinned (OpenSpec.ofChange fnExactParentOfWrong)

/-- 'laws.FnExactTreeOK': WHATEVER THE INPUT: true; the input reads as it did. -/
def fnExactTreeOKSpec : ChangeSpec := { name := "fnExactTreeOK", fn := fun _ => fun
  | [d] => { results := [.lit (.bool true)], args := [d] }
  | _ => none }
def fnExactTreeOKRow : OpenClaim := { program := "ytilogldgepaeiaadoor", sum := "c65f77f4ad1ce743266e90954ccf9d43d48a43830c111366ee0d591722f858f0", func := "loop.example/g00798/laws.FnExactTreeOK", spec := "fnExactTreeOK", inPlace := ["internal/bytealg.CountString", "internal/bytealg.IndexByteString", "internal/bytealg.IndexString"], unfollowed := true, recurses := true, named := ["unicode/utf8.first", "unicode/utf8.acceptRanges", "internal/bytealg.MaxLen"], apart := false, laid := [("unicode/utf8.acceptRanges", laid_unicode_utf8_acceptRanges), ("unicode/utf8.first", laid_unicode_utf8_first)] }
def FnExactTreeOKSaid : Prop := fnExactTreeOKRow.holds Tryd.pinned (OpenSpec.ofChange fnExactTreeOKSpec)

/-- ITS FALSE NEIGHBOUR: 'it returns false'. Refute it at one input. -/
def fnExactTreeOKWrong : ChangeSpec := { name := "fnExactTreeOK", fn := fun _ => fun
  | [d] => { results := [.lit (.bool false)], args := [d] }
  | _ => none }
def FnExactTreeOKWrongFalsely : Prop := fnExactTreeOKRow.holds Tryd.pinned (OpenSpec.ofChange fnExactTreeOKWrong)

/-- 'laws.FnExactSameTree': WHATEVER THE INPUT: true; the input reads as it did. -/
def fnExactSameTreeSpec : ChangeSpec := { name := "fnExactSameTree", fn := fun _ => fun
  | [d1, d2] => { results := [.lit (.bool true)], args := [d1, d2] }
  | _ => none }
def fnExactSameTreeRow : OpenClaim := { program := "ytilogldgepaeiaadoor", sum := "c65f77f4ad1ce743266e90954ccf9d43d48a43830c111366ee0d591722f858f0", func := "loop.example/g00798/laws.FnExactSameTree", spec := "fnExactSameTree", inPlace := ["internal/bytealg.CountString", "internal/bytealg.IndexByteString", "internal/bytealg.IndexString"], unfollowed := true, recurses := true, named := ["unicode/utf8.first", "unicode/utf8.acceptRanges", "internal/bytealg.MaxLen"], apart := false, laid := [("unicode/utf8.acceptRanges", laid_unicode_utf8_acceptRanges), ("unicode/utf8.first", laid_unicode_utf8_first)] }
def FnExactSameTreeSaid : Prop := fnExactSameTreeRow.holds Tryd.pinned (OpenSpec.ofChange fnExactSameTreeSpec)

/-- ITS FALSE NEIGHBOUR: 'it returns false'. Refute it at one input. -/
def fnExactSameTreeWrong : ChangeSpec := { name := "fnExactSameTree", fn := fun _ => fun
  | [d1, d2] => { results := [.lit (.bool false)], args := [d1, d2] }
  | _ => none }
def FnExactSameTreeWrongFalsely : Prop := fnExactSameTreeRow.holds Tryd.pinned (OpenSpec.ofChange fnExactSameTreeWrong)

/-- 'laws.FnExactLayerFault': WHATEVER THE INPUT: true; the input reads as it did. -/
def fnExactLayerFaultSpec : ChangeSpec := { name := "fnExactLayerFault", fn := fun _ => fun
  | [d] => { results := [.lit (.bool true)], args := [d] }
  | _ => none }
def fnExactLayerFaultRow : OpenClaim := { program := "ytilogldgepaeiaadoor", sum := "c65f77f4ad1ce743266e90954ccf9d43d48a43830c111366ee0d591722f858f0", func := "loop.example/g00798/laws.FnExactLayerFault", spec := "fnExactLayerFault", inPlace := ["internal/bytealg.CountString", "internal/bytealg.IndexByteString", "internal/bytealg.IndexString"], unfollowed := true, recurses := true, named := ["unicode/utf8.first", "unicode/utf8.acceptRanges", "internal/bytealg.MaxLen"], apart := false, laid := [("unicode/utf8.acceptRanges", laid_unicode_utf8_acceptRanges), ("unicode/utf8.first", laid_unicode_utf8_first)] }
def FnExactLayerFaultSaid : Prop := fnExactLayerFaultRow.holds Tryd.pinned (OpenSpec.ofChange fnExactLayerFaultSpec)

/-- ITS FALSE NEIGHBOUR: 'it returns false'. Refute it at one input. -/
def fnExactLayerFaultWrong : ChangeSpec := { name := "fnExactLayerFault", fn := fun _ => fun
  | [d] => { results := [.lit (.bool false)], args := [d] }
  | _ => none }
def FnExactLayerFaultWrongFalsely : Prop := fnExactLayerFaultRow.holds Tryd.pinned (OpenSpec.ofChange fnExactLayerFaultWrong)

/-- 'laws.FnExactLayerOK': WHATEVER THE INPUT: true; the input reads as it did. -/
def fnExactLayerOKSpec : ChangeSpec := { name := "fnExactLayerOK", fn := fun _ => fun
  | [d] => { results := [.lit (.bool true)], args := [d] }
  | _ => none }
def fnExactLayerOKRow : OpenClaim := { program := "ytilogldgepaeiaadoor", sum := "c65f77f4ad1ce743266e90954ccf9d43d48a43830c111366ee0d591722f858f0", func := "loop.example/g00798/laws.FnExactLayerOK", spec := "fnExactLayerOK", inPlace := ["internal/bytealg.CountString", "internal/bytealg.IndexByteString", "internal/bytealg.IndexString"], unfollowed := true, recurses := true, named := ["unicode/utf8.first", "unicode/utf8.acceptRanges", "internal/bytealg.MaxLen"], apart := false, laid := [("unicode/utf8.acceptRanges", laid_unicode_utf8_acceptRanges), ("unicode/utf8.first", laid_unicode_utf8_first)] }
def FnExactLayerOKSaid : Prop := fnExactLayerOKRow.holds Tryd.pinned (OpenSpec.ofChange fnExactLayerOKSpec)

/-- ITS FALSE NEIGHBOUR: 'it returns false'. Refute it at one input. -/
def fnExactLayerOKWrong : ChangeSpec := { name := "fnExactLayerOK", fn := fun _ => fun
  | [d] => { results := [.lit (.bool false)], args := [d] }
  | _ => none }
def FnExactLayerOKWrongFalsely : Prop := fnExactLayerOKRow.holds Tryd.pinned (OpenSpec.ofChange fnExactLayerOKWrong)

/-- 'laws.FnExactSizeOf': WHATEVER THE INPUT: true; the input reads as it did. -/
def fnExactSizeOfSpec : ChangeSpec := { name := "fnExactSizeOf", fn := fun _ => fun
  | [d] => { results := [.lit (.bool true)], args := [d] }
  | _ => none }
def fnExactSizeOfRow : OpenClaim := { program := "ytilogldgepaeiaadoor", sum := "c65f77f4ad1ce743266e90954ccf9d43d48a43830c111366ee0d591722f858f0", func := "loop.example/g00798/laws.FnExactSizeOf", spec := "fnExactSizeOf", inPlace := ["internal/bytealg.CountString", "internal/bytealg.IndexByteString", "internal/bytealg.IndexString"], unfollowed := true, recurses := true, named := ["unicode/utf8.first", "unicode/utf8.acceptRanges", "internal/bytealg.MaxLen"], apart := false, laid := [("unicode/utf8.acceptRanges", laid_unicode_utf8_acceptRanges), ("unicode/utf8.first", laid_unicode_utf8_first)] }
def FnExactSizeOfSaid : Prop := fnExactSizeOfRow.holds Tryd.pinned (OpenSpec.ofChange fnExactSizeOfSpec)

/-- ITS FALSE NEIGHBOUR: 'it returns false'. Refute it at one input. -/
def fnExactSizeOfWrong : ChangeSpec := { name := "fnExactSizeOf", fn := fun _ => fun
  | [d] => { results := [.lit (.bool false)], args := [d] }
  | _ => none }
def FnExactSizeOfWrongFalsely : Prop := fnExactSizeOfRow.holds Tryd.pinned (OpenSpec.ofChange fnExactSizeOfWrong)

/-- 'laws.FnExactFindRecord': WHATEVER THE INPUT: true; the input reads as it did. -/
def fnExactFindRecordSpec : ChangeSpec := { name := "fnExactFindRecord", fn := fun _ => fun
  | [d1, d2] => { results := [.lit (.bool true)], args := [d1, d2] }
  | _ => none }
def fnExactFindRecordRow : OpenClaim := { program := "ytilogldgepaeiaadoor", sum := "c65f77f4ad1ce743266e90954ccf9d43d48a43830c111366ee0d591722f858f0", func := "loop.example/g00798/laws.FnExactFindRecord", spec := "fnExactFindRecord", inPlace := ["internal/bytealg.CountString", "internal/bytealg.IndexByteString", "internal/bytealg.IndexString"], unfollowed := true, recurses := true, named := ["unicode/utf8.first", "unicode/utf8.acceptRanges", "internal/bytealg.MaxLen"], apart := false, laid := [("unicode/utf8.acceptRanges", laid_unicode_utf8_acceptRanges), ("unicode/utf8.first", laid_unicode_utf8_first)] }
def FnExactFindRecordSaid : Prop := fnExactFindRecordRow.holds Tryd.pinned (OpenSpec.ofChange fnExactFindRecordSpec)

/-- ITS FALSE NEIGHBOUR: 'it returns false'. Refute it at one input. -/
def fnExactFindRecordWrong : ChangeSpec := { name := "fnExactFindRecord", fn := fun _ => fun
  | [d1, d2] => { results := [.lit (.bool false)], args := [d1, d2] }
  | _ => none }
def FnExactFindRecordWrongFalsely : Prop := fnExactFindRecordRow.holds Tryd.pinned (OpenSpec.ofChange fnExactFindRecordWrong)

/-- 'laws.FnExactSameLayer': WHATEVER THE INPUT: true; the input reads as it did. -/
def fnExactSameLayerSpec : ChangeSpec := { name := "fnExactSameLayer", fn := fun _ => fun
  | [d1, d2] => { results := [.lit (.bool true)], args := [d1, d2] }
  | _ => none }
def fnExactSameLayerRow : OpenClaim := { program := "ytilogldgepaeiaadoor", sum := "c65f77f4ad1ce743266e90954ccf9d43d48a43830c111366ee0d591722f858f0", func := "loop.example/g00798/laws.FnExactSameLayer", spec := "fnExactSameLayer", inPlace := ["internal/bytealg.CountString", "internal/bytealg.IndexByteString", "internal/bytealg.IndexString"], unfollowed := true, recurses := true, named := ["unicode/utf8.first", "unicode/utf8.acceptRanges", "internal/bytealg.MaxLen"], apart := false, laid := [("unicode/utf8.acceptRanges", laid_unicode_utf8_acceptRanges), ("unicode/utf8.first", laid_unicode_utf8_first)] }
def FnExactSameLayerSaid : Prop := fnExactSameLayerRow.holds Tryd.pinned (OpenSpec.ofChange fnExactSameLayerSpec)

/-- ITS FALSE NEIGHBOUR: 'it returns false'. Refute it at one input. -/
def fnExactSameLayerWrong : ChangeSpec := { name := "fnExactSameLayer", fn := fun _ => fun
  | [d1, d2] => { results := [.lit (.bool false)], args := [d1, d2] }
  | _ => none }
def FnExactSameLayerWrongFalsely : Prop := fnExactSameLayerRow.holds Tryd.pinned (OpenSpec.ofChange fnExactSameLayerWrong)

/- THE SECOND FORM. 'bulk': how many values and letters a reading holds, each counted each time it is reached (what is shared counts as often as it is met; a slice's spare places count too). A statement '..UptoSaid' is the law's where the arguments, and the package variables that the reading takes, are together of bulk at most 1048576: NARROWER than '..Said'. Prove '..Said' where nothing that the law and all that it calls make is longer than what came in: it says more and counts as full. Else prove '..UptoSaid'. A law counts once. -/
mutual
def uptoBulk {H : Type} : DataW H → Nat
  | .lit (.string bytes) => bytes.length + 1
  | .lit _ => 1
  | .nil => 1
  | .ptr d => uptoBulk d + 1
  | .slice elems spare => uptoBulkAll elems + uptoBulkAll spare + 1
  | .agg parts => uptoBulkAll parts + 1
  | .iface _ d => uptoBulk d + 1
  | .map entries => uptoBulkEntries entries + 1
  | .held _ => 1
def uptoBulkAll {H : Type} : List (DataW H) → Nat
  | [] => 0
  | d :: r => uptoBulk d + uptoBulkAll r
def uptoBulkEntries {H : Type} : List (Lit × DataW H) → Nat
  | [] => 0
  | x :: r => uptoBulkEntry x + uptoBulkEntries r
def uptoBulkEntry {H : Type} : Lit × DataW H → Nat
  | (.string bytes, d) => bytes.length + uptoBulk d + 1
  | (_, d) => uptoBulk d + 1
 end
def uptoSmall : (H : Type) → List (DataW H) → Bool := fun _ ds => decide (uptoBulkAll ds ≤ 1048576)
def OpenSpec.upto (s : _root_.Go.ChangeSpec) : _root_.Go.OpenSpec := { _root_.Go.OpenSpec.ofChange s with cond := some uptoSmall }

/-- 'laws.FnExactMakeWhite', WHERE WHAT IT READS IS OF BULK AT MOST 1048576: true; the input reads as it did. -/
def fnExactMakeWhiteUptoRow : OpenClaim := { program := "ytilogldgepaeiaadoor", sum := "c65f77f4ad1ce743266e90954ccf9d43d48a43830c111366ee0d591722f858f0", func := "loop.example/g00798/laws.FnExactMakeWhite", spec := "fnExactMakeWhite", inPlace := ["internal/bytealg.CountString", "internal/bytealg.IndexByteString", "internal/bytealg.IndexString"], unfollowed := true, recurses := true, named := ["unicode/utf8.first", "unicode/utf8.acceptRanges", "internal/bytealg.MaxLen"], apart := false, laid := [("unicode/utf8.acceptRanges", laid_unicode_utf8_acceptRanges), ("unicode/utf8.first", laid_unicode_utf8_first)], narrowed := true }
def FnExactMakeWhiteUptoSaid : Prop := fnExactMakeWhiteUptoRow.holds Tryd.pinned (OpenSpec.upto fnExactMakeWhiteSpec)

/-- 'laws.FnExactMakeDir', WHERE WHAT IT READS IS OF BULK AT MOST 1048576: true; the input reads as it did. -/
def fnExactMakeDirUptoRow : OpenClaim := { program := "ytilogldgepaeiaadoor", sum := "c65f77f4ad1ce743266e90954ccf9d43d48a43830c111366ee0d591722f858f0", func := "loop.example/g00798/laws.FnExactMakeDir", spec := "fnExactMakeDir", inPlace := ["internal/bytealg.CountString", "internal/bytealg.IndexByteString", "internal/bytealg.IndexString"], unfollowed := true, recurses := true, named := ["unicode/utf8.first", "unicode/utf8.acceptRanges", "internal/bytealg.MaxLen"], apart := false, laid := [("unicode/utf8.acceptRanges", laid_unicode_utf8_acceptRanges), ("unicode/utf8.first", laid_unicode_utf8_first)], narrowed := true }
def FnExactMakeDirUptoSaid : Prop := fnExactMakeDirUptoRow.holds Tryd.pinned (OpenSpec.upto fnExactMakeDirSpec)

/-- 'laws.FnExactMakeFile', WHERE WHAT IT READS IS OF BULK AT MOST 1048576: true; the input reads as it did. -/
def fnExactMakeFileUptoRow : OpenClaim := { program := "ytilogldgepaeiaadoor", sum := "c65f77f4ad1ce743266e90954ccf9d43d48a43830c111366ee0d591722f858f0", func := "loop.example/g00798/laws.FnExactMakeFile", spec := "fnExactMakeFile", inPlace := ["internal/bytealg.CountString", "internal/bytealg.IndexByteString", "internal/bytealg.IndexString"], unfollowed := true, recurses := true, named := ["unicode/utf8.first", "unicode/utf8.acceptRanges", "internal/bytealg.MaxLen"], apart := false, laid := [("unicode/utf8.acceptRanges", laid_unicode_utf8_acceptRanges), ("unicode/utf8.first", laid_unicode_utf8_first)], narrowed := true }
def FnExactMakeFileUptoSaid : Prop := fnExactMakeFileUptoRow.holds Tryd.pinned (OpenSpec.upto fnExactMakeFileSpec)

/-- 'laws.FnExactMakeLink', WHERE WHAT IT READS IS OF BULK AT MOST 1048576: true; the input reads as it did. -/
def fnExactMakeLinkUptoRow : OpenClaim := { program := "ytilogldgepaeiaadoor", sum := "c65f77f4ad1ce743266e90954ccf9d43d48a43830c111366ee0d591722f858f0", func := "loop.example/g00798/laws.FnExactMakeLink", spec := "fnExactMakeLink", inPlace := ["internal/bytealg.CountString", "internal/bytealg.IndexByteString", "internal/bytealg.IndexString"], unfollowed := true, recurses := true, named := ["unicode/utf8.first", "unicode/utf8.acceptRanges", "internal/bytealg.MaxLen"], apart := false, laid := [("unicode/utf8.acceptRanges", laid_unicode_utf8_acceptRanges), ("unicode/utf8.first", laid_unicode_utf8_first)], narrowed := true }
def FnExactMakeLinkUptoSaid : Prop := fnExactMakeLinkUptoRow.holds Tryd.pinned (OpenSpec.upto fnExactMakeLinkSpec)

/-- 'laws.FnExactParentOf', WHERE WHAT IT READS IS OF BULK AT MOST 1048576: true; the input reads as it did. -/
def fnExactParentOfUptoRow : OpenClaim := { program := "ytilogldgepaeiaadoor", sum := "c65f77f4ad1ce743266e90954ccf9d43d48a43830c111366ee0d591722f858f0", func := "loop.example/g00798/laws.FnExactParentOf", spec := "fnExactParentOf", inPlace := ["internal/bytealg.CountString", "internal/bytealg.IndexByteString", "internal/bytealg.IndexString"], unfollowed := true, recurses := true, named := ["unicode/utf8.first", "unicode/utf8.acceptRanges", "internal/bytealg.MaxLen"], apart := false, laid := [("unicode/utf8.acceptRanges", laid_unicode_utf8_acceptRanges), ("unicode/utf8.first", laid_unicode_utf8_first)], narrowed := true }
def FnExactParentOfUptoSaid : Prop := fnExactParentOfUptoRow.holds Tryd.pinned (OpenSpec.upto fnExactParentOfSpec)

/-- 'laws.FnExactTreeOK', WHERE WHAT IT READS IS OF BULK AT MOST 1048576: true; the input reads as it did. -/
def fnExactTreeOKUptoRow : OpenClaim := { program := "ytilogldgepaeiaadoor", sum := "c65f77f4ad1ce743266e90954ccf9d43d48a43830c111366ee0d591722f858f0", func := "loop.example/g00798/laws.FnExactTreeOK", spec := "fnExactTreeOK", inPlace := ["internal/bytealg.CountString", "internal/bytealg.IndexByteString", "internal/bytealg.IndexString"], unfollowed := true, recurses := true, named := ["unicode/utf8.first", "unicode/utf8.acceptRanges", "internal/bytealg.MaxLen"], apart := false, laid := [("unicode/utf8.acceptRanges", laid_unicode_utf8_acceptRanges), ("unicode/utf8.first", laid_unicode_utf8_first)], narrowed := true }
def FnExactTreeOKUptoSaid : Prop := fnExactTreeOKUptoRow.holds Tryd.pinned (OpenSpec.upto fnExactTreeOKSpec)

/-- 'laws.FnExactSameTree', WHERE WHAT IT READS IS OF BULK AT MOST 1048576: true; the input reads as it did. -/
def fnExactSameTreeUptoRow : OpenClaim := { program := "ytilogldgepaeiaadoor", sum := "c65f77f4ad1ce743266e90954ccf9d43d48a43830c111366ee0d591722f858f0", func := "loop.example/g00798/laws.FnExactSameTree", spec := "fnExactSameTree", inPlace := ["internal/bytealg.CountString", "internal/bytealg.IndexByteString", "internal/bytealg.IndexString"], unfollowed := true, recurses := true, named := ["unicode/utf8.first", "unicode/utf8.acceptRanges", "internal/bytealg.MaxLen"], apart := false, laid := [("unicode/utf8.acceptRanges", laid_unicode_utf8_acceptRanges), ("unicode/utf8.first", laid_unicode_utf8_first)], narrowed := true }
def FnExactSameTreeUptoSaid : Prop := fnExactSameTreeUptoRow.holds Tryd.pinned (OpenSpec.upto fnExactSameTreeSpec)

/-- 'laws.FnExactLayerFault', WHERE WHAT IT READS IS OF BULK AT MOST 1048576: true; the input reads as it did. -/
def fnExactLayerFaultUptoRow : OpenClaim := { program := "ytilogldgepaeiaadoor", sum := "c65f77f4ad1ce743266e90954ccf9d43d48a43830c111366ee0d591722f858f0", func := "loop.example/g00798/laws.FnExactLayerFault", spec := "fnExactLayerFault", inPlace := ["internal/bytealg.CountString", "internal/bytealg.IndexByteString", "internal/bytealg.IndexString"], unfollowed := true, recurses := true, named := ["unicode/utf8.first", "unicode/utf8.acceptRanges", "internal/bytealg.MaxLen"], apart := false, laid := [("unicode/utf8.acceptRanges", laid_unicode_utf8_acceptRanges), ("unicode/utf8.first", laid_unicode_utf8_first)], narrowed := true }
def FnExactLayerFaultUptoSaid : Prop := fnExactLayerFaultUptoRow.holds Tryd.pinned (OpenSpec.upto fnExactLayerFaultSpec)

/-- 'laws.FnExactLayerOK', WHERE WHAT IT READS IS OF BULK AT MOST 1048576: true; the input reads as it did. -/
def fnExactLayerOKUptoRow : OpenClaim := { program := "ytilogldgepaeiaadoor", sum := "c65f77f4ad1ce743266e90954ccf9d43d48a43830c111366ee0d591722f858f0", func := "loop.example/g00798/laws.FnExactLayerOK", spec := "fnExactLayerOK", inPlace := ["internal/bytealg.CountString", "internal/bytealg.IndexByteString", "internal/bytealg.IndexString"], unfollowed := true, recurses := true, named := ["unicode/utf8.first", "unicode/utf8.acceptRanges", "internal/bytealg.MaxLen"], apart := false, laid := [("unicode/utf8.acceptRanges", laid_unicode_utf8_acceptRanges), ("unicode/utf8.first", laid_unicode_utf8_first)], narrowed := true }
def FnExactLayerOKUptoSaid : Prop := fnExactLayerOKUptoRow.holds Tryd.pinned (OpenSpec.upto fnExactLayerOKSpec)

/-- 'laws.FnExactSizeOf', WHERE WHAT IT READS IS OF BULK AT MOST 1048576: true; the input reads as it did. -/
def fnExactSizeOfUptoRow : OpenClaim := { program := "ytilogldgepaeiaadoor", sum := "c65f77f4ad1ce743266e90954ccf9d43d48a43830c111366ee0d591722f858f0", func := "loop.example/g00798/laws.FnExactSizeOf", spec := "fnExactSizeOf", inPlace := ["internal/bytealg.CountString", "internal/bytealg.IndexByteString", "internal/bytealg.IndexString"], unfollowed := true, recurses := true, named := ["unicode/utf8.first", "unicode/utf8.acceptRanges", "internal/bytealg.MaxLen"], apart := false, laid := [("unicode/utf8.acceptRanges", laid_unicode_utf8_acceptRanges), ("unicode/utf8.first", laid_unicode_utf8_first)], narrowed := true }
def FnExactSizeOfUptoSaid : Prop := fnExactSizeOfUptoRow.holds Tryd.pinned (OpenSpec.upto fnExactSizeOfSpec)

/-- 'laws.FnExactFindRecord', WHERE WHAT IT READS IS OF BULK AT MOST 1048576: true; the input reads as it did. -/
def fnExactFindRecordUptoRow : OpenClaim := { program := "ytilogldgepaeiaadoor", sum := "c65f77f4ad1ce743266e90954ccf9d43d48a43830c111366ee0d591722f858f0", func := "loop.example/g00798/laws.FnExactFindRecord", spec := "fnExactFindRecord", inPlace := ["internal/bytealg.CountString", "internal/bytealg.IndexByteString", "internal/bytealg.IndexString"], unfollowed := true, recurses := true, named := ["unicode/utf8.first", "unicode/utf8.acceptRanges", "internal/bytealg.MaxLen"], apart := false, laid := [("unicode/utf8.acceptRanges", laid_unicode_utf8_acceptRanges), ("unicode/utf8.first", laid_unicode_utf8_first)], narrowed := true }
def FnExactFindRecordUptoSaid : Prop := fnExactFindRecordUptoRow.holds Tryd.pinned (OpenSpec.upto fnExactFindRecordSpec)

/-- 'laws.FnExactSameLayer', WHERE WHAT IT READS IS OF BULK AT MOST 1048576: true; the input reads as it did. -/
def fnExactSameLayerUptoRow : OpenClaim := { program := "ytilogldgepaeiaadoor", sum := "c65f77f4ad1ce743266e90954ccf9d43d48a43830c111366ee0d591722f858f0", func := "loop.example/g00798/laws.FnExactSameLayer", spec := "fnExactSameLayer", inPlace := ["internal/bytealg.CountString", "internal/bytealg.IndexByteString", "internal/bytealg.IndexString"], unfollowed := true, recurses := true, named := ["unicode/utf8.first", "unicode/utf8.acceptRanges", "internal/bytealg.MaxLen"], apart := false, laid := [("unicode/utf8.acceptRanges", laid_unicode_utf8_acceptRanges), ("unicode/utf8.first", laid_unicode_utf8_first)], narrowed := true }
def FnExactSameLayerUptoSaid : Prop := fnExactSameLayerUptoRow.holds Tryd.pinned (OpenSpec.upto fnExactSameLayerSpec)

end Rows
end Go.Proofs.YtilogldgepaeiaaDoor
