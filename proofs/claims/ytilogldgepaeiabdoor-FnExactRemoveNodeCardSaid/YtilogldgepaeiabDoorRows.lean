/-
  NARROWER THAN 'FOR EVERY INPUT', by the rows' own cells (each row's printed sentence says how): FnExactUnderOpaque: laid · FnExactCuts: laid · FnExactStackOK: laid · FnExactFindNode: laid · FnExactIsCanonical: laid · FnExactAlike: laid · FnExactLayerOfTree: laid · FnExactHidden: laid · FnExactCutDepth: laid · FnExactCanonical: laid · FnExactListDir: laid · FnExactRemoveNode: laid.
  DERIVED. THE GIVEN ROWS OF THIS SEAT. 12 by the template 'for every input the law returns true; each argument reads behind the call as it read before'; 0 by the template 'total and deterministic' (their statements: YtilogldgepaeiabDoorTotals.lean).
  GIVEN WITH THE SEED: the statements are not yours to turn. If you find one false, say at which input.
  Laid BY PROGRAM, IN A SANDBOX (cutbox-rows.mjs): the forced cells as the released guide's own fill.sh prints them over the translation f0c3acd5bc6593fa… (all of the seat's roots in one cut). By AI agents, Wed Nov 11 2026. No macro, syntax, notation, axiom, sorry.
-/
import Derived.Test.YtilogldgepaeiabDoorChecked
import GoSem.PinnedTables
import GoSem.Claim
import GoSem.ClaimJoined
import GoSem.ClaimMapViews
import Derived.JoinedTies
import Derived.KernelRfl
namespace Go.Proofs.YtilogldgepaeiabDoor
/- THE CELL 'sum', in the pinned program and in every row, IS THE sha256 OF THE DUMP (.gsa) THAT YtilogldgepaeiabDoorProg.lean LOADS. Nothing in Lean hashes anything: it is a label: what it is worth is what the hold of that sum in a sandbox is worth. -/
noncomputable def Tryd.pinned : Pinned := { name := "ytilogldgepaeiabdoor", sum := "f0c3acd5bc6593facde1d4e9f435501ab2c6960c96ea2237c6b992526258dfa9", checked := Tryd.checked }
namespace Rows
def none {H : Type} : Left H := { results := [], args := [] }

/- WHAT THE LISTED PACKAGE-LEVEL VARIABLES READ AS WHEN THE CALL BEGINS. Each datum BY PROGRAM (the guide's laid-datum.mjs) off the statement by which the dump's own 'gosem.cut.vars' lays the variable. In a bare row this is a premise. The card (YtilogldgepaeiabDoorCards.lean) ties it to the program's text. -/
def laid_unicode_utf8_acceptRanges {H : Type} : DataW H := .agg [.agg [.lit (.int .u8 128), .lit (.int .u8 191)], .agg [.lit (.int .u8 160), .lit (.int .u8 191)], .agg [.lit (.int .u8 128), .lit (.int .u8 159)], .agg [.lit (.int .u8 144), .lit (.int .u8 191)], .agg [.lit (.int .u8 128), .lit (.int .u8 143)], .agg [.lit (.int .u8 0), .lit (.int .u8 0)], .agg [.lit (.int .u8 0), .lit (.int .u8 0)], .agg [.lit (.int .u8 0), .lit (.int .u8 0)], .agg [.lit (.int .u8 0), .lit (.int .u8 0)], .agg [.lit (.int .u8 0), .lit (.int .u8 0)], .agg [.lit (.int .u8 0), .lit (.int .u8 0)], .agg [.lit (.int .u8 0), .lit (.int .u8 0)], .agg [.lit (.int .u8 0), .lit (.int .u8 0)], .agg [.lit (.int .u8 0), .lit (.int .u8 0)], .agg [.lit (.int .u8 0), .lit (.int .u8 0)], .agg [.lit (.int .u8 0), .lit (.int .u8 0)]]
/-- One of Go's own tables, pinned by name: the form's constant. -/
def laid_unicode_utf8_first : DataW Unit := Go.Pinned.utf8First

/-- 'laws.FnExactUnderOpaque': WHATEVER THE INPUT: true; the input reads as it did. -/
def fnExactUnderOpaqueSpec : ChangeSpec := { name := "fnExactUnderOpaque", fn := fun _ => fun
  | [d1, d2] => { results := [.lit (.bool true)], args := [d1, d2] }
  | _ => none }
def fnExactUnderOpaqueRow : OpenClaim := { program := "ytilogldgepaeiabdoor", sum := "f0c3acd5bc6593facde1d4e9f435501ab2c6960c96ea2237c6b992526258dfa9", func := "loop.example/g00798/laws.FnExactUnderOpaque", spec := "fnExactUnderOpaque", inPlace := ["internal/bytealg.CountString", "internal/bytealg.IndexByteString", "internal/bytealg.IndexString"], unfollowed := true, recurses := true, named := ["unicode/utf8.first", "unicode/utf8.acceptRanges", "internal/bytealg.MaxLen"], apart := false, laid := [("unicode/utf8.acceptRanges", laid_unicode_utf8_acceptRanges), ("unicode/utf8.first", laid_unicode_utf8_first)] }
def FnExactUnderOpaqueSaid : Prop := fnExactUnderOpaqueRow.holds Tryd.pinned (OpenSpec.ofChange fnExactUnderOpaqueSpec)

/-- ITS FALSE NEIGHBOUR: 'it returns false'. Refute it at one input. -/
def fnExactUnderOpaqueWrong : ChangeSpec := { name := "fnExactUnderOpaque", fn := fun _ => fun
  | [d1, d2] => { results := [.lit (.bool false)], args := [d1, d2] }
  | _ => none }
def FnExactUnderOpaqueWrongFalsely : Prop := fnExactUnderOpaqueRow.holds Tryd.pinned (OpenSpec.ofChange fnExactUnderOpaqueWrong)

/-- 'laws.FnExactCuts': WHATEVER THE INPUT: true; the input reads as it did. -/
def fnExactCutsSpec : ChangeSpec := { name := "fnExactCuts", fn := fun _ => fun
  | [d1, d2] => { results := [.lit (.bool true)], args := [d1, d2] }
  | _ => none }
def fnExactCutsRow : OpenClaim := { program := "ytilogldgepaeiabdoor", sum := "f0c3acd5bc6593facde1d4e9f435501ab2c6960c96ea2237c6b992526258dfa9", func := "loop.example/g00798/laws.FnExactCuts", spec := "fnExactCuts", inPlace := ["internal/bytealg.CountString", "internal/bytealg.IndexByteString", "internal/bytealg.IndexString"], unfollowed := true, recurses := true, named := ["unicode/utf8.first", "unicode/utf8.acceptRanges", "internal/bytealg.MaxLen"], apart := false, laid := [("unicode/utf8.acceptRanges", laid_unicode_utf8_acceptRanges), ("unicode/utf8.first", laid_unicode_utf8_first)] }
def FnExactCutsSaid : Prop := fnExactCutsRow.holds Tryd.pinned (OpenSpec.ofChange fnExactCutsSpec)

/-- ITS FALSE NEIGHBOUR: 'it returns false'. Refute it at one input. -/
def fnExactCutsWrong : ChangeSpec := { name := "fnExactCuts", fn := fun _ => fun
  | [d1, d2] => { results := [.lit (.bool false)], args := [d1, d2] }
  | _ => none }
def FnExactCutsWrongFalsely : Prop := fnExactCutsRow.holds Tryd.pinned (OpenSpec.ofChange fnExactCutsWrong)

/-- 'laws.FnExactStackOK': WHATEVER THE INPUT: true; the input reads as it did. -/
def fnExactStackOKSpec : ChangeSpec := { name := "fnExactStackOK", fn := fun _ => fun
  | [d] => { results := [.lit (.bool true)], args := [d] }
  | _ => none }
def fnExactStackOKRow : OpenClaim := { program := "ytilogldgepaeiabdoor", sum := "f0c3acd5bc6593facde1d4e9f435501ab2c6960c96ea2237c6b992526258dfa9", func := "loop.example/g00798/laws.FnExactStackOK", spec := "fnExactStackOK", inPlace := ["internal/bytealg.CountString", "internal/bytealg.IndexByteString", "internal/bytealg.IndexString"], unfollowed := true, recurses := true, named := ["unicode/utf8.first", "unicode/utf8.acceptRanges", "internal/bytealg.MaxLen"], apart := false, laid := [("unicode/utf8.acceptRanges", laid_unicode_utf8_acceptRanges), ("unicode/utf8.first", laid_unicode_utf8_first)] }
def FnExactStackOKSaid : Prop := fnExactStackOKRow.holds Tryd.pinned (OpenSpec.ofChange fnExactStackOKSpec)

/-- ITS FALSE NEIGHBOUR: 'it returns false'. Refute it at one input. -/
def fnExactStackOKWrong : ChangeSpec := { name := "fnExactStackOK", fn := fun _ => fun
  | [d] => { results := [.lit (.bool false)], args := [d] }
  | _ => none }
def FnExactStackOKWrongFalsely : Prop := fnExactStackOKRow.holds Tryd.pinned (OpenSpec.ofChange fnExactStackOKWrong)

/-- 'laws.FnExactFindNode': WHATEVER THE INPUT: true; the input reads as it did. -/
def fnExactFindNodeSpec : ChangeSpec := { name := "fnExactFindNode", fn := fun _ => fun
  | [d1, d2] => { results := [.lit (.bool true)], args := [d1, d2] }
  | _ => none }
def fnExactFindNodeRow : OpenClaim := { program := "ytilogldgepaeiabdoor", sum := "f0c3acd5bc6593facde1d4e9f435501ab2c6960c96ea2237c6b992526258dfa9", func := "loop.example/g00798/laws.FnExactFindNode", spec := "fnExactFindNode", inPlace := ["internal/bytealg.CountString", "internal/bytealg.IndexByteString", "internal/bytealg.IndexString"], unfollowed := true, recurses := true, named := ["unicode/utf8.first", "unicode/utf8.acceptRanges", "internal/bytealg.MaxLen"], apart := false, laid := [("unicode/utf8.acceptRanges", laid_unicode_utf8_acceptRanges), ("unicode/utf8.first", laid_unicode_utf8_first)] }
def FnExactFindNodeSaid : Prop := fnExactFindNodeRow.holds Tryd.pinned (OpenSpec.ofChange fnExactFindNodeSpec)

/-- ITS FALSE NEIGHBOUR: 'it returns false'. Refute it at one input. -/
def fnExactFindNodeWrong : ChangeSpec := { name := "fnExactFindNode", fn := fun _ => fun
  | [d1, d2] => { results := [.lit (.bool false)], args := [d1, d2] }
  | _ => none }
def FnExactFindNodeWrongFalsely : Prop := fnExactFindNodeRow.holds Tryd.pinned (OpenSpec.ofChange fnExactFindNodeWrong)

/-- 'laws.FnExactIsCanonical': WHATEVER THE INPUT: true; the input reads as it did. -/
def fnExactIsCanonicalSpec : ChangeSpec := { name := "fnExactIsCanonical", fn := fun _ => fun
  | [d] => { results := [.lit (.bool true)], args := [d] }
  | _ => none }
def fnExactIsCanonicalRow : OpenClaim := { program := "ytilogldgepaeiabdoor", sum := "f0c3acd5bc6593facde1d4e9f435501ab2c6960c96ea2237c6b992526258dfa9", func := "loop.example/g00798/laws.FnExactIsCanonical", spec := "fnExactIsCanonical", inPlace := ["internal/bytealg.CountString", "internal/bytealg.IndexByteString", "internal/bytealg.IndexString"], unfollowed := true, recurses := true, named := ["unicode/utf8.first", "unicode/utf8.acceptRanges", "internal/bytealg.MaxLen"], apart := false, laid := [("unicode/utf8.acceptRanges", laid_unicode_utf8_acceptRanges), ("unicode/utf8.first", laid_unicode_utf8_first)] }
def FnExactIsCanonicalSaid : Prop := fnExactIsCanonicalRow.holds Tryd.pinned (OpenSpec.ofChange fnExactIsCanonicalSpec)

/-- ITS FALSE NEIGHBOUR: 'it returns false'. Refute it at one input. -/
def fnExactIsCanonicalWrong : ChangeSpec := { name := "fnExactIsCanonical", fn := fun _ => fun
  | [d] => { results := [.lit (.bool false)], args := [d] }
  | _ => none }
def FnExactIsCanonicalWrongFalsely : Prop := fnExactIsCanonicalRow.holds Tryd.pinned (OpenSpec.ofChange fnExactIsCanonicalWrong)

/-- 'laws.FnExactAlike': WHATEVER THE INPUT: true; the input reads as it did. -/
def fnExactAlikeSpec : ChangeSpec := { name := "fnExactAlike", fn := fun _ => fun
  | [d1, d2] => { results := [.lit (.bool true)], args := [d1, d2] }
  | _ => none }
def fnExactAlikeRow : OpenClaim := { program := "ytilogldgepaeiabdoor", sum := "f0c3acd5bc6593facde1d4e9f435501ab2c6960c96ea2237c6b992526258dfa9", func := "loop.example/g00798/laws.FnExactAlike", spec := "fnExactAlike", inPlace := ["internal/bytealg.CountString", "internal/bytealg.IndexByteString", "internal/bytealg.IndexString"], unfollowed := true, recurses := true, named := ["unicode/utf8.first", "unicode/utf8.acceptRanges", "internal/bytealg.MaxLen"], apart := false, laid := [("unicode/utf8.acceptRanges", laid_unicode_utf8_acceptRanges), ("unicode/utf8.first", laid_unicode_utf8_first)] }
def FnExactAlikeSaid : Prop := fnExactAlikeRow.holds Tryd.pinned (OpenSpec.ofChange fnExactAlikeSpec)

/-- ITS FALSE NEIGHBOUR: 'it returns false'. Refute it at one input. -/
def fnExactAlikeWrong : ChangeSpec := { name := "fnExactAlike", fn := fun _ => fun
  | [d1, d2] => { results := [.lit (.bool false)], args := [d1, d2] }
  | _ => none }
def FnExactAlikeWrongFalsely : Prop := fnExactAlikeRow.holds Tryd.pinned (OpenSpec.ofChange fnExactAlikeWrong)

/-- 'laws.FnExactLayerOfTree': WHATEVER THE INPUT: true; the input reads as it did. -/
def fnExactLayerOfTreeSpec : ChangeSpec := { name := "fnExactLayerOfTree", fn := fun _ => fun
  | [d] => { results := [.lit (.bool true)], args := [d] }
  | _ => none }
def fnExactLayerOfTreeRow : OpenClaim := { program := "ytilogldgepaeiabdoor", sum := "f0c3acd5bc6593facde1d4e9f435501ab2c6960c96ea2237c6b992526258dfa9", func := "loop.example/g00798/laws.FnExactLayerOfTree", spec := "fnExactLayerOfTree", inPlace := ["internal/bytealg.CountString", "internal/bytealg.IndexByteString", "internal/bytealg.IndexString"], unfollowed := true, recurses := true, named := ["unicode/utf8.first", "unicode/utf8.acceptRanges", "internal/bytealg.MaxLen"], apart := false, laid := [("unicode/utf8.acceptRanges", laid_unicode_utf8_acceptRanges), ("unicode/utf8.first", laid_unicode_utf8_first)] }
def FnExactLayerOfTreeSaid : Prop := fnExactLayerOfTreeRow.holds Tryd.pinned (OpenSpec.ofChange fnExactLayerOfTreeSpec)

/-- ITS FALSE NEIGHBOUR: 'it returns false'. Refute it at one input. -/
def fnExactLayerOfTreeWrong : ChangeSpec := { name := "fnExactLayerOfTree", fn := fun _ => fun
  | [d] => { results := [.lit (.bool false)], args := [d] }
  | _ => none }
def FnExactLayerOfTreeWrongFalsely : Prop := fnExactLayerOfTreeRow.holds Tryd.pinned (OpenSpec.ofChange fnExactLayerOfTreeWrong)

/-- 'laws.FnExactHidden': WHATEVER THE INPUT: true; the input reads as it did. -/
def fnExactHiddenSpec : ChangeSpec := { name := "fnExactHidden", fn := fun _ => fun
  | [d1, d2] => { results := [.lit (.bool true)], args := [d1, d2] }
  | _ => none }
def fnExactHiddenRow : OpenClaim := { program := "ytilogldgepaeiabdoor", sum := "f0c3acd5bc6593facde1d4e9f435501ab2c6960c96ea2237c6b992526258dfa9", func := "loop.example/g00798/laws.FnExactHidden", spec := "fnExactHidden", inPlace := ["internal/bytealg.CountString", "internal/bytealg.IndexByteString", "internal/bytealg.IndexString"], unfollowed := true, recurses := true, named := ["unicode/utf8.first", "unicode/utf8.acceptRanges", "internal/bytealg.MaxLen"], apart := false, laid := [("unicode/utf8.acceptRanges", laid_unicode_utf8_acceptRanges), ("unicode/utf8.first", laid_unicode_utf8_first)] }
def FnExactHiddenSaid : Prop := fnExactHiddenRow.holds Tryd.pinned (OpenSpec.ofChange fnExactHiddenSpec)

/-- ITS FALSE NEIGHBOUR: 'it returns false'. Refute it at one input. -/
def fnExactHiddenWrong : ChangeSpec := { name := "fnExactHidden", fn := fun _ => fun
  | [d1, d2] => { results := [.lit (.bool false)], args := [d1, d2] }
  | _ => none }
def FnExactHiddenWrongFalsely : Prop := fnExactHiddenRow.holds Tryd.pinned (OpenSpec.ofChange fnExactHiddenWrong)

/-- 'laws.FnExactCutDepth': WHATEVER THE INPUT: true; the input reads as it did. -/
def fnExactCutDepthSpec : ChangeSpec := { name := "fnExactCutDepth", fn := fun _ => fun
  | [d1, d2] => { results := [.lit (.bool true)], args := [d1, d2] }
  | _ => none }
def fnExactCutDepthRow : OpenClaim := { program := "ytilogldgepaeiabdoor", sum := "f0c3acd5bc6593facde1d4e9f435501ab2c6960c96ea2237c6b992526258dfa9", func := "loop.example/g00798/laws.FnExactCutDepth", spec := "fnExactCutDepth", inPlace := ["internal/bytealg.CountString", "internal/bytealg.IndexByteString", "internal/bytealg.IndexString"], unfollowed := true, recurses := true, named := ["unicode/utf8.first", "unicode/utf8.acceptRanges", "internal/bytealg.MaxLen"], apart := false, laid := [("unicode/utf8.acceptRanges", laid_unicode_utf8_acceptRanges), ("unicode/utf8.first", laid_unicode_utf8_first)] }
def FnExactCutDepthSaid : Prop := fnExactCutDepthRow.holds Tryd.pinned (OpenSpec.ofChange fnExactCutDepthSpec)

/-- ITS FALSE NEIGHBOUR: 'it returns false'. Refute it at one input. -/
def fnExactCutDepthWrong : ChangeSpec := { name := "fnExactCutDepth", fn := fun _ => fun
  | [d1, d2] => { results := [.lit (.bool false)], args := [d1, d2] }
  | _ => none }
def FnExactCutDepthWrongFalsely : Prop := fnExactCutDepthRow.holds Tryd.pinned (OpenSpec.ofChange fnExactCutDepthWrong)

/-- 'laws.FnExactCanonical': WHATEVER THE INPUT: true; the input reads as it did. -/
def fnExactCanonicalSpec : ChangeSpec := { name := "fnExactCanonical", fn := fun _ => fun
  | [d] => { results := [.lit (.bool true)], args := [d] }
  | _ => none }
def fnExactCanonicalRow : OpenClaim := { program := "ytilogldgepaeiabdoor", sum := "f0c3acd5bc6593facde1d4e9f435501ab2c6960c96ea2237c6b992526258dfa9", func := "loop.example/g00798/laws.FnExactCanonical", spec := "fnExactCanonical", inPlace := ["internal/bytealg.CountString", "internal/bytealg.IndexByteString", "internal/bytealg.IndexString"], unfollowed := true, recurses := true, named := ["unicode/utf8.first", "unicode/utf8.acceptRanges", "internal/bytealg.MaxLen"], apart := false, laid := [("unicode/utf8.acceptRanges", laid_unicode_utf8_acceptRanges), ("unicode/utf8.first", laid_unicode_utf8_first)] }
def FnExactCanonicalSaid : Prop := fnExactCanonicalRow.holds Tryd.pinned (OpenSpec.ofChange fnExactCanonicalSpec)

/-- ITS FALSE NEIGHBOUR: 'it returns false'. Refute it at one input. -/
def fnExactCanonicalWrong : ChangeSpec := { name := "fnExactCanonical", fn := fun _ => fun
  | [d] => { results := [.lit (.bool false)], args := [d] }
  | _ => none }
def FnExactCanonicalWrongFalsely : Prop := fnExactCanonicalRow.holds Tryd.pinned (OpenSpec.ofChange fnExactCanonicalWrong)

/-- 'laws.FnExactListDir': WHATEVER THE INPUT: true; the input reads as it did. -/
def fnExactListDirSpec : ChangeSpec := { name := "fnExactListDir", fn := fun _ => fun
  | [d1, d2] => { results := [.lit (.bool true)], args := [d1, d2] }
  | _ => none }
def fnExactListDirRow : OpenClaim := { program := "ytilogldgepaeiabdoor", sum := "f0c3acd5bc6593facde1d4e9f435501ab2c6960c96ea2237c6b992526258dfa9", func := "loop.example/g00798/laws.FnExactListDir", spec := "fnExactListDir", inPlace := ["internal/bytealg.CountString", "internal/bytealg.IndexByteString", "internal/bytealg.IndexString"], unfollowed := true, recurses := true, named := ["unicode/utf8.first", "unicode/utf8.acceptRanges", "internal/bytealg.MaxLen"], apart := false, laid := [("unicode/utf8.acceptRanges", laid_unicode_utf8_acceptRanges), ("unicode/utf8.first", laid_unicode_utf8_first)] }
def FnExactListDirSaid : Prop := fnExactListDirRow.holds Tryd.pinned (OpenSpec.ofChange fnExactListDirSpec)

/-- ITS FALSE NEIGHBOUR: 'it returns false'. Refute it at one input. -/
def fnExactListDirWrong : ChangeSpec := { name := "fnExactListDir", fn := fun _ => fun
  | [d1, d2] => { results := [.lit (.bool false)], args := [d1, d2] }
  | _ => none }
def FnExactListDirWrongFalsely : Prop := fnExactListDirRow.holds Tryd.pinned (OpenSpec.ofChange fnExactListDirWrong)

/-- 'laws.FnExactRemoveNode': WHATEVER THE INPUT: true; the input reads as it did. -/
def fnExactRemoveNodeSpec : ChangeSpec := { name := "fnExactRemoveNode", fn := fun _ => fun
  | [d1, d2] => { results := [.lit (.bool true)], args := [d1, d2] }
  | _ => none }
def fnExactRemoveNodeRow : OpenClaim := { program := "ytilogldgepaeiabdoor", sum := "f0c3acd5bc6593facde1d4e9f435501ab2c6960c96ea2237c6b992526258dfa9", func := "loop.example/g00798/laws.FnExactRemoveNode", spec := "fnExactRemoveNode", inPlace := ["internal/bytealg.CountString", "internal/bytealg.IndexByteString", "internal/bytealg.IndexString"], unfollowed := true, recurses := true, named := ["unicode/utf8.first", "unicode/utf8.acceptRanges", "internal/bytealg.MaxLen"], apart := false, laid := [("unicode/utf8.acceptRanges", laid_unicode_utf8_acceptRanges), ("unicode/utf8.first", laid_unicode_utf8_first)] }
def FnExactRemoveNodeSaid : Prop := fnExactRemoveNodeRow.holds Tryd.pinned (OpenSpec.ofChange fnExactRemoveNodeSpec)

/-- ITS FALSE NEIGHBOUR: 'it returns false'. Refute it at one input. -/
def fnExactRemoveNodeWrong : ChangeSpec := { name := "fnExactRemoveNode", fn := fun _ => fun
  | [d1, d2] => { results := [.lit (.bool false)], args := [d1, d2] }
  | _ => none }
def FnExactRemoveNodeWrongFalsely : Prop := fnExactRemoveNodeRow.holds Tryd.pinned (OpenSpec.ofChange fnExactRemoveNodeWrong)

/- THE SECOND FORM. 'bulk': how many values and letters a reading holds, each counted each time it is reached (what is shared counts as often as it is met; a slice's spare places count too). A statement '..UptoSaid' is the law's where the arguments, and the package variables that the reading takes, are together of bulk at most 1048576: NARROWER than '..Said'. Prove '..Said' where nothing that the law and all that it calls make is longer than what came in: it says more and counts as full. Else prove '..UptoSaid'. A law counts once. -/
mutual
def uptoBulk {H : Type} : DataW H → Nat
  | .lit (.string bytes) => bytes.length + 1
  | .lit _ => 1
  | .nil => 1
  | .ptr d => uptoBulk d + 1
  | .slice elems spare => uptoBulkAll elems + uptoBulkAll spare + 1
  | .agg parts => uptoBulkAll parts + 1
  | .iface _ d => uptoBulk d + 1
  | .map entries => uptoBulkEntries entries + 1
  | .held _ => 1
def uptoBulkAll {H : Type} : List (DataW H) → Nat
  | [] => 0
  | d :: r => uptoBulk d + uptoBulkAll r
def uptoBulkEntries {H : Type} : List (Lit × DataW H) → Nat
  | [] => 0
  | x :: r => uptoBulkEntry x + uptoBulkEntries r
def uptoBulkEntry {H : Type} : Lit × DataW H → Nat
  | (.string bytes, d) => bytes.length + uptoBulk d + 1
  | (_, d) => uptoBulk d + 1
 end
def uptoSmall : (H : Type) → List (DataW H) → Bool := fun _ ds => decide (uptoBulkAll ds ≤ 1048576)
def OpenSpec.upto (s : _root_.Go.ChangeSpec) : _root_.Go.OpenSpec := { _root_.Go.OpenSpec.ofChange s with cond := some uptoSmall }

/-- 'laws.FnExactUnderOpaque', WHERE WHAT IT READS IS OF BULK AT MOST 1048576: true; the input reads as it did. -/
def fnExactUnderOpaqueUptoRow : OpenClaim := { program := "ytilogldgepaeiabdoor", sum := "f0c3acd5bc6593facde1d4e9f435501ab2c6960c96ea2237c6b992526258dfa9", func := "loop.example/g00798/laws.FnExactUnderOpaque", spec := "fnExactUnderOpaque", inPlace := ["internal/bytealg.CountString", "internal/bytealg.IndexByteString", "internal/bytealg.IndexString"], unfollowed := true, recurses := true, named := ["unicode/utf8.first", "unicode/utf8.acceptRanges", "internal/bytealg.MaxLen"], apart := false, laid := [("unicode/utf8.acceptRanges", laid_unicode_utf8_acceptRanges), ("unicode/utf8.first", laid_unicode_utf8_first)], narrowed := true }
def FnExactUnderOpaqueUptoSaid : Prop := fnExactUnderOpaqueUptoRow.holds Tryd.pinned (OpenSpec.upto fnExactUnderOpaqueSpec)

/-- 'laws.FnExactCuts', WHERE WHAT IT READS IS OF BULK AT MOST 1048576: true; the input reads as it did. -/
def fnExactCutsUptoRow : OpenClaim := { program := "ytilogldgepaeiabdoor", sum := "f0c3acd5bc6593facde1d4e9f435501ab2c6960c96ea2237c6b992526258dfa9", func := "loop.example/g00798/laws.FnExactCuts", spec := "fnExactCuts", inPlace := ["internal/bytealg.CountString", "internal/bytealg.IndexByteString", "internal/bytealg.IndexString"], unfollowed := true, recurses := true, named := ["unicode/utf8.first", "unicode/utf8.acceptRanges", "internal/bytealg.MaxLen"], apart := false, laid := [("unicode/utf8.acceptRanges", laid_unicode_utf8_acceptRanges), ("unicode/utf8.first", laid_unicode_utf8_first)], narrowed := true }
def FnExactCutsUptoSaid : Prop := fnExactCutsUptoRow.holds Tryd.pinned (OpenSpec.upto fnExactCutsSpec)

/-- 'laws.FnExactStackOK', WHERE WHAT IT READS IS OF BULK AT MOST 1048576: true; the input reads as it did. -/
def fnExactStackOKUptoRow : OpenClaim := { program := "ytilogldgepaeiabdoor", sum := "f0c3acd5bc6593facde1d4e9f435501ab2c6960c96ea2237c6b992526258dfa9", func := "loop.example/g00798/laws.FnExactStackOK", spec := "fnExactStackOK", inPlace := ["internal/bytealg.CountString", "internal/bytealg.IndexByteString", "internal/bytealg.IndexString"], unfollowed := true, recurses := true, named := ["unicode/utf8.first", "unicode/utf8.acceptRanges", "internal/bytealg.MaxLen"], apart := false, laid := [("unicode/utf8.acceptRanges", laid_unicode_utf8_acceptRanges), ("unicode/utf8.first", laid_unicode_utf8_first)], narrowed := true }
def FnExactStackOKUptoSaid : Prop := fnExactStackOKUptoRow.holds Tryd.pinned (OpenSpec.upto fnExactStackOKSpec)

/-- 'laws.FnExactFindNode', WHERE WHAT IT READS IS OF BULK AT MOST 1048576: true; the input reads as it did. -/
def fnExactFindNodeUptoRow : OpenClaim := { program := "ytilogldgepaeiabdoor", sum := "f0c3acd5bc6593facde1d4e9f435501ab2c6960c96ea2237c6b992526258dfa9", func := "loop.example/g00798/laws.FnExactFindNode", spec := "fnExactFindNode", inPlace := ["internal/bytealg.CountString", "internal/bytealg.IndexByteString", "internal/bytealg.IndexString"], unfollowed := true, recurses := true, named := ["unicode/utf8.first", "unicode/utf8.acceptRanges", "internal/bytealg.MaxLen"], apart := false, laid := [("unicode/utf8.acceptRanges", laid_unicode_utf8_acceptRanges), ("unicode/utf8.first", laid_unicode_utf8_first)], narrowed := true }
def FnExactFindNodeUptoSaid : Prop := fnExactFindNodeUptoRow.holds Tryd.pinned (OpenSpec.upto fnExactFindNodeSpec)

/-- 'laws.FnExactIsCanonical', WHERE WHAT IT READS IS OF BULK AT MOST 1048576: true; the input reads as it did. -/
def fnExactIsCanonicalUptoRow : OpenClaim := { program := "ytilogldgepaeiabdoor", sum := "f0c3acd5bc6593facde1d4e9f435501ab2c6960c96ea2237c6b992526258dfa9", func := "loop.example/g00798/laws.FnExactIsCanonical", spec := "fnExactIsCanonical", inPlace := ["internal/bytealg.CountString", "internal/bytealg.IndexByteString", "internal/bytealg.IndexString"], unfollowed := true, recurses := true, named := ["unicode/utf8.first", "unicode/utf8.acceptRanges", "internal/bytealg.MaxLen"], apart := false, laid := [("unicode/utf8.acceptRanges", laid_unicode_utf8_acceptRanges), ("unicode/utf8.first", laid_unicode_utf8_first)], narrowed := true }
def FnExactIsCanonicalUptoSaid : Prop := fnExactIsCanonicalUptoRow.holds Tryd.pinned (OpenSpec.upto fnExactIsCanonicalSpec)

/-- 'laws.FnExactAlike', WHERE WHAT IT READS IS OF BULK AT MOST 1048576: true; the input reads as it did. -/
def fnExactAlikeUptoRow : OpenClaim := { program := "ytilogldgepaeiabdoor", sum := "f0c3acd5bc6593facde1d4e9f435501ab2c6960c96ea2237c6b992526258dfa9", func := "loop.example/g00798/laws.FnExactAlike", spec := "fnExactAlike", inPlace := ["internal/bytealg.CountString", "internal/bytealg.IndexByteString", "internal/bytealg.IndexString"], unfollowed := true, recurses := true, named := ["unicode/utf8.first", "unicode/utf8.acceptRanges", "internal/bytealg.MaxLen"], apart := false, laid := [("unicode/utf8.acceptRanges", laid_unicode_utf8_acceptRanges), ("unicode/utf8.first", laid_unicode_utf8_first)], narrowed := true }
def FnExactAlikeUptoSaid : Prop := fnExactAlikeUptoRow.holds Tryd.pinned (OpenSpec.upto fnExactAlikeSpec)

/-- 'laws.FnExactLayerOfTree', WHERE WHAT IT READS IS OF BULK AT MOST 1048576: true; the input reads as it did. -/
def fnExactLayerOfTreeUptoRow : OpenClaim := { program := "ytilogldgepaeiabdoor", sum := "f0c3acd5bc6593facde1d4e9f435501ab2c6960c96ea2237c6b992526258dfa9", func := "loop.example/g00798/laws.FnExactLayerOfTree", spec := "fnExactLayerOfTree", inPlace := ["internal/bytealg.CountString", "internal/bytealg.IndexByteString", "internal/bytealg.IndexString"], unfollowed := true, recurses := true, named := ["unicode/utf8.first", "unicode/utf8.acceptRanges", "internal/bytealg.MaxLen"], apart := false, laid := [("unicode/utf8.acceptRanges", laid_unicode_utf8_acceptRanges), ("unicode/utf8.first", laid_unicode_utf8_first)], narrowed := true }
def FnExactLayerOfTreeUptoSaid : Prop := fnExactLayerOfTreeUptoRow.holds Tryd.pinned (OpenSpec.upto fnExactLayerOfTreeSpec)

/-- 'laws.FnExactHidden', WHERE WHAT IT READS IS OF BULK AT MOST 1048576: true; the input reads as it did. -/
def fnExactHiddenUptoRow : OpenClaim := { program := "ytilogldgepaeiabdoor", sum := "f0c3acd5bc6593facde1d4e9f435501ab2c6960c96ea2237c6b992526258dfa9", func := "loop.example/g00798/laws.FnExactHidden", spec := "fnExactHidden", inPlace := ["internal/bytealg.CountString", "internal/bytealg.IndexByteString", "internal/bytealg.IndexString"], unfollowed := true, recurses := true, named := ["unicode/utf8.first", "unicode/utf8.acceptRanges", "internal/bytealg.MaxLen"], apart := false, laid := [("unicode/utf8.acceptRanges", laid_unicode_utf8_acceptRanges), ("unicode/utf8.first", laid_unicode_utf8_first)], narrowed := true }
def FnExactHiddenUptoSaid : Prop := fnExactHiddenUptoRow.holds Tryd.pinned (OpenSpec.upto fnExactHiddenSpec)

/-- 'laws.FnExactCutDepth', WHERE WHAT IT READS IS OF BULK AT MOST 1048576: true; the input reads as it did. -/
def fnExactCutDepthUptoRow : OpenClaim := { program := "ytilogldgepaeiabdoor", sum := "f0c3acd5bc6593facde1d4e9f435501ab2c6960c96ea2237c6b992526258dfa9", func := "loop.example/g00798/laws.FnExactCutDepth", spec := "fnExactCutDepth", inPlace := ["internal/bytealg.CountString", "internal/bytealg.IndexByteString", "internal/bytealg.IndexString"], unfollowed := true, recurses := true, named := ["unicode/utf8.first", "unicode/utf8.acceptRanges", "internal/bytealg.MaxLen"], apart := false, laid := [("unicode/utf8.acceptRanges", laid_unicode_utf8_acceptRanges), ("unicode/utf8.first", laid_unicode_utf8_first)], narrowed := true }
def FnExactCutDepthUptoSaid : Prop := fnExactCutDepthUptoRow.holds Tryd.pinned (OpenSpec.upto fnExactCutDepthSpec)

/-- 'laws.FnExactCanonical', WHERE WHAT IT READS IS OF BULK AT MOST 1048576: true; the input reads as it did. -/
def fnExactCanonicalUptoRow : OpenClaim := { program := "ytilogldgepaeiabdoor", sum := "f0c3acd5bc6593facde1d4e9f435501ab2c6960c96ea2237c6b992526258dfa9", func := "loop.example/g00798/laws.FnExactCanonical", spec := "fnExactCanonical", inPlace := ["internal/bytealg.CountString", "internal/bytealg.IndexByteString", "internal/bytealg.IndexString"], unfollowed := true, recurses := true, named := ["unicode/utf8.first", "unicode/utf8.acceptRanges", "internal/bytealg.MaxLen"], apart := false, laid := [("unicode/utf8.acceptRanges", laid_unicode_utf8_acceptRanges), ("unicode/utf8.first", laid_unicode_utf8_first)], narrowed := true }
def FnExactCanonicalUptoSaid : Prop := fnExactCanonicalUptoRow.holds Tryd.pinned (OpenSpec.upto fnExactCanonicalSpec)

/-- 'laws.FnExactListDir', WHERE WHAT IT READS IS OF BULK AT MOST 1048576: true; the input reads as it did. -/
def fnExactListDirUptoRow : OpenClaim := { program := "ytilogldgepaeiabdoor", sum := "f0c3acd5bc6593facde1d4e9f435501ab2c6960c96ea2237c6b992526258dfa9", func := "loop.example/g00798/laws.FnExactListDir", spec := "fnExactListDir", inPlace := ["internal/bytealg.CountString", "internal/bytealg.IndexByteString", "internal/bytealg.IndexString"], unfollowed := true, recurses := true, named := ["unicode/utf8.first", "unicode/utf8.acceptRanges", "internal/bytealg.MaxLen"], apart := false, laid := [("unicode/utf8.acceptRanges", laid_unicode_utf8_acceptRanges), ("unicode/utf8.first", laid_unicode_utf8_first)], narrowed := true }
def FnExactListDirUptoSaid : Prop := fnExactListDirUptoRow.holds Tryd.pinned (OpenSpec.upto fnExactListDirSpec)

/-- 'laws.FnExactRemoveNode', WHERE WHAT IT READS IS OF BULK AT MOST 1048576: true; the input reads as it did. -/
def fnExactRemoveNodeUptoRow : OpenClaim := { program := "ytilogldgepaeiabdoor", sum := "f0c3acd5bc6593facde1d4e9f435501ab2c6960c96ea2237c6b992526258dfa9", func := "loop.example/g00798/laws.FnExactRemoveNode", spec := "fnExactRemoveNode", inPlace := ["internal/bytealg.CountString", "internal/bytealg.IndexByteString", "internal/bytealg.IndexString"], unfollowed := true, recurses := true, named := ["unicode/utf8.first", "unicode/utf8.acceptRanges", "internal/bytealg.MaxLen"], apart := false, laid := [("unicode/utf8.acceptRanges", laid_unicode_utf8_acceptRanges), ("unicode/utf8.first", laid_unicode_utf8_first)], narrowed := true }
def FnExactRemoveNodeUptoSaid : Prop := fnExactRemoveNodeUptoRow.holds Tryd.pinned (OpenSpec.upto fnExactRemoveNodeSpec)

end Rows
end Go.Proofs.YtilogldgepaeiabDoor
