/-
  DERIVED. GIVEN WITH THE SEED: THE CARDS: each row of YtilogldgepaeiaaDoorRows.lean that lists a variable, with what it lists TIED to the program's text (the seventh form; the later family's looks); each row that meets fmt, with fmt's text TOLD by the authors' own Lean function (tested against real Go, not proved from fmt's source: count such statements apart). THE CARD IS WHAT COUNTS. Prove the row's statement (the work); the ties are given (YtilogldgepaeiaaDoorTie.lean); close each card by the builder's one call (the guide's Derived/Test/ToyasCard.lean, 'card_holds'). Laid BY PROGRAM, IN A SANDBOX (cutbox-door.mjs). By AI agents, Wed Nov 11 2026. No macro, syntax, notation, axiom, sorry.
-/
import Derived.Test.YtilogldgepaeiaaDoorRows
import GoSem.ClaimSeven
namespace Go.Proofs.YtilogldgepaeiaaDoor
namespace Rows

/-- THE TIED CARD OF 'laws.FnExactMakeWhite'. -/
def fnExactMakeWhiteCard : Claim7 := { stood := { row := fnExactMakeWhiteRow, standIns := [], harness := (true, "8c770ffdda0330559c1f96bd117002fe5453c9f6c164ccd94c6f37377504e5f3"), looks := true }, kinds := [], alts := [], laidByText := true, laidKinds := [.data, .pinned], laidTests := true, laidLooks := .later }
def FnExactMakeWhiteCardSaid : Prop := Claim7.holds Tryd.pinned (.plain (OpenSpec.ofChange fnExactMakeWhiteSpec)) fnExactMakeWhiteCard

/-- THE TIED CARD OF 'laws.FnExactMakeDir'. -/
def fnExactMakeDirCard : Claim7 := { stood := { row := fnExactMakeDirRow, standIns := [], harness := (true, "8c770ffdda0330559c1f96bd117002fe5453c9f6c164ccd94c6f37377504e5f3"), looks := true }, kinds := [], alts := [], laidByText := true, laidKinds := [.data, .pinned], laidTests := true, laidLooks := .later }
def FnExactMakeDirCardSaid : Prop := Claim7.holds Tryd.pinned (.plain (OpenSpec.ofChange fnExactMakeDirSpec)) fnExactMakeDirCard

/-- THE TIED CARD OF 'laws.FnExactMakeFile'. -/
def fnExactMakeFileCard : Claim7 := { stood := { row := fnExactMakeFileRow, standIns := [], harness := (true, "8c770ffdda0330559c1f96bd117002fe5453c9f6c164ccd94c6f37377504e5f3"), looks := true }, kinds := [], alts := [], laidByText := true, laidKinds := [.data, .pinned], laidTests := true, laidLooks := .later }
def FnExactMakeFileCardSaid : Prop := Claim7.holds Tryd.pinned (.plain (OpenSpec.ofChange fnExactMakeFileSpec)) fnExactMakeFileCard

/-- THE TIED CARD OF 'laws.FnExactMakeLink'. -/
def fnExactMakeLinkCard : Claim7 := { stood := { row := fnExactMakeLinkRow, standIns := [], harness := (true, "8c770ffdda0330559c1f96bd117002fe5453c9f6c164ccd94c6f37377504e5f3"), looks := true }, kinds := [], alts := [], laidByText := true, laidKinds := [.data, .pinned], laidTests := true, laidLooks := .later }
def FnExactMakeLinkCardSaid : Prop := Claim7.holds Tryd.pinned (.plain (OpenSpec.ofChange fnExactMakeLinkSpec)) fnExactMakeLinkCard

/-- THE TIED CARD OF 'laws.FnExactParentOf'. -/
def fnExactParentOfCard : Claim7 := { stood := { row := fnExactParentOfRow, standIns := [], harness := (true, "8c770ffdda0330559c1f96bd117002fe5453c9f6c164ccd94c6f37377504e5f3"), looks := true }, kinds := [], alts := [], laidByText := true, laidKinds := [.data, .pinned], laidTests := true, laidLooks := .later }
def FnExactParentOfCardSaid : Prop := Claim7.holds Tryd.pinned (.plain (OpenSpec.ofChange fnExactParentOfSpec)) fnExactParentOfCard

/-- THE TIED CARD OF 'laws.FnExactTreeOK'. -/
def fnExactTreeOKCard : Claim7 := { stood := { row := fnExactTreeOKRow, standIns := [], harness := (true, "8c770ffdda0330559c1f96bd117002fe5453c9f6c164ccd94c6f37377504e5f3"), looks := true }, kinds := [], alts := [], laidByText := true, laidKinds := [.data, .pinned], laidTests := true, laidLooks := .later }
def FnExactTreeOKCardSaid : Prop := Claim7.holds Tryd.pinned (.plain (OpenSpec.ofChange fnExactTreeOKSpec)) fnExactTreeOKCard

/-- THE TIED CARD OF 'laws.FnExactSameTree'. -/
def fnExactSameTreeCard : Claim7 := { stood := { row := fnExactSameTreeRow, standIns := [], harness := (true, "8c770ffdda0330559c1f96bd117002fe5453c9f6c164ccd94c6f37377504e5f3"), looks := true }, kinds := [], alts := [], laidByText := true, laidKinds := [.data, .pinned], laidTests := true, laidLooks := .later }
def FnExactSameTreeCardSaid : Prop := Claim7.holds Tryd.pinned (.plain (OpenSpec.ofChange fnExactSameTreeSpec)) fnExactSameTreeCard

/-- THE TIED CARD OF 'laws.FnExactLayerFault'. -/
def fnExactLayerFaultCard : Claim7 := { stood := { row := fnExactLayerFaultRow, standIns := [], harness := (true, "8c770ffdda0330559c1f96bd117002fe5453c9f6c164ccd94c6f37377504e5f3"), looks := true }, kinds := [], alts := [], laidByText := true, laidKinds := [.data, .pinned], laidTests := true, laidLooks := .later }
def FnExactLayerFaultCardSaid : Prop := Claim7.holds Tryd.pinned (.plain (OpenSpec.ofChange fnExactLayerFaultSpec)) fnExactLayerFaultCard

/-- THE TIED CARD OF 'laws.FnExactLayerOK'. -/
def fnExactLayerOKCard : Claim7 := { stood := { row := fnExactLayerOKRow, standIns := [], harness := (true, "8c770ffdda0330559c1f96bd117002fe5453c9f6c164ccd94c6f37377504e5f3"), looks := true }, kinds := [], alts := [], laidByText := true, laidKinds := [.data, .pinned], laidTests := true, laidLooks := .later }
def FnExactLayerOKCardSaid : Prop := Claim7.holds Tryd.pinned (.plain (OpenSpec.ofChange fnExactLayerOKSpec)) fnExactLayerOKCard

/-- THE TIED CARD OF 'laws.FnExactSizeOf'. -/
def fnExactSizeOfCard : Claim7 := { stood := { row := fnExactSizeOfRow, standIns := [], harness := (true, "8c770ffdda0330559c1f96bd117002fe5453c9f6c164ccd94c6f37377504e5f3"), looks := true }, kinds := [], alts := [], laidByText := true, laidKinds := [.data, .pinned], laidTests := true, laidLooks := .later }
def FnExactSizeOfCardSaid : Prop := Claim7.holds Tryd.pinned (.plain (OpenSpec.ofChange fnExactSizeOfSpec)) fnExactSizeOfCard

/-- THE TIED CARD OF 'laws.FnExactFindRecord'. -/
def fnExactFindRecordCard : Claim7 := { stood := { row := fnExactFindRecordRow, standIns := [], harness := (true, "8c770ffdda0330559c1f96bd117002fe5453c9f6c164ccd94c6f37377504e5f3"), looks := true }, kinds := [], alts := [], laidByText := true, laidKinds := [.data, .pinned], laidTests := true, laidLooks := .later }
def FnExactFindRecordCardSaid : Prop := Claim7.holds Tryd.pinned (.plain (OpenSpec.ofChange fnExactFindRecordSpec)) fnExactFindRecordCard

/-- THE TIED CARD OF 'laws.FnExactSameLayer'. -/
def fnExactSameLayerCard : Claim7 := { stood := { row := fnExactSameLayerRow, standIns := [], harness := (true, "8c770ffdda0330559c1f96bd117002fe5453c9f6c164ccd94c6f37377504e5f3"), looks := true }, kinds := [], alts := [], laidByText := true, laidKinds := [.data, .pinned], laidTests := true, laidLooks := .later }
def FnExactSameLayerCardSaid : Prop := Claim7.holds Tryd.pinned (.plain (OpenSpec.ofChange fnExactSameLayerSpec)) fnExactSameLayerCard

/-- THE SECOND FORM's CARD OF 'laws.FnExactMakeWhite'. -/
def fnExactMakeWhiteUptoCard : Claim7 := { stood := { row := fnExactMakeWhiteUptoRow, standIns := [], harness := (true, "8c770ffdda0330559c1f96bd117002fe5453c9f6c164ccd94c6f37377504e5f3"), looks := true }, kinds := [], alts := [], laidByText := true, laidKinds := [.data, .pinned], laidTests := true, laidLooks := .later }
def FnExactMakeWhiteUptoCardSaid : Prop := Claim7.holds Tryd.pinned (.plain (OpenSpec.upto fnExactMakeWhiteSpec)) fnExactMakeWhiteUptoCard

/-- THE SECOND FORM's CARD OF 'laws.FnExactMakeDir'. -/
def fnExactMakeDirUptoCard : Claim7 := { stood := { row := fnExactMakeDirUptoRow, standIns := [], harness := (true, "8c770ffdda0330559c1f96bd117002fe5453c9f6c164ccd94c6f37377504e5f3"), looks := true }, kinds := [], alts := [], laidByText := true, laidKinds := [.data, .pinned], laidTests := true, laidLooks := .later }
def FnExactMakeDirUptoCardSaid : Prop := Claim7.holds Tryd.pinned (.plain (OpenSpec.upto fnExactMakeDirSpec)) fnExactMakeDirUptoCard

/-- THE SECOND FORM's CARD OF 'laws.FnExactMakeFile'. -/
def fnExactMakeFileUptoCard : Claim7 := { stood := { row := fnExactMakeFileUptoRow, standIns := [], harness := (true, "8c770ffdda0330559c1f96bd117002fe5453c9f6c164ccd94c6f37377504e5f3"), looks := true }, kinds := [], alts := [], laidByText := true, laidKinds := [.data, .pinned], laidTests := true, laidLooks := .later }
def FnExactMakeFileUptoCardSaid : Prop := Claim7.holds Tryd.pinned (.plain (OpenSpec.upto fnExactMakeFileSpec)) fnExactMakeFileUptoCard

/-- THE SECOND FORM's CARD OF 'laws.FnExactMakeLink'. -/
def fnExactMakeLinkUptoCard : Claim7 := { stood := { row := fnExactMakeLinkUptoRow, standIns := [], harness := (true, "8c770ffdda0330559c1f96bd117002fe5453c9f6c164ccd94c6f37377504e5f3"), looks := true }, kinds := [], alts := [], laidByText := true, laidKinds := [.data, .pinned], laidTests := true, laidLooks := .later }
def FnExactMakeLinkUptoCardSaid : Prop := Claim7.holds Tryd.pinned (.plain (OpenSpec.upto fnExactMakeLinkSpec)) fnExactMakeLinkUptoCard

/-- THE SECOND FORM's CARD OF 'laws.FnExactParentOf'. -/
def fnExactParentOfUptoCard : Claim7 := { stood := { row := fnExactParentOfUptoRow, standIns := [], harness := (true, "8c770ffdda0330559c1f96bd117002fe5453c9f6c164ccd94c6f37377504e5f3"), looks := true }, kinds := [], alts := [], laidByText := true, laidKinds := [.data, .pinned], laidTests := true, laidLooks := .later }
def FnExactParentOfUptoCardSaid : Prop := Claim7.holds Tryd.pinned (.plain (OpenSpec.upto fnExactParentOfSpec)) fnExactParentOfUptoCard

/-- THE SECOND FORM's CARD OF 'laws.FnExactTreeOK'. -/
def fnExactTreeOKUptoCard : Claim7 := { stood := { row := fnExactTreeOKUptoRow, standIns := [], harness := (true, "8c770ffdda0330559c1f96bd117002fe5453c9f6c164ccd94c6f37377504e5f3"), looks := true }, kinds := [], alts := [], laidByText := true, laidKinds := [.data, .pinned], laidTests := true, laidLooks := .later }
def FnExactTreeOKUptoCardSaid : Prop := Claim7.holds Tryd.pinned (.plain (OpenSpec.upto fnExactTreeOKSpec)) fnExactTreeOKUptoCard

/-- THE SECOND FORM's CARD OF 'laws.FnExactSameTree'. -/
def fnExactSameTreeUptoCard : Claim7 := { stood := { row := fnExactSameTreeUptoRow, standIns := [], harness := (true, "8c770ffdda0330559c1f96bd117002fe5453c9f6c164ccd94c6f37377504e5f3"), looks := true }, kinds := [], alts := [], laidByText := true, laidKinds := [.data, .pinned], laidTests := true, laidLooks := .later }
def FnExactSameTreeUptoCardSaid : Prop := Claim7.holds Tryd.pinned (.plain (OpenSpec.upto fnExactSameTreeSpec)) fnExactSameTreeUptoCard

/-- THE SECOND FORM's CARD OF 'laws.FnExactLayerFault'. -/
def fnExactLayerFaultUptoCard : Claim7 := { stood := { row := fnExactLayerFaultUptoRow, standIns := [], harness := (true, "8c770ffdda0330559c1f96bd117002fe5453c9f6c164ccd94c6f37377504e5f3"), looks := true }, kinds := [], alts := [], laidByText := true, laidKinds := [.data, .pinned], laidTests := true, laidLooks := .later }
def FnExactLayerFaultUptoCardSaid : Prop := Claim7.holds Tryd.pinned (.plain (OpenSpec.upto fnExactLayerFaultSpec)) fnExactLayerFaultUptoCard

/-- THE SECOND FORM's CARD OF 'laws.FnExactLayerOK'. -/
def fnExactLayerOKUptoCard : Claim7 := { stood := { row := fnExactLayerOKUptoRow, standIns := [], harness := (true, "8c770ffdda0330559c1f96bd117002fe5453c9f6c164ccd94c6f37377504e5f3"), looks := true }, kinds := [], alts := [], laidByText := true, laidKinds := [.data, .pinned], laidTests := true, laidLooks := .later }
def FnExactLayerOKUptoCardSaid : Prop := Claim7.holds Tryd.pinned (.plain (OpenSpec.upto fnExactLayerOKSpec)) fnExactLayerOKUptoCard

/-- THE SECOND FORM's CARD OF 'laws.FnExactSizeOf'. -/
def fnExactSizeOfUptoCard : Claim7 := { stood := { row := fnExactSizeOfUptoRow, standIns := [], harness := (true, "8c770ffdda0330559c1f96bd117002fe5453c9f6c164ccd94c6f37377504e5f3"), looks := true }, kinds := [], alts := [], laidByText := true, laidKinds := [.data, .pinned], laidTests := true, laidLooks := .later }
def FnExactSizeOfUptoCardSaid : Prop := Claim7.holds Tryd.pinned (.plain (OpenSpec.upto fnExactSizeOfSpec)) fnExactSizeOfUptoCard

/-- THE SECOND FORM's CARD OF 'laws.FnExactFindRecord'. -/
def fnExactFindRecordUptoCard : Claim7 := { stood := { row := fnExactFindRecordUptoRow, standIns := [], harness := (true, "8c770ffdda0330559c1f96bd117002fe5453c9f6c164ccd94c6f37377504e5f3"), looks := true }, kinds := [], alts := [], laidByText := true, laidKinds := [.data, .pinned], laidTests := true, laidLooks := .later }
def FnExactFindRecordUptoCardSaid : Prop := Claim7.holds Tryd.pinned (.plain (OpenSpec.upto fnExactFindRecordSpec)) fnExactFindRecordUptoCard

/-- THE SECOND FORM's CARD OF 'laws.FnExactSameLayer'. -/
def fnExactSameLayerUptoCard : Claim7 := { stood := { row := fnExactSameLayerUptoRow, standIns := [], harness := (true, "8c770ffdda0330559c1f96bd117002fe5453c9f6c164ccd94c6f37377504e5f3"), looks := true }, kinds := [], alts := [], laidByText := true, laidKinds := [.data, .pinned], laidTests := true, laidLooks := .later }
def FnExactSameLayerUptoCardSaid : Prop := Claim7.holds Tryd.pinned (.plain (OpenSpec.upto fnExactSameLayerSpec)) fnExactSameLayerUptoCard
end Rows
end Go.Proofs.YtilogldgepaeiaaDoor
