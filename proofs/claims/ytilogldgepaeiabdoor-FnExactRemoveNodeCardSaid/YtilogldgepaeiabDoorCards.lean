/-
  DERIVED. GIVEN WITH THE SEED: THE CARDS: each row of YtilogldgepaeiabDoorRows.lean that lists a variable, with what it lists TIED to the program's text (the seventh form; the later family's looks); each row that meets fmt, with fmt's text TOLD by the authors' own Lean function (tested against real Go, not proved from fmt's source: count such statements apart). THE CARD IS WHAT COUNTS. Prove the row's statement (the work); the ties are given (YtilogldgepaeiabDoorTie.lean); close each card by the builder's one call (the guide's Derived/Test/ToyasCard.lean, 'card_holds'). Laid BY PROGRAM, IN A SANDBOX (cutbox-door.mjs). By AI agents, Wed Nov 11 2026. No macro, syntax, notation, axiom, sorry.
-/
import Derived.Test.YtilogldgepaeiabDoorRows
import GoSem.ClaimSeven
namespace Go.Proofs.YtilogldgepaeiabDoor
namespace Rows

/-- THE TIED CARD OF 'laws.FnExactUnderOpaque'. -/
def fnExactUnderOpaqueCard : Claim7 := { stood := { row := fnExactUnderOpaqueRow, standIns := [], harness := (true, "31850d3c40c93be691d36676a195fb66f2c9018218d96c2a1b51ec10b6f3c9a4"), looks := true }, kinds := [], alts := [], laidByText := true, laidKinds := [.data, .pinned], laidTests := true, laidLooks := .later }
def FnExactUnderOpaqueCardSaid : Prop := Claim7.holds Tryd.pinned (.plain (OpenSpec.ofChange fnExactUnderOpaqueSpec)) fnExactUnderOpaqueCard

/-- THE TIED CARD OF 'laws.FnExactCuts'. -/
def fnExactCutsCard : Claim7 := { stood := { row := fnExactCutsRow, standIns := [], harness := (true, "31850d3c40c93be691d36676a195fb66f2c9018218d96c2a1b51ec10b6f3c9a4"), looks := true }, kinds := [], alts := [], laidByText := true, laidKinds := [.data, .pinned], laidTests := true, laidLooks := .later }
def FnExactCutsCardSaid : Prop := Claim7.holds Tryd.pinned (.plain (OpenSpec.ofChange fnExactCutsSpec)) fnExactCutsCard

/-- THE TIED CARD OF 'laws.FnExactStackOK'. -/
def fnExactStackOKCard : Claim7 := { stood := { row := fnExactStackOKRow, standIns := [], harness := (true, "31850d3c40c93be691d36676a195fb66f2c9018218d96c2a1b51ec10b6f3c9a4"), looks := true }, kinds := [], alts := [], laidByText := true, laidKinds := [.data, .pinned], laidTests := true, laidLooks := .later }
def FnExactStackOKCardSaid : Prop := Claim7.holds Tryd.pinned (.plain (OpenSpec.ofChange fnExactStackOKSpec)) fnExactStackOKCard

/-- THE TIED CARD OF 'laws.FnExactFindNode'. -/
def fnExactFindNodeCard : Claim7 := { stood := { row := fnExactFindNodeRow, standIns := [], harness := (true, "31850d3c40c93be691d36676a195fb66f2c9018218d96c2a1b51ec10b6f3c9a4"), looks := true }, kinds := [], alts := [], laidByText := true, laidKinds := [.data, .pinned], laidTests := true, laidLooks := .later }
def FnExactFindNodeCardSaid : Prop := Claim7.holds Tryd.pinned (.plain (OpenSpec.ofChange fnExactFindNodeSpec)) fnExactFindNodeCard

/-- THE TIED CARD OF 'laws.FnExactIsCanonical'. -/
def fnExactIsCanonicalCard : Claim7 := { stood := { row := fnExactIsCanonicalRow, standIns := [], harness := (true, "31850d3c40c93be691d36676a195fb66f2c9018218d96c2a1b51ec10b6f3c9a4"), looks := true }, kinds := [], alts := [], laidByText := true, laidKinds := [.data, .pinned], laidTests := true, laidLooks := .later }
def FnExactIsCanonicalCardSaid : Prop := Claim7.holds Tryd.pinned (.plain (OpenSpec.ofChange fnExactIsCanonicalSpec)) fnExactIsCanonicalCard

/-- THE TIED CARD OF 'laws.FnExactAlike'. -/
def fnExactAlikeCard : Claim7 := { stood := { row := fnExactAlikeRow, standIns := [], harness := (true, "31850d3c40c93be691d36676a195fb66f2c9018218d96c2a1b51ec10b6f3c9a4"), looks := true }, kinds := [], alts := [], laidByText := true, laidKinds := [.data, .pinned], laidTests := true, laidLooks := .later }
def FnExactAlikeCardSaid : Prop := Claim7.holds Tryd.pinned (.plain (OpenSpec.ofChange fnExactAlikeSpec)) fnExactAlikeCard

/-- THE TIED CARD OF 'laws.FnExactLayerOfTree'. -/
def fnExactLayerOfTreeCard : Claim7 := { stood := { row := fnExactLayerOfTreeRow, standIns := [], harness := (true, "31850d3c40c93be691d36676a195fb66f2c9018218d96c2a1b51ec10b6f3c9a4"), looks := true }, kinds := [], alts := [], laidByText := true, laidKinds := [.data, .pinned], laidTests := true, laidLooks := .later }
def FnExactLayerOfTreeCardSaid : Prop := Claim7.holds Tryd.pinned (.plain (OpenSpec.ofChange fnExactLayerOfTreeSpec)) fnExactLayerOfTreeCard

/-- THE TIED CARD OF 'laws.FnExactHidden'. -/
def fnExactHiddenCard : Claim7 := { stood := { row := fnExactHiddenRow, standIns := [], harness := (true, "31850d3c40c93be691d36676a195fb66f2c9018218d96c2a1b51ec10b6f3c9a4"), looks := true }, kinds := [], alts := [], laidByText := true, laidKinds := [.data, .pinned], laidTests := true, laidLooks := .later }
def FnExactHiddenCardSaid : Prop := Claim7.holds Tryd.pinned (.plain (OpenSpec.ofChange fnExactHiddenSpec)) fnExactHiddenCard

/-- THE TIED CARD OF 'laws.FnExactCutDepth'. -/
def fnExactCutDepthCard : Claim7 := { stood := { row := fnExactCutDepthRow, standIns := [], harness := (true, "31850d3c40c93be691d36676a195fb66f2c9018218d96c2a1b51ec10b6f3c9a4"), looks := true }, kinds := [], alts := [], laidByText := true, laidKinds := [.data, .pinned], laidTests := true, laidLooks := .later }
def FnExactCutDepthCardSaid : Prop := Claim7.holds Tryd.pinned (.plain (OpenSpec.ofChange fnExactCutDepthSpec)) fnExactCutDepthCard

/-- THE TIED CARD OF 'laws.FnExactCanonical'. -/
def fnExactCanonicalCard : Claim7 := { stood := { row := fnExactCanonicalRow, standIns := [], harness := (true, "31850d3c40c93be691d36676a195fb66f2c9018218d96c2a1b51ec10b6f3c9a4"), looks := true }, kinds := [], alts := [], laidByText := true, laidKinds := [.data, .pinned], laidTests := true, laidLooks := .later }
def FnExactCanonicalCardSaid : Prop := Claim7.holds Tryd.pinned (.plain (OpenSpec.ofChange fnExactCanonicalSpec)) fnExactCanonicalCard

/-- THE TIED CARD OF 'laws.FnExactListDir'. -/
def fnExactListDirCard : Claim7 := { stood := { row := fnExactListDirRow, standIns := [], harness := (true, "31850d3c40c93be691d36676a195fb66f2c9018218d96c2a1b51ec10b6f3c9a4"), looks := true }, kinds := [], alts := [], laidByText := true, laidKinds := [.data, .pinned], laidTests := true, laidLooks := .later }
def FnExactListDirCardSaid : Prop := Claim7.holds Tryd.pinned (.plain (OpenSpec.ofChange fnExactListDirSpec)) fnExactListDirCard

/-- THE TIED CARD OF 'laws.FnExactRemoveNode'. -/
def fnExactRemoveNodeCard : Claim7 := { stood := { row := fnExactRemoveNodeRow, standIns := [], harness := (true, "31850d3c40c93be691d36676a195fb66f2c9018218d96c2a1b51ec10b6f3c9a4"), looks := true }, kinds := [], alts := [], laidByText := true, laidKinds := [.data, .pinned], laidTests := true, laidLooks := .later }
def FnExactRemoveNodeCardSaid : Prop := Claim7.holds Tryd.pinned (.plain (OpenSpec.ofChange fnExactRemoveNodeSpec)) fnExactRemoveNodeCard

/-- THE SECOND FORM's CARD OF 'laws.FnExactUnderOpaque'. -/
def fnExactUnderOpaqueUptoCard : Claim7 := { stood := { row := fnExactUnderOpaqueUptoRow, standIns := [], harness := (true, "31850d3c40c93be691d36676a195fb66f2c9018218d96c2a1b51ec10b6f3c9a4"), looks := true }, kinds := [], alts := [], laidByText := true, laidKinds := [.data, .pinned], laidTests := true, laidLooks := .later }
def FnExactUnderOpaqueUptoCardSaid : Prop := Claim7.holds Tryd.pinned (.plain (OpenSpec.upto fnExactUnderOpaqueSpec)) fnExactUnderOpaqueUptoCard

/-- THE SECOND FORM's CARD OF 'laws.FnExactCuts'. -/
def fnExactCutsUptoCard : Claim7 := { stood := { row := fnExactCutsUptoRow, standIns := [], harness := (true, "31850d3c40c93be691d36676a195fb66f2c9018218d96c2a1b51ec10b6f3c9a4"), looks := true }, kinds := [], alts := [], laidByText := true, laidKinds := [.data, .pinned], laidTests := true, laidLooks := .later }
def FnExactCutsUptoCardSaid : Prop := Claim7.holds Tryd.pinned (.plain (OpenSpec.upto fnExactCutsSpec)) fnExactCutsUptoCard

/-- THE SECOND FORM's CARD OF 'laws.FnExactStackOK'. -/
def fnExactStackOKUptoCard : Claim7 := { stood := { row := fnExactStackOKUptoRow, standIns := [], harness := (true, "31850d3c40c93be691d36676a195fb66f2c9018218d96c2a1b51ec10b6f3c9a4"), looks := true }, kinds := [], alts := [], laidByText := true, laidKinds := [.data, .pinned], laidTests := true, laidLooks := .later }
def FnExactStackOKUptoCardSaid : Prop := Claim7.holds Tryd.pinned (.plain (OpenSpec.upto fnExactStackOKSpec)) fnExactStackOKUptoCard

/-- THE SECOND FORM's CARD OF 'laws.FnExactFindNode'. -/
def fnExactFindNodeUptoCard : Claim7 := { stood := { row := fnExactFindNodeUptoRow, standIns := [], harness := (true, "31850d3c40c93be691d36676a195fb66f2c9018218d96c2a1b51ec10b6f3c9a4"), looks := true }, kinds := [], alts := [], laidByText := true, laidKinds := [.data, .pinned], laidTests := true, laidLooks := .later }
def FnExactFindNodeUptoCardSaid : Prop := Claim7.holds Tryd.pinned (.plain (OpenSpec.upto fnExactFindNodeSpec)) fnExactFindNodeUptoCard

/-- THE SECOND FORM's CARD OF 'laws.FnExactIsCanonical'. -/
def fnExactIsCanonicalUptoCard : Claim7 := { stood := { row := fnExactIsCanonicalUptoRow, standIns := [], harness := (true, "31850d3c40c93be691d36676a195fb66f2c9018218d96c2a1b51ec10b6f3c9a4"), looks := true }, kinds := [], alts := [], laidByText := true, laidKinds := [.data, .pinned], laidTests := true, laidLooks := .later }
def FnExactIsCanonicalUptoCardSaid : Prop := Claim7.holds Tryd.pinned (.plain (OpenSpec.upto fnExactIsCanonicalSpec)) fnExactIsCanonicalUptoCard

/-- THE SECOND FORM's CARD OF 'laws.FnExactAlike'. -/
def fnExactAlikeUptoCard : Claim7 := { stood := { row := fnExactAlikeUptoRow, standIns := [], harness := (true, "31850d3c40c93be691d36676a195fb66f2c9018218d96c2a1b51ec10b6f3c9a4"), looks := true }, kinds := [], alts := [], laidByText := true, laidKinds := [.data, .pinned], laidTests := true, laidLooks := .later }
def FnExactAlikeUptoCardSaid : Prop := Claim7.holds Tryd.pinned (.plain (OpenSpec.upto fnExactAlikeSpec)) fnExactAlikeUptoCard

/-- THE SECOND FORM's CARD OF 'laws.FnExactLayerOfTree'. -/
def fnExactLayerOfTreeUptoCard : Claim7 := { stood := { row := fnExactLayerOfTreeUptoRow, standIns := [], harness := (true, "31850d3c40c93be691d36676a195fb66f2c9018218d96c2a1b51ec10b6f3c9a4"), looks := true }, kinds := [], alts := [], laidByText := true, laidKinds := [.data, .pinned], laidTests := true, laidLooks := .later }
def FnExactLayerOfTreeUptoCardSaid : Prop := Claim7.holds Tryd.pinned (.plain (OpenSpec.upto fnExactLayerOfTreeSpec)) fnExactLayerOfTreeUptoCard

/-- THE SECOND FORM's CARD OF 'laws.FnExactHidden'. -/
def fnExactHiddenUptoCard : Claim7 := { stood := { row := fnExactHiddenUptoRow, standIns := [], harness := (true, "31850d3c40c93be691d36676a195fb66f2c9018218d96c2a1b51ec10b6f3c9a4"), looks := true }, kinds := [], alts := [], laidByText := true, laidKinds := [.data, .pinned], laidTests := true, laidLooks := .later }
def FnExactHiddenUptoCardSaid : Prop := Claim7.holds Tryd.pinned (.plain (OpenSpec.upto fnExactHiddenSpec)) fnExactHiddenUptoCard

/-- THE SECOND FORM's CARD OF 'laws.FnExactCutDepth'. -/
def fnExactCutDepthUptoCard : Claim7 := { stood := { row := fnExactCutDepthUptoRow, standIns := [], harness := (true, "31850d3c40c93be691d36676a195fb66f2c9018218d96c2a1b51ec10b6f3c9a4"), looks := true }, kinds := [], alts := [], laidByText := true, laidKinds := [.data, .pinned], laidTests := true, laidLooks := .later }
def FnExactCutDepthUptoCardSaid : Prop := Claim7.holds Tryd.pinned (.plain (OpenSpec.upto fnExactCutDepthSpec)) fnExactCutDepthUptoCard

/-- THE SECOND FORM's CARD OF 'laws.FnExactCanonical'. -/
def fnExactCanonicalUptoCard : Claim7 := { stood := { row := fnExactCanonicalUptoRow, standIns := [], harness := (true, "31850d3c40c93be691d36676a195fb66f2c9018218d96c2a1b51ec10b6f3c9a4"), looks := true }, kinds := [], alts := [], laidByText := true, laidKinds := [.data, .pinned], laidTests := true, laidLooks := .later }
def FnExactCanonicalUptoCardSaid : Prop := Claim7.holds Tryd.pinned (.plain (OpenSpec.upto fnExactCanonicalSpec)) fnExactCanonicalUptoCard

/-- THE SECOND FORM's CARD OF 'laws.FnExactListDir'. -/
def fnExactListDirUptoCard : Claim7 := { stood := { row := fnExactListDirUptoRow, standIns := [], harness := (true, "31850d3c40c93be691d36676a195fb66f2c9018218d96c2a1b51ec10b6f3c9a4"), looks := true }, kinds := [], alts := [], laidByText := true, laidKinds := [.data, .pinned], laidTests := true, laidLooks := .later }
def FnExactListDirUptoCardSaid : Prop := Claim7.holds Tryd.pinned (.plain (OpenSpec.upto fnExactListDirSpec)) fnExactListDirUptoCard

/-- THE SECOND FORM's CARD OF 'laws.FnExactRemoveNode'. -/
def fnExactRemoveNodeUptoCard : Claim7 := { stood := { row := fnExactRemoveNodeUptoRow, standIns := [], harness := (true, "31850d3c40c93be691d36676a195fb66f2c9018218d96c2a1b51ec10b6f3c9a4"), looks := true }, kinds := [], alts := [], laidByText := true, laidKinds := [.data, .pinned], laidTests := true, laidLooks := .later }
def FnExactRemoveNodeUptoCardSaid : Prop := Claim7.holds Tryd.pinned (.plain (OpenSpec.upto fnExactRemoveNodeSpec)) fnExactRemoveNodeUptoCard
end Rows
end Go.Proofs.YtilogldgepaeiabDoor
