/-
  DERIVED. GIVEN WITH THE SEED: THE CARDS: each row of YteinfnffodejkaaDoorRows.lean that lists a variable, with what it lists TIED to the program's text (the seventh form; the later family's looks); each row that meets fmt, with fmt's text TOLD by the authors' own Lean function (tested against real Go, not proved from fmt's source: count such statements apart). THE CARD IS WHAT COUNTS. Prove the row's statement (the work); the ties are given (YteinfnffodejkaaDoorTie.lean); close each card by the builder's one call (the guide's Derived/Test/ToyasCard.lean, 'card_holds'). Laid BY PROGRAM, IN A SANDBOX (cutbox-door.mjs). By AI agents, Wed Nov 11 2026. No macro, syntax, notation, axiom, sorry.
-/
import Derived.Test.YteinfnffodejkaaDoorRows
import GoSem.ClaimSeven
namespace Go.Proofs.YteinfnffodejkaaDoor
namespace Rows

/-- THE TIED CARD OF 'laws.FnExactPathOK'. -/
def fnExactPathOKCard : Claim7 := { stood := { row := fnExactPathOKRow, standIns := [], harness := (true, "b1822821ba5dc41d7eb47bb6ae484c2182c363768588a439eee34325b64fc1f8"), looks := true }, kinds := [], alts := [], laidByText := true, laidKinds := [.data, .pinned], laidTests := true, laidLooks := .later }
def FnExactPathOKCardSaid : Prop := Claim7.holds Tryd.pinned (.plain (OpenSpec.ofChange fnExactPathOKSpec)) fnExactPathOKCard

/-- THE TIED CARD OF 'laws.FnExactIsBelow'. -/
def fnExactIsBelowCard : Claim7 := { stood := { row := fnExactIsBelowRow, standIns := [], harness := (true, "b1822821ba5dc41d7eb47bb6ae484c2182c363768588a439eee34325b64fc1f8"), looks := true }, kinds := [], alts := [], laidByText := true, laidKinds := [.data, .pinned], laidTests := true, laidLooks := .later }
def FnExactIsBelowCardSaid : Prop := Claim7.holds Tryd.pinned (.plain (OpenSpec.ofChange fnExactIsBelowSpec)) fnExactIsBelowCard

/-- THE TIED CARD OF 'laws.FnExactJoinPath'. -/
def fnExactJoinPathCard : Claim7 := { stood := { row := fnExactJoinPathRow, standIns := [], harness := (true, "b1822821ba5dc41d7eb47bb6ae484c2182c363768588a439eee34325b64fc1f8"), looks := true }, kinds := [], alts := [], laidByText := true, laidKinds := [.data, .pinned], laidTests := true, laidLooks := .later }
def FnExactJoinPathCardSaid : Prop := Claim7.holds Tryd.pinned (.plain (OpenSpec.ofChange fnExactJoinPathSpec)) fnExactJoinPathCard

/-- THE TIED CARD OF 'laws.FnExactRecordFault'. -/
def fnExactRecordFaultCard : Claim7 := { stood := { row := fnExactRecordFaultRow, standIns := [], harness := (true, "b1822821ba5dc41d7eb47bb6ae484c2182c363768588a439eee34325b64fc1f8"), looks := true }, kinds := [], alts := [], laidByText := true, laidKinds := [.data, .pinned], laidTests := true, laidLooks := .later }
def FnExactRecordFaultCardSaid : Prop := Claim7.holds Tryd.pinned (.plain (OpenSpec.ofChange fnExactRecordFaultSpec)) fnExactRecordFaultCard

/-- THE TIED CARD OF 'laws.FnExactPathLess'. -/
def fnExactPathLessCard : Claim7 := { stood := { row := fnExactPathLessRow, standIns := [], harness := (true, "b1822821ba5dc41d7eb47bb6ae484c2182c363768588a439eee34325b64fc1f8"), looks := true }, kinds := [], alts := [], laidByText := true, laidKinds := [.data, .pinned], laidTests := true, laidLooks := .later }
def FnExactPathLessCardSaid : Prop := Claim7.holds Tryd.pinned (.plain (OpenSpec.ofChange fnExactPathLessSpec)) fnExactPathLessCard

/-- THE TIED CARD OF 'laws.FnExactRecordOK'. -/
def fnExactRecordOKCard : Claim7 := { stood := { row := fnExactRecordOKRow, standIns := [], harness := (true, "b1822821ba5dc41d7eb47bb6ae484c2182c363768588a439eee34325b64fc1f8"), looks := true }, kinds := [], alts := [], laidByText := true, laidKinds := [.data, .pinned], laidTests := true, laidLooks := .later }
def FnExactRecordOKCardSaid : Prop := Claim7.holds Tryd.pinned (.plain (OpenSpec.ofChange fnExactRecordOKSpec)) fnExactRecordOKCard

/-- THE TIED CARD OF 'laws.FnExactPartsOf'. -/
def fnExactPartsOfCard : Claim7 := { stood := { row := fnExactPartsOfRow, standIns := [], harness := (true, "b1822821ba5dc41d7eb47bb6ae484c2182c363768588a439eee34325b64fc1f8"), looks := true }, kinds := [], alts := [], laidByText := true, laidKinds := [.data, .pinned], laidTests := true, laidLooks := .later }
def FnExactPartsOfCardSaid : Prop := Claim7.holds Tryd.pinned (.plain (OpenSpec.ofChange fnExactPartsOfSpec)) fnExactPartsOfCard

/-- THE SECOND FORM's CARD OF 'laws.FnExactPathOK'. -/
def fnExactPathOKUptoCard : Claim7 := { stood := { row := fnExactPathOKUptoRow, standIns := [], harness := (true, "b1822821ba5dc41d7eb47bb6ae484c2182c363768588a439eee34325b64fc1f8"), looks := true }, kinds := [], alts := [], laidByText := true, laidKinds := [.data, .pinned], laidTests := true, laidLooks := .later }
def FnExactPathOKUptoCardSaid : Prop := Claim7.holds Tryd.pinned (.plain (OpenSpec.upto fnExactPathOKSpec)) fnExactPathOKUptoCard

/-- THE SECOND FORM's CARD OF 'laws.FnExactIsBelow'. -/
def fnExactIsBelowUptoCard : Claim7 := { stood := { row := fnExactIsBelowUptoRow, standIns := [], harness := (true, "b1822821ba5dc41d7eb47bb6ae484c2182c363768588a439eee34325b64fc1f8"), looks := true }, kinds := [], alts := [], laidByText := true, laidKinds := [.data, .pinned], laidTests := true, laidLooks := .later }
def FnExactIsBelowUptoCardSaid : Prop := Claim7.holds Tryd.pinned (.plain (OpenSpec.upto fnExactIsBelowSpec)) fnExactIsBelowUptoCard

/-- THE SECOND FORM's CARD OF 'laws.FnExactJoinPath'. -/
def fnExactJoinPathUptoCard : Claim7 := { stood := { row := fnExactJoinPathUptoRow, standIns := [], harness := (true, "b1822821ba5dc41d7eb47bb6ae484c2182c363768588a439eee34325b64fc1f8"), looks := true }, kinds := [], alts := [], laidByText := true, laidKinds := [.data, .pinned], laidTests := true, laidLooks := .later }
def FnExactJoinPathUptoCardSaid : Prop := Claim7.holds Tryd.pinned (.plain (OpenSpec.upto fnExactJoinPathSpec)) fnExactJoinPathUptoCard

/-- THE SECOND FORM's CARD OF 'laws.FnExactRecordFault'. -/
def fnExactRecordFaultUptoCard : Claim7 := { stood := { row := fnExactRecordFaultUptoRow, standIns := [], harness := (true, "b1822821ba5dc41d7eb47bb6ae484c2182c363768588a439eee34325b64fc1f8"), looks := true }, kinds := [], alts := [], laidByText := true, laidKinds := [.data, .pinned], laidTests := true, laidLooks := .later }
def FnExactRecordFaultUptoCardSaid : Prop := Claim7.holds Tryd.pinned (.plain (OpenSpec.upto fnExactRecordFaultSpec)) fnExactRecordFaultUptoCard

/-- THE SECOND FORM's CARD OF 'laws.FnExactPathLess'. -/
def fnExactPathLessUptoCard : Claim7 := { stood := { row := fnExactPathLessUptoRow, standIns := [], harness := (true, "b1822821ba5dc41d7eb47bb6ae484c2182c363768588a439eee34325b64fc1f8"), looks := true }, kinds := [], alts := [], laidByText := true, laidKinds := [.data, .pinned], laidTests := true, laidLooks := .later }
def FnExactPathLessUptoCardSaid : Prop := Claim7.holds Tryd.pinned (.plain (OpenSpec.upto fnExactPathLessSpec)) fnExactPathLessUptoCard

/-- THE SECOND FORM's CARD OF 'laws.FnExactRecordOK'. -/
def fnExactRecordOKUptoCard : Claim7 := { stood := { row := fnExactRecordOKUptoRow, standIns := [], harness := (true, "b1822821ba5dc41d7eb47bb6ae484c2182c363768588a439eee34325b64fc1f8"), looks := true }, kinds := [], alts := [], laidByText := true, laidKinds := [.data, .pinned], laidTests := true, laidLooks := .later }
def FnExactRecordOKUptoCardSaid : Prop := Claim7.holds Tryd.pinned (.plain (OpenSpec.upto fnExactRecordOKSpec)) fnExactRecordOKUptoCard

/-- THE SECOND FORM's CARD OF 'laws.FnExactPartsOf'. -/
def fnExactPartsOfUptoCard : Claim7 := { stood := { row := fnExactPartsOfUptoRow, standIns := [], harness := (true, "b1822821ba5dc41d7eb47bb6ae484c2182c363768588a439eee34325b64fc1f8"), looks := true }, kinds := [], alts := [], laidByText := true, laidKinds := [.data, .pinned], laidTests := true, laidLooks := .later }
def FnExactPartsOfUptoCardSaid : Prop := Claim7.holds Tryd.pinned (.plain (OpenSpec.upto fnExactPartsOfSpec)) fnExactPartsOfUptoCard
end Rows
end Go.Proofs.YteinfnffodejkaaDoor
