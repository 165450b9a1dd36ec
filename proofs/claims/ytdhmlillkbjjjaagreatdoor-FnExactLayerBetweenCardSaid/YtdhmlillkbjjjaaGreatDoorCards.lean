/-
  DERIVED. GIVEN WITH THE SEED: THE CARDS: each row of YtdhmlillkbjjjaaGreatDoorRows.lean that lists a variable, with what it lists TIED to the program's text (the seventh form; the later family's looks); each row that meets fmt, with fmt's text TOLD by the authors' own Lean function (tested against real Go, not proved from fmt's source: count such statements apart). THE CARD IS WHAT COUNTS. Prove the row's statement (the work); the ties are given (YtdhmlillkbjjjaaGreatDoorTie.lean); close each card by the builder's one call (the guide's Derived/Test/ToyasCard.lean, 'card_holds'). Laid BY PROGRAM, IN A SANDBOX (cutbox-door.mjs). By AI agents, Wed Nov 11 2026. No macro, syntax, notation, axiom, sorry.
-/
import Derived.Test.YtdhmlillkbjjjaaGreatDoorRows
import GoSem.ClaimSeven
namespace Go.Proofs.YtdhmlillkbjjjaaGreatDoor
namespace Rows

/-- THE TIED CARD OF 'laws.FnReplaced'. -/
def fnReplacedCard : Claim7 := { stood := { row := fnReplacedRow, standIns := [], harness := (true, "3601aad46b42dac770809079dbbf8894a73d820e7ed4caf05ebf9f5f3b16504e"), looks := true }, kinds := [], alts := [], laidByText := true, laidKinds := [.data, .pinned], laidTests := true, laidLooks := .later }
def FnReplacedCardSaid : Prop := Claim7.holds Tryz.pinned (.plain (OpenSpec.ofChange fnReplacedSpec)) fnReplacedCard

/-- THE TIED CARD OF 'laws.FnWitness'. -/
def fnWitnessCard : Claim7 := { stood := { row := fnWitnessRow, standIns := [], harness := (true, "3601aad46b42dac770809079dbbf8894a73d820e7ed4caf05ebf9f5f3b16504e"), looks := true }, kinds := [], alts := [], laidByText := true, laidKinds := [.data, .data, .data, .data, .pinned], laidTests := true, laidLooks := .later }
def FnWitnessCardSaid : Prop := Claim7.holds Tryz.pinned (.plain (OpenSpec.ofChange fnWitnessSpec)) fnWitnessCard

/-- THE TIED CARD OF 'laws.FnMerge'. -/
def fnMergeCard : Claim7 := { stood := { row := fnMergeRow, standIns := [], harness := (true, "3601aad46b42dac770809079dbbf8894a73d820e7ed4caf05ebf9f5f3b16504e"), looks := true }, kinds := [], alts := [], laidByText := true, laidKinds := [.data, .pinned], laidTests := true, laidLooks := .later }
def FnMergeCardSaid : Prop := Claim7.holds Tryz.pinned (.plain (OpenSpec.ofChange fnMergeSpec)) fnMergeCard

/-- THE TIED CARD OF 'laws.FnExactLayerBetween'. -/
def fnExactLayerBetweenCard : Claim7 := { stood := { row := fnExactLayerBetweenRow, standIns := [], harness := (true, "3601aad46b42dac770809079dbbf8894a73d820e7ed4caf05ebf9f5f3b16504e"), looks := true }, kinds := [], alts := [], laidByText := true, laidKinds := [.data, .pinned], laidTests := true, laidLooks := .later }
def FnExactLayerBetweenCardSaid : Prop := Claim7.holds Tryz.pinned (.plain (OpenSpec.ofChange fnExactLayerBetweenSpec)) fnExactLayerBetweenCard

/-- THE TIED CARD OF 'laws.FnExactReplaced'. -/
def fnExactReplacedCard : Claim7 := { stood := { row := fnExactReplacedRow, standIns := [], harness := (true, "3601aad46b42dac770809079dbbf8894a73d820e7ed4caf05ebf9f5f3b16504e"), looks := true }, kinds := [], alts := [], laidByText := true, laidKinds := [.data, .pinned], laidTests := true, laidLooks := .later }
def FnExactReplacedCardSaid : Prop := Claim7.holds Tryz.pinned (.plain (OpenSpec.ofChange fnExactReplacedSpec)) fnExactReplacedCard

/-- THE TIED CARD OF 'laws.FnExactWitness'. -/
def fnExactWitnessCard : Claim7 := { stood := { row := fnExactWitnessRow, standIns := [], harness := (true, "3601aad46b42dac770809079dbbf8894a73d820e7ed4caf05ebf9f5f3b16504e"), looks := true }, kinds := [], alts := [], laidByText := true, laidKinds := [.data, .data, .data, .data, .pinned], laidTests := true, laidLooks := .later }
def FnExactWitnessCardSaid : Prop := Claim7.holds Tryz.pinned (.plain (OpenSpec.ofChange fnExactWitnessSpec)) fnExactWitnessCard

/-- THE SECOND FORM's CARD OF 'laws.FnReplaced'. -/
def fnReplacedUptoCard : Claim7 := { stood := { row := fnReplacedUptoRow, standIns := [], harness := (true, "3601aad46b42dac770809079dbbf8894a73d820e7ed4caf05ebf9f5f3b16504e"), looks := true }, kinds := [], alts := [], laidByText := true, laidKinds := [.data, .pinned], laidTests := true, laidLooks := .later }
def FnReplacedUptoCardSaid : Prop := Claim7.holds Tryz.pinned (.plain (OpenSpec.upto fnReplacedSpec)) fnReplacedUptoCard

/-- THE SECOND FORM's CARD OF 'laws.FnWitness'. -/
def fnWitnessUptoCard : Claim7 := { stood := { row := fnWitnessUptoRow, standIns := [], harness := (true, "3601aad46b42dac770809079dbbf8894a73d820e7ed4caf05ebf9f5f3b16504e"), looks := true }, kinds := [], alts := [], laidByText := true, laidKinds := [.data, .data, .data, .data, .pinned], laidTests := true, laidLooks := .later }
def FnWitnessUptoCardSaid : Prop := Claim7.holds Tryz.pinned (.plain (OpenSpec.upto fnWitnessSpec)) fnWitnessUptoCard

/-- THE SECOND FORM's CARD OF 'laws.FnMerge'. -/
def fnMergeUptoCard : Claim7 := { stood := { row := fnMergeUptoRow, standIns := [], harness := (true, "3601aad46b42dac770809079dbbf8894a73d820e7ed4caf05ebf9f5f3b16504e"), looks := true }, kinds := [], alts := [], laidByText := true, laidKinds := [.data, .pinned], laidTests := true, laidLooks := .later }
def FnMergeUptoCardSaid : Prop := Claim7.holds Tryz.pinned (.plain (OpenSpec.upto fnMergeSpec)) fnMergeUptoCard

/-- THE SECOND FORM's CARD OF 'laws.FnExactLayerBetween'. -/
def fnExactLayerBetweenUptoCard : Claim7 := { stood := { row := fnExactLayerBetweenUptoRow, standIns := [], harness := (true, "3601aad46b42dac770809079dbbf8894a73d820e7ed4caf05ebf9f5f3b16504e"), looks := true }, kinds := [], alts := [], laidByText := true, laidKinds := [.data, .pinned], laidTests := true, laidLooks := .later }
def FnExactLayerBetweenUptoCardSaid : Prop := Claim7.holds Tryz.pinned (.plain (OpenSpec.upto fnExactLayerBetweenSpec)) fnExactLayerBetweenUptoCard

/-- THE SECOND FORM's CARD OF 'laws.FnExactReplaced'. -/
def fnExactReplacedUptoCard : Claim7 := { stood := { row := fnExactReplacedUptoRow, standIns := [], harness := (true, "3601aad46b42dac770809079dbbf8894a73d820e7ed4caf05ebf9f5f3b16504e"), looks := true }, kinds := [], alts := [], laidByText := true, laidKinds := [.data, .pinned], laidTests := true, laidLooks := .later }
def FnExactReplacedUptoCardSaid : Prop := Claim7.holds Tryz.pinned (.plain (OpenSpec.upto fnExactReplacedSpec)) fnExactReplacedUptoCard

/-- THE SECOND FORM's CARD OF 'laws.FnExactWitness'. -/
def fnExactWitnessUptoCard : Claim7 := { stood := { row := fnExactWitnessUptoRow, standIns := [], harness := (true, "3601aad46b42dac770809079dbbf8894a73d820e7ed4caf05ebf9f5f3b16504e"), looks := true }, kinds := [], alts := [], laidByText := true, laidKinds := [.data, .data, .data, .data, .pinned], laidTests := true, laidLooks := .later }
def FnExactWitnessUptoCardSaid : Prop := Claim7.holds Tryz.pinned (.plain (OpenSpec.upto fnExactWitnessSpec)) fnExactWitnessUptoCard
end Rows
end Go.Proofs.YtdhmlillkbjjjaaGreatDoor
