/-
  DERIVED. GIVEN WITH THE SEED: THE CARDS: each row of YtfefjaohlhkmaaaGreatDoorRows.lean that lists a variable, with what it lists TIED to the program's text (the seventh form; the later family's looks); each row that meets fmt, with fmt's text TOLD by the authors' own Lean function (tested against real Go, not proved from fmt's source: count such statements apart). THE CARD IS WHAT COUNTS. Prove the row's statement (the work); the ties are given (YtfefjaohlhkmaaaGreatDoorTie.lean); close each card by the builder's one call (the guide's Derived/Test/ToyasCard.lean, 'card_holds'). Laid BY PROGRAM, IN A SANDBOX (cutbox-door.mjs). By AI agents, Wed Nov 11 2026. No macro, syntax, notation, axiom, sorry.
-/
import Derived.Test.YtfefjaohlhkmaaaGreatDoorRows
import GoSem.ClaimSeven
namespace Go.Proofs.YtfefjaohlhkmaaaGreatDoor
namespace Rows

/-- THE TIED CARD OF 'laws.FnReplaced'. -/
def fnReplacedCard : Claim7 := { stood := { row := fnReplacedRow, standIns := [], harness := (true, "67914a59bc50dc98c82b9aa0e6ad8880ead2249ed40ec2d4e40c4d948de422e7"), looks := true }, kinds := [], alts := [], laidByText := true, laidKinds := [.data, .pinned], laidTests := true, laidLooks := .later }
def FnReplacedCardSaid : Prop := Claim7.holds Tryz.pinned (.plain (OpenSpec.ofChange fnReplacedSpec)) fnReplacedCard

/-- THE TIED CARD OF 'laws.FnSquash'. -/
def fnSquashCard : Claim7 := { stood := { row := fnSquashRow, standIns := [], harness := (true, "67914a59bc50dc98c82b9aa0e6ad8880ead2249ed40ec2d4e40c4d948de422e7"), looks := true }, kinds := [], alts := [], laidByText := true, laidKinds := [.data, .pinned], laidTests := true, laidLooks := .later }
def FnSquashCardSaid : Prop := Claim7.holds Tryz.pinned (.plain (OpenSpec.ofChange fnSquashSpec)) fnSquashCard

/-- THE TIED CARD OF 'laws.FnWitness'. -/
def fnWitnessCard : Claim7 := { stood := { row := fnWitnessRow, standIns := [], harness := (true, "67914a59bc50dc98c82b9aa0e6ad8880ead2249ed40ec2d4e40c4d948de422e7"), looks := true }, kinds := [], alts := [], laidByText := true, laidKinds := [.data, .data, .data, .data, .pinned], laidTests := true, laidLooks := .later }
def FnWitnessCardSaid : Prop := Claim7.holds Tryz.pinned (.plain (OpenSpec.ofChange fnWitnessSpec)) fnWitnessCard

/-- THE TIED CARD OF 'laws.FnApply'. -/
def fnApplyCard : Claim7 := { stood := { row := fnApplyRow, standIns := [], harness := (true, "67914a59bc50dc98c82b9aa0e6ad8880ead2249ed40ec2d4e40c4d948de422e7"), looks := true }, kinds := [], alts := [], laidByText := true, laidKinds := [.data, .pinned], laidTests := true, laidLooks := .later }
def FnApplyCardSaid : Prop := Claim7.holds Tryz.pinned (.plain (OpenSpec.ofChange fnApplySpec)) fnApplyCard

/-- THE TIED CARD OF 'laws.FnLayers'. -/
def fnLayersCard : Claim7 := { stood := { row := fnLayersRow, standIns := [], harness := (true, "67914a59bc50dc98c82b9aa0e6ad8880ead2249ed40ec2d4e40c4d948de422e7"), looks := true }, kinds := [], alts := [], laidByText := true, laidKinds := [.data, .pinned], laidTests := true, laidLooks := .later }
def FnLayersCardSaid : Prop := Claim7.holds Tryz.pinned (.plain (OpenSpec.ofChange fnLayersSpec)) fnLayersCard

/-- THE TIED CARD OF 'laws.FnTrees'. -/
def fnTreesCard : Claim7 := { stood := { row := fnTreesRow, standIns := [], harness := (true, "67914a59bc50dc98c82b9aa0e6ad8880ead2249ed40ec2d4e40c4d948de422e7"), looks := true }, kinds := [], alts := [], laidByText := true, laidKinds := [.data, .pinned], laidTests := true, laidLooks := .later }
def FnTreesCardSaid : Prop := Claim7.holds Tryz.pinned (.plain (OpenSpec.ofChange fnTreesSpec)) fnTreesCard

/-- THE TIED CARD OF 'laws.FnMerge'. -/
def fnMergeCard : Claim7 := { stood := { row := fnMergeRow, standIns := [], harness := (true, "67914a59bc50dc98c82b9aa0e6ad8880ead2249ed40ec2d4e40c4d948de422e7"), looks := true }, kinds := [], alts := [], laidByText := true, laidKinds := [.data, .pinned], laidTests := true, laidLooks := .later }
def FnMergeCardSaid : Prop := Claim7.holds Tryz.pinned (.plain (OpenSpec.ofChange fnMergeSpec)) fnMergeCard

/-- THE TIED CARD OF 'laws.FnOrder'. -/
def fnOrderCard : Claim7 := { stood := { row := fnOrderRow, standIns := [], harness := (true, "67914a59bc50dc98c82b9aa0e6ad8880ead2249ed40ec2d4e40c4d948de422e7"), looks := true }, kinds := [], alts := [], laidByText := true, laidKinds := [.data, .pinned], laidTests := true, laidLooks := .later }
def FnOrderCardSaid : Prop := Claim7.holds Tryz.pinned (.plain (OpenSpec.ofChange fnOrderSpec)) fnOrderCard

/-- THE TIED CARD OF 'laws.FnExactLayerBetween'. -/
def fnExactLayerBetweenCard : Claim7 := { stood := { row := fnExactLayerBetweenRow, standIns := [], harness := (true, "67914a59bc50dc98c82b9aa0e6ad8880ead2249ed40ec2d4e40c4d948de422e7"), looks := true }, kinds := [], alts := [], laidByText := true, laidKinds := [.data, .pinned], laidTests := true, laidLooks := .later }
def FnExactLayerBetweenCardSaid : Prop := Claim7.holds Tryz.pinned (.plain (OpenSpec.ofChange fnExactLayerBetweenSpec)) fnExactLayerBetweenCard

/-- THE TIED CARD OF 'laws.FnExactReplaced'. -/
def fnExactReplacedCard : Claim7 := { stood := { row := fnExactReplacedRow, standIns := [], harness := (true, "67914a59bc50dc98c82b9aa0e6ad8880ead2249ed40ec2d4e40c4d948de422e7"), looks := true }, kinds := [], alts := [], laidByText := true, laidKinds := [.data, .pinned], laidTests := true, laidLooks := .later }
def FnExactReplacedCardSaid : Prop := Claim7.holds Tryz.pinned (.plain (OpenSpec.ofChange fnExactReplacedSpec)) fnExactReplacedCard

/-- THE TIED CARD OF 'laws.FnExactWitness'. -/
def fnExactWitnessCard : Claim7 := { stood := { row := fnExactWitnessRow, standIns := [], harness := (true, "67914a59bc50dc98c82b9aa0e6ad8880ead2249ed40ec2d4e40c4d948de422e7"), looks := true }, kinds := [], alts := [], laidByText := true, laidKinds := [.data, .data, .data, .data, .pinned], laidTests := true, laidLooks := .later }
def FnExactWitnessCardSaid : Prop := Claim7.holds Tryz.pinned (.plain (OpenSpec.ofChange fnExactWitnessSpec)) fnExactWitnessCard

/-- THE SECOND FORM's CARD OF 'laws.FnReplaced'. -/
def fnReplacedUptoCard : Claim7 := { stood := { row := fnReplacedUptoRow, standIns := [], harness := (true, "67914a59bc50dc98c82b9aa0e6ad8880ead2249ed40ec2d4e40c4d948de422e7"), looks := true }, kinds := [], alts := [], laidByText := true, laidKinds := [.data, .pinned], laidTests := true, laidLooks := .later }
def FnReplacedUptoCardSaid : Prop := Claim7.holds Tryz.pinned (.plain (OpenSpec.upto fnReplacedSpec)) fnReplacedUptoCard

/-- THE SECOND FORM's CARD OF 'laws.FnSquash'. -/
def fnSquashUptoCard : Claim7 := { stood := { row := fnSquashUptoRow, standIns := [], harness := (true, "67914a59bc50dc98c82b9aa0e6ad8880ead2249ed40ec2d4e40c4d948de422e7"), looks := true }, kinds := [], alts := [], laidByText := true, laidKinds := [.data, .pinned], laidTests := true, laidLooks := .later }
def FnSquashUptoCardSaid : Prop := Claim7.holds Tryz.pinned (.plain (OpenSpec.upto fnSquashSpec)) fnSquashUptoCard

/-- THE SECOND FORM's CARD OF 'laws.FnWitness'. -/
def fnWitnessUptoCard : Claim7 := { stood := { row := fnWitnessUptoRow, standIns := [], harness := (true, "67914a59bc50dc98c82b9aa0e6ad8880ead2249ed40ec2d4e40c4d948de422e7"), looks := true }, kinds := [], alts := [], laidByText := true, laidKinds := [.data, .data, .data, .data, .pinned], laidTests := true, laidLooks := .later }
def FnWitnessUptoCardSaid : Prop := Claim7.holds Tryz.pinned (.plain (OpenSpec.upto fnWitnessSpec)) fnWitnessUptoCard

/-- THE SECOND FORM's CARD OF 'laws.FnApply'. -/
def fnApplyUptoCard : Claim7 := { stood := { row := fnApplyUptoRow, standIns := [], harness := (true, "67914a59bc50dc98c82b9aa0e6ad8880ead2249ed40ec2d4e40c4d948de422e7"), looks := true }, kinds := [], alts := [], laidByText := true, laidKinds := [.data, .pinned], laidTests := true, laidLooks := .later }
def FnApplyUptoCardSaid : Prop := Claim7.holds Tryz.pinned (.plain (OpenSpec.upto fnApplySpec)) fnApplyUptoCard

/-- THE SECOND FORM's CARD OF 'laws.FnLayers'. -/
def fnLayersUptoCard : Claim7 := { stood := { row := fnLayersUptoRow, standIns := [], harness := (true, "67914a59bc50dc98c82b9aa0e6ad8880ead2249ed40ec2d4e40c4d948de422e7"), looks := true }, kinds := [], alts := [], laidByText := true, laidKinds := [.data, .pinned], laidTests := true, laidLooks := .later }
def FnLayersUptoCardSaid : Prop := Claim7.holds Tryz.pinned (.plain (OpenSpec.upto fnLayersSpec)) fnLayersUptoCard

/-- THE SECOND FORM's CARD OF 'laws.FnTrees'. -/
def fnTreesUptoCard : Claim7 := { stood := { row := fnTreesUptoRow, standIns := [], harness := (true, "67914a59bc50dc98c82b9aa0e6ad8880ead2249ed40ec2d4e40c4d948de422e7"), looks := true }, kinds := [], alts := [], laidByText := true, laidKinds := [.data, .pinned], laidTests := true, laidLooks := .later }
def FnTreesUptoCardSaid : Prop := Claim7.holds Tryz.pinned (.plain (OpenSpec.upto fnTreesSpec)) fnTreesUptoCard

/-- THE SECOND FORM's CARD OF 'laws.FnMerge'. -/
def fnMergeUptoCard : Claim7 := { stood := { row := fnMergeUptoRow, standIns := [], harness := (true, "67914a59bc50dc98c82b9aa0e6ad8880ead2249ed40ec2d4e40c4d948de422e7"), looks := true }, kinds := [], alts := [], laidByText := true, laidKinds := [.data, .pinned], laidTests := true, laidLooks := .later }
def FnMergeUptoCardSaid : Prop := Claim7.holds Tryz.pinned (.plain (OpenSpec.upto fnMergeSpec)) fnMergeUptoCard

/-- THE SECOND FORM's CARD OF 'laws.FnOrder'. -/
def fnOrderUptoCard : Claim7 := { stood := { row := fnOrderUptoRow, standIns := [], harness := (true, "67914a59bc50dc98c82b9aa0e6ad8880ead2249ed40ec2d4e40c4d948de422e7"), looks := true }, kinds := [], alts := [], laidByText := true, laidKinds := [.data, .pinned], laidTests := true, laidLooks := .later }
def FnOrderUptoCardSaid : Prop := Claim7.holds Tryz.pinned (.plain (OpenSpec.upto fnOrderSpec)) fnOrderUptoCard

/-- THE SECOND FORM's CARD OF 'laws.FnExactLayerBetween'. -/
def fnExactLayerBetweenUptoCard : Claim7 := { stood := { row := fnExactLayerBetweenUptoRow, standIns := [], harness := (true, "67914a59bc50dc98c82b9aa0e6ad8880ead2249ed40ec2d4e40c4d948de422e7"), looks := true }, kinds := [], alts := [], laidByText := true, laidKinds := [.data, .pinned], laidTests := true, laidLooks := .later }
def FnExactLayerBetweenUptoCardSaid : Prop := Claim7.holds Tryz.pinned (.plain (OpenSpec.upto fnExactLayerBetweenSpec)) fnExactLayerBetweenUptoCard

/-- THE SECOND FORM's CARD OF 'laws.FnExactReplaced'. -/
def fnExactReplacedUptoCard : Claim7 := { stood := { row := fnExactReplacedUptoRow, standIns := [], harness := (true, "67914a59bc50dc98c82b9aa0e6ad8880ead2249ed40ec2d4e40c4d948de422e7"), looks := true }, kinds := [], alts := [], laidByText := true, laidKinds := [.data, .pinned], laidTests := true, laidLooks := .later }
def FnExactReplacedUptoCardSaid : Prop := Claim7.holds Tryz.pinned (.plain (OpenSpec.upto fnExactReplacedSpec)) fnExactReplacedUptoCard

/-- THE SECOND FORM's CARD OF 'laws.FnExactWitness'. -/
def fnExactWitnessUptoCard : Claim7 := { stood := { row := fnExactWitnessUptoRow, standIns := [], harness := (true, "67914a59bc50dc98c82b9aa0e6ad8880ead2249ed40ec2d4e40c4d948de422e7"), looks := true }, kinds := [], alts := [], laidByText := true, laidKinds := [.data, .data, .data, .data, .pinned], laidTests := true, laidLooks := .later }
def FnExactWitnessUptoCardSaid : Prop := Claim7.holds Tryz.pinned (.plain (OpenSpec.upto fnExactWitnessSpec)) fnExactWitnessUptoCard
end Rows
end Go.Proofs.YtfefjaohlhkmaaaGreatDoor
