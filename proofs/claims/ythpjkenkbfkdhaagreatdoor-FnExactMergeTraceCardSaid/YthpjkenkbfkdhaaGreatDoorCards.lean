/-
  DERIVED. GIVEN WITH THE SEED: THE CARDS: each row of YthpjkenkbfkdhaaGreatDoorRows.lean that lists a variable, with what it lists TIED to the program's text (the seventh form; the later family's looks); each row that meets fmt, with fmt's text TOLD by the authors' own Lean function (tested against real Go, not proved from fmt's source: count such statements apart). THE CARD IS WHAT COUNTS. Prove the row's statement (the work); the ties are given (YthpjkenkbfkdhaaGreatDoorTie.lean); close each card by the builder's one call (the guide's Derived/Test/ToyasCard.lean, 'card_holds'). Laid BY PROGRAM, IN A SANDBOX (cutbox-door.mjs). By AI agents, Wed Nov 11 2026. No macro, syntax, notation, axiom, sorry.
-/
import Derived.Test.YthpjkenkbfkdhaaGreatDoorRows
import GoSem.ClaimSeven
namespace Go.Proofs.YthpjkenkbfkdhaaGreatDoor
namespace Rows

/-- THE TIED CARD OF 'laws.FnExactChanges'. -/
def fnExactChangesCard : Claim7 := { stood := { row := fnExactChangesRow, standIns := [], harness := (true, "94754823d80911e676dcc845ada1294acfac54ceddaf5c50b0ffe421361bd1f2"), looks := true }, kinds := [], alts := [], laidByText := true, laidKinds := [.data, .pinned], laidTests := true, laidLooks := .later }
def FnExactChangesCardSaid : Prop := Claim7.holds Tryz.pinned (.plain (OpenSpec.ofChange fnExactChangesSpec)) fnExactChangesCard

/-- THE TIED CARD OF 'laws.FnExactViewOf'. -/
def fnExactViewOfCard : Claim7 := { stood := { row := fnExactViewOfRow, standIns := [], harness := (true, "94754823d80911e676dcc845ada1294acfac54ceddaf5c50b0ffe421361bd1f2"), looks := true }, kinds := [], alts := [], laidByText := true, laidKinds := [.data, .pinned], laidTests := true, laidLooks := .later }
def FnExactViewOfCardSaid : Prop := Claim7.holds Tryz.pinned (.plain (OpenSpec.ofChange fnExactViewOfSpec)) fnExactViewOfCard

/-- THE TIED CARD OF 'laws.FnExactApply'. -/
def fnExactApplyCard : Claim7 := { stood := { row := fnExactApplyRow, standIns := [], harness := (true, "94754823d80911e676dcc845ada1294acfac54ceddaf5c50b0ffe421361bd1f2"), looks := true }, kinds := [], alts := [], laidByText := true, laidKinds := [.data, .pinned], laidTests := true, laidLooks := .later }
def FnExactApplyCardSaid : Prop := Claim7.holds Tryz.pinned (.plain (OpenSpec.ofChange fnExactApplySpec)) fnExactApplyCard

/-- THE TIED CARD OF 'laws.FnExactApplyAll'. -/
def fnExactApplyAllCard : Claim7 := { stood := { row := fnExactApplyAllRow, standIns := [], harness := (true, "94754823d80911e676dcc845ada1294acfac54ceddaf5c50b0ffe421361bd1f2"), looks := true }, kinds := [], alts := [], laidByText := true, laidKinds := [.data, .pinned], laidTests := true, laidLooks := .later }
def FnExactApplyAllCardSaid : Prop := Claim7.holds Tryz.pinned (.plain (OpenSpec.ofChange fnExactApplyAllSpec)) fnExactApplyAllCard

/-- THE TIED CARD OF 'laws.FnExactPathsOf'. -/
def fnExactPathsOfCard : Claim7 := { stood := { row := fnExactPathsOfRow, standIns := [], harness := (true, "94754823d80911e676dcc845ada1294acfac54ceddaf5c50b0ffe421361bd1f2"), looks := true }, kinds := [], alts := [], laidByText := true, laidKinds := [.data, .pinned], laidTests := true, laidLooks := .later }
def FnExactPathsOfCardSaid : Prop := Claim7.holds Tryz.pinned (.plain (OpenSpec.ofChange fnExactPathsOfSpec)) fnExactPathsOfCard

/-- THE TIED CARD OF 'laws.FnExactSquash'. -/
def fnExactSquashCard : Claim7 := { stood := { row := fnExactSquashRow, standIns := [], harness := (true, "94754823d80911e676dcc845ada1294acfac54ceddaf5c50b0ffe421361bd1f2"), looks := true }, kinds := [], alts := [], laidByText := true, laidKinds := [.data, .pinned], laidTests := true, laidLooks := .later }
def FnExactSquashCardSaid : Prop := Claim7.holds Tryz.pinned (.plain (OpenSpec.ofChange fnExactSquashSpec)) fnExactSquashCard

/-- THE TIED CARD OF 'laws.FnExactLayerBetween'. -/
def fnExactLayerBetweenCard : Claim7 := { stood := { row := fnExactLayerBetweenRow, standIns := [], harness := (true, "94754823d80911e676dcc845ada1294acfac54ceddaf5c50b0ffe421361bd1f2"), looks := true }, kinds := [], alts := [], laidByText := true, laidKinds := [.data, .pinned], laidTests := true, laidLooks := .later }
def FnExactLayerBetweenCardSaid : Prop := Claim7.holds Tryz.pinned (.plain (OpenSpec.ofChange fnExactLayerBetweenSpec)) fnExactLayerBetweenCard

/-- THE TIED CARD OF 'laws.FnExactSquashAll'. -/
def fnExactSquashAllCard : Claim7 := { stood := { row := fnExactSquashAllRow, standIns := [], harness := (true, "94754823d80911e676dcc845ada1294acfac54ceddaf5c50b0ffe421361bd1f2"), looks := true }, kinds := [], alts := [], laidByText := true, laidKinds := [.data, .pinned], laidTests := true, laidLooks := .later }
def FnExactSquashAllCardSaid : Prop := Claim7.holds Tryz.pinned (.plain (OpenSpec.ofChange fnExactSquashAllSpec)) fnExactSquashAllCard

/-- THE TIED CARD OF 'laws.FnExactMergeTrace'. -/
def fnExactMergeTraceCard : Claim7 := { stood := { row := fnExactMergeTraceRow, standIns := [], harness := (true, "94754823d80911e676dcc845ada1294acfac54ceddaf5c50b0ffe421361bd1f2"), looks := true }, kinds := [], alts := [], laidByText := true, laidKinds := [.data, .pinned], laidTests := true, laidLooks := .later }
def FnExactMergeTraceCardSaid : Prop := Claim7.holds Tryz.pinned (.plain (OpenSpec.ofChange fnExactMergeTraceSpec)) fnExactMergeTraceCard

/-- THE TIED CARD OF 'laws.FnExactMergeMany'. -/
def fnExactMergeManyCard : Claim7 := { stood := { row := fnExactMergeManyRow, standIns := [], harness := (true, "94754823d80911e676dcc845ada1294acfac54ceddaf5c50b0ffe421361bd1f2"), looks := true }, kinds := [], alts := [], laidByText := true, laidKinds := [.data, .pinned], laidTests := true, laidLooks := .later }
def FnExactMergeManyCardSaid : Prop := Claim7.holds Tryz.pinned (.plain (OpenSpec.ofChange fnExactMergeManySpec)) fnExactMergeManyCard

/-- THE TIED CARD OF 'laws.FnExactReplaced'. -/
def fnExactReplacedCard : Claim7 := { stood := { row := fnExactReplacedRow, standIns := [], harness := (true, "94754823d80911e676dcc845ada1294acfac54ceddaf5c50b0ffe421361bd1f2"), looks := true }, kinds := [], alts := [], laidByText := true, laidKinds := [.data, .pinned], laidTests := true, laidLooks := .later }
def FnExactReplacedCardSaid : Prop := Claim7.holds Tryz.pinned (.plain (OpenSpec.ofChange fnExactReplacedSpec)) fnExactReplacedCard

/-- THE TIED CARD OF 'laws.FnExactWitness'. -/
def fnExactWitnessCard : Claim7 := { stood := { row := fnExactWitnessRow, standIns := [], harness := (true, "94754823d80911e676dcc845ada1294acfac54ceddaf5c50b0ffe421361bd1f2"), looks := true }, kinds := [], alts := [], laidByText := true, laidKinds := [.data, .data, .data, .data, .pinned], laidTests := true, laidLooks := .later }
def FnExactWitnessCardSaid : Prop := Claim7.holds Tryz.pinned (.plain (OpenSpec.ofChange fnExactWitnessSpec)) fnExactWitnessCard

/-- THE SECOND FORM's CARD OF 'laws.FnExactChanges'. -/
def fnExactChangesUptoCard : Claim7 := { stood := { row := fnExactChangesUptoRow, standIns := [], harness := (true, "94754823d80911e676dcc845ada1294acfac54ceddaf5c50b0ffe421361bd1f2"), looks := true }, kinds := [], alts := [], laidByText := true, laidKinds := [.data, .pinned], laidTests := true, laidLooks := .later }
def FnExactChangesUptoCardSaid : Prop := Claim7.holds Tryz.pinned (.plain (OpenSpec.upto fnExactChangesSpec)) fnExactChangesUptoCard

/-- THE SECOND FORM's CARD OF 'laws.FnExactViewOf'. -/
def fnExactViewOfUptoCard : Claim7 := { stood := { row := fnExactViewOfUptoRow, standIns := [], harness := (true, "94754823d80911e676dcc845ada1294acfac54ceddaf5c50b0ffe421361bd1f2"), looks := true }, kinds := [], alts := [], laidByText := true, laidKinds := [.data, .pinned], laidTests := true, laidLooks := .later }
def FnExactViewOfUptoCardSaid : Prop := Claim7.holds Tryz.pinned (.plain (OpenSpec.upto fnExactViewOfSpec)) fnExactViewOfUptoCard

/-- THE SECOND FORM's CARD OF 'laws.FnExactApply'. -/
def fnExactApplyUptoCard : Claim7 := { stood := { row := fnExactApplyUptoRow, standIns := [], harness := (true, "94754823d80911e676dcc845ada1294acfac54ceddaf5c50b0ffe421361bd1f2"), looks := true }, kinds := [], alts := [], laidByText := true, laidKinds := [.data, .pinned], laidTests := true, laidLooks := .later }
def FnExactApplyUptoCardSaid : Prop := Claim7.holds Tryz.pinned (.plain (OpenSpec.upto fnExactApplySpec)) fnExactApplyUptoCard

/-- THE SECOND FORM's CARD OF 'laws.FnExactApplyAll'. -/
def fnExactApplyAllUptoCard : Claim7 := { stood := { row := fnExactApplyAllUptoRow, standIns := [], harness := (true, "94754823d80911e676dcc845ada1294acfac54ceddaf5c50b0ffe421361bd1f2"), looks := true }, kinds := [], alts := [], laidByText := true, laidKinds := [.data, .pinned], laidTests := true, laidLooks := .later }
def FnExactApplyAllUptoCardSaid : Prop := Claim7.holds Tryz.pinned (.plain (OpenSpec.upto fnExactApplyAllSpec)) fnExactApplyAllUptoCard

/-- THE SECOND FORM's CARD OF 'laws.FnExactPathsOf'. -/
def fnExactPathsOfUptoCard : Claim7 := { stood := { row := fnExactPathsOfUptoRow, standIns := [], harness := (true, "94754823d80911e676dcc845ada1294acfac54ceddaf5c50b0ffe421361bd1f2"), looks := true }, kinds := [], alts := [], laidByText := true, laidKinds := [.data, .pinned], laidTests := true, laidLooks := .later }
def FnExactPathsOfUptoCardSaid : Prop := Claim7.holds Tryz.pinned (.plain (OpenSpec.upto fnExactPathsOfSpec)) fnExactPathsOfUptoCard

/-- THE SECOND FORM's CARD OF 'laws.FnExactSquash'. -/
def fnExactSquashUptoCard : Claim7 := { stood := { row := fnExactSquashUptoRow, standIns := [], harness := (true, "94754823d80911e676dcc845ada1294acfac54ceddaf5c50b0ffe421361bd1f2"), looks := true }, kinds := [], alts := [], laidByText := true, laidKinds := [.data, .pinned], laidTests := true, laidLooks := .later }
def FnExactSquashUptoCardSaid : Prop := Claim7.holds Tryz.pinned (.plain (OpenSpec.upto fnExactSquashSpec)) fnExactSquashUptoCard

/-- THE SECOND FORM's CARD OF 'laws.FnExactLayerBetween'. -/
def fnExactLayerBetweenUptoCard : Claim7 := { stood := { row := fnExactLayerBetweenUptoRow, standIns := [], harness := (true, "94754823d80911e676dcc845ada1294acfac54ceddaf5c50b0ffe421361bd1f2"), looks := true }, kinds := [], alts := [], laidByText := true, laidKinds := [.data, .pinned], laidTests := true, laidLooks := .later }
def FnExactLayerBetweenUptoCardSaid : Prop := Claim7.holds Tryz.pinned (.plain (OpenSpec.upto fnExactLayerBetweenSpec)) fnExactLayerBetweenUptoCard

/-- THE SECOND FORM's CARD OF 'laws.FnExactSquashAll'. -/
def fnExactSquashAllUptoCard : Claim7 := { stood := { row := fnExactSquashAllUptoRow, standIns := [], harness := (true, "94754823d80911e676dcc845ada1294acfac54ceddaf5c50b0ffe421361bd1f2"), looks := true }, kinds := [], alts := [], laidByText := true, laidKinds := [.data, .pinned], laidTests := true, laidLooks := .later }
def FnExactSquashAllUptoCardSaid : Prop := Claim7.holds Tryz.pinned (.plain (OpenSpec.upto fnExactSquashAllSpec)) fnExactSquashAllUptoCard

/-- THE SECOND FORM's CARD OF 'laws.FnExactMergeTrace'. -/
def fnExactMergeTraceUptoCard : Claim7 := { stood := { row := fnExactMergeTraceUptoRow, standIns := [], harness := (true, "94754823d80911e676dcc845ada1294acfac54ceddaf5c50b0ffe421361bd1f2"), looks := true }, kinds := [], alts := [], laidByText := true, laidKinds := [.data, .pinned], laidTests := true, laidLooks := .later }
def FnExactMergeTraceUptoCardSaid : Prop := Claim7.holds Tryz.pinned (.plain (OpenSpec.upto fnExactMergeTraceSpec)) fnExactMergeTraceUptoCard

/-- THE SECOND FORM's CARD OF 'laws.FnExactMergeMany'. -/
def fnExactMergeManyUptoCard : Claim7 := { stood := { row := fnExactMergeManyUptoRow, standIns := [], harness := (true, "94754823d80911e676dcc845ada1294acfac54ceddaf5c50b0ffe421361bd1f2"), looks := true }, kinds := [], alts := [], laidByText := true, laidKinds := [.data, .pinned], laidTests := true, laidLooks := .later }
def FnExactMergeManyUptoCardSaid : Prop := Claim7.holds Tryz.pinned (.plain (OpenSpec.upto fnExactMergeManySpec)) fnExactMergeManyUptoCard

/-- THE SECOND FORM's CARD OF 'laws.FnExactReplaced'. -/
def fnExactReplacedUptoCard : Claim7 := { stood := { row := fnExactReplacedUptoRow, standIns := [], harness := (true, "94754823d80911e676dcc845ada1294acfac54ceddaf5c50b0ffe421361bd1f2"), looks := true }, kinds := [], alts := [], laidByText := true, laidKinds := [.data, .pinned], laidTests := true, laidLooks := .later }
def FnExactReplacedUptoCardSaid : Prop := Claim7.holds Tryz.pinned (.plain (OpenSpec.upto fnExactReplacedSpec)) fnExactReplacedUptoCard

/-- THE SECOND FORM's CARD OF 'laws.FnExactWitness'. -/
def fnExactWitnessUptoCard : Claim7 := { stood := { row := fnExactWitnessUptoRow, standIns := [], harness := (true, "94754823d80911e676dcc845ada1294acfac54ceddaf5c50b0ffe421361bd1f2"), looks := true }, kinds := [], alts := [], laidByText := true, laidKinds := [.data, .data, .data, .data, .pinned], laidTests := true, laidLooks := .later }
def FnExactWitnessUptoCardSaid : Prop := Claim7.holds Tryz.pinned (.plain (OpenSpec.upto fnExactWitnessSpec)) fnExactWitnessUptoCard
end Rows
end Go.Proofs.YthpjkenkbfkdhaaGreatDoor
