/-
  DERIVED. GIVEN WITH THE SEED: THE CARDS: each row of YthpjkenkbfkdhabDoorRows.lean that lists a variable, with what it lists TIED to the program's text (the seventh form; the later family's looks); each row that meets fmt, with fmt's text TOLD by the authors' own Lean function (tested against real Go, not proved from fmt's source: count such statements apart). THE CARD IS WHAT COUNTS. Prove the row's statement (the work); the ties are given (YthpjkenkbfkdhabDoorTie.lean); close each card by the builder's one call (the guide's Derived/Test/ToyasCard.lean, 'card_holds'). Laid BY PROGRAM, IN A SANDBOX (cutbox-door.mjs). By AI agents, Wed Nov 11 2026. No macro, syntax, notation, axiom, sorry.
-/
import Derived.Test.YthpjkenkbfkdhabDoorRows
import GoSem.ClaimSeven
namespace Go.Proofs.YthpjkenkbfkdhabDoor
namespace Rows

/-- THE TIED CARD OF 'laws.FnExactAddNode'. -/
def fnExactAddNodeCard : Claim7 := { stood := { row := fnExactAddNodeRow, standIns := [], harness := (true, "f146a76a4b80a8abed60a79d9bb9373d37c4bb26efc70f02294818dcda1a4661"), looks := true }, kinds := [], alts := [], laidByText := true, laidKinds := [.data, .pinned], laidTests := true, laidLooks := .later }
def FnExactAddNodeCardSaid : Prop := Claim7.holds Tryd.pinned (.plain (OpenSpec.ofChange fnExactAddNodeSpec)) fnExactAddNodeCard

/-- THE SECOND FORM's CARD OF 'laws.FnExactAddNode'. -/
def fnExactAddNodeUptoCard : Claim7 := { stood := { row := fnExactAddNodeUptoRow, standIns := [], harness := (true, "f146a76a4b80a8abed60a79d9bb9373d37c4bb26efc70f02294818dcda1a4661"), looks := true }, kinds := [], alts := [], laidByText := true, laidKinds := [.data, .pinned], laidTests := true, laidLooks := .later }
def FnExactAddNodeUptoCardSaid : Prop := Claim7.holds Tryd.pinned (.plain (OpenSpec.upto fnExactAddNodeSpec)) fnExactAddNodeUptoCard
end Rows
end Go.Proofs.YthpjkenkbfkdhabDoor
