/-
  DERIVED. GIVEN WITH THE SEED: THE CARDS: each row of YtilogldgepaeiacDoorRows.lean that lists a variable, with what it lists TIED to the program's text (the seventh form; the later family's looks); each row that meets fmt, with fmt's text TOLD by the authors' own Lean function (tested against real Go, not proved from fmt's source: count such statements apart). THE CARD IS WHAT COUNTS. Prove the row's statement (the work); the ties are given (YtilogldgepaeiacDoorTie.lean); close each card by the builder's one call (the guide's Derived/Test/ToyasCard.lean, 'card_holds'). Laid BY PROGRAM, IN A SANDBOX (cutbox-door.mjs). By AI agents, Wed Nov 11 2026. No macro, syntax, notation, axiom, sorry.
-/
import Derived.Test.YtilogldgepaeiacDoorRows
import GoSem.ClaimSeven
namespace Go.Proofs.YtilogldgepaeiacDoor
namespace Rows

/-- THE TIED CARD OF 'laws.FnExactWinnerAt'. -/
def fnExactWinnerAtCard : Claim7 := { stood := { row := fnExactWinnerAtRow, standIns := [], harness := (true, "ece818a08867c8fd190fb79811a0d0da059453efebbefecc14fc2d1351ec4561"), looks := true }, kinds := [], alts := [], laidByText := true, laidKinds := [.data, .pinned], laidTests := true, laidLooks := .later }
def FnExactWinnerAtCardSaid : Prop := Claim7.holds Tryd.pinned (.plain (OpenSpec.ofChange fnExactWinnerAtSpec)) fnExactWinnerAtCard

/-- THE TIED CARD OF 'laws.FnExactAddNode'. -/
def fnExactAddNodeCard : Claim7 := { stood := { row := fnExactAddNodeRow, standIns := [], harness := (true, "ece818a08867c8fd190fb79811a0d0da059453efebbefecc14fc2d1351ec4561"), looks := true }, kinds := [], alts := [], laidByText := true, laidKinds := [.data, .pinned], laidTests := true, laidLooks := .later }
def FnExactAddNodeCardSaid : Prop := Claim7.holds Tryd.pinned (.plain (OpenSpec.ofChange fnExactAddNodeSpec)) fnExactAddNodeCard

/-- THE TIED CARD OF 'laws.FnExactTouched'. -/
def fnExactTouchedCard : Claim7 := { stood := { row := fnExactTouchedRow, standIns := [], harness := (true, "ece818a08867c8fd190fb79811a0d0da059453efebbefecc14fc2d1351ec4561"), looks := true }, kinds := [], alts := [], laidByText := true, laidKinds := [.data, .pinned], laidTests := true, laidLooks := .later }
def FnExactTouchedCardSaid : Prop := Claim7.holds Tryd.pinned (.plain (OpenSpec.ofChange fnExactTouchedSpec)) fnExactTouchedCard

/-- THE SECOND FORM's CARD OF 'laws.FnExactWinnerAt'. -/
def fnExactWinnerAtUptoCard : Claim7 := { stood := { row := fnExactWinnerAtUptoRow, standIns := [], harness := (true, "ece818a08867c8fd190fb79811a0d0da059453efebbefecc14fc2d1351ec4561"), looks := true }, kinds := [], alts := [], laidByText := true, laidKinds := [.data, .pinned], laidTests := true, laidLooks := .later }
def FnExactWinnerAtUptoCardSaid : Prop := Claim7.holds Tryd.pinned (.plain (OpenSpec.upto fnExactWinnerAtSpec)) fnExactWinnerAtUptoCard

/-- THE SECOND FORM's CARD OF 'laws.FnExactAddNode'. -/
def fnExactAddNodeUptoCard : Claim7 := { stood := { row := fnExactAddNodeUptoRow, standIns := [], harness := (true, "ece818a08867c8fd190fb79811a0d0da059453efebbefecc14fc2d1351ec4561"), looks := true }, kinds := [], alts := [], laidByText := true, laidKinds := [.data, .pinned], laidTests := true, laidLooks := .later }
def FnExactAddNodeUptoCardSaid : Prop := Claim7.holds Tryd.pinned (.plain (OpenSpec.upto fnExactAddNodeSpec)) fnExactAddNodeUptoCard

/-- THE SECOND FORM's CARD OF 'laws.FnExactTouched'. -/
def fnExactTouchedUptoCard : Claim7 := { stood := { row := fnExactTouchedUptoRow, standIns := [], harness := (true, "ece818a08867c8fd190fb79811a0d0da059453efebbefecc14fc2d1351ec4561"), looks := true }, kinds := [], alts := [], laidByText := true, laidKinds := [.data, .pinned], laidTests := true, laidLooks := .later }
def FnExactTouchedUptoCardSaid : Prop := Claim7.holds Tryd.pinned (.plain (OpenSpec.upto fnExactTouchedSpec)) fnExactTouchedUptoCard
end Rows
end Go.Proofs.YtilogldgepaeiacDoor
