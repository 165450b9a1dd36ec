/- Plain Lean: what the functions compute. -/
import Derived.Test.YtfefjaohlhkmaaaDoorrP2
set_option linter.unusedVariables false
set_option linter.unusedSimpArgs false
namespace Go.UL
open Go.RowKit
/-! ### records -/
/-- The first thing that is wrong with a record. -/
def recFault (r : Rec) : Int :=
  if !within r.kind 1 4 then 9 else if !pathOK r.path then 10
  else if decide (20 < r.body.length) || (decide (r.kind = 2) && decide (r.body = [])) then 8
  else if ((decide (r.kind = 3) || decide (r.kind = 4)) && !decide (r.body = [])) || (!decide (r.kind = 3) && r.opq) then 3
  else if !within r.mode 0 511 || ((decide (r.kind = 2) || decide (r.kind = 4)) && !decide (r.mode = 0)) then 4 else 0
def spec_l02Fault.sh (a0 : Rec) : Option (Int) :=
  bif (!(within a0.kind 1 4)) then (some 9) else (bif (!(pathOK a0.path)) then (some 10) else (bif ((decide (20 < (a0.body.length : Int))) || ((decide (a0.kind = 2)) && (decide (a0.body = ([] : List UInt8))))) then (some 8) else (bif (((!decide (a0.body = ([] : List UInt8))) && ((decide (a0.kind = 3)) || (decide (a0.kind = 4)))) || (a0.opq && (!(decide (a0.kind = 3))))) then (some 3) else (bif ((!(within a0.mode 0 511)) || ((!decide (a0.mode = 0)) && ((decide (a0.kind = 4)) || (decide (a0.kind = 2))))) then (some 4) else (some 0)))))
theorem bif_if {α : Type} (b : Bool) (x y : α) : (bif b then x else y) = if b then x else y := by cases b <;> rfl
theorem spec_l02Fault.eq (a0 : Rec) : spec_l02Fault.sh a0 = some (recFault a0) := by
  unfold spec_l02Fault.sh recFault
  have e1 : decide ((20 : Int) < (a0.body.length : Int)) = decide (20 < a0.body.length) := by rw [decide_eq_decide]; omega
  have e2 : (((!decide (a0.body = ([] : List UInt8))) && ((decide (a0.kind = 3)) || (decide (a0.kind = 4)))) || (a0.opq && (!(decide (a0.kind = 3))))) = (((decide (a0.kind = 3) || decide (a0.kind = 4)) && !decide (a0.body = [])) || (!decide (a0.kind = 3) && a0.opq)) := by
    rw [Bool.and_comm (!decide (a0.body = ([] : List UInt8))), Bool.and_comm a0.opq]
  have e3 : ((!(within a0.mode 0 511)) || ((!decide (a0.mode = 0)) && ((decide (a0.kind = 4)) || (decide (a0.kind = 2))))) = (!within a0.mode 0 511 || ((decide (a0.kind = 2) || decide (a0.kind = 4)) && !decide (a0.mode = 0))) := by
    rw [Bool.and_comm (!decide (a0.mode = 0)), Bool.or_comm (decide (a0.kind = 4))]
  rw [e1, e2, e3]
  simp only [bif_if]
  split
  · rfl
  · split
    · rfl
    · split
      · rfl
      · split
        · rfl
        · split <;> rfl
def spec_RecordFault.sh (a0 : Rec) : Option (Int) :=
  some (recFault a0)
theorem spec_RecordFault.eq (a0 : Rec) : spec_RecordFault.sh a0 = some (recFault a0) := rfl
def impl_RecordFault.sh (a0 : Rec) : Option (Int) :=
  bif decide (([.inl (!(within a0.kind 1 4)), .inr 9, .inl (!(pathOK a0.path)), .inr 10, .inl ((decide (20 < (a0.body.length : Int))) || ((decide (a0.kind = 2)) && (decide (a0.body = ([] : List UInt8))))), .inr 8, .inl ((((decide (a0.kind = 3)) || (decide (a0.kind = 4))) && (!decide (a0.body = ([] : List UInt8)))) || ((!decide (a0.kind = 3)) && a0.opq)), .inr 3, .inl ((!(within a0.mode 0 511)) || (((decide (a0.kind = 2)) || (decide (a0.kind = 4))) && (!decide (a0.mode = 0)))), .inr 4] : List (Bool ⊕ Int)).length ≤ 4611686018427387904) then (some (firstOf ([.inl (!(within a0.kind 1 4)), .inr 9, .inl (!(pathOK a0.path)), .inr 10, .inl ((decide (20 < (a0.body.length : Int))) || ((decide (a0.kind = 2)) && (decide (a0.body = ([] : List UInt8))))), .inr 8, .inl ((((decide (a0.kind = 3)) || (decide (a0.kind = 4))) && (!decide (a0.body = ([] : List UInt8)))) || ((!decide (a0.kind = 3)) && a0.opq)), .inr 3, .inl ((!(within a0.mode 0 511)) || (((decide (a0.kind = 2)) || (decide (a0.kind = 4))) && (!decide (a0.mode = 0)))), .inr 4] : List (Bool ⊕ Int)))) else none
theorem impl_RecordFault.eq (a0 : Rec) : impl_RecordFault.sh a0 = some (recFault a0) := by
  unfold impl_RecordFault.sh recFault
  have e1 : decide ((20 : Int) < (a0.body.length : Int)) = decide (20 < a0.body.length) := by rw [decide_eq_decide]; omega
  rw [e1]; simp only [List.length_cons, List.length_nil]
  simp only [firstOf, anyB, anyI]
  rfl
def impl_RecordOK.sh (a0 : Rec) : Option (Bool) :=
  some (decide ((recFault a0) = 0))
theorem impl_RecordOK.eq (a0 : Rec) : impl_RecordOK.sh a0 = some (decide (recFault a0 = 0)) := rfl
/-! ### below, joined -/
def belowP (a b : List UInt8) : Bool := (b ++ [47]).isPrefixOf a
/-! ### less -/
def lessL : List (List UInt8) → List (List UInt8) → Bool
  | x :: xs, y :: ys => if x = y then lessL xs ys else lt8 x y
  | [], _ :: _ => true
  | _, [] => false
/-! ### the parts of a path -/
end Go.UL
