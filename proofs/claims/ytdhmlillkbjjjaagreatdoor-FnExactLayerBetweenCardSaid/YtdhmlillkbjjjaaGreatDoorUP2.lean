import Derived.Test.YtdhmlillkbjjjaaGreatDoorUP1
set_option linter.unusedVariables false
set_option linter.unusedSimpArgs false
namespace Go.UD
open Go.RowKit
def preL (p : List UInt8) : List (List UInt8)→List (List UInt8)
 | []=>[p]
 | q :: qs=>(p ++ q) :: qs
def cut (c : Int) : List UInt8→List (List UInt8)
 | []=>[[]]
 | b :: l=>if bn b = c then [] :: cut c l else preL [b] (cut c l)
theorem J1 (p : List UInt8) (l : List (List UInt8)) : preL p l ≠ []:=by cases l <;> simp [preL]
theorem yZ (c : Int) (l : List UInt8) : cut c l ≠ []:=by
  cases l with
  | nil=>simp [cut]
  | cons b l => unfold cut; split
                · simp
                · exact J1 _ _
theorem jY (c : Int) (l : List UInt8) : (cut c l).length≤l.length + 1:=by
 induction l with
 | nil=>simp [cut]
 | cons b l ih=>
  unfold cut; split
  ·simp; omega
  ·have:=yZ c l
   cases h : cut c l with
   | nil=>exact absurd h this
   | cons q qs=>simp [preL]; rw [h] at ih; simp at ih; omega
theorem vr {α : Type} [Inhabited α] (l : List α) (i : Nat) : gt l (i : Int) = l.getD i default:=rfl
def vy.sh (a0 : List UInt8) : Option (List (List UInt8)):=
 bif decide (a0.length≤1048576) then (bif decide (([47] : List UInt8) = [47]) then (some (cut 47 a0)) else none) else none
theorem vy.eq (a0 : List UInt8) (h : a0.length≤1048576) : vy.sh a0 = some (cut 47 a0):=by simp [vy.sh,h]
end Go.UD
