/- Plain Lean: what the functions compute. -/
import Derived.Test.YthpjkenkbfkdhabDoorNP7
set_option linter.unusedVariables false
set_option linter.unusedSimpArgs false
namespace Go.UL
open Go.RowKit
/-! ### what is wrong with a layer -/
/-- What is wrong with the record at place i, if nothing is wrong ahead of it. -/
def codeAt (l : List Rec) (i : Nat) : Int :=
  if i = 16 then 6 else if recFault (l.getD i default) ≠ 0 then recFault (l.getD i default)
  else if 0 < i ∧ (l.getD i default).path = (l.getD (i - 1) default).path then 18
  else if 0 < i ∧ lessL (cut 47 (l.getD (i - 1) default).path) (cut 47 (l.getD i default).path) = false then 11
  else if parentP (l.getD i default).path = [] then 0
  else if findR (l.take i) (parentP (l.getD i default).path) < 0 then 12
  else if (gt l (findR (l.take i) (parentP (l.getD i default).path))).kind ≠ 3 then 13 else 0
def layerFault (l : List Rec) : Int × Int := match (List.range l.length).findSome? (fun i => if codeAt l i = 0 then none else some ((i : Int), codeAt l i)) with
  | some x => x
  | none => (0, 0)
def layerFaultL (l : List Rec) : Int × Int := if 4096 < l.length then (0, 2) else layerFault l
theorem gt_nat {α : Type} [Inhabited α] (l : List α) (i : Nat) : gt l (i : Int) = l.getD i default := rfl
theorem getD_mem {l : List Rec} {i : Nat} (h : i < l.length) : l.getD i default ∈ l := by
  have : l.getD i default = l[i] := by simp [List.getD_eq_getElem?_getD, List.getElem?_eq_getElem h]
  rw [this]; exact List.getElem_mem h
theorem findR_take {l : List Rec} {p : List UInt8} {i : Nat} (hi : i ≤ l.length) (h : ¬ findR (l.take i) p < 0) : inR (findR (l.take i) p) l.length = true := by
  have h1 : findR (l.take i) p < (l.take i).length := findI_lt _ _
  have h2 : (l.take i).length ≤ i := by simp; omega
  exact inR_mk (by omega) (by omega)
theorem len4096 (l : List Rec) : decide ((4096 : Int) < (l.length : Int)) = decide (4096 < l.length) := by rw [decide_eq_decide]; omega
def faultAt (l : List Rec) (i : Int) : Int :=
  if 16 ≤ i then 6 else if recFault (gt l i) ≠ 0 then recFault (gt l i) else if 0 < i ∧ (gt l (i - 1)).path = (gt l i).path then 18
  else if 0 < i ∧ pathLess (gt l (i - 1)).path (gt l i).path = false then 11 else if parentP (gt l i).path = [] then 0
  else if findR (l.take i.toNat) (parentP (gt l i).path) < 0 then 12 else if (gt l (findR (l.take i.toNat) (parentP (gt l i).path))).kind ≠ 3 then 13 else 0
theorem firstOf_c (b : Bool) (n : Int) (l : List (Bool ⊕ Int)) : firstOf (.inl b :: .inr n :: l) = if b then n else firstOf l := rfl

end Go.UL
