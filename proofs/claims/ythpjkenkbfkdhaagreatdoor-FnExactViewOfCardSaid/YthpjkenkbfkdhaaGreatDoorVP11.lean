/- Plain Lean: what the functions compute. -/
import Derived.Test.YthpjkenkbfkdhaaGreatDoorVP10
set_option linter.unusedVariables false
set_option linter.unusedSimpArgs false
namespace Go.UL
open Go.RowKit
/-! ### trees -/
def recOf (n : Nd) : Rec := ⟨n.kind, n.path, n.body, n.mode, false⟩
def ndOf (r : Rec) : Nd := ⟨r.kind, r.path, r.body, r.mode⟩
def nodeOK (n : Nd) : Bool := decide (recFault (recOf n) = 0) && !decide (n.kind = 4)
def isDirN (t : List Nd) (p : List UInt8) : Bool := decide (p = []) || (decide (0 ≤ findN t p) && decide ((gt t (findN t p)).kind = 3))
/-- The node at place i stands well, behind those ahead of it. -/
def nodeAtOK (l : List Nd) (i : Nat) : Bool :=
  nodeOK (l.getD i default) && (decide (i = 0) || lessL (cut 47 (l.getD (i - 1) default).path) (cut 47 (l.getD i default).path)) && isDirN (l.take i) (parentP (l.getD i default).path)
def treeOK (l : List Nd) : Bool := decide (l.length ≤ 24) && (List.range l.length).all (nodeAtOK l)
def sameTree (a b : List Nd) : Bool := (treeOK a && treeOK b) && decide (a = b)
theorem find_false (n : Nat) (bad : Nat → Bool) : (List.range n).findSome? (fun i => if bad i then some false else none) = if (List.range n).all (fun i => !bad i) then none else some false := by
  generalize List.range n = l
  induction l with
  | nil => rfl
  | cons x l ih =>
    rcases bool_two (bad x) with hb | hb
    · simp [hb]
    · have : List.findSome? (fun i => if bad i = true then some false else none) (x :: l) = List.findSome? (fun i => if bad i = true then some false else none) l := by simp [hb]
      rw [this, ih]
      simp [hb]
theorem nodeOK_path {n : Nd} (h : nodeOK n = true) : pathOK n.path = true := by
  simp only [nodeOK, Bool.and_eq_true, decide_eq_true_eq] at h
  exact recFault_path h.1
theorem gtake {α : Type} [Inhabited α] (l : List α) (i : Nat) (k : Int) (h0 : 0 ≤ k) (h : k < (l.take i).length) : gt (l.take i) k = gt l k := by
  obtain ⟨n, rfl⟩ : ∃ n : Nat, k = n := ⟨k.toNat, by omega⟩
  have : n < i ∧ n < l.length := by simp at h; omega
  simp only [getD_gt, List.getD_eq_getElem?_getD, List.getElem?_take, this.1, if_true]
theorem findN_lt (l : List Nd) (p : List UInt8) : findN l p < l.length := findI_lt _ _
theorem findN_ge (l : List Nd) (p : List UInt8) : -1 ≤ findN l p := findI_ge _ _
theorem findN_take {l : List Nd} {p : List UInt8} {i : Nat} (hi : i ≤ l.length) (h : ¬ findN (l.take i) p < 0) : inR (findN (l.take i) p) l.length = true := by
  have h1 := findN_lt (l.take i) p
  have h2 : (l.take i).length ≤ i := by simp; omega
  exact inR_mk (by omega) (by omega)
theorem getN_mem {l : List Nd} {i : Nat} (h : i < l.length) : l.getD i default ∈ l := by
  have : l.getD i default = l[i] := by simp [List.getD_eq_getElem?_getD, List.getElem?_eq_getElem h]
  rw [this]; exact List.getElem_mem h
theorem szN_of {l : List Nd} {a : Int} (h : ¬ szNdS l a < 0) (h0 : 0 ≤ a) (ha : a ≤ 1048576) : l.length ≤ 1048576 ∧ (∀ x ∈ l, x.path.length ≤ 1048576) ∧ (∀ x ∈ l, x.body.length ≤ 1048576) ∧ 0 ≤ szNdS l a ∧ szNdS l a ≤ 1048576 := by
  have := szNdS_le h h0
  refine ⟨by omega, fun x hx => ?_, fun x hx => ?_, by omega, by omega⟩
  · have := (this.2.2.2 x hx).1; omega
  · have := (this.2.2.2 x hx).2; omega

end Go.UL
