/- Plain Lean: what the functions compute. -/
import Derived.Test.YthpjkenkbfkdhaaGreatDoorYP10
set_option linter.unusedVariables false
set_option linter.unusedSimpArgs false
namespace Go.UL
open Go.RowKit
/-! ### trees -/
def recOf (n : Nd) : Rec := ⟨n.kind, n.path, n.body, n.mode, false⟩
def ndOf (r : Rec) : Nd := ⟨r.kind, r.path, r.body, r.mode⟩
def nodeOK (n : Nd) : Bool := decide (recFault (recOf n) = 0) && !decide (n.kind = 4)
def isDirN (t : List Nd) (p : List UInt8) : Bool := decide (p = []) || (decide (0 ≤ findN t p) && decide ((gt t (findN t p)).kind = 3))
/-- The node at place i stands well, behind those ahead of it. -/
def nodeAtOK (l : List Nd) (i : Nat) : Bool :=
  nodeOK (l.getD i default) && (decide (i = 0) || lessL (cut 47 (l.getD (i - 1) default).path) (cut 47 (l.getD i default).path)) && isDirN (l.take i) (parentP (l.getD i default).path)
def treeOK (l : List Nd) : Bool := decide (l.length ≤ 24) && (List.range l.length).all (nodeAtOK l)
theorem find_false (n : Nat) (bad : Nat → Bool) : (List.range n).findSome? (fun i => if bad i then some false else none) = if (List.range n).all (fun i => !bad i) then none else some false := by
  generalize List.range n = l
  induction l with
  | nil => rfl
  | cons x l ih =>
    rcases bool_two (bad x) with hb | hb
    · simp [hb]
    · have : List.findSome? (fun i => if bad i = true then some false else none) (x :: l) = List.findSome? (fun i => if bad i = true then some false else none) l := by simp [hb]
      rw [this, ih]
      simp [hb]
theorem nodeOK_path {n : Nd} (h : nodeOK n = true) : pathOK n.path = true := by
  simp only [nodeOK, Bool.and_eq_true, decide_eq_true_eq] at h
  exact recFault_path h.1
theorem gtake {α : Type} [Inhabited α] (l : List α) (i : Nat) (k : Int) (h0 : 0 ≤ k) (h : k < (l.take i).length) : gt (l.take i) k = gt l k := by
  obtain ⟨n, rfl⟩ : ∃ n : Nat, k = n := ⟨k.toNat, by omega⟩
  have : n < i ∧ n < l.length := by simp at h; omega
  simp only [getD_gt, List.getD_eq_getElem?_getD, List.getElem?_take, this.1, if_true]
theorem findN_lt (l : List Nd) (p : List UInt8) : findN l p < l.length := findI_lt _ _
theorem findN_take {l : List Nd} {p : List UInt8} {i : Nat} (hi : i ≤ l.length) (h : ¬ findN (l.take i) p < 0) : inR (findN (l.take i) p) l.length = true := by
  have h1 := findN_lt (l.take i) p
  have h2 : (l.take i).length ≤ i := by simp; omega
  exact inR_mk (by omega) (by omega)
theorem getN_mem {l : List Nd} {i : Nat} (h : i < l.length) : l.getD i default ∈ l := by
  have : l.getD i default = l[i] := by simp [List.getD_eq_getElem?_getD, List.getElem?_eq_getElem h]
  rw [this]; exact List.getElem_mem h
def spec_l04Record.sh (a0 : Nd) : Option (Rec) :=
  some (⟨a0.kind, a0.path, a0.body, a0.mode, false⟩ : Rec)
theorem spec_l04Record.eq (a0 : Nd) : spec_l04Record.sh a0 = some (recOf a0) := rfl
def spec_l04OK.b1 (a0 : List Nd) : Int → Option (Step (Bool) (Int) (Unit)) :=
  fun x3_2 => bif (decide (x3_2 < (a0.length : Int))) then (bif inR x3_2 a0.length then (bif (!(!(decide (((gt a0 x3_2).kind) = 4))) || (inR x3_2 a0.length)) then (bif (!((!((decide (((gt a0 x3_2).kind) = 4)) || (!(decide (recFault (recOf (gt a0 x3_2)) = 0))))) && (decide (0 < x3_2))) || (inR (IntKind.wrap .i64 (x3_2 - 1)) a0.length)) then (bif (!((!((decide (((gt a0 x3_2).kind) = 4)) || (!(decide (recFault (recOf (gt a0 x3_2)) = 0))))) && (decide (0 < x3_2))) || (inR x3_2 a0.length)) then (bif (!((!((decide (((gt a0 x3_2).kind) = 4)) || (!(decide (recFault (recOf (gt a0 x3_2)) = 0))))) && (decide (0 < x3_2))) || (decide (((gt a0 (IntKind.wrap .i64 (x3_2 - 1))).path).length ≤ 1048576))) then (bif (!((!((decide (((gt a0 x3_2).kind) = 4)) || (!(decide (recFault (recOf (gt a0 x3_2)) = 0))))) && (decide (0 < x3_2))) || (decide (((gt a0 x3_2).path).length ≤ 1048576))) then (bif (((decide (((gt a0 x3_2).kind) = 4)) || (!(decide (recFault (recOf (gt a0 x3_2)) = 0)))) || ((decide (0 < x3_2)) && (!(lessL (cut 47 ((gt a0 (IntKind.wrap .i64 (x3_2 - 1))).path)) (cut 47 ((gt a0 x3_2).path)))))) then (some (.ret false)) else (bif inR x3_2 a0.length then (bif decide (((gt a0 x3_2).path).length ≤ 4611686018427387904) then (bif (!decide ((parentP ((gt a0 x3_2).path)) = ([] : List UInt8))) then (bif inS 0 x3_2 (a0.length : Int) then (bif decide ((sub a0 0 x3_2).length ≤ 1048576) then (((bif (decide ((findN (sub a0 0 x3_2) (parentP ((gt a0 x3_2).path))) < 0)) then some true else (bif inR (findN (sub a0 0 x3_2) (parentP ((gt a0 x3_2).path))) a0.length then (some (!decide (((gt a0 (findN (sub a0 0 x3_2) (parentP ((gt a0 x3_2).path)))).kind) = 3))) else none))).bind fun z495 => bif z495 then (some (.ret false)) else (some (.nxt (IntKind.wrap .i64 (x3_2 + 1))))) else none) else none) else (some (.nxt (IntKind.wrap .i64 (x3_2 + 1))))) else none) else none)) else none) else none) else none) else none) else none) else none) else (some (.brk ()))
def spec_l04OK.sh (k : Nat) (a0 : List Nd) : Option (Bool) :=
  bif (decide (24 < (a0.length : Int))) then (some false) else ((loopF (spec_l04OK.b1 a0) k 0).bind fun z => match z with | .inl t => some t | .inr _ => some true)
theorem spec_l04OK.eq (a0 : List Nd) (h1 : ∀ x ∈ a0, x.path.length ≤ 1048576) : ∃ k, spec_l04OK.sh k a0 = some (treeOK a0) := by
  refine ⟨a0.length + 1, ?_⟩
  unfold spec_l04OK.sh
  by_cases hl : a0.length ≤ 24
  · have hl' : ¬ (24 : Int) < (a0.length : Int) := by omega
    simp only [hl', decide_false, cond_false]
    have hb : ∀ i : Nat, i < a0.length → spec_l04OK.b1 a0 i = some (sc (if !nodeAtOK a0 i then some false else none : Option Bool) ((i : Int) + 1)) := by
      intro i hi
      have hp := h1 _ (getN_mem hi)
      have hp2 : (a0.getD i default).path.length ≤ 4611686018427387904 := by omega
      have hs : sub a0 0 ((i : Nat) : Int) = a0.take i := by simp [sub]
      have hle : (a0.take i).length ≤ 1048576 := by simp; omega
      simp only [spec_l04OK.b1, lt_nat, hi, decide_true, cond_true, inR_nat hi, gt_nat, wrap_succ hi (by omega), Bool.or_true, hp, hp2, hs, hle, inS_mk (l := 0) (h := (i : Int)) (n := (a0.length : Int)) (by omega) (by omega) (by omega)]
      unfold nodeAtOK isDirN nodeOK
      obtain ⟨r, hr⟩ : ∃ r, a0.getD i default = r := ⟨_, rfl⟩
      simp only [hr] at hp hp2 ⊢
      cases c4 : decide (r.kind = 4) with
      | true => simp
      | false =>
        by_cases cf : recFault (recOf r) = 0
        · have key : ∀ q : Nd, (bif (decide (0 < (i : Int)) && !lessL (cut 47 q.path) (cut 47 r.path)) then some (Step.ret false) else
              bif !decide (parentP r.path = []) then
                ((bif decide (findN (a0.take i) (parentP r.path) < 0) then some true else bif inR (findN (a0.take i) (parentP r.path)) a0.length then some (!decide ((gt a0 (findN (a0.take i) (parentP r.path))).kind = 3)) else none).bind fun z => bif z then some (Step.ret false) else some (Step.nxt ((i : Int) + 1)))
              else some (Step.nxt ((i : Int) + 1))) =
              some (sc (if !((decide (i = 0) || lessL (cut 47 q.path) (cut 47 r.path)) && (decide (parentP r.path = []) || (decide (0 ≤ findN (a0.take i) (parentP r.path)) && decide ((gt (a0.take i) (findN (a0.take i) (parentP r.path))).kind = 3)))) then some false else none : Option Bool) ((i : Int) + 1) : Step Bool Int Unit) := by
            intro q
            have e0 : decide (0 < (i : Int)) = !decide (i = 0) := by by_cases h : i = 0 <;> simp [h]; omega
            rw [e0]
            cases lessL (cut 47 q.path) (cut 47 r.path) <;> cases decide (i = 0) <;> try simp
            all_goals
              by_cases hpp : parentP r.path = []
              · simp [hpp]
              · by_cases hk : findN (a0.take i) (parentP r.path) < 0
                · have hk2 : ¬ 0 ≤ findN (a0.take i) (parentP r.path) := by omega
                  simp [hpp, hk, hk2]
                · have hk2 : 0 ≤ findN (a0.take i) (parentP r.path) := by omega
                  rw [gtake a0 i _ hk2 (findN_lt _ _)]
                  by_cases h3 : (gt a0 (findN (a0.take i) (parentP r.path))).kind = 3 <;> simp [hpp, hk, hk2, findN_take (by omega : i ≤ a0.length) hk, h3]
          by_cases hz : i = 0
          · subst hz
            have := key default
            simpa [cf] using this
          · have hi1 : i - 1 < a0.length := by omega
            have hw : IntKind.wrap .i64 ((i : Int) - 1) = ((i - 1 : Nat) : Int) := by rw [wrap_small (by omega) (by omega)]; omega
            have hp3 := h1 _ (getN_mem hi1)
            have := key (a0.getD (i - 1) default)
            simp only [hw, gt_nat, inR_nat hi1, hp3, cf, decide_true, Bool.not_true, Bool.or_true, Bool.or_false, Bool.false_or, cond_true, cond_false, Bool.not_false, Bool.true_and]
            exact this
        · simp [cf]
    rw [loop_scan0 a0.length _ hb (by simp [spec_l04OK.b1]) _ (by omega), find_false]
    have e : (fun i => !!nodeAtOK a0 i) = nodeAtOK a0 := by funext i; simp
    simp only [treeOK, hl, decide_true, Bool.true_and, e]
    cases (List.range a0.length).all (nodeAtOK a0) <;> simp
  · have hl' : (24 : Int) < (a0.length : Int) := by omega
    simp [hl', treeOK, hl]
def impl_Node_record.sh (a0 : Nd) : Option (Rec) :=
  some (⟨a0.kind, a0.path, a0.body, a0.mode, false⟩ : Rec)
theorem impl_Node_record.eq (a0 : Nd) : impl_Node_record.sh a0 = some (recOf a0) := rfl
def impl_nodeOK.sh (a0 : Nd) : Option (Bool) :=
  some ((decide (recFault (recOf a0) = 0)) && (!decide (a0.kind = 4)))
theorem impl_nodeOK.eq (a0 : Nd) : impl_nodeOK.sh a0 = some (nodeOK a0) := rfl
def impl_isDir.sh (a0 : List Nd) (a1 : List UInt8) : Option (Bool) :=
  bif decide (a0.length ≤ 1048576) then (((bif (decide (a1 = ([] : List UInt8))) then some true else (((bif (decide (0 ≤ (findN a0 a1))) then (bif inR (findN a0 a1) a0.length then (some (decide (((gt a0 (findN a0 a1)).kind) = 3))) else none) else some false)).bind fun z6 => some z6))).bind fun z5 => some z5) else none
theorem impl_isDir.eq (a0 : List Nd) (a1 : List UInt8) (h0 : a0.length ≤ 1048576) : impl_isDir.sh a0 a1 = some (isDirN a0 a1) := by
  unfold impl_isDir.sh isDirN
  simp only [h0, decide_true, cond_true]
  by_cases hp : a1 = []
  · simp [hp]
  · by_cases hk : 0 ≤ findN a0 a1
    · simp [hp, hk, inR_mk hk (findN_lt a0 a1)]
    · simp [hp, hk]
def impl_TreeOK.b1 (a0 : List Nd) : Int → Option (Step (Bool) (Int) (Unit)) :=
  fun x7_1 => bif (decide (x7_1 < (a0.length : Int))) then (bif inR x7_1 a0.length then (bif (!((!((decide (24 ≤ x7_1)) || (!(nodeOK (gt a0 x7_1))))) && (decide (0 < x7_1))) || (inR (IntKind.wrap .i64 (x7_1 - 1)) a0.length)) then (bif (!(!(((decide (24 ≤ x7_1)) || (!(nodeOK (gt a0 x7_1)))) || ((decide (0 < x7_1)) && (!(pathLess ((gt a0 (IntKind.wrap .i64 (x7_1 - 1))).path) ((gt a0 x7_1).path)))))) || (inS 0 x7_1 (a0.length : Int))) then (bif (!(!(((decide (24 ≤ x7_1)) || (!(nodeOK (gt a0 x7_1)))) || ((decide (0 < x7_1)) && (!(pathLess ((gt a0 (IntKind.wrap .i64 (x7_1 - 1))).path) ((gt a0 x7_1).path)))))) || (decide (((gt a0 x7_1).path).length ≤ 1048576))) then (bif (!(!(((decide (24 ≤ x7_1)) || (!(nodeOK (gt a0 x7_1)))) || ((decide (0 < x7_1)) && (!(pathLess ((gt a0 (IntKind.wrap .i64 (x7_1 - 1))).path) ((gt a0 x7_1).path)))))) || (decide ((sub a0 0 x7_1).length ≤ 1048576))) then (bif ((((decide (24 ≤ x7_1)) || (!(nodeOK (gt a0 x7_1)))) || ((decide (0 < x7_1)) && (!(pathLess ((gt a0 (IntKind.wrap .i64 (x7_1 - 1))).path) ((gt a0 x7_1).path))))) || (!(isDirN (sub a0 0 x7_1) (parentP ((gt a0 x7_1).path))))) then (some (.ret false)) else (some (.nxt (IntKind.wrap .i64 (x7_1 + 1))))) else none) else none) else none) else none) else none) else (some (.brk ()))
def impl_TreeOK.sh (k : Nat) (a0 : List Nd) : Option (Bool) :=
  (loopF (impl_TreeOK.b1 a0) k 0).bind fun z => match z with | .inl t => some t | .inr _ => some true
theorem impl_TreeOK.eq (a0 : List Nd) (h0 : a0.length ≤ 1048576) (h1 : ∀ x ∈ a0, x.path.length ≤ 1048576) : ∃ k, impl_TreeOK.sh k a0 = some (treeOK a0) := by
  refine ⟨a0.length + 1, ?_⟩
  unfold impl_TreeOK.sh
  have hb : ∀ i : Nat, i < a0.length → impl_TreeOK.b1 a0 i = some (sc (if (decide (24 ≤ i) || !nodeOK (a0.getD i default)) || (!decide (i = 0) && !pathLess (a0.getD (i - 1) default).path (a0.getD i default).path) || !isDirN (a0.take i) (parentP (a0.getD i default).path) then some false else none : Option Bool) ((i : Int) + 1)) := by
    intro i hi
    have hp := h1 _ (getN_mem hi)
    have hs : sub a0 0 ((i : Nat) : Int) = a0.take i := by simp [sub]
    have hle : (a0.take i).length ≤ 1048576 := by simp; omega
    have e24 : decide ((24 : Int) ≤ (i : Int)) = decide (24 ≤ i) := by rw [decide_eq_decide]; omega
    have e0 : decide (0 < (i : Int)) = !decide (i = 0) := by by_cases h : i = 0 <;> simp [h]; omega
    simp only [impl_TreeOK.b1, lt_nat, hi, decide_true, cond_true, inR_nat hi, gt_nat, wrap_succ hi (by omega), Bool.or_true, hp, hs, hle, inS_mk (l := 0) (h := (i : Int)) (n := (a0.length : Int)) (by omega) (by omega) (by omega), e24, e0]
    by_cases hz : i = 0
    · subst hz
      simp only [Bool.not_true, Bool.false_and, Bool.and_false, Bool.not_false, Bool.true_or, cond_true, Bool.or_false, decide_true]
      cases (decide (24 ≤ 0) || !nodeOK (a0.getD 0 default)) || !isDirN (a0.take 0) (parentP (a0.getD 0 default).path) <;> simp
    · have hi1 : i - 1 < a0.length := by omega
      have hw : IntKind.wrap .i64 ((i : Int) - 1) = ((i - 1 : Nat) : Int) := by rw [wrap_small (by omega) (by omega)]; omega
      simp only [hw, gt_nat, inR_nat hi1, Bool.or_true, cond_true]
      cases (decide (24 ≤ i) || !nodeOK (a0.getD i default)) || (!decide (i = 0) && !pathLess (a0.getD (i - 1) default).path (a0.getD i default).path) || !isDirN (a0.take i) (parentP (a0.getD i default).path) <;> simp
  rw [loop_scan0 a0.length _ hb (by simp [impl_TreeOK.b1]) _ (by omega), find_false]
  have e : (List.range a0.length).all (fun i => !((decide (24 ≤ i) || !nodeOK (a0.getD i default)) || (!decide (i = 0) && !pathLess (a0.getD (i - 1) default).path (a0.getD i default).path) || !isDirN (a0.take i) (parentP (a0.getD i default).path))) = treeOK a0 := by
    unfold treeOK
    rw [Bool.eq_iff_iff]
    simp only [List.all_eq_true, List.mem_range, Bool.and_eq_true, decide_eq_true_eq, Bool.not_eq_true', Bool.or_eq_false_iff, decide_eq_false_iff_not, Bool.not_eq_false', Bool.and_eq_false_iff]
    constructor
    · intro h
      have hn : ∀ i, i < a0.length → nodeOK (a0.getD i default) = true := fun i hi => (h i hi).1.1.2
      refine ⟨?_, fun i hi => ?_⟩
      · by_cases hc : a0.length ≤ 24
        · exact hc
        · exact absurd (h 24 (by omega)).1.1.1 (by omega)
      · have hi' := h i hi
        unfold nodeAtOK
        rw [hi'.1.1.2, hi'.2]
        rcases hi'.1.2 with h2 | h2
        · simp [h2]
        · simp only [pathLess, Bool.and_eq_true] at h2
          rw [h2.2]; simp
    · rintro ⟨hl, h⟩ i hi
      have hi' := h i hi
      unfold nodeAtOK at hi'
      simp only [Bool.and_eq_true, Bool.or_eq_true, decide_eq_true_eq] at hi'
      refine ⟨⟨⟨by omega, hi'.1.1⟩, ?_⟩, hi'.2⟩
      by_cases hz : i = 0
      · exact Or.inl hz
      · right
        have hprev := h (i - 1) (by omega)
        unfold nodeAtOK at hprev
        simp only [Bool.and_eq_true] at hprev
        rcases hi'.1.2 with h2 | h2
        · exact absurd h2 hz
        · rw [pathLess, nodeOK_path hprev.1.1, nodeOK_path hi'.1.1, h2]; rfl
  rw [e]
  cases treeOK a0 <;> simp
theorem szN_of {l : List Nd} {a : Int} (h : ¬ szNdS l a < 0) (h0 : 0 ≤ a) (ha : a ≤ 1048576) : l.length ≤ 1048576 ∧ (∀ x ∈ l, x.path.length ≤ 1048576) ∧ (∀ x ∈ l, x.body.length ≤ 1048576) ∧ 0 ≤ szNdS l a ∧ szNdS l a ≤ 1048576 := by
  have := szNdS_le h h0
  refine ⟨by omega, fun x hx => ?_, fun x hx => ?_, by omega, by omega⟩
  · have := (this.2.2.2 x hx).1; omega
  · have := (this.2.2.2 x hx).2; omega

end Go.UL
