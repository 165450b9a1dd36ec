/- Plain Lean: what the functions compute. -/
import Derived.Test.YtfefjaohlhkmaaaGreatDoortP8
set_option linter.unusedVariables false
set_option linter.unusedSimpArgs false
namespace Go.UL
open Go.RowKit
/-! ### layers: both ways agree -/
theorem recFault_path {r : Rec} (h : recFault r = 0) : pathOK r.path = true := by
  unfold recFault at h
  split at h
  · cases h
  · split at h
    · cases h
    · rename_i h2; simpa using h2
theorem codeAt_rec {l : List Rec} {i : Nat} (h : codeAt l i = 0) : recFault (l.getD i default) = 0 := by
  unfold codeAt at h
  split at h
  · cases h
  · split at h
    · rename_i h1; exact absurd h h1
    · rename_i h1; simpa using h1
theorem faultAt_code (l : List Rec) (i : Nat) (hp : ∀ j, j < i → codeAt l j = 0) : faultAt l (i : Int) = codeAt l i := by
  have h16 : ¬ 16 < i := fun h => by have := hp 16 h; simp [codeAt] at this
  unfold faultAt codeAt
  have e : ((16 : Int) ≤ (i : Int)) = (i = 16) := propext (by omega)
  have epos : ((0 : Int) < (i : Int)) = (0 < i) := propext (by omega)
  simp only [e, epos, gt_nat, Int.toNat_natCast]
  by_cases c16 : i = 16
  · simp [c16]
  · simp only [c16, if_false]
    obtain ⟨r, hr⟩ : ∃ r, l.getD i default = r := ⟨_, rfl⟩
    simp only [hr]
    by_cases cf : recFault r = 0
    · simp only [cf, ne_eq, not_true_eq_false, if_false]
      by_cases c0 : 0 < i
      · have hg : gt l ((i : Int) - 1) = l.getD (i - 1) default := by
          have : ((i : Int) - 1) = ((i - 1 : Nat) : Int) := by omega
          rw [this, gt_nat]
        obtain ⟨q, hq⟩ : ∃ q, l.getD (i - 1) default = q := ⟨_, rfl⟩
        have hqok : pathOK q.path = true := by rw [← hq]; exact recFault_path (codeAt_rec (hp (i - 1) (by omega)))
        have hrok := recFault_path cf
        have e1 : pathLess q.path r.path = lessL (cut 47 q.path) (cut 47 r.path) := by simp [pathLess, hqok, hrok]
        have e2 : (q.path = r.path) = (r.path = q.path) := propext ⟨Eq.symm, Eq.symm⟩
        simp only [hg, hq, e1, e2, c0, true_and]
      · simp only [c0, false_and, if_false]
    · simp only [cf, ne_eq, not_false_eq_true, if_true]
def impl_fault.b1 (a0 : List Rec) : Int → Option (Step (Int × Int) (Int) (Unit)) :=
  fun x8_1 => bif (decide (x8_1 < (a0.length : Int))) then (bif decide (a0.length ≤ 1048576) then (bif decide (∀ x ∈ a0, x.path.length ≤ 1048576) then (bif decide (inR x8_1 a0.length = true) then (bif (!decide ((faultAt a0 x8_1) = 0)) then (some (.ret (x8_1, (faultAt a0 x8_1)))) else (some (.nxt (IntKind.wrap .i64 (x8_1 + 1))))) else none) else none) else none) else (some (.brk ()))
def impl_fault.sh (k : Nat) (a0 : List Rec) : Option (Int × Int) :=
  (loopF (impl_fault.b1 a0) k 0).bind fun z => match z with | .inl t => some t | .inr _ => some (0, 0)
theorem impl_fault.eq (a0 : List Rec) (h0 : a0.length ≤ 1048576) (h1 : ∀ x ∈ a0, x.path.length ≤ 1048576) : ∃ k, impl_fault.sh k a0 = some ((layerFault a0).1, (layerFault a0).2) := by
  refine ⟨a0.length + 1, ?_⟩
  unfold impl_fault.sh
  have hb : ∀ i : Nat, i < a0.length → impl_fault.b1 a0 i = some (sc (if faultAt a0 i = 0 then none else some ((i : Int), faultAt a0 i) : Option (Int × Int)) ((i : Int) + 1)) := by
    intro i hi
    simp only [impl_fault.b1, lt_nat, hi, decide_true, cond_true, inR_nat hi, h0, decide_eq_true h1, wrap_succ hi (by omega)]
    by_cases hf : faultAt a0 i = 0 <;> simp [hf]
  have hn : impl_fault.b1 a0 a0.length = some (.brk ()) := by simp [impl_fault.b1]
  rw [loop_scan0 a0.length _ hb hn _ (by omega)]
  have hag := find_agree_lt (f := fun i => if codeAt a0 i = 0 then none else some ((i : Int), codeAt a0 i)) (g := fun i => if faultAt a0 i = 0 then none else some ((i : Int), faultAt a0 i)) a0.length a0.length 0 (by omega) (fun j hj => by omega) (fun i _ hp => by
    have : faultAt a0 i = codeAt a0 i := faultAt_code a0 i fun j hj => by
      have := hp j hj
      by_cases h : codeAt a0 j = 0
      · exact h
      · simp [h] at this
    simp only [this])
  rw [List.range_eq_range', hag, ← List.range_eq_range']
  unfold layerFault
  cases (List.range a0.length).findSome? _ <;> rfl
def impl_LayerFault.sh (a0 : List Rec) : Option (Int × Int) :=
  bif (decide (4096 < a0.length)) then (some (0, 2)) else (bif decide (a0.length ≤ 1048576) then (bif decide (∀ x ∈ a0, x.path.length ≤ 1048576) then (some ((layerFault a0).1, (layerFault a0).2)) else none) else none)
theorem impl_LayerFault.eq (a0 : List Rec) (h0 : a0.length ≤ 1048576) (h1 : ∀ x ∈ a0, x.path.length ≤ 1048576) : impl_LayerFault.sh a0 = some ((layerFaultL a0).1, (layerFaultL a0).2) := by
  unfold impl_LayerFault.sh layerFaultL
  by_cases h : 4096 < a0.length
  · simp [h]
  · simp only [h, h0, decide_false, decide_true, cond_false, cond_true, if_false, decide_eq_true h1]
def impl_LayerOK.sh (a0 : List Rec) : Option (Bool) :=
  bif decide (a0.length ≤ 1048576) then (bif decide (∀ x ∈ a0, x.path.length ≤ 1048576) then (some (decide (((layerFaultL a0).2) = 0))) else none) else none
theorem impl_LayerOK.eq (a0 : List Rec) (h0 : a0.length ≤ 1048576) (h1 : ∀ x ∈ a0, x.path.length ≤ 1048576) : impl_LayerOK.sh a0 = some (decide ((layerFaultL a0).2 = 0)) := by
  simp only [impl_LayerOK.sh, h0, decide_true, cond_true, decide_eq_true h1]
/-! ### a record of a path -/
theorem findR_in {l : List Rec} {p : List UInt8} (h : ¬ findR l p < 0) : inR (findR l p) l.length = true := (findI_get _ l (by unfold findR at h; omega)).1
/-! ### equal layers -/
def sameLayer (a b : List Rec) : Bool := (decide ((layerFaultL a).2 = 0) && decide ((layerFaultL b).2 = 0)) && decide (a = b)
def impl_SameLayer.sh (a0 : List Rec) (a1 : List Rec) : Option (Bool) :=
  bif decide (a0.length ≤ 1048576) then (bif decide (∀ x ∈ a0, x.path.length ≤ 1048576) then (((bif (decide ((layerFaultL a0).2 = 0)) then (bif decide (a1.length ≤ 1048576) then (bif decide (∀ x ∈ a1, x.path.length ≤ 1048576) then (some (decide ((layerFaultL a1).2 = 0))) else none) else none) else some false)).bind fun z6 => ((bif z6 then (bif decide (a0.length ≤ 1048576) then (some (decide (a0 = a1))) else none) else some false)).bind fun z15 => some z15) else none) else none
theorem impl_SameLayer.eq (a0 a1 : List Rec) (h0 : a0.length ≤ 1048576) (h1 : a1.length ≤ 1048576) (h2 : ∀ x ∈ a0, x.path.length ≤ 1048576) (h3 : ∀ x ∈ a1, x.path.length ≤ 1048576) : impl_SameLayer.sh a0 a1 = some (sameLayer a0 a1) := by
  unfold impl_SameLayer.sh sameLayer
  simp only [h0, h1, decide_eq_true h2, decide_eq_true h3, decide_true, cond_true]
  by_cases f0 : (layerFaultL a0).2 = 0 <;> by_cases f1 : (layerFaultL a1).2 = 0 <;> simp [f0, f1]

/-! ### nodes -/
/-- Where the node of a path stands, -1 if nowhere. -/
def findN (l : List Nd) (p : List UInt8) : Int := findI (fun r => decide (r.path = p)) l
def spec_l04At.b1 (a0 : List Nd) (a1 : List UInt8) : Int → Option (Step (Int) (Int) (Unit)) :=
  fun x5_1 => bif (decide (x5_1 < (a0.length : Int))) then (bif inR x5_1 a0.length then (bif (decide (((gt a0 x5_1).path) = a1)) then (some (.ret x5_1)) else (some (.nxt (IntKind.wrap .i64 (x5_1 + 1))))) else none) else (some (.brk ()))
def spec_l04At.sh (k : Nat) (a0 : List Nd) (a1 : List UInt8) : Option (Int) :=
  (loopF (spec_l04At.b1 a0 a1) k 0).bind fun z => match z with | .inl t => some t | .inr _ => some (-1)
theorem spec_l04At.eq (a0 : List Nd) (a1 : List UInt8) (h : a0.length ≤ 1048576) : ∃ k, spec_l04At.sh k a0 a1 = some (findN a0 a1) := by
  refine ⟨a0.length + 1, ?_⟩
  unfold spec_l04At.sh findN
  rw [findI_run (fun r : Nd => decide (r.path = a1)) a0 (spec_l04At.b1 a0 a1) (fun i hi => by
    simp only [spec_l04At.b1, lt_nat, hi, decide_true, cond_true, inR_nat hi, getD_gt, wrap_succ hi (by omega)]
    rfl) (by simp [spec_l04At.b1])]
  by_cases hm : findI (fun r : Nd => decide (r.path = a1)) a0 = -1
  · simp [hm]
  · simp [hm]
def impl_at_1.sh (a0 : Nd) (a1 : List UInt8) : Option (Bool) :=
  some (decide (a0.path = a1))
theorem impl_at_1.eq (a0 : Nd) (a1 : List UInt8) : impl_at_1.sh a0 a1 = some (decide (a0.path = a1)) := rfl
def slices_IndexFuncN.b1 (a0 : List Nd) (a1 : Nd → Option Bool) : Int → Option (Step (Int) (Int) (Unit)) :=
  fun x8_1 => bif (decide (x8_1 < (a0.length : Int))) then (bif inR x8_1 a0.length then ((a1 (gt a0 x8_1)).bind fun z22 => bif z22 then (some (.ret x8_1)) else (some (.nxt (IntKind.wrap .i64 (x8_1 + 1))))) else none) else (some (.brk ()))
def slices_IndexFuncN.sh (k : Nat) (a0 : List Nd) (a1 : Nd → Option Bool) : Option (Int) :=
  (loopF (slices_IndexFuncN.b1 a0 a1) k 0).bind fun z => match z with | .inl t => some t | .inr _ => some (-1)
theorem slices_IndexFuncN.eq (a0 : List Nd) (a1 : Nd → Option Bool) (h : a0.length ≤ 4611686018427387904) {r : Int} (H : idxO a1 a0 = some r) : ∃ k, slices_IndexFuncN.sh k a0 a1 = some r := by
  refine ⟨a0.length + 1, ?_⟩
  have := idxO_find a0 a0.length 0 (by omega) r (by simpa using H) (slices_IndexFuncN.b1 a0 a1) (fun i hi => by
    simp only [slices_IndexFuncN.b1, lt_nat, hi, decide_true, cond_true, inR_nat hi, getD_gt, wrap_succ hi h]) (by simp [slices_IndexFuncN.b1]) (a0.length + 1) (by omega)
  simp only [Int.natCast_zero] at this
  unfold slices_IndexFuncN.sh
  rw [this]
  by_cases hr : r = -1
  · simp [hr]
  · simp [hr]
def impl_at.sh (a0 : List Nd) (a1 : List UInt8) : Option (Int) :=
  bif decide (a0.length ≤ 4611686018427387904) then (((idxO (fun (x0_ : Nd) => some (decide (x0_.path = a1))) a0)).bind fun z12 => some z12) else none
theorem impl_at.eq (a0 : List Nd) (a1 : List UInt8) (h : a0.length ≤ 1048576) : impl_at.sh a0 a1 = some (findN a0 a1) := by
  have h1 : a0.length ≤ 4611686018427387904 := by omega
  have h2 := idxO_some (p := fun (x0_ : Nd) => some (decide (x0_.path = a1))) (q := fun r => decide (r.path = a1)) (l := a0) (fun _ _ => rfl)
  simp only [impl_at.sh, h1, decide_true, cond_true, h2, Option.bind_some, findN]
def slices_EqualN.b1 (a0 : List Nd) (a1 : List Nd) : Int → Option (Step (Bool) (Int) (Unit)) :=
  fun x13_2 => bif (decide (x13_2 < (a0.length : Int))) then (bif inR x13_2 a0.length then (bif inR x13_2 a1.length then (bif (!decide ((gt a0 x13_2) = (gt a1 x13_2))) then (some (.ret false)) else (some (.nxt (IntKind.wrap .i64 (x13_2 + 1))))) else none) else none) else (some (.brk ()))
def slices_EqualN.sh (k : Nat) (a0 : List Nd) (a1 : List Nd) : Option (Bool) :=
  bif (!decide ((a0.length : Int) = (a1.length : Int))) then (some false) else ((loopF (slices_EqualN.b1 a0 a1) k 0).bind fun z => match z with | .inl t => some t | .inr _ => some true)
theorem slices_EqualN.eq (a0 a1 : List Nd) (h : a0.length ≤ 1048576) : ∃ k, slices_EqualN.sh k a0 a1 = some (decide (a0 = a1)) := by
  refine ⟨a0.length + 1, ?_⟩
  unfold slices_EqualN.sh
  by_cases hl : a0.length = a1.length
  · rw [eq_run a0 a1 (slices_EqualN.b1 a0 a1) hl (fun i hi => by
      have hi2 : i < a1.length := by omega
      simp only [slices_EqualN.b1, lt_nat, hi, decide_true, cond_true, inR_nat hi, inR_nat hi2, getD_gt, wrap_succ hi (by omega)]
      by_cases he : a0.getD i default = a1.getD i default
      · simp only [he, decide_true, Bool.not_true, cond_false, if_true]
      · simp only [he, decide_false, Bool.not_false, cond_true, if_false]) (by simp [slices_EqualN.b1])]
    have : (a0.length : Int) = (a1.length : Int) := by omega
    by_cases he : a0 = a1 <;> simp [this, he]
  · have h1 : ¬ (a0.length : Int) = (a1.length : Int) := by omega
    have h2 : a0 ≠ a1 := fun e => hl (by rw [e])
    simp [h1, h2]

/-! ### trees -/
def recOf (n : Nd) : Rec := ⟨n.kind, n.path, n.body, n.mode, false⟩
def ndOf (r : Rec) : Nd := ⟨r.kind, r.path, r.body, r.mode⟩
def nodeOK (n : Nd) : Bool := decide (recFault (recOf n) = 0) && !decide (n.kind = 4)
def isDirN (t : List Nd) (p : List UInt8) : Bool := decide (p = []) || (decide (0 ≤ findN t p) && decide ((gt t (findN t p)).kind = 3))
/-- The node at place i stands well, behind those ahead of it. -/
def nodeAtOK (l : List Nd) (i : Nat) : Bool :=
  nodeOK (l.getD i default) && (decide (i = 0) || lessL (cut 47 (l.getD (i - 1) default).path) (cut 47 (l.getD i default).path)) && isDirN (l.take i) (parentP (l.getD i default).path)
def treeOK (l : List Nd) : Bool := decide (l.length ≤ 24) && (List.range l.length).all (nodeAtOK l)
def sameTree (a b : List Nd) : Bool := (treeOK a && treeOK b) && decide (a = b)
theorem find_false (n : Nat) (bad : Nat → Bool) : (List.range n).findSome? (fun i => if bad i then some false else none) = if (List.range n).all (fun i => !bad i) then none else some false := by
  generalize List.range n = l
  induction l with
  | nil => rfl
  | cons x l ih =>
    rcases bool_two (bad x) with hb | hb
    · simp [hb]
    · have : List.findSome? (fun i => if bad i = true then some false else none) (x :: l) = List.findSome? (fun i => if bad i = true then some false else none) l := by simp [hb]
      rw [this, ih]
      simp [hb]
theorem nodeOK_path {n : Nd} (h : nodeOK n = true) : pathOK n.path = true := by
  simp only [nodeOK, Bool.and_eq_true, decide_eq_true_eq] at h
  exact recFault_path h.1
theorem gtake {α : Type} [Inhabited α] (l : List α) (i : Nat) (k : Int) (h0 : 0 ≤ k) (h : k < (l.take i).length) : gt (l.take i) k = gt l k := by
  obtain ⟨n, rfl⟩ : ∃ n : Nat, k = n := ⟨k.toNat, by omega⟩
  have : n < i ∧ n < l.length := by simp at h; omega
  simp only [getD_gt, List.getD_eq_getElem?_getD, List.getElem?_take, this.1, if_true]
theorem findN_lt (l : List Nd) (p : List UInt8) : findN l p < l.length := findI_lt _ _
theorem findN_take {l : List Nd} {p : List UInt8} {i : Nat} (hi : i ≤ l.length) (h : ¬ findN (l.take i) p < 0) : inR (findN (l.take i) p) l.length = true := by
  have h1 := findN_lt (l.take i) p
  have h2 : (l.take i).length ≤ i := by simp; omega
  exact inR_mk (by omega) (by omega)
theorem getN_mem {l : List Nd} {i : Nat} (h : i < l.length) : l.getD i default ∈ l := by
  have : l.getD i default = l[i] := by simp [List.getD_eq_getElem?_getD, List.getElem?_eq_getElem h]
  rw [this]; exact List.getElem_mem h
def spec_l04Record.sh (a0 : Nd) : Option (Rec) :=
  some (⟨a0.kind, a0.path, a0.body, a0.mode, false⟩ : Rec)
theorem spec_l04Record.eq (a0 : Nd) : spec_l04Record.sh a0 = some (recOf a0) := rfl
def spec_l04OK.b1 (a0 : List Nd) : Int → Option (Step (Bool) (Int) (Unit)) :=
  fun x3_2 => bif (decide (x3_2 < (a0.length : Int))) then (bif inR x3_2 a0.length then (bif (!(!(decide (((gt a0 x3_2).kind) = 4))) || (inR x3_2 a0.length)) then (bif (!((!((decide (((gt a0 x3_2).kind) = 4)) || (!(decide (recFault (recOf (gt a0 x3_2)) = 0))))) && (decide (0 < x3_2))) || (inR (IntKind.wrap .i64 (x3_2 - 1)) a0.length)) then (bif (!((!((decide (((gt a0 x3_2).kind) = 4)) || (!(decide (recFault (recOf (gt a0 x3_2)) = 0))))) && (decide (0 < x3_2))) || (inR x3_2 a0.length)) then (bif (!((!((decide (((gt a0 x3_2).kind) = 4)) || (!(decide (recFault (recOf (gt a0 x3_2)) = 0))))) && (decide (0 < x3_2))) || (decide (((gt a0 (IntKind.wrap .i64 (x3_2 - 1))).path).length ≤ 1048576))) then (bif (!((!((decide (((gt a0 x3_2).kind) = 4)) || (!(decide (recFault (recOf (gt a0 x3_2)) = 0))))) && (decide (0 < x3_2))) || (decide (((gt a0 x3_2).path).length ≤ 1048576))) then (bif (((decide (((gt a0 x3_2).kind) = 4)) || (!(decide (recFault (recOf (gt a0 x3_2)) = 0)))) || ((decide (0 < x3_2)) && (!(lessL (cut 47 ((gt a0 (IntKind.wrap .i64 (x3_2 - 1))).path)) (cut 47 ((gt a0 x3_2).path)))))) then (some (.ret false)) else (bif inR x3_2 a0.length then (bif decide (((gt a0 x3_2).path).length ≤ 4611686018427387904) then (bif (!decide ((parentP ((gt a0 x3_2).path)) = ([] : List UInt8))) then (bif inS 0 x3_2 (a0.length : Int) then (bif decide ((sub a0 0 x3_2).length ≤ 1048576) then (((bif (decide ((findN (sub a0 0 x3_2) (parentP ((gt a0 x3_2).path))) < 0)) then some true else (bif inR (findN (sub a0 0 x3_2) (parentP ((gt a0 x3_2).path))) a0.length then (some (!decide (((gt a0 (findN (sub a0 0 x3_2) (parentP ((gt a0 x3_2).path)))).kind) = 3))) else none))).bind fun z103 => bif z103 then (some (.ret false)) else (some (.nxt (IntKind.wrap .i64 (x3_2 + 1))))) else none) else none) else (some (.nxt (IntKind.wrap .i64 (x3_2 + 1))))) else none) else none)) else none) else none) else none) else none) else none) else none) else (some (.brk ()))
def spec_l04OK.sh (k : Nat) (a0 : List Nd) : Option (Bool) :=
  bif (decide (24 < (a0.length : Int))) then (some false) else ((loopF (spec_l04OK.b1 a0) k 0).bind fun z => match z with | .inl t => some t | .inr _ => some true)
theorem spec_l04OK.eq (a0 : List Nd) (h1 : ∀ x ∈ a0, x.path.length ≤ 1048576) : ∃ k, spec_l04OK.sh k a0 = some (treeOK a0) := by
  refine ⟨a0.length + 1, ?_⟩
  unfold spec_l04OK.sh
  by_cases hl : a0.length ≤ 24
  · have hl' : ¬ (24 : Int) < (a0.length : Int) := by omega
    simp only [hl', decide_false, cond_false]
    have hb : ∀ i : Nat, i < a0.length → spec_l04OK.b1 a0 i = some (sc (if !nodeAtOK a0 i then some false else none : Option Bool) ((i : Int) + 1)) := by
      intro i hi
      have hp := h1 _ (getN_mem hi)
      have hp2 : (a0.getD i default).path.length ≤ 4611686018427387904 := by omega
      have hs : sub a0 0 ((i : Nat) : Int) = a0.take i := by simp [sub]
      have hle : (a0.take i).length ≤ 1048576 := by simp; omega
      simp only [spec_l04OK.b1, lt_nat, hi, decide_true, cond_true, inR_nat hi, gt_nat, wrap_succ hi (by omega), Bool.or_true, hp, hp2, hs, hle, inS_mk (l := 0) (h := (i : Int)) (n := (a0.length : Int)) (by omega) (by omega) (by omega)]
      unfold nodeAtOK isDirN nodeOK
      obtain ⟨r, hr⟩ : ∃ r, a0.getD i default = r := ⟨_, rfl⟩
      simp only [hr] at hp hp2 ⊢
      cases c4 : decide (r.kind = 4) with
      | true => simp
      | false =>
        by_cases cf : recFault (recOf r) = 0
        · have key : ∀ q : Nd, (bif (decide (0 < (i : Int)) && !lessL (cut 47 q.path) (cut 47 r.path)) then some (Step.ret false) else
              bif !decide (parentP r.path = []) then
                ((bif decide (findN (a0.take i) (parentP r.path) < 0) then some true else bif inR (findN (a0.take i) (parentP r.path)) a0.length then some (!decide ((gt a0 (findN (a0.take i) (parentP r.path))).kind = 3)) else none).bind fun z => bif z then some (Step.ret false) else some (Step.nxt ((i : Int) + 1)))
              else some (Step.nxt ((i : Int) + 1))) =
              some (sc (if !((decide (i = 0) || lessL (cut 47 q.path) (cut 47 r.path)) && (decide (parentP r.path = []) || (decide (0 ≤ findN (a0.take i) (parentP r.path)) && decide ((gt (a0.take i) (findN (a0.take i) (parentP r.path))).kind = 3)))) then some false else none : Option Bool) ((i : Int) + 1) : Step Bool Int Unit) := by
            intro q
            have e0 : decide (0 < (i : Int)) = !decide (i = 0) := by by_cases h : i = 0 <;> simp [h]; omega
            rw [e0]
            cases lessL (cut 47 q.path) (cut 47 r.path) <;> cases decide (i = 0) <;> try simp
            all_goals
              by_cases hpp : parentP r.path = []
              · simp [hpp]
              · by_cases hk : findN (a0.take i) (parentP r.path) < 0
                · have hk2 : ¬ 0 ≤ findN (a0.take i) (parentP r.path) := by omega
                  simp [hpp, hk, hk2]
                · have hk2 : 0 ≤ findN (a0.take i) (parentP r.path) := by omega
                  rw [gtake a0 i _ hk2 (findN_lt _ _)]
                  by_cases h3 : (gt a0 (findN (a0.take i) (parentP r.path))).kind = 3 <;> simp [hpp, hk, hk2, findN_take (by omega : i ≤ a0.length) hk, h3]
          by_cases hz : i = 0
          · subst hz
            have := key default
            simpa [cf] using this
          · have hi1 : i - 1 < a0.length := by omega
            have hw : IntKind.wrap .i64 ((i : Int) - 1) = ((i - 1 : Nat) : Int) := by rw [wrap_small (by omega) (by omega)]; omega
            have hp3 := h1 _ (getN_mem hi1)
            have := key (a0.getD (i - 1) default)
            simp only [hw, gt_nat, inR_nat hi1, hp3, cf, decide_true, Bool.not_true, Bool.or_true, Bool.or_false, Bool.false_or, cond_true, cond_false, Bool.not_false, Bool.true_and]
            exact this
        · simp [cf]
    rw [loop_scan0 a0.length _ hb (by simp [spec_l04OK.b1]) _ (by omega), find_false]
    have e : (fun i => !!nodeAtOK a0 i) = nodeAtOK a0 := by funext i; simp
    simp only [treeOK, hl, decide_true, Bool.true_and, e]
    cases (List.range a0.length).all (nodeAtOK a0) <;> simp
  · have hl' : (24 : Int) < (a0.length : Int) := by omega
    simp [hl', treeOK, hl]
def impl_Node_record.sh (a0 : Nd) : Option (Rec) :=
  some (⟨a0.kind, a0.path, a0.body, a0.mode, false⟩ : Rec)
theorem impl_Node_record.eq (a0 : Nd) : impl_Node_record.sh a0 = some (recOf a0) := rfl
def impl_nodeOK.sh (a0 : Nd) : Option (Bool) :=
  some ((decide (recFault (recOf a0) = 0)) && (!decide (a0.kind = 4)))
theorem impl_nodeOK.eq (a0 : Nd) : impl_nodeOK.sh a0 = some (nodeOK a0) := rfl
def impl_isDir.sh (a0 : List Nd) (a1 : List UInt8) : Option (Bool) :=
  bif decide (a0.length ≤ 1048576) then (((bif (decide (a1 = ([] : List UInt8))) then some true else (((bif (decide (0 ≤ (findN a0 a1))) then (bif inR (findN a0 a1) a0.length then (some (decide (((gt a0 (findN a0 a1)).kind) = 3))) else none) else some false)).bind fun z6 => some z6))).bind fun z5 => some z5) else none
theorem impl_isDir.eq (a0 : List Nd) (a1 : List UInt8) (h0 : a0.length ≤ 1048576) : impl_isDir.sh a0 a1 = some (isDirN a0 a1) := by
  unfold impl_isDir.sh isDirN
  simp only [h0, decide_true, cond_true]
  by_cases hp : a1 = []
  · simp [hp]
  · by_cases hk : 0 ≤ findN a0 a1
    · simp [hp, hk, inR_mk hk (findN_lt a0 a1)]
    · simp [hp, hk]
def impl_TreeOK.b1 (a0 : List Nd) : Int → Option (Step (Bool) (Int) (Unit)) :=
  fun x7_1 => bif (decide (x7_1 < (a0.length : Int))) then (bif inR x7_1 a0.length then (bif (!((!((decide (24 ≤ x7_1)) || (!(nodeOK (gt a0 x7_1))))) && (decide (0 < x7_1))) || (inR (IntKind.wrap .i64 (x7_1 - 1)) a0.length)) then (bif (!(!(((decide (24 ≤ x7_1)) || (!(nodeOK (gt a0 x7_1)))) || ((decide (0 < x7_1)) && (!(pathLess ((gt a0 (IntKind.wrap .i64 (x7_1 - 1))).path) ((gt a0 x7_1).path)))))) || (inS 0 x7_1 (a0.length : Int))) then (bif (!(!(((decide (24 ≤ x7_1)) || (!(nodeOK (gt a0 x7_1)))) || ((decide (0 < x7_1)) && (!(pathLess ((gt a0 (IntKind.wrap .i64 (x7_1 - 1))).path) ((gt a0 x7_1).path)))))) || (decide (((gt a0 x7_1).path).length ≤ 1048576))) then (bif (!(!(((decide (24 ≤ x7_1)) || (!(nodeOK (gt a0 x7_1)))) || ((decide (0 < x7_1)) && (!(pathLess ((gt a0 (IntKind.wrap .i64 (x7_1 - 1))).path) ((gt a0 x7_1).path)))))) || (decide ((sub a0 0 x7_1).length ≤ 1048576))) then (bif ((((decide (24 ≤ x7_1)) || (!(nodeOK (gt a0 x7_1)))) || ((decide (0 < x7_1)) && (!(pathLess ((gt a0 (IntKind.wrap .i64 (x7_1 - 1))).path) ((gt a0 x7_1).path))))) || (!(isDirN (sub a0 0 x7_1) (parentP ((gt a0 x7_1).path))))) then (some (.ret false)) else (some (.nxt (IntKind.wrap .i64 (x7_1 + 1))))) else none) else none) else none) else none) else none) else (some (.brk ()))
def impl_TreeOK.sh (k : Nat) (a0 : List Nd) : Option (Bool) :=
  (loopF (impl_TreeOK.b1 a0) k 0).bind fun z => match z with | .inl t => some t | .inr _ => some true
theorem impl_TreeOK.eq (a0 : List Nd) (h0 : a0.length ≤ 1048576) (h1 : ∀ x ∈ a0, x.path.length ≤ 1048576) : ∃ k, impl_TreeOK.sh k a0 = some (treeOK a0) := by
  refine ⟨a0.length + 1, ?_⟩
  unfold impl_TreeOK.sh
  have hb : ∀ i : Nat, i < a0.length → impl_TreeOK.b1 a0 i = some (sc (if (decide (24 ≤ i) || !nodeOK (a0.getD i default)) || (!decide (i = 0) && !pathLess (a0.getD (i - 1) default).path (a0.getD i default).path) || !isDirN (a0.take i) (parentP (a0.getD i default).path) then some false else none : Option Bool) ((i : Int) + 1)) := by
    intro i hi
    have hp := h1 _ (getN_mem hi)
    have hs : sub a0 0 ((i : Nat) : Int) = a0.take i := by simp [sub]
    have hle : (a0.take i).length ≤ 1048576 := by simp; omega
    have e24 : decide ((24 : Int) ≤ (i : Int)) = decide (24 ≤ i) := by rw [decide_eq_decide]; omega
    have e0 : decide (0 < (i : Int)) = !decide (i = 0) := by by_cases h : i = 0 <;> simp [h]; omega
    simp only [impl_TreeOK.b1, lt_nat, hi, decide_true, cond_true, inR_nat hi, gt_nat, wrap_succ hi (by omega), Bool.or_true, hp, hs, hle, inS_mk (l := 0) (h := (i : Int)) (n := (a0.length : Int)) (by omega) (by omega) (by omega), e24, e0]
    by_cases hz : i = 0
    · subst hz
      simp only [Bool.not_true, Bool.false_and, Bool.and_false, Bool.not_false, Bool.true_or, cond_true, Bool.or_false, decide_true]
      cases (decide (24 ≤ 0) || !nodeOK (a0.getD 0 default)) || !isDirN (a0.take 0) (parentP (a0.getD 0 default).path) <;> simp
    · have hi1 : i - 1 < a0.length := by omega
      have hw : IntKind.wrap .i64 ((i : Int) - 1) = ((i - 1 : Nat) : Int) := by rw [wrap_small (by omega) (by omega)]; omega
      simp only [hw, gt_nat, inR_nat hi1, Bool.or_true, cond_true]
      cases (decide (24 ≤ i) || !nodeOK (a0.getD i default)) || (!decide (i = 0) && !pathLess (a0.getD (i - 1) default).path (a0.getD i default).path) || !isDirN (a0.take i) (parentP (a0.getD i default).path) <;> simp
  rw [loop_scan0 a0.length _ hb (by simp [impl_TreeOK.b1]) _ (by omega), find_false]
  have e : (List.range a0.length).all (fun i => !((decide (24 ≤ i) || !nodeOK (a0.getD i default)) || (!decide (i = 0) && !pathLess (a0.getD (i - 1) default).path (a0.getD i default).path) || !isDirN (a0.take i) (parentP (a0.getD i default).path))) = treeOK a0 := by
    unfold treeOK
    rw [Bool.eq_iff_iff]
    simp only [List.all_eq_true, List.mem_range, Bool.and_eq_true, decide_eq_true_eq, Bool.not_eq_true', Bool.or_eq_false_iff, decide_eq_false_iff_not, Bool.not_eq_false', Bool.and_eq_false_iff]
    constructor
    · intro h
      have hn : ∀ i, i < a0.length → nodeOK (a0.getD i default) = true := fun i hi => (h i hi).1.1.2
      refine ⟨?_, fun i hi => ?_⟩
      · by_cases hc : a0.length ≤ 24
        · exact hc
        · exact absurd (h 24 (by omega)).1.1.1 (by omega)
      · have hi' := h i hi
        unfold nodeAtOK
        rw [hi'.1.1.2, hi'.2]
        rcases hi'.1.2 with h2 | h2
        · simp [h2]
        · simp only [pathLess, Bool.and_eq_true] at h2
          rw [h2.2]; simp
    · rintro ⟨hl, h⟩ i hi
      have hi' := h i hi
      unfold nodeAtOK at hi'
      simp only [Bool.and_eq_true, Bool.or_eq_true, decide_eq_true_eq] at hi'
      refine ⟨⟨⟨by omega, hi'.1.1⟩, ?_⟩, hi'.2⟩
      by_cases hz : i = 0
      · exact Or.inl hz
      · right
        have hprev := h (i - 1) (by omega)
        unfold nodeAtOK at hprev
        simp only [Bool.and_eq_true] at hprev
        rcases hi'.1.2 with h2 | h2
        · exact absurd h2 hz
        · rw [pathLess, nodeOK_path hprev.1.1, nodeOK_path hi'.1.1, h2]; rfl
  rw [e]
  cases treeOK a0 <;> simp
def impl_SameTree.sh (a0 : List Nd) (a1 : List Nd) : Option (Bool) :=
  bif decide (a0.length ≤ 1048576) then (bif decide (∀ x ∈ a0, x.path.length ≤ 1048576) then (((bif (treeOK a0) then (bif decide (a1.length ≤ 1048576) then (bif decide (∀ x ∈ a1, x.path.length ≤ 1048576) then (some (treeOK a1)) else none) else none) else some false)).bind fun z6 => ((bif z6 then (bif decide (a0.length ≤ 1048576) then (some (decide (a0 = a1))) else none) else some false)).bind fun z15 => some z15) else none) else none
theorem impl_SameTree.eq (a0 a1 : List Nd) (h0 : a0.length ≤ 1048576) (h1 : a1.length ≤ 1048576) (h2 : ∀ x ∈ a0, x.path.length ≤ 1048576) (h3 : ∀ x ∈ a1, x.path.length ≤ 1048576) : impl_SameTree.sh a0 a1 = some (sameTree a0 a1) := by
  unfold impl_SameTree.sh sameTree
  simp only [h0, h1, decide_eq_true h2, decide_eq_true h3, decide_true, cond_true]
  cases treeOK a0 <;> cases treeOK a1 <;> simp
/-! ### lists that are collected -/
/-- A loop that collects. -/
theorem collect_run {α β T : Type} (xs : List α) (g : α → Option β) (b : List β × Int → Option (Step T (List β × Int) (List β)))
    (hb : ∀ (i : Nat) (h : i < xs.length) (acc : List β), acc.length ≤ i → b (acc, (i : Int)) = some (.nxt (acc ++ (g xs[i]).toList, (i : Int) + 1))) (hn : ∀ acc : List β, b (acc, (xs.length : Int)) = some (.brk acc)) :
    loopF b (xs.length + 1) ([], 0) = some (.inr (xs.filterMap g)) := by
  have key : ∀ d i k (acc : List β), i + d = xs.length → d < k → acc.length ≤ i → loopF b k (acc, (i : Int)) = some (.inr (acc ++ (xs.drop i).filterMap g)) := by
    intro d
    induction d with
    | zero =>
      intro i k acc hi hk _
      obtain ⟨k, rfl⟩ : ∃ j, k = j + 1 := ⟨k - 1, by omega⟩
      have : i = xs.length := by omega
      subst this
      simp [loopF, hn]
    | succ d ih =>
      intro i k acc hi hk ha
      obtain ⟨k, rfl⟩ : ∃ j, k = j + 1 := ⟨k - 1, by omega⟩
      have hlt : i < xs.length := by omega
      rw [loopF, hb i hlt acc ha]
      simp only [Option.bind_some]
      have hl : (acc ++ (g xs[i]).toList).length ≤ i + 1 := by cases g xs[i] <;> simp <;> omega
      have := ih (i + 1) k (acc ++ (g xs[i]).toList) (by omega) (by omega) hl
      rw [Int.natCast_add, Int.natCast_one] at this
      have e : (xs.drop i).filterMap g = (g xs[i]).toList ++ (xs.drop (i + 1)).filterMap g := by
        rw [List.drop_eq_getElem_cons hlt, List.filterMap_cons]
        cases g xs[i] <;> rfl
      rw [e, ← List.append_assoc]
      exact this
  have := key xs.length 0 (xs.length + 1) [] (by omega) (by omega) (by simp)
  simpa using this
theorem filterMap_some {α β : Type} (f : α → β) (l : List α) : l.filterMap (fun x => some (f x)) = l.map f := by
  induction l with
  | nil => rfl
  | cons x l ih => simp [ih]
theorem filterMap_if {α β : Type} (q : α → Bool) (f : α → β) (l : List α) : l.filterMap (fun x => if q x then some (f x) else none) = (l.filter q).map f := by
  induction l with
  | nil => rfl
  | cons x l ih =>
    rcases bool_two (q x) with h | h <;> simp [h, ih]
theorem getD_el {α : Type} [Inhabited α] {l : List α} {i : Nat} (h : i < l.length) : l.getD i default = l[i] := by simp [List.getD_eq_getElem?_getD, List.getElem?_eq_getElem h]
/-! ### what is above -/
theorem parentP_lt {t : List UInt8} (h : t ≠ []) : (parentP t).length < t.length := by
  have h1 := lastSlash_lt t
  have h2 := lastSlash_ge t
  have h3 : 0 < t.length := by cases t with | nil => exact absurd rfl h | cons _ _ => simp
  simp [parentP]; omega
def ancsF : Nat → List UInt8 → List (List UInt8)
  | 0, _ => []
  | n + 1, t => if parentP t = [] then [] else parentP t :: ancsF n (parentP t)
/-- All that is above a path, from below. -/
def ancs (t : List UInt8) : List (List UInt8) := ancsF t.length t
theorem parentP_nil : parentP [] = [] := rfl
theorem ancsF_succ : ∀ (c : Nat) (v : List UInt8), v.length ≤ c → ancsF c v = ancsF (c + 1) v := by
  intro c
  induction c with
  | zero => intro v hv; have : v = [] := List.eq_nil_of_length_eq_zero (by omega); subst this; simp [ancsF, parentP_nil]
  | succ c ihc =>
    intro v hv
    rw [ancsF, ancsF]
    by_cases hpv : parentP v = []
    · simp [hpv]
    · simp only [hpv, if_false]
      have hvne : v ≠ [] := by intro e; subst e; exact hpv parentP_nil
      have := parentP_lt hvne
      rw [ihc (parentP v) (by omega)]
theorem ancsF_enough (d : Nat) (t : List UInt8) : ancsF (t.length + d) t = ancs t := by
  induction d with
  | zero => rfl
  | succ d ih => rw [← ih, show t.length + (d + 1) = (t.length + d) + 1 by omega]; exact (ancsF_succ _ _ (by omega)).symm
theorem ancs_eq (t : List UInt8) : ancs t = if parentP t = [] then [] else parentP t :: ancs (parentP t) := by
  have h := ancsF_enough 1 t
  rw [← h, ancsF]
  by_cases hp : parentP t = []
  · simp [hp]
  · simp only [hp, if_false]
    have hne : t ≠ [] := by intro e; subst e; exact hp parentP_nil
    have := parentP_lt hne
    have h2 := ancsF_enough (t.length - (parentP t).length) (parentP t)
    rw [show (parentP t).length + (t.length - (parentP t).length) = t.length by omega] at h2
    rw [h2]
theorem ancs_bound : ∀ (n : Nat) (t : List UInt8), t.length ≤ n → (ancs t).length ≤ t.length ∧ ∀ x ∈ ancs t, x.length ≤ t.length ∧ x ≠ [] := by
  intro n
  induction n with
  | zero => intro t h; have : t = [] := List.eq_nil_of_length_eq_zero (by omega); subst this; exact ⟨by decide, by intro x hx; have e : ancs [] = [] := rfl; rw [e] at hx; cases hx⟩
  | succ n ih =>
    intro t h
    rw [ancs_eq]
    by_cases hp : parentP t = []
    · simp [hp]
    · have hne : t ≠ [] := by intro e; subst e; exact hp parentP_nil
      have hlt := parentP_lt hne
      obtain ⟨h1, h2⟩ := ih (parentP t) (by omega)
      simp only [hp, if_false, List.length_cons, List.mem_cons]
      refine ⟨by omega, ?_⟩
      rintro x (rfl | hx)
      · exact ⟨by omega, hp⟩
      · have := h2 x hx; exact ⟨by omega, this.2⟩
theorem ancs_len (t : List UInt8) : (ancs t).length ≤ t.length := (ancs_bound _ t (Nat.le_refl _)).1
def stopsR (r : Rec) : Bool := !decide (r.kind = 3) || r.opq
def underO (l : List Rec) (p : List UInt8) : Bool := (ancs p).any fun x => decide (0 ≤ findR l x) && (gt l (findR l x)).opq
def cutsR (l : List Rec) (p : List UInt8) : Bool := (ancs p).any fun x => decide (0 ≤ findR l x) && stopsR (gt l (findR l x))
def impl_ancestors.b1  : List UInt8 × List (List UInt8) → Option (Step (List (List UInt8)) (List UInt8 × List (List UInt8)) (List (List UInt8))) :=
  fun q => match q with
  | (x0_10, x3_11) => bif (!decide (x0_10 = ([] : List UInt8))) then (bif decide ((x3_11.length + ([x0_10] : List (List UInt8)).length) * 16 ≤ 140737488355328) then (bif decide (x0_10.length ≤ 1048576) then (some (.nxt ((parentP x0_10), x3_11 ++ ([x0_10] : List (List UInt8))))) else none) else none) else (some (.brk x3_11))
def impl_ancestors.sh (k : Nat) (a0 : List UInt8) : Option (List (List UInt8)) :=
  bif decide (a0.length ≤ 1048576) then ((loopF (impl_ancestors.b1) k ((parentP a0), ([] : List (List UInt8)))).bind fun z => match z with | .inl t => some t | .inr x3_16 => some x3_16) else none
theorem impl_ancestors.eq (a0 : List UInt8) (h0 : a0.length ≤ 1048576) : ∃ k, impl_ancestors.sh k a0 = some (ancs a0) := by
  refine ⟨a0.length + 1, ?_⟩
  have key : ∀ (n : Nat) (t : List UInt8) (k : Nat) (acc : List (List UInt8)), (parentP t).length ≤ n → n < k → acc.length + (parentP t).length ≤ 1048576 → loopF impl_ancestors.b1 k (parentP t, acc) = some (.inr (acc ++ ancs t)) := by
    intro n
    induction n with
    | zero =>
      intro t k acc h hk _
      obtain ⟨k, rfl⟩ : ∃ j, k = j + 1 := ⟨k - 1, by omega⟩
      have hp : parentP t = [] := List.eq_nil_of_length_eq_zero (by omega)
      rw [ancs_eq, hp, loopF]; simp [impl_ancestors.b1]
    | succ n ih =>
      intro t k acc h hk hl
      obtain ⟨k, rfl⟩ : ∃ j, k = j + 1 := ⟨k - 1, by omega⟩
      by_cases hp : parentP t = []
      · rw [ancs_eq, hp, loopF]; simp [impl_ancestors.b1]
      · have hlt := parentP_lt hp
        have e1 : (acc.length + ([parentP t] : List (List UInt8)).length) * 16 ≤ 140737488355328 := by simp; omega
        have e2 : (parentP t).length ≤ 1048576 := by omega
        rw [ancs_eq t, loopF]
        simp only [impl_ancestors.b1, hp, decide_false, Bool.not_false, cond_true, e1, e2, decide_true, if_false, Option.bind_some]
        have := ih (parentP t) k (acc ++ [parentP t]) (by omega) (by omega) (by simp; omega)
        rw [show loopF impl_ancestors.b1 k (parentP (parentP t), acc ++ [parentP t]) = _ from this]
        simp
  have hl := parentP_len a0
  unfold impl_ancestors.sh
  rw [key a0.length a0 (a0.length + 1) [] hl (by omega) (by simp; omega)]
  simp [h0]
theorem pathOK_small {p : List UInt8} (h : pathOK p = true) : p.length ≤ 1048576 := by have := pathOK_len h; omega

/-! ### right layers -/
theorem layerFault_zero {l : List Rec} (h : (layerFault l).2 = 0) : ∀ i, i < l.length → codeAt l i = 0 := by
  unfold layerFault at h
  cases hf : (List.range l.length).findSome? (fun i => if codeAt l i = 0 then none else some ((i : Int), codeAt l i)) with
  | none =>
    intro i hi
    have := List.findSome?_eq_none_iff.1 hf i (List.mem_range.2 hi)
    by_cases hc : codeAt l i = 0
    · exact hc
    · simp [hc] at this
  | some x =>
    rw [hf] at h
    obtain ⟨i, _, hi⟩ := List.exists_of_findSome?_eq_some hf
    by_cases hc : codeAt l i = 0
    · simp [hc] at hi
    · simp only [hc, if_false, Option.some.injEq] at hi
      subst hi
      exact absurd h hc
theorem layerFault_of {l : List Rec} (h : ∀ i, i < l.length → codeAt l i = 0) : layerFault l = (0, 0) := by
  unfold layerFault
  have : (List.range l.length).findSome? (fun i => if codeAt l i = 0 then none else some ((i : Int), codeAt l i)) = none := by
    apply List.findSome?_eq_none_iff.2
    intro i hi
    simp [h i (List.mem_range.1 hi)]
  rw [this]
theorem layerOK_rec {l : List Rec} (h : (layerFault l).2 = 0) : ∀ x ∈ l, recFault x = 0 := by
  intro x hx
  obtain ⟨i, hi, rfl⟩ := List.getElem_of_mem hx
  have := codeAt_rec (layerFault_zero h i hi)
  rwa [getD_el hi] at this
theorem layerOK_len {l : List Rec} (h : (layerFault l).2 = 0) : l.length ≤ 16 := by
  by_cases hc : l.length ≤ 16
  · exact hc
  · have := layerFault_zero h 16 (by omega)
    simp [codeAt] at this
theorem pathOK_depth {p : List UInt8} (h : pathOK p = true) : (cut 47 p).length ≤ 4 := by
  simp only [pathOK, Bool.and_eq_true, decide_eq_true_eq] at h
  exact h.2.1
/-! ### the canonical form -/
def canonR (l : List Rec) (r : Rec) : Option Rec :=
  if underO l r.path then (if r.kind = 4 then none else some ⟨r.kind, r.path, r.body, r.mode, false⟩) else some ⟨r.kind, r.path, r.body, r.mode, r.opq && decide ((cut 47 r.path).length < 4)⟩
def canonL (l : List Rec) : List Rec := l.filterMap (canonR l)
/-! ### two layers -/
/-! ### trees as layers -/
def spec_l04Layer.b1 (a0 : List Nd) : List Rec × Int → Option (Step (List Rec) (List Rec × Int) (List Rec)) :=
  fun q => match q with
  | (x3_7, x4_9) => bif (decide (x4_9 < (a0.length : Int))) then (bif inR x4_9 a0.length then (bif decide ((x3_7.length + ([(recOf (gt a0 x4_9))] : List Rec).length) * 56 ≤ 140737488355328) then (some (.nxt (x3_7 ++ ([(recOf (gt a0 x4_9))] : List Rec), IntKind.wrap .i64 (x4_9 + 1)))) else none) else none) else (some (.brk x3_7))
def spec_l04Layer.sh (k : Nat) (a0 : List Nd) : Option (List Rec) :=
  (loopF (spec_l04Layer.b1 a0) k (([] : List Rec), 0)).bind fun z => match z with | .inl t => some t | .inr x3_13 => some x3_13
theorem spec_l04Layer.eq (a0 : List Nd) (h0 : a0.length ≤ 1048576) : ∃ k, spec_l04Layer.sh k a0 = some (a0.map recOf) := by
  refine ⟨a0.length + 1, ?_⟩
  unfold spec_l04Layer.sh
  rw [collect_run a0 (fun x => some (recOf x)) (spec_l04Layer.b1 a0) (fun i hi acc ha => by
    have e1 : ∀ z : Rec, (acc.length + ([z] : List Rec).length) * 56 ≤ 140737488355328 := fun z => by simp; omega
    simp only [spec_l04Layer.b1, lt_nat, hi, decide_true, cond_true, inR_nat hi, getD_gt, getD_el hi, e1, wrap_succ hi (by omega), Option.toList_some]) (fun acc => by simp [spec_l04Layer.b1])]
  simp [filterMap_some]
def impl_records.b1 (a0 : List Nd) : List Rec × Int → Option (Step (List Rec) (List Rec × Int) (List Rec)) :=
  fun q => match q with
  | (x3_7, x9_9) => bif (decide (x9_9 < (a0.length : Int))) then (bif inR x9_9 a0.length then (bif decide ((x3_7.length + ([(recOf (gt a0 x9_9))] : List Rec).length) * 56 ≤ 140737488355328) then (some (.nxt (x3_7 ++ ([(recOf (gt a0 x9_9))] : List Rec), IntKind.wrap .i64 (x9_9 + 1)))) else none) else none) else (some (.brk x3_7))
def impl_records.sh (k : Nat) (a0 : List Nd) : Option (List Rec) :=
  (loopF (impl_records.b1 a0) k (([] : List Rec), 0)).bind fun z => match z with | .inl t => some t | .inr x3_13 => some x3_13
theorem impl_records.eq (a0 : List Nd) (h0 : a0.length ≤ 1048576) : ∃ k, impl_records.sh k a0 = some (a0.map recOf) := by
  refine ⟨a0.length + 1, ?_⟩
  unfold impl_records.sh
  rw [collect_run a0 (fun x => some (recOf x)) (impl_records.b1 a0) (fun i hi acc ha => by
    have e1 : ∀ z : Rec, (acc.length + ([z] : List Rec).length) * 56 ≤ 140737488355328 := fun z => by simp; omega
    simp only [impl_records.b1, lt_nat, hi, decide_true, cond_true, inR_nat hi, getD_gt, getD_el hi, e1, wrap_succ hi (by omega), Option.toList_some]) (fun acc => by simp [impl_records.b1])]
  simp [filterMap_some]
def layerOfT (l : List Nd) : List Rec × Int := if 4096 < l.length then ([], 2) else if !treeOK l then ([], 1) else if 16 < l.length then ([], 6) else (l.map recOf, 0)
theorem lenN4096 (l : List Nd) : decide ((4096 : Int) < (l.length : Int)) = decide (4096 < l.length) := by rw [decide_eq_decide]; omega
theorem lenN16 (l : List Nd) : decide ((16 : Int) < (l.length : Int)) = decide (16 < l.length) := by rw [decide_eq_decide]; omega
def impl_isLongListN.sh (a0 : List Nd) : Option (Bool) :=
  some (decide (4096 < (a0.length : Int)))
theorem impl_isLongListN.eq (a0 : List Nd) : impl_isLongListN.sh a0 = some (decide (4096 < a0.length)) := by
  have : (4096 : Int) < (a0.length : Int) ↔ 4096 < a0.length := by omega
  simp [impl_isLongListN.sh, this]
def spec_LayerOfTree.sh (a0 : List Nd) : Option (List Rec × Int) :=
  bif (decide (4096 < (a0.length : Int))) then (some (([] : List Rec), 2)) else (bif decide (∀ x ∈ a0, x.path.length ≤ 1048576) then (bif (!(treeOK a0)) then (some (([] : List Rec), 1)) else (bif (decide (16 < (a0.length : Int))) then (some (([] : List Rec), 6)) else (bif decide (a0.length ≤ 1048576) then (some ((a0.map recOf), 0)) else none))) else none)
theorem spec_LayerOfTree.eq (a0 : List Nd) (h0 : a0.length ≤ 1048576) (h1 : ∀ x ∈ a0, x.path.length ≤ 1048576) : spec_LayerOfTree.sh a0 = some ((layerOfT a0).1, (layerOfT a0).2) := by
  unfold spec_LayerOfTree.sh layerOfT
  rw [lenN4096, lenN16]
  by_cases h : 4096 < a0.length
  · simp [h]
  · rcases bool_two (treeOK a0) with ht | ht
    · by_cases h6 : 16 < a0.length <;> simp [h, ht, h6, h0, decide_eq_true h1]
    · simp [h, ht, decide_eq_true h1]
def impl_LayerOfTree.sh (a0 : List Nd) : Option (List Rec × Int) :=
  bif decide (a0.length ≤ 1048576) then (bif decide (∀ x ∈ a0, x.path.length ≤ 1048576) then (bif decide (([.inl (decide (4096 < a0.length)), .inr 2, .inl (!(treeOK a0)), .inr 1, .inl (decide (16 < (a0.length : Int))), .inr 6] : List (Bool ⊕ Int)).length ≤ 4611686018427387904) then ((some (firstOf ([.inl (decide (4096 < a0.length)), .inr 2, .inl (!(treeOK a0)), .inr 1, .inl (decide (16 < (a0.length : Int))), .inr 6] : List (Bool ⊕ Int)))).bind fun z16 => bif (!decide (z16 = 0)) then (some ([], z16)) else (bif decide (a0.length ≤ 1048576) then (some ((a0.map recOf), 0)) else none)) else none) else none) else none
theorem impl_LayerOfTree.eq (a0 : List Nd) (h0 : a0.length ≤ 1048576) (h1 : ∀ x ∈ a0, x.path.length ≤ 1048576) : impl_LayerOfTree.sh a0 = some ((layerOfT a0).1, (layerOfT a0).2) := by
  unfold impl_LayerOfTree.sh layerOfT
  rw [lenN16]
  simp only [h0, decide_true, cond_true, decide_eq_true h1, firstOf_c, List.length_cons, List.length_nil, firstOf, anyB, anyI]
  by_cases h : 4096 < a0.length
  · simp [h]
  · rcases bool_two (treeOK a0) with ht | ht
    · by_cases h6 : 16 < a0.length <;> simp [h, ht, h6]
    · simp [h, ht]
/-! ### marks -/
/-! ### stacks -/
theorem layerFaultL_zero (l : List Rec) : decide ((layerFaultL l).2 = 0) = decide ((layerFault l).2 = 0) := by
  unfold layerFaultL
  by_cases h : 4096 < l.length
  · have : ¬ (layerFault l).2 = 0 := fun hf => by have := layerOK_len hf; omega
    simp [h, this]
  · simp [h]
/-! ### the highest layer that cuts a path off -/
end Go.UL
