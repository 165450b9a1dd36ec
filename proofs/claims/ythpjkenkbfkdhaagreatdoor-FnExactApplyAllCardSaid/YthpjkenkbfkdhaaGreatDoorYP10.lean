/- Plain Lean: what the functions compute. -/
import Derived.Test.YthpjkenkbfkdhaaGreatDoorYP9
set_option linter.unusedVariables false
set_option linter.unusedSimpArgs false
namespace Go.UL
open Go.RowKit
/-! ### nodes -/
def szNd (r : Nd) (left : Int) : Int := if left - (r.path.length : Int) < 0 then -1 else if left - (r.path.length : Int) - (r.body.length : Int) < 0 then -1 else left - (r.path.length : Int) - (r.body.length : Int)
def laws_szNode.sh (a0 : Nd) (a1 : Int) : Option (Int) :=
  bif (decide ((IntKind.wrap .i64 (a1 - (a0.path.length : Int))) < 0)) then (some (-1)) else (bif (decide ((IntKind.wrap .i64 ((IntKind.wrap .i64 (a1 - (a0.path.length : Int))) - (a0.body.length : Int))) < 0)) then (some (-1)) else (some (IntKind.wrap .i64 ((IntKind.wrap .i64 (a1 - (a0.path.length : Int))) - (a0.body.length : Int)))))
theorem laws_szNode.eq (a0 : Nd) (a1 : Int) (h0 : 0 ≤ a1) (h1 : a1 ≤ 1048576) (h2 : a0.path.length ≤ 9223372036854775807) (h3 : a0.body.length ≤ 9223372036854775807) : laws_szNode.sh a0 a1 = some (szNd a0 a1) := by
  unfold laws_szNode.sh szNd
  rw [wrap_small (n := a1 - (a0.path.length : Int)) (by omega) (by omega)]
  by_cases h : a1 - (a0.path.length : Int) < 0
  · simp [h]
  · rw [wrap_small (n := a1 - (a0.path.length : Int) - (a0.body.length : Int)) (by omega) (by omega)]
    by_cases h' : a1 - (a0.path.length : Int) - (a0.body.length : Int) < 0
    · simp [h, h']
    · simp [h, h']
def laws_toNode.sh (a0 : Nd) : Option (Nd) :=
  some a0
theorem laws_toNode.eq (a0 : Nd) : laws_toNode.sh a0 = some a0 := rfl
def szNdGo : List Nd → Int → Int
  | [], a => a
  | x :: l, a => if szNd x a < 0 then -1 else szNdGo l (szNd x a)
def szNdS (l : List Nd) (left : Int) : Int := if left - (l.length : Int) < 0 then -1 else szNdGo l (left - (l.length : Int))
theorem szNd_le {r : Nd} {a : Int} (h : 0 ≤ szNd r a) : szNd r a ≤ a ∧ (r.path.length : Int) ≤ a ∧ (r.body.length : Int) ≤ a := by
  unfold szNd at *
  split at h
  · omega
  · split at h
    · omega
    · rename_i h1 h2; simp only [h1, h2, if_false]; omega
theorem szNdGo_le : ∀ {l : List Nd} {a : Int}, 0 ≤ szNdGo l a → 0 ≤ a → szNdGo l a ≤ a ∧ ∀ x ∈ l, (x.path.length : Int) ≤ a ∧ (x.body.length : Int) ≤ a := by
  intro l
  induction l with
  | nil => intro a _ _; exact ⟨Int.le_refl _, by simp⟩
  | cons x l ih =>
    intro a h h0
    simp only [szNdGo] at h ⊢
    by_cases hx : szNd x a < 0
    · simp [hx] at h
    · simp only [hx, if_false] at h ⊢
      have h1 := szNd_le (r := x) (a := a) (by omega)
      have h2 := ih h (by omega)
      refine ⟨by omega, ?_⟩
      intro y hy
      rcases List.mem_cons.1 hy with rfl | hy
      · omega
      · have := h2.2 y hy; omega
theorem szNdS_le {l : List Nd} {a : Int} (h : ¬ szNdS l a < 0) (h0 : 0 ≤ a) : 0 ≤ szNdS l a ∧ szNdS l a ≤ a ∧ (l.length : Int) ≤ a ∧ ∀ x ∈ l, (x.path.length : Int) ≤ a ∧ (x.body.length : Int) ≤ a := by
  unfold szNdS at *
  by_cases hl : a - (l.length : Int) < 0
  · simp [hl] at h
  · simp only [hl, if_false] at h ⊢
    have := szNdGo_le (l := l) (a := a - (l.length : Int)) (by omega) (by omega)
    refine ⟨by omega, by omega, by omega, fun x hx => ?_⟩
    have := this.2 x hx; omega
def laws_szNodeS.b1 (a0 : List Nd) : Int × Int → Option (Step (Int) (Int × Int) (Int)) :=
  fun q => match q with
  | (x1_2, x5_3) => bif (decide (x5_3 < (a0.length : Int))) then (bif inR x5_3 a0.length then (bif decide ((0 : Int) ≤ x1_2) then (bif decide ((x1_2 : Int) ≤ 1048576) then (bif decide ((gt a0 x5_3).path.length ≤ 9223372036854775807) then (bif decide ((gt a0 x5_3).body.length ≤ 9223372036854775807) then (bif (decide ((szNd (gt a0 x5_3) x1_2) < 0)) then (some (.ret (-1))) else (some (.nxt ((szNd (gt a0 x5_3) x1_2), IntKind.wrap .i64 (x5_3 + 1))))) else none) else none) else none) else none) else none) else (some (.brk x1_2))
def laws_szNodeS.sh (k : Nat) (a0 : List Nd) (a1 : Int) : Option (Int) :=
  bif (decide ((IntKind.wrap .i64 (a1 - (a0.length : Int))) < 0)) then (some (-1)) else ((loopF (laws_szNodeS.b1 a0) k (IntKind.wrap .i64 (a1 - (a0.length : Int)), 0)).bind fun z => match z with | .inl t => some t | .inr x1_7 => some x1_7)
theorem szNdGo_run (l : List Nd) (b : Int × Int → Option (Step Int (Int × Int) Int)) (hb : ∀ (i : Nat) (a : Int), i < l.length → 0 ≤ a → a ≤ 1048576 → b (a, i) = some (if szNd (l.getD i default) a < 0 then .ret (-1) else .nxt (szNd (l.getD i default) a, (i : Int) + 1))) (hn : ∀ a, b (a, l.length) = some (.brk a)) :
    ∀ (d i : Nat) (a : Int) (k : Nat), i + d = l.length → d < k → 0 ≤ a → a ≤ 1048576 → ∃ z, loopF b k (a, i) = some z ∧ (match z with | .inl t => some t | .inr x => some x) = some (szNdGo (l.drop i) a) := by
  intro d
  induction d with
  | zero =>
    intro i a k hi hk _ _
    obtain ⟨k, rfl⟩ : ∃ j, k = j + 1 := ⟨k - 1, by omega⟩
    have : i = l.length := by omega
    subst this
    exact ⟨.inr a, by rw [loopF, hn]; rfl, by simp [szNdGo]⟩
  | succ d ih =>
    intro i a k hi hk h0 h1
    obtain ⟨k, rfl⟩ : ∃ j, k = j + 1 := ⟨k - 1, by omega⟩
    have hlt : i < l.length := by omega
    have hg : l.getD i default = l[i] := by simp [List.getD_eq_getElem?_getD, List.getElem?_eq_getElem hlt]
    rw [List.drop_eq_getElem_cons hlt, loopF, hb i a hlt h0 h1, hg]
    by_cases hx : szNd l[i] a < 0
    · exact ⟨.inl (-1), by simp [hx], by simp [szNdGo, hx]⟩
    · have hle := szNd_le (r := l[i]) (a := a) (by omega)
      obtain ⟨z, hz, hP⟩ := ih (i + 1) (szNd l[i] a) k (by omega) (by omega) (by omega) (by omega)
      rw [Int.natCast_add, Int.natCast_one] at hz
      exact ⟨z, by simp only [hx, if_false, Option.bind_some]; exact hz, by simp only [szNdGo, hx, if_false]; exact hP⟩
theorem laws_szNodeS.eq (a0 : List Nd) (a1 : Int) (h0 : 0 ≤ a1) (h1 : a1 ≤ 1048576) (h2 : a0.length ≤ 9223372036854775807) (h3 : ∀ x ∈ a0, okNd x) : ∃ k, laws_szNodeS.sh k a0 a1 = some (szNdS a0 a1) := by
  refine ⟨a0.length + 1, ?_⟩
  unfold laws_szNodeS.sh szNdS
  rw [wrap_small (n := a1 - (a0.length : Int)) (by omega) (by omega)]
  by_cases hl : a1 - (a0.length : Int) < 0
  · simp [hl]
  · simp only [hl, decide_false, cond_false, if_false]
    obtain ⟨z, hz, hP⟩ := szNdGo_run a0 (laws_szNodeS.b1 a0) (fun i a hi ha0 ha1 => by
      have hg : a0.getD i default = a0[i] := by simp [List.getD_eq_getElem?_getD, List.getElem?_eq_getElem hi]
      have ho := h3 a0[i] (List.getElem_mem hi)
      simp only [laws_szNodeS.b1, lt_nat, hi, decide_true, cond_true, inR_nat hi, getD_gt, hg, ha0, ha1, ho.1, ho.2, wrap_succ hi (by omega)]
      by_cases hx : szNd a0[i] a < 0 <;> simp [hx]) (fun a => by simp [laws_szNodeS.b1]) a0.length 0 (a1 - (a0.length : Int)) (a0.length + 1) (by omega) (by omega) (by omega) (by omega)
    simp only [Int.natCast_zero] at hz
    rw [hz]
    simpa using hP
def laws_toNodeS.b1 (a0 : List Nd) : Int × List Nd → Option (Step (List Nd) (Int × List Nd) (List Nd)) :=
  fun q => match q with
  | (x4_8, y9) => bif (decide (x4_8 < (a0.length : Int))) then (bif inR x4_8 a0.length then (bif inR x4_8 y9.length then (some (.nxt (IntKind.wrap .i64 (x4_8 + 1), setI y9 x4_8 (gt a0 x4_8)))) else none) else none) else (some (.brk y9))
def laws_toNodeS.sh (k : Nat) (a0 : List Nd) : Option (List Nd) :=
  bif decide (a0.length * 48 ≤ 281474976710656) then ((loopF (laws_toNodeS.b1 a0) k (0, List.replicate a0.length (⟨0, [], [], 0⟩ : Nd))).bind fun z => match z with | .inl t => some t | .inr y13 => some y13) else none
theorem laws_toNodeS.eq (a0 : List Nd) (h : a0.length ≤ 1048576) : ∃ k, laws_toNodeS.sh k a0 = some a0 := by
  refine ⟨a0.length + 1, ?_⟩
  unfold laws_toNodeS.sh
  have h1 : a0.length * 48 ≤ 281474976710656 := by omega
  simp only [h1, decide_true, cond_true]
  have := fill_run (List.replicate a0.length (⟨0, [], [], 0⟩ : Nd)) (fun i => a0.getD i default) (laws_toNodeS.b1 a0) (fun i hi y hy => by
    have hi' : i < a0.length := by simpa using hi
    have hy' : y.length = a0.length := by simpa using hy
    simp only [laws_toNodeS.b1, hy', lt_nat, hi', decide_true, cond_true, inR_nat hi', getD_gt, wrap_succ hi' (by omega)]) (fun y hy => by
    have hy' : y.length = a0.length := by simpa using hy
    simp [laws_toNodeS.b1])
  simp only [List.length_replicate, map_getD] at this
  rw [this]; rfl
/-- Where the node of a path stands, -1 if nowhere. -/
def findN (l : List Nd) (p : List UInt8) : Int := findI (fun r => decide (r.path = p)) l
def spec_l04At.b1 (a0 : List Nd) (a1 : List UInt8) : Int → Option (Step (Int) (Int) (Unit)) :=
  fun x5_1 => bif (decide (x5_1 < (a0.length : Int))) then (bif inR x5_1 a0.length then (bif (decide (((gt a0 x5_1).path) = a1)) then (some (.ret x5_1)) else (some (.nxt (IntKind.wrap .i64 (x5_1 + 1))))) else none) else (some (.brk ()))
def spec_l04At.sh (k : Nat) (a0 : List Nd) (a1 : List UInt8) : Option (Int) :=
  (loopF (spec_l04At.b1 a0 a1) k 0).bind fun z => match z with | .inl t => some t | .inr _ => some (-1)
theorem spec_l04At.eq (a0 : List Nd) (a1 : List UInt8) (h : a0.length ≤ 1048576) : ∃ k, spec_l04At.sh k a0 a1 = some (findN a0 a1) := by
  refine ⟨a0.length + 1, ?_⟩
  unfold spec_l04At.sh findN
  rw [findI_run (fun r : Nd => decide (r.path = a1)) a0 (spec_l04At.b1 a0 a1) (fun i hi => by
    simp only [spec_l04At.b1, lt_nat, hi, decide_true, cond_true, inR_nat hi, getD_gt, wrap_succ hi (by omega)]
    rfl) (by simp [spec_l04At.b1])]
  by_cases hm : findI (fun r : Nd => decide (r.path = a1)) a0 = -1
  · simp [hm]
  · simp [hm]
def impl_at_1.sh (a0 : Nd) (a1 : List UInt8) : Option (Bool) :=
  some (decide (a0.path = a1))
theorem impl_at_1.eq (a0 : Nd) (a1 : List UInt8) : impl_at_1.sh a0 a1 = some (decide (a0.path = a1)) := rfl
def slices_IndexFuncN.b1 (a0 : List Nd) (a1 : Nd → Option Bool) : Int → Option (Step (Int) (Int) (Unit)) :=
  fun x8_1 => bif (decide (x8_1 < (a0.length : Int))) then (bif inR x8_1 a0.length then ((a1 (gt a0 x8_1)).bind fun z22 => bif z22 then (some (.ret x8_1)) else (some (.nxt (IntKind.wrap .i64 (x8_1 + 1))))) else none) else (some (.brk ()))
def slices_IndexFuncN.sh (k : Nat) (a0 : List Nd) (a1 : Nd → Option Bool) : Option (Int) :=
  (loopF (slices_IndexFuncN.b1 a0 a1) k 0).bind fun z => match z with | .inl t => some t | .inr _ => some (-1)
theorem slices_IndexFuncN.eq (a0 : List Nd) (a1 : Nd → Option Bool) (h : a0.length ≤ 4611686018427387904) {r : Int} (H : idxO a1 a0 = some r) : ∃ k, slices_IndexFuncN.sh k a0 a1 = some r := by
  refine ⟨a0.length + 1, ?_⟩
  have := idxO_find a0 a0.length 0 (by omega) r (by simpa using H) (slices_IndexFuncN.b1 a0 a1) (fun i hi => by
    simp only [slices_IndexFuncN.b1, lt_nat, hi, decide_true, cond_true, inR_nat hi, getD_gt, wrap_succ hi h]) (by simp [slices_IndexFuncN.b1]) (a0.length + 1) (by omega)
  simp only [Int.natCast_zero] at this
  unfold slices_IndexFuncN.sh
  rw [this]
  by_cases hr : r = -1
  · simp [hr]
  · simp [hr]
def impl_at.sh (a0 : List Nd) (a1 : List UInt8) : Option (Int) :=
  bif decide (a0.length ≤ 4611686018427387904) then (((idxO (fun (x0_ : Nd) => some (decide (x0_.path = a1))) a0)).bind fun z12 => some z12) else none
theorem impl_at.eq (a0 : List Nd) (a1 : List UInt8) (h : a0.length ≤ 1048576) : impl_at.sh a0 a1 = some (findN a0 a1) := by
  have h1 : a0.length ≤ 4611686018427387904 := by omega
  have h2 := idxO_some (p := fun (x0_ : Nd) => some (decide (x0_.path = a1))) (q := fun r => decide (r.path = a1)) (l := a0) (fun _ _ => rfl)
  simp only [impl_at.sh, h1, decide_true, cond_true, h2, Option.bind_some, findN]
def laws_eqNodeS.b1 (a0 : List Nd) (a1 : List Nd) : Int → Option (Step (Bool) (Int) (Unit)) :=
  fun x5_2 => bif (decide (x5_2 < (a0.length : Int))) then (bif inR x5_2 a0.length then (bif inR x5_2 a1.length then (bif (!(decide ((gt a0 x5_2) = (gt a1 x5_2)))) then (some (.ret false)) else (some (.nxt (IntKind.wrap .i64 (x5_2 + 1))))) else none) else none) else (some (.brk ()))
def laws_eqNodeS.sh (k : Nat) (a0 : List Nd) (a1 : List Nd) : Option (Bool) :=
  bif (!decide ((a0.length : Int) = (a1.length : Int))) then (some false) else ((loopF (laws_eqNodeS.b1 a0 a1) k 0).bind fun z => match z with | .inl t => some t | .inr _ => some true)
theorem laws_eqNodeS.eq (a0 a1 : List Nd) (h : a0.length ≤ 4611686018427387904) : ∃ k, laws_eqNodeS.sh k a0 a1 = some (decide (a0 = a1)) := by
  refine ⟨a0.length + 1, ?_⟩
  unfold laws_eqNodeS.sh
  by_cases hl : a0.length = a1.length
  · rw [eq_run a0 a1 (laws_eqNodeS.b1 a0 a1) hl (fun i hi => by
      have hi2 : i < a1.length := by omega
      simp only [laws_eqNodeS.b1, lt_nat, hi, decide_true, cond_true, inR_nat hi, inR_nat hi2, getD_gt, wrap_succ hi h]
      by_cases he : a0.getD i default = a1.getD i default
      · simp only [he, decide_true, Bool.not_true, cond_false, if_true]
      · simp only [he, decide_false, Bool.not_false, cond_true, if_false]) (by simp [laws_eqNodeS.b1])]
    have : (a0.length : Int) = (a1.length : Int) := by omega
    by_cases he : a0 = a1 <;> simp [this, he]
  · have h1 : ¬ (a0.length : Int) = (a1.length : Int) := by omega
    have h2 : a0 ≠ a1 := fun e => hl (by rw [e])
    simp [h1, h2]

end Go.UL
