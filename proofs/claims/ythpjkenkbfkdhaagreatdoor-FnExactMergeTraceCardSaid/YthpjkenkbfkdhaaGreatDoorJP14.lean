/- Plain Lean: what the functions compute. -/
import Derived.Test.YthpjkenkbfkdhaaGreatDoorJP13
set_option linter.unusedVariables false
set_option linter.unusedSimpArgs false
namespace Go.UL
open Go.RowKit
/-! ### stacks -/
def szRecSSGo : List (List Rec) → Int → Int
  | [], a => a
  | x :: l, a => if szRecS x a < 0 then -1 else szRecSSGo l (szRecS x a)
def szRecSS (l : List (List Rec)) (left : Int) : Int := if left - (l.length : Int) < 0 then -1 else szRecSSGo l (left - (l.length : Int))
theorem szRecSSGo_le : ∀ {l : List (List Rec)} {a : Int}, 0 ≤ szRecSSGo l a → 0 ≤ a → szRecSSGo l a ≤ a ∧ ∀ y ∈ l, (y.length : Int) ≤ a ∧ ∀ x ∈ y, (x.path.length : Int) ≤ a ∧ (x.body.length : Int) ≤ a := by
  intro l
  induction l with
  | nil => intro a _ _; exact ⟨Int.le_refl _, by simp⟩
  | cons y l ih =>
    intro a h h0
    simp only [szRecSSGo] at h ⊢
    by_cases hx : szRecS y a < 0
    · simp [hx] at h
    · simp only [hx, if_false] at h ⊢
      have h1 := szRecS_le hx h0
      have h2 := ih h (by omega)
      refine ⟨by omega, ?_⟩
      intro z hz
      rcases List.mem_cons.1 hz with rfl | hz
      · exact ⟨h1.2.2.1, h1.2.2.2⟩
      · have := h2.2 z hz
        exact ⟨by omega, fun x hx => by have := this.2 x hx; omega⟩
theorem szSS_of {l : List (List Rec)} {a : Int} (h : ¬ szRecSS l a < 0) (h0 : 0 ≤ a) (ha : a ≤ 1048576) : l.length ≤ 1048576 ∧ (∀ y ∈ l, y.length ≤ 1048576) ∧ (∀ y ∈ l, ∀ x ∈ y, x.path.length ≤ 1048576) ∧ (∀ y ∈ l, ∀ x ∈ y, x.body.length ≤ 1048576) ∧ 0 ≤ szRecSS l a ∧ szRecSS l a ≤ 1048576 := by
  unfold szRecSS at *
  by_cases hl : a - (l.length : Int) < 0
  · simp [hl] at h
  · simp only [hl, if_false] at h ⊢
    have := szRecSSGo_le (l := l) (a := a - (l.length : Int)) (by omega) (by omega)
    refine ⟨by omega, fun y hy => ?_, fun y hy x hx => ?_, fun y hy x hx => ?_, by omega, by omega⟩
    · have := (this.2 y hy).1; omega
    · have := ((this.2 y hy).2 x hx).1; omega
    · have := ((this.2 y hy).2 x hx).2; omega
def laws_szRecordSS.b1 (a0 : List (List Rec)) : Int × Int → Option (Step (Int) (Int × Int) (Int)) :=
  fun q => match q with
  | (x1_2, x5_3) => bif (decide (x5_3 < (a0.length : Int))) then (bif inR x5_3 a0.length then (bif decide ((0 : Int) ≤ x1_2) then (bif decide ((x1_2 : Int) ≤ 1048576) then (bif decide ((gt a0 x5_3).length ≤ 9223372036854775807) then (bif decide (∀ x ∈ (gt a0 x5_3), okRec x) then (bif (decide ((szRecS (gt a0 x5_3) x1_2) < 0)) then (some (.ret (-1))) else (some (.nxt ((szRecS (gt a0 x5_3) x1_2), IntKind.wrap .i64 (x5_3 + 1))))) else none) else none) else none) else none) else none) else (some (.brk x1_2))
def laws_szRecordSS.sh (k : Nat) (a0 : List (List Rec)) (a1 : Int) : Option (Int) :=
  bif (decide ((IntKind.wrap .i64 (a1 - (a0.length : Int))) < 0)) then (some (-1)) else ((loopF (laws_szRecordSS.b1 a0) k (IntKind.wrap .i64 (a1 - (a0.length : Int)), 0)).bind fun z => match z with | .inl t => some t | .inr x1_7 => some x1_7)
theorem laws_szRecordSS.eq (a0 : List (List Rec)) (a1 : Int) (h0 : 0 ≤ a1) (h1 : a1 ≤ 1048576) (h2 : a0.length ≤ 9223372036854775807) (h3 : ∀ l ∈ a0, l.length ≤ 9223372036854775807) (h4 : ∀ l ∈ a0, ∀ x ∈ l, okRec x) : ∃ k, laws_szRecordSS.sh k a0 a1 = some (szRecSS a0 a1) := by
  refine ⟨a0.length + 1, ?_⟩
  unfold laws_szRecordSS.sh szRecSS
  rw [wrap_small (n := a1 - (a0.length : Int)) (by omega) (by omega)]
  by_cases hl : a1 - (a0.length : Int) < 0
  · simp [hl]
  · simp only [hl, decide_false, cond_false, if_false]
    have key : ∀ (d i : Nat) (a : Int) (k : Nat), i + d = a0.length → d < k → 0 ≤ a → a ≤ 1048576 → ∃ z, loopF (laws_szRecordSS.b1 a0) k (a, (i : Int)) = some z ∧ (match z with | .inl t => some t | .inr x => some x) = some (szRecSSGo (a0.drop i) a) := by
      intro d
      induction d with
      | zero =>
        intro i a k hi hk _ _
        obtain ⟨k, rfl⟩ : ∃ j, k = j + 1 := ⟨k - 1, by omega⟩
        have : i = a0.length := by omega
        subst this
        exact ⟨.inr a, by simp [loopF, laws_szRecordSS.b1], by simp [szRecSSGo]⟩
      | succ d ih =>
        intro i a k hi hk ha0 ha1
        obtain ⟨k, rfl⟩ : ∃ j, k = j + 1 := ⟨k - 1, by omega⟩
        have hlt : i < a0.length := by omega
        have hg : a0.getD i default = a0[i] := getD_el hlt
        have e3 := h3 a0[i] (List.getElem_mem hlt)
        have e4 := h4 a0[i] (List.getElem_mem hlt)
        rw [List.drop_eq_getElem_cons hlt, loopF]
        simp only [laws_szRecordSS.b1, lt_nat, hlt, decide_true, cond_true, inR_nat hlt, getD_gt, hg, ha0, ha1, e3, decide_eq_true e4, wrap_succ hlt (by omega)]
        by_cases hx : szRecS a0[i] a < 0
        · exact ⟨.inl (-1), by simp [hx], by simp [szRecSSGo, hx]⟩
        · have hle := szRecS_le hx ha0
          obtain ⟨z, hz, hP⟩ := ih (i + 1) (szRecS a0[i] a) k (by omega) (by omega) (by omega) (by omega)
          rw [Int.natCast_add, Int.natCast_one] at hz
          exact ⟨z, by simp only [hx, decide_false, cond_false, Option.bind_some]; exact hz, by simp only [szRecSSGo, hx, if_false]; exact hP⟩
    obtain ⟨z, hz, hP⟩ := key a0.length 0 (a1 - (a0.length : Int)) (a0.length + 1) (by omega) (by omega) (by omega) (by omega)
    simp only [Int.natCast_zero] at hz
    rw [hz]
    simpa using hP
def laws_toRecordSS.b1 (a0 : List (List Rec)) : Int × List (List Rec) → Option (Step (List (List Rec)) (Int × List (List Rec)) (List (List Rec))) :=
  fun q => match q with
  | (x4_8, y9) => bif (decide (x4_8 < (a0.length : Int))) then (bif inR x4_8 a0.length then (bif decide ((gt a0 x4_8).length ≤ 1048576) then (bif inR x4_8 y9.length then (some (.nxt (IntKind.wrap .i64 (x4_8 + 1), setI y9 x4_8 (gt a0 x4_8)))) else none) else none) else none) else (some (.brk y9))
def laws_toRecordSS.sh (k : Nat) (a0 : List (List Rec)) : Option (List (List Rec)) :=
  bif decide (a0.length * 24 ≤ 281474976710656) then ((loopF (laws_toRecordSS.b1 a0) k (0, List.replicate a0.length ([] : List Rec))).bind fun z => match z with | .inl t => some t | .inr y13 => some y13) else none
theorem laws_toRecordSS.eq (a0 : List (List Rec)) (h : a0.length ≤ 1048576) (h1 : ∀ l ∈ a0, l.length ≤ 1048576) : ∃ k, laws_toRecordSS.sh k a0 = some a0 := by
  refine ⟨a0.length + 1, ?_⟩
  unfold laws_toRecordSS.sh
  have hb : a0.length * 24 ≤ 281474976710656 := by omega
  simp only [hb, decide_true, cond_true]
  have := fill_run (List.replicate a0.length ([] : List Rec)) (fun i => a0.getD i default) (laws_toRecordSS.b1 a0) (fun i hi y hy => by
    have hi' : i < a0.length := by simpa using hi
    have hy' : y.length = a0.length := by simpa using hy
    have e := h1 a0[i] (List.getElem_mem hi')
    rw [← getD_el hi'] at e
    simp only [laws_toRecordSS.b1, hy', lt_nat, hi', decide_true, cond_true, inR_nat hi', getD_gt, e, wrap_succ hi' (by omega)]) (fun y hy => by
    have hy' : y.length = a0.length := by simpa using hy
    simp [laws_toRecordSS.b1])
  simp only [List.length_replicate, map_getD] at this
  rw [this]; rfl
def laws_eqRecordSS.b1 (a0 : List (List Rec)) (a1 : List (List Rec)) : Int → Option (Step (Bool) (Int) (Unit)) :=
  fun x5_2 => bif (decide (x5_2 < (a0.length : Int))) then (bif inR x5_2 a0.length then (bif inR x5_2 a1.length then (bif decide ((gt a0 x5_2).length ≤ 4611686018427387904) then (bif (!(decide ((gt a0 x5_2) = (gt a1 x5_2)))) then (some (.ret false)) else (some (.nxt (IntKind.wrap .i64 (x5_2 + 1))))) else none) else none) else none) else (some (.brk ()))
def laws_eqRecordSS.sh (k : Nat) (a0 : List (List Rec)) (a1 : List (List Rec)) : Option (Bool) :=
  bif (!decide ((a0.length : Int) = (a1.length : Int))) then (some false) else ((loopF (laws_eqRecordSS.b1 a0 a1) k 0).bind fun z => match z with | .inl t => some t | .inr _ => some true)
theorem laws_eqRecordSS.eq (a0 a1 : List (List Rec)) (h : a0.length ≤ 1048576) (h1 : ∀ l ∈ a0, l.length ≤ 1048576) : ∃ k, laws_eqRecordSS.sh k a0 a1 = some (decide (a0 = a1)) := by
  refine ⟨a0.length + 1, ?_⟩
  unfold laws_eqRecordSS.sh
  by_cases hl : a0.length = a1.length
  · rw [eq_run a0 a1 (laws_eqRecordSS.b1 a0 a1) hl (fun i hi => by
      have hi2 : i < a1.length := by omega
      have e := h1 a0[i] (List.getElem_mem hi)
      rw [← getD_el hi] at e
      have e' : (a0.getD i default).length ≤ 4611686018427387904 := by omega
      simp only [laws_eqRecordSS.b1, lt_nat, hi, decide_true, cond_true, inR_nat hi, inR_nat hi2, getD_gt, e', wrap_succ hi (by omega)]
      by_cases he : a0.getD i default = a1.getD i default
      · simp only [he, decide_true, Bool.not_true, cond_false, if_true]
      · simp only [he, decide_false, Bool.not_false, cond_true, if_false]) (by simp [laws_eqRecordSS.b1])]
    have : (a0.length : Int) = (a1.length : Int) := by omega
    by_cases he : a0 = a1 <;> simp [this, he]
  · have h1 : ¬ (a0.length : Int) = (a1.length : Int) := by omega
    have h2 : a0 ≠ a1 := fun e => hl (by rw [e])
    simp [h1, h2]
def stackOK (l : List (List Rec)) : Bool := decide (l.length ≤ 5) && l.all fun x => decide ((layerFault x).2 = 0)
theorem layerFaultL_zero (l : List Rec) : decide ((layerFaultL l).2 = 0) = decide ((layerFault l).2 = 0) := by
  unfold layerFaultL
  by_cases h : 4096 < l.length
  · have : ¬ (layerFault l).2 = 0 := fun hf => by have := layerOK_len hf; omega
    simp [h, this]
  · simp [h]
theorem stackOK_layer {l : List (List Rec)} (h : stackOK l = true) : l.length ≤ 5 ∧ ∀ x ∈ l, (layerFault x).2 = 0 := by
  simpa [stackOK] using h
def spec_l05Stack.b1 (a0 : List (List Rec)) : Int → Option (Step (Bool) (Int) (Unit)) :=
  fun x3_2 => bif (decide (x3_2 < (a0.length : Int))) then (bif inR x3_2 a0.length then (bif decide ((gt a0 x3_2).length ≤ 1048576) then (bif decide (∀ x ∈ (gt a0 x3_2), x.path.length ≤ 1048576) then (bif (!(decide ((layerFault (gt a0 x3_2)).2 = 0))) then (some (.ret false)) else (some (.nxt (IntKind.wrap .i64 (x3_2 + 1))))) else none) else none) else none) else (some (.brk ()))
def spec_l05Stack.sh (k : Nat) (a0 : List (List Rec)) : Option (Bool) :=
  bif (decide (5 < (a0.length : Int))) then (some false) else ((loopF (spec_l05Stack.b1 a0) k 0).bind fun z => match z with | .inl t => some t | .inr _ => some true)
theorem spec_l05Stack.eq (a0 : List (List Rec)) (h0 : a0.length ≤ 1048576) (h1 : ∀ l ∈ a0, l.length ≤ 1048576) (h2 : ∀ l ∈ a0, ∀ x ∈ l, x.path.length ≤ 1048576) : ∃ k, spec_l05Stack.sh k a0 = some (stackOK a0) := by
  refine ⟨a0.length + 1, ?_⟩
  unfold spec_l05Stack.sh stackOK
  by_cases hl : a0.length ≤ 5
  · have hl' : ¬ (5 : Int) < (a0.length : Int) := by omega
    simp only [hl', decide_false, cond_false]
    have hb : ∀ i : Nat, i < a0.length → spec_l05Stack.b1 a0 i = some (sc (if !decide ((layerFault (a0.getD i default)).2 = 0) then some false else none : Option Bool) ((i : Int) + 1)) := by
      intro i hi
      have e := h1 a0[i] (List.getElem_mem hi)
      have e2 := h2 a0[i] (List.getElem_mem hi)
      have eg : a0.getD i default = gt a0 (i : Int) := rfl
      rw [← getD_el hi, eg] at e e2
      rw [eg]
      simp only [spec_l05Stack.b1, lt_nat, hi, decide_true, cond_true, inR_nat hi, e, decide_eq_true e2, wrap_succ hi (by omega)]
      by_cases hf : (layerFault (gt a0 (i : Int))).2 = 0
      · simp only [hf, decide_true, Bool.not_true, cond_false, Bool.false_eq_true, if_false, sc_none]
      · simp only [hf, decide_false, Bool.not_false, cond_true, if_true, sc_some]
    rw [loop_scan0 a0.length _ hb (by simp [spec_l05Stack.b1]) _ (by omega), find_any0 a0 default (fun x => !decide ((layerFault x).2 = 0)) false]
    have hna : (a0.any fun x => !decide ((layerFault x).2 = 0)) = !(a0.all fun x => decide ((layerFault x).2 = 0)) := by rw [List.not_all_eq_any_not]
    rw [hna]
    simp only [hl, decide_true, Bool.true_and]
    cases (a0.all fun x => decide ((layerFault x).2 = 0)) <;> simp
  · have hl' : (5 : Int) < (a0.length : Int) := by omega
    simp [hl', hl]
def impl_allSS_1.sh (a0 : List Rec) (a1 : List Rec → Option Bool) : Option (Bool) :=
  (a1 a0).bind fun z1 => some (!z1)
theorem impl_allSS_1.eq (a0 : List Rec) (a1 : List Rec → Option Bool) {r : Bool} (H : ((a1 a0).map (!·)) = some r) : impl_allSS_1.sh a0 a1 = some r := by
  unfold impl_allSS_1.sh
  cases h : a1 a0 with
  | none => rw [h] at H; cases H
  | some z => rw [h] at H; exact H
def slices_IndexFuncSS.b1 (a0 : List (List Rec)) (a1 : List Rec → Option Bool) : Int → Option (Step (Int) (Int) (Unit)) :=
  fun x8_1 => bif (decide (x8_1 < (a0.length : Int))) then (bif inR x8_1 a0.length then ((a1 (gt a0 x8_1)).bind fun z24 => bif z24 then (some (.ret x8_1)) else (some (.nxt (IntKind.wrap .i64 (x8_1 + 1))))) else none) else (some (.brk ()))
def slices_IndexFuncSS.sh (k : Nat) (a0 : List (List Rec)) (a1 : List Rec → Option Bool) : Option (Int) :=
  (loopF (slices_IndexFuncSS.b1 a0 a1) k 0).bind fun z => match z with | .inl t => some t | .inr _ => some (-1)
theorem slices_IndexFuncSS.eq (a0 : List (List Rec)) (a1 : List Rec → Option Bool) (h : a0.length ≤ 4611686018427387904) {r : Int} (H : idxO a1 a0 = some r) : ∃ k, slices_IndexFuncSS.sh k a0 a1 = some r := by
  refine ⟨a0.length + 1, ?_⟩
  have := idxO_find a0 a0.length 0 (by omega) r (by simpa using H) (slices_IndexFuncSS.b1 a0 a1) (fun i hi => by
    simp only [slices_IndexFuncSS.b1, lt_nat, hi, decide_true, cond_true, inR_nat hi, getD_gt, wrap_succ hi h]) (by simp [slices_IndexFuncSS.b1]) (a0.length + 1) (by omega)
  simp only [Int.natCast_zero] at this
  unfold slices_IndexFuncSS.sh
  rw [this]
  by_cases hr : r = -1
  · simp [hr]
  · simp [hr]
def slices_ContainsFuncSS.sh (a0 : List (List Rec)) (a1 : List Rec → Option Bool) : Option (Bool) :=
  bif decide (a0.length ≤ 4611686018427387904) then (((idxO a1 a0)).bind fun z2 => some (decide (0 ≤ z2))) else none
theorem slices_ContainsFuncSS.eq (a0 : List (List Rec)) (a1 : List Rec → Option Bool) (h : a0.length ≤ 4611686018427387904) {r : Bool} (H : anyO a1 a0 = some r) : slices_ContainsFuncSS.sh a0 a1 = some r := by
  obtain ⟨i, hi⟩ := any_idxO H
  have := (idxO_any hi).2
  rw [H] at this
  simp only [slices_ContainsFuncSS.sh, h, decide_true, cond_true, hi, Option.bind_some, this]
def impl_allSS.sh (a0 : List (List Rec)) (a1 : List Rec → Option Bool) : Option (Bool) :=
  bif decide (a0.length ≤ 4611686018427387904) then (((anyO (fun (x0_ : List Rec) => ((a1 x0_).map (!·))) a0)).bind fun z12 => some (!z12)) else none
theorem impl_allSS.eq (a0 : List (List Rec)) (a1 : List Rec → Option Bool) (h : a0.length ≤ 4611686018427387904) {r : Bool} (H : allO a1 a0 = some r) : impl_allSS.sh a0 a1 = some r := by
  simp only [impl_allSS.sh, h, decide_true, cond_true]
  have := anyO_not (p := a1) a0
  rw [H] at this
  rw [show (anyO (fun (x0_ : List Rec) => (a1 x0_).map (!·)) a0) = _ from this]
  simp
def impl_StackOK.sh (a0 : List (List Rec)) : Option (Bool) :=
  ((bif (decide ((a0.length : Int) ≤ 5)) then (bif decide (a0.length ≤ 4611686018427387904) then (((allO (fun (x0_ : List Rec) => bif decide (x0_.length ≤ 1048576) then (bif decide (∀ x ∈ x0_, x.path.length ≤ 1048576) then (some (decide ((layerFaultL x0_).2 = 0))) else none) else none) a0)).bind fun z7 => some z7) else none) else some false)).bind fun z2 => some z2
theorem impl_StackOK.eq (a0 : List (List Rec)) (h0 : a0.length ≤ 1048576) (h1 : ∀ l ∈ a0, l.length ≤ 1048576) (h2 : ∀ l ∈ a0, ∀ x ∈ l, x.path.length ≤ 1048576) : impl_StackOK.sh a0 = some (stackOK a0) := by
  unfold impl_StackOK.sh stackOK
  have h3 : a0.length ≤ 4611686018427387904 := by omega
  have e : allO (fun (x0_ : List Rec) => bif decide (x0_.length ≤ 1048576) then (bif decide (∀ x ∈ x0_, x.path.length ≤ 1048576) then (some (decide ((layerFaultL x0_).2 = 0))) else none) else none) a0 = some (a0.all fun x => decide ((layerFault x).2 = 0)) :=
    allO_some fun x hx => by simp only [h1 x hx, decide_true, cond_true, decide_eq_true (h2 x hx), layerFaultL_zero]
  simp only [h3, decide_true, cond_true, e, Option.bind_some]
  by_cases hl : a0.length ≤ 5
  · have hl' : (a0.length : Int) ≤ 5 := by omega
    simp [hl, hl']
  · have hl' : ¬ (a0.length : Int) ≤ 5 := by omega
    simp [hl, hl']
/-! ### the highest layer that cuts a path off -/
def cutDN (l : List (List Rec)) (p : List UInt8) : Nat → Int
  | 0 => 0
  | n + 1 => if cutsR (l.getD n default) p then (n : Int) + 1 else cutDN l p n
def cutD (l : List (List Rec)) (p : List UInt8) : Int := cutDN l p l.length
theorem cutDN_none {l : List (List Rec)} {p : List UInt8} : ∀ m, (∀ j, j < m → cutsR (l.getD j default) p = false) → cutDN l p m = 0 := by
  intro m
  induction m with
  | zero => intro _; rfl
  | succ m ih => intro h; rw [cutDN, h m (by omega)]; exact ih fun j hj => h j (by omega)
theorem cutDN_some {l : List (List Rec)} {p : List UInt8} {i : Nat} : ∀ m, i < m → cutsR (l.getD i default) p = true → (∀ j, i < j → j < m → cutsR (l.getD j default) p = false) → cutDN l p m = (i : Int) + 1 := by
  intro m
  induction m with
  | zero => intro h; omega
  | succ m ih =>
    intro h hc hj
    rw [cutDN]
    by_cases e : i = m
    · subst e; rw [hc]; rfl
    · rw [hj m (by omega) (by omega)]; exact ih (by omega) hc fun j h1 h2 => hj j h1 (by omega)
def spec_l07Cut.b1 (a0 : List (List Rec)) (a1 : List UInt8) : Int → Option (Step (Int) (Int) (Unit)) :=
  fun x5_1 => bif (decide (0 ≤ x5_1)) then (bif inR x5_1 a0.length then (bif decide ((gt a0 x5_1).length ≤ 1048576) then (bif decide (a1.length ≤ 1048576) then (bif (cutsR (gt a0 x5_1) a1) then (some (.ret (IntKind.wrap .i64 (x5_1 + 1)))) else (some (.nxt (IntKind.wrap .i64 (x5_1 - 1))))) else none) else none) else none) else (some (.brk ()))
def spec_l07Cut.sh (k : Nat) (a0 : List (List Rec)) (a1 : List UInt8) : Option (Int) :=
  (loopF (spec_l07Cut.b1 a0 a1) k (IntKind.wrap .i64 ((a0.length : Int) - 1))).bind fun z => match z with | .inl t => some t | .inr _ => some 0
theorem spec_l07Cut.eq (a0 : List (List Rec)) (a1 : List UInt8) (h0 : a0.length ≤ 1048576) (h1 : a1.length ≤ 1048576) (h2 : ∀ l ∈ a0, l.length ≤ 1048576) : ∃ k, spec_l07Cut.sh k a0 a1 = some (cutD a0 a1) := by
  refine ⟨a0.length + 1, ?_⟩
  unfold spec_l07Cut.sh cutD
  rw [wrap_small (n := (a0.length : Int) - 1) (by omega) (by omega)]
  have key : ∀ (m k : Nat), m ≤ a0.length → m < k → ∃ z, loopF (spec_l07Cut.b1 a0 a1) k ((m : Int) - 1) = some z ∧ (match z with | .inl t => some t | .inr _ => some 0) = some (cutDN a0 a1 m) := by
    intro m
    induction m with
    | zero =>
      intro k _ hk
      obtain ⟨k, rfl⟩ : ∃ j, k = j + 1 := ⟨k - 1, by omega⟩
      exact ⟨.inr (), by simp [loopF, spec_l07Cut.b1], by simp [cutDN]⟩
    | succ m ih =>
      intro k hm hk
      obtain ⟨k, rfl⟩ : ∃ j, k = j + 1 := ⟨k - 1, by omega⟩
      have hlt : m < a0.length := by omega
      have e : ((m + 1 : Nat) : Int) - 1 = (m : Int) := by omega
      have e1 := h2 a0[m] (List.getElem_mem hlt)
      rw [← getD_el hlt] at e1
      have h9 : (0 : Int) ≤ (m : Int) := by omega
      rw [e, loopF]
      simp only [spec_l07Cut.b1, h9, decide_true, cond_true, inR_nat hlt, getD_gt, e1, h1, wrap_succ hlt (by omega), cutDN]
      rcases bool_two (cutsR (a0.getD m default) a1) with hc | hc
      · exact ⟨.inl ((m : Int) + 1), by rw [hc]; rfl, by rw [hc]; rfl⟩
      · obtain ⟨z, hz, hP⟩ := ih k (by omega) (by omega)
        refine ⟨z, ?_, by rw [hc]; exact hP⟩
        rw [hc, wrap_small (n := (m : Int) - 1) (by omega) (by omega)]
        exact hz
  obtain ⟨z, hz, hP⟩ := key a0.length (a0.length + 1) (by omega) (by omega)
  rw [hz]
  exact hP
def stackCode (a : List (List Rec)) : Int := if 4096 < a.length then 2 else if !stackOK a then 1 else 0
def pathCode (a : List (List Rec)) (p : List UInt8) : Int := if 65536 < p.length then 2 else if stackCode a ≠ 0 then stackCode a else if !pathOK p then 10 else 0
def cutDepth (a : List (List Rec)) (p : List UInt8) : Int × Int := if pathCode a p = 0 then (cutD a p, 0) else (0, pathCode a p)
theorem lenSS4096 (l : List (List Rec)) : decide ((4096 : Int) < (l.length : Int)) = decide (4096 < l.length) := by rw [decide_eq_decide]; omega
def impl_isLongListSS.sh (a0 : List (List Rec)) : Option (Bool) :=
  some (decide (4096 < (a0.length : Int)))
theorem impl_isLongListSS.eq (a0 : List (List Rec)) : impl_isLongListSS.sh a0 = some (decide (4096 < a0.length)) := by
  unfold impl_isLongListSS.sh
  rw [lenSS4096]
def impl_stackCode.sh (a0 : List (List Rec)) : Option (Int) :=
  bif decide (a0.length ≤ 1048576) then (bif decide (∀ l ∈ a0, l.length ≤ 1048576) then (bif decide (∀ l ∈ a0, ∀ x ∈ l, x.path.length ≤ 1048576) then (bif decide (([.inl (decide (4096 < a0.length)), .inr 2, .inl (!(stackOK a0)), .inr 1] : List (Bool ⊕ Int)).length ≤ 4611686018427387904) then ((some (firstOf ([.inl (decide (4096 < a0.length)), .inr 2, .inl (!(stackOK a0)), .inr 1] : List (Bool ⊕ Int)))).bind fun z17 => some z17) else none) else none) else none) else none
theorem impl_stackCode.eq (a0 : List (List Rec)) (h0 : a0.length ≤ 1048576) (h1 : ∀ l ∈ a0, l.length ≤ 1048576) (h2 : ∀ l ∈ a0, ∀ x ∈ l, x.path.length ≤ 1048576) : impl_stackCode.sh a0 = some (stackCode a0) := by
  unfold impl_stackCode.sh stackCode
  simp only [h0, decide_true, cond_true, decide_eq_true h1, decide_eq_true h2, firstOf_c, List.length_cons, List.length_nil, firstOf, anyB, anyI]
  by_cases h : 4096 < a0.length
  · simp [h]
  · rcases bool_two (stackOK a0) with h3 | h3 <;> simp [h, h3]

end Go.UL
