/- Plain Lean: what the functions compute. -/
import Derived.Test.YthpjkenkbfkdhaaGreatDoorJP6
set_option linter.unusedVariables false
set_option linter.unusedSimpArgs false
namespace Go.UL
open Go.RowKit
/-! ### layers: sizes, copies, places -/
def szRecGo : List Rec → Int → Int
  | [], a => a
  | x :: l, a => if szRec x a < 0 then -1 else szRecGo l (szRec x a)
def szRecS (l : List Rec) (left : Int) : Int := if left - (l.length : Int) < 0 then -1 else szRecGo l (left - (l.length : Int))
theorem szRec_le {r : Rec} {a : Int} (h : 0 ≤ szRec r a) : szRec r a ≤ a ∧ (r.path.length : Int) ≤ a ∧ (r.body.length : Int) ≤ a := by
  unfold szRec at *
  split at h
  · omega
  · split at h
    · omega
    · rename_i h1 h2; simp only [h1, h2, if_false]; omega
theorem szRecGo_le : ∀ {l : List Rec} {a : Int}, 0 ≤ szRecGo l a → 0 ≤ a → szRecGo l a ≤ a ∧ ∀ x ∈ l, (x.path.length : Int) ≤ a ∧ (x.body.length : Int) ≤ a := by
  intro l
  induction l with
  | nil => intro a _ _; exact ⟨Int.le_refl _, by simp⟩
  | cons x l ih =>
    intro a h h0
    simp only [szRecGo] at h ⊢
    by_cases hx : szRec x a < 0
    · simp [hx] at h
    · simp only [hx, if_false] at h ⊢
      have h1 := szRec_le (r := x) (a := a) (by omega)
      have h2 := ih h (by omega)
      refine ⟨by omega, ?_⟩
      intro y hy
      rcases List.mem_cons.1 hy with rfl | hy
      · omega
      · have := h2.2 y hy; omega
theorem szRecS_le {l : List Rec} {a : Int} (h : ¬ szRecS l a < 0) (h0 : 0 ≤ a) : 0 ≤ szRecS l a ∧ szRecS l a ≤ a ∧ (l.length : Int) ≤ a ∧ ∀ x ∈ l, (x.path.length : Int) ≤ a ∧ (x.body.length : Int) ≤ a := by
  unfold szRecS at *
  by_cases hl : a - (l.length : Int) < 0
  · simp [hl] at h
  · simp only [hl, if_false] at h ⊢
    have := szRecGo_le (l := l) (a := a - (l.length : Int)) (by omega) (by omega)
    refine ⟨by omega, by omega, by omega, fun x hx => ?_⟩
    have := this.2 x hx; omega
def laws_szRecordS.b1 (a0 : List Rec) : Int × Int → Option (Step (Int) (Int × Int) (Int)) :=
  fun q => match q with
  | (x1_2, x5_3) => bif (decide (x5_3 < (a0.length : Int))) then (bif inR x5_3 a0.length then (bif decide ((0 : Int) ≤ x1_2) then (bif decide ((x1_2 : Int) ≤ 1048576) then (bif decide ((gt a0 x5_3).path.length ≤ 9223372036854775807) then (bif decide ((gt a0 x5_3).body.length ≤ 9223372036854775807) then (bif (decide ((szRec (gt a0 x5_3) x1_2) < 0)) then (some (.ret (-1))) else (some (.nxt ((szRec (gt a0 x5_3) x1_2), IntKind.wrap .i64 (x5_3 + 1))))) else none) else none) else none) else none) else none) else (some (.brk x1_2))
def laws_szRecordS.sh (k : Nat) (a0 : List Rec) (a1 : Int) : Option (Int) :=
  bif (decide ((IntKind.wrap .i64 (a1 - (a0.length : Int))) < 0)) then (some (-1)) else ((loopF (laws_szRecordS.b1 a0) k (IntKind.wrap .i64 (a1 - (a0.length : Int)), 0)).bind fun z => match z with | .inl t => some t | .inr x1_7 => some x1_7)
theorem szRecGo_run (l : List Rec) (b : Int × Int → Option (Step Int (Int × Int) Int)) (hb : ∀ (i : Nat) (a : Int), i < l.length → 0 ≤ a → a ≤ 1048576 → b (a, i) = some (if szRec (l.getD i default) a < 0 then .ret (-1) else .nxt (szRec (l.getD i default) a, (i : Int) + 1))) (hn : ∀ a, b (a, l.length) = some (.brk a)) :
    ∀ (d i : Nat) (a : Int) (k : Nat), i + d = l.length → d < k → 0 ≤ a → a ≤ 1048576 → ∃ z, loopF b k (a, i) = some z ∧ (match z with | .inl t => some t | .inr x => some x) = some (szRecGo (l.drop i) a) := by
  intro d
  induction d with
  | zero =>
    intro i a k hi hk _ _
    obtain ⟨k, rfl⟩ : ∃ j, k = j + 1 := ⟨k - 1, by omega⟩
    have : i = l.length := by omega
    subst this
    exact ⟨.inr a, by rw [loopF, hn]; rfl, by simp [szRecGo]⟩
  | succ d ih =>
    intro i a k hi hk h0 h1
    obtain ⟨k, rfl⟩ : ∃ j, k = j + 1 := ⟨k - 1, by omega⟩
    have hlt : i < l.length := by omega
    have hg : l.getD i default = l[i] := by simp [List.getD_eq_getElem?_getD, List.getElem?_eq_getElem hlt]
    rw [List.drop_eq_getElem_cons hlt, loopF, hb i a hlt h0 h1, hg]
    by_cases hx : szRec l[i] a < 0
    · exact ⟨.inl (-1), by simp [hx], by simp [szRecGo, hx]⟩
    · have hle := szRec_le (r := l[i]) (a := a) (by omega)
      obtain ⟨z, hz, hP⟩ := ih (i + 1) (szRec l[i] a) k (by omega) (by omega) (by omega) (by omega)
      rw [Int.natCast_add, Int.natCast_one] at hz
      exact ⟨z, by simp only [hx, if_false, Option.bind_some]; exact hz, by simp only [szRecGo, hx, if_false]; exact hP⟩
theorem laws_szRecordS.eq (a0 : List Rec) (a1 : Int) (h0 : 0 ≤ a1) (h1 : a1 ≤ 1048576) (h2 : a0.length ≤ 9223372036854775807) (h3 : ∀ x ∈ a0, okRec x) : ∃ k, laws_szRecordS.sh k a0 a1 = some (szRecS a0 a1) := by
  refine ⟨a0.length + 1, ?_⟩
  unfold laws_szRecordS.sh szRecS
  rw [wrap_small (n := a1 - (a0.length : Int)) (by omega) (by omega)]
  by_cases hl : a1 - (a0.length : Int) < 0
  · simp [hl]
  · simp only [hl, decide_false, cond_false, if_false]
    obtain ⟨z, hz, hP⟩ := szRecGo_run a0 (laws_szRecordS.b1 a0) (fun i a hi ha0 ha1 => by
      have hg : a0.getD i default = a0[i] := by simp [List.getD_eq_getElem?_getD, List.getElem?_eq_getElem hi]
      have ho := h3 a0[i] (List.getElem_mem hi)
      simp only [laws_szRecordS.b1, lt_nat, hi, decide_true, cond_true, inR_nat hi, getD_gt, hg, ha0, ha1, ho.1, ho.2, wrap_succ hi (by omega)]
      by_cases hx : szRec a0[i] a < 0 <;> simp [hx]) (fun a => by simp [laws_szRecordS.b1]) a0.length 0 (a1 - (a0.length : Int)) (a0.length + 1) (by omega) (by omega) (by omega) (by omega)
    simp only [Int.natCast_zero] at hz
    rw [hz]
    simpa using hP
def laws_toRecordS.b1 (a0 : List Rec) : Int × List Rec → Option (Step (List Rec) (Int × List Rec) (List Rec)) :=
  fun q => match q with
  | (x4_8, y9) => bif (decide (x4_8 < (a0.length : Int))) then (bif inR x4_8 a0.length then (bif inR x4_8 y9.length then (some (.nxt (IntKind.wrap .i64 (x4_8 + 1), setI y9 x4_8 (gt a0 x4_8)))) else none) else none) else (some (.brk y9))
def laws_toRecordS.sh (k : Nat) (a0 : List Rec) : Option (List Rec) :=
  bif decide (a0.length * 56 ≤ 281474976710656) then ((loopF (laws_toRecordS.b1 a0) k (0, List.replicate a0.length (⟨0, [], [], 0, false⟩ : Rec))).bind fun z => match z with | .inl t => some t | .inr y13 => some y13) else none
theorem laws_toRecordS.eq (a0 : List Rec) (h : a0.length ≤ 1048576) : ∃ k, laws_toRecordS.sh k a0 = some a0 := by
  refine ⟨a0.length + 1, ?_⟩
  unfold laws_toRecordS.sh
  have h1 : a0.length * 56 ≤ 281474976710656 := by omega
  simp only [h1, decide_true, cond_true]
  have := fill_run (List.replicate a0.length (⟨0, [], [], 0, false⟩ : Rec)) (fun i => a0.getD i default) (laws_toRecordS.b1 a0) (fun i hi y hy => by
    have hi' : i < a0.length := by simpa using hi
    have hy' : y.length = a0.length := by simpa using hy
    simp only [laws_toRecordS.b1, hy', lt_nat, hi', decide_true, cond_true, inR_nat hi', getD_gt, wrap_succ hi' (by omega)]) (fun y hy => by
    have hy' : y.length = a0.length := by simpa using hy
    simp [laws_toRecordS.b1])
  simp only [List.length_replicate, map_getD] at this
  rw [this]; rfl
/-- Where the record of a path stands, -1 if nowhere. -/
def findR (l : List Rec) (p : List UInt8) : Int := findI (fun r => decide (r.path = p)) l
def spec_l03At.b1 (a0 : List Rec) (a1 : List UInt8) : Int → Option (Step (Int) (Int) (Unit)) :=
  fun x5_1 => bif (decide (x5_1 < (a0.length : Int))) then (bif inR x5_1 a0.length then (bif (decide (((gt a0 x5_1).path) = a1)) then (some (.ret x5_1)) else (some (.nxt (IntKind.wrap .i64 (x5_1 + 1))))) else none) else (some (.brk ()))
def spec_l03At.sh (k : Nat) (a0 : List Rec) (a1 : List UInt8) : Option (Int) :=
  (loopF (spec_l03At.b1 a0 a1) k 0).bind fun z => match z with | .inl t => some t | .inr _ => some (-1)
theorem spec_l03At.eq (a0 : List Rec) (a1 : List UInt8) (h : a0.length ≤ 1048576) : ∃ k, spec_l03At.sh k a0 a1 = some (findR a0 a1) := by
  refine ⟨a0.length + 1, ?_⟩
  unfold spec_l03At.sh findR
  rw [findI_run (fun r : Rec => decide (r.path = a1)) a0 (spec_l03At.b1 a0 a1) (fun i hi => by
    simp only [spec_l03At.b1, lt_nat, hi, decide_true, cond_true, inR_nat hi, getD_gt, wrap_succ hi (by omega)]
    rfl) (by simp [spec_l03At.b1])]
  by_cases hm : findI (fun r : Rec => decide (r.path = a1)) a0 = -1
  · simp [hm]
  · simp [hm]
def impl_isLongListR.sh (a0 : List Rec) : Option (Bool) :=
  some (decide (4096 < (a0.length : Int)))
theorem impl_isLongListR.eq (a0 : List Rec) : impl_isLongListR.sh a0 = some (decide (4096 < a0.length)) := by
  have : (4096 : Int) < (a0.length : Int) ↔ 4096 < a0.length := by omega
  simp [impl_isLongListR.sh, this]
def impl_find_1.sh (a0 : Rec) (a1 : List UInt8) : Option (Bool) :=
  some (decide (a0.path = a1))
theorem impl_find_1.eq (a0 : Rec) (a1 : List UInt8) : impl_find_1.sh a0 a1 = some (decide (a0.path = a1)) := rfl
def slices_IndexFuncR.b1 (a0 : List Rec) (a1 : Rec → Option Bool) : Int → Option (Step (Int) (Int) (Unit)) :=
  fun x8_1 => bif (decide (x8_1 < (a0.length : Int))) then (bif inR x8_1 a0.length then ((a1 (gt a0 x8_1)).bind fun z22 => bif z22 then (some (.ret x8_1)) else (some (.nxt (IntKind.wrap .i64 (x8_1 + 1))))) else none) else (some (.brk ()))
def slices_IndexFuncR.sh (k : Nat) (a0 : List Rec) (a1 : Rec → Option Bool) : Option (Int) :=
  (loopF (slices_IndexFuncR.b1 a0 a1) k 0).bind fun z => match z with | .inl t => some t | .inr _ => some (-1)
theorem slices_IndexFuncR.eq (a0 : List Rec) (a1 : Rec → Option Bool) (h : a0.length ≤ 4611686018427387904) {r : Int} (H : idxO a1 a0 = some r) : ∃ k, slices_IndexFuncR.sh k a0 a1 = some r := by
  refine ⟨a0.length + 1, ?_⟩
  have := idxO_find a0 a0.length 0 (by omega) r (by simpa using H) (slices_IndexFuncR.b1 a0 a1) (fun i hi => by
    simp only [slices_IndexFuncR.b1, lt_nat, hi, decide_true, cond_true, inR_nat hi, getD_gt, wrap_succ hi h]) (by simp [slices_IndexFuncR.b1]) (a0.length + 1) (by omega)
  simp only [Int.natCast_zero] at this
  unfold slices_IndexFuncR.sh
  rw [this]
  by_cases hr : r = -1
  · simp [hr]
  · simp [hr]
def impl_find.sh (a0 : List Rec) (a1 : List UInt8) : Option (Int) :=
  bif decide (a0.length ≤ 4611686018427387904) then (((idxO (fun (x0_ : Rec) => some (decide (x0_.path = a1))) a0)).bind fun z12 => some z12) else none
theorem impl_find.eq (a0 : List Rec) (a1 : List UInt8) (h : a0.length ≤ 1048576) : impl_find.sh a0 a1 = some (findR a0 a1) := by
  have h1 : a0.length ≤ 4611686018427387904 := by omega
  have h2 := idxO_some (p := fun (x0_ : Rec) => some (decide (x0_.path = a1))) (q := fun r => decide (r.path = a1)) (l := a0) (fun _ _ => rfl)
  simp only [impl_find.sh, h1, decide_true, cond_true, h2, Option.bind_some, findR]
def laws_eqRecordS.b1 (a0 : List Rec) (a1 : List Rec) : Int → Option (Step (Bool) (Int) (Unit)) :=
  fun x5_2 => bif (decide (x5_2 < (a0.length : Int))) then (bif inR x5_2 a0.length then (bif inR x5_2 a1.length then (bif (!(decide ((gt a0 x5_2) = (gt a1 x5_2)))) then (some (.ret false)) else (some (.nxt (IntKind.wrap .i64 (x5_2 + 1))))) else none) else none) else (some (.brk ()))
def laws_eqRecordS.sh (k : Nat) (a0 : List Rec) (a1 : List Rec) : Option (Bool) :=
  bif (!decide ((a0.length : Int) = (a1.length : Int))) then (some false) else ((loopF (laws_eqRecordS.b1 a0 a1) k 0).bind fun z => match z with | .inl t => some t | .inr _ => some true)
theorem eq_run {α : Type} [DecidableEq α] [Inhabited α] (a b : List α) (f : Int → Option (Step Bool Int Unit)) (hl : a.length = b.length)
    (hb : ∀ i : Nat, i < a.length → f i = some (if a.getD i default = b.getD i default then .nxt ((i : Int) + 1) else .ret false)) (hn : f a.length = some (.brk ())) :
    loopF f (a.length + 1) 0 = some (if a = b then .inr () else .inl false) := by
  have hb' : ∀ i : Nat, i < a.length → f i = some (sc (if !decide (a.getD i default = b.getD i default) then some false else none : Option Bool) ((i : Int) + 1)) := by
    intro i hi
    rw [hb i hi]
    by_cases he : a.getD i default = b.getD i default
    · simp only [he, if_true, decide_true, Bool.not_true, Bool.false_eq_true, if_false, sc_none]
    · simp only [he, if_false, decide_false, Bool.not_false, if_true, sc_some]
  rw [loop_scan0 a.length _ hb' hn (a.length + 1) (by omega), list_ne_any a b hl]
  by_cases he : a = b <;> simp [he]
theorem laws_eqRecordS.eq (a0 a1 : List Rec) (h : a0.length ≤ 4611686018427387904) : ∃ k, laws_eqRecordS.sh k a0 a1 = some (decide (a0 = a1)) := by
  refine ⟨a0.length + 1, ?_⟩
  unfold laws_eqRecordS.sh
  by_cases hl : a0.length = a1.length
  · rw [eq_run a0 a1 (laws_eqRecordS.b1 a0 a1) hl (fun i hi => by
      have hi2 : i < a1.length := by omega
      simp only [laws_eqRecordS.b1, lt_nat, hi, decide_true, cond_true, inR_nat hi, inR_nat hi2, getD_gt, wrap_succ hi h]
      by_cases he : a0.getD i default = a1.getD i default
      · simp only [he, decide_true, Bool.not_true, cond_false, if_true]
      · simp only [he, decide_false, Bool.not_false, cond_true, if_false]) (by simp [laws_eqRecordS.b1])]
    have : (a0.length : Int) = (a1.length : Int) := by omega
    by_cases he : a0 = a1 <;> simp [this, he]
  · have h1 : ¬ (a0.length : Int) = (a1.length : Int) := by omega
    have h2 : a0 ≠ a1 := fun e => hl (by rw [e])
    simp [h1, h2]

end Go.UL
