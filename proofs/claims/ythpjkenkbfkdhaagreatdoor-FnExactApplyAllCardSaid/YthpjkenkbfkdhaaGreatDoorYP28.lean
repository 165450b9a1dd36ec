/- Plain Lean: what the functions compute. -/
import Derived.Test.YthpjkenkbfkdhaaGreatDoorYP27
set_option linter.unusedVariables false
set_option linter.unusedSimpArgs false
namespace Go.UL
open Go.RowKit
/-! ### marks on stacks; stacks applied -/
theorem foldI_run {α β ρ : Type} [Inhabited α] (l : List α) (f : β → α → β) (Inv : Nat → β → Prop) (b : β × Int → Option (Step ρ (β × Int) β))
    (h1 : ∀ (i : Nat) (s : β), i < l.length → Inv i s → b (s, (i : Int)) = some (.nxt (f s (gt l (i : Int)), ((i + 1 : Nat) : Int))) ∧ Inv (i + 1) (f s (gt l (i : Int))))
    (h2 : ∀ s : β, b (s, (l.length : Int)) = some (.brk s)) (s0 : β) (h0 : Inv 0 s0) : loopF b (l.length + 1) (s0, 0) = some (.inr (l.foldl f s0)) := by
  have key : ∀ (d i k : Nat) (s : β), i + d = l.length → d < k → Inv i s → loopF b k (s, (i : Int)) = some (.inr ((l.drop i).foldl f s)) := by
    intro d
    induction d with
    | zero =>
      intro i k s hi hk hs
      obtain ⟨k, rfl⟩ : ∃ m, k = m + 1 := ⟨k - 1, by omega⟩
      have : i = l.length := by omega
      subst this
      rw [loopF, h2 s, List.drop_length]; rfl
    | succ d ih =>
      intro i k s hi hk hs
      obtain ⟨k, rfl⟩ : ∃ m, k = m + 1 := ⟨k - 1, by omega⟩
      have hlt : i < l.length := by omega
      obtain ⟨e1, e2⟩ := h1 i s hlt hs
      rw [loopF, e1, drop_gt hlt]
      exact ih (i + 1) k _ (by omega) (by omega) e2
  exact key l.length 0 (l.length + 1) s0 (by omega) (by omega) h0
def totL (xs : List (List Rec)) : Nat := (xs.map List.length).sum
theorem totL_cons (l : List Rec) (xs : List (List Rec)) : totL (l :: xs) = l.length + totL xs := by simp [totL]
theorem totL_le {xs : List (List Rec)} {B : Nat} (h : ∀ l ∈ xs, l.length ≤ B) : totL xs ≤ xs.length * B := by
  induction xs with
  | nil => simp [totL]
  | cons l xs ih =>
    have h1 := h l (by simp)
    have h2 := ih fun y hy => h y (by simp [hy])
    rw [totL_cons, List.length_cons, Nat.add_mul, Nat.one_mul]; omega
def marksSS : List (List Rec) → Int → List (List Rec)
  | [], _ => []
  | l :: t, k => marksR l.length k :: marksSS t (k + 5 * (l.length : Int))
def okA (xs : List (List Rec)) (t : List Nd) : Bool := (xs.all fun l => decide ((layerFault l).2 = 0)) && woodOK t
theorem okA_of {xs : List (List Rec)} {t : List Nd} (h : okA xs t = true) : (∀ l ∈ xs, (layerFault l).2 = 0) ∧ Wood t := by
  unfold okA at h
  rw [Bool.and_eq_true, List.all_eq_true] at h
  exact ⟨fun l hl => of_decide_eq_true (h.1 l hl), wood_of h.2⟩
theorem okA_mk {xs : List (List Rec)} {t : List Nd} (h : ∀ l ∈ xs, (layerFault l).2 = 0) (k : Wood t) : okA xs t = true := by
  unfold okA
  rw [Bool.and_eq_true, List.all_eq_true]
  exact ⟨fun l hl => decide_eq_true (h l hl), wood_ok k⟩
theorem stackOK_of {xs : List (List Rec)} (h : stackOK xs = true) : xs.length ≤ 5 ∧ ∀ l ∈ xs, (layerFault l).2 = 0 := by
  unfold stackOK at h
  rw [Bool.and_eq_true, List.all_eq_true] at h
  exact ⟨of_decide_eq_true h.1, fun l hl => of_decide_eq_true (h.2 l hl)⟩
def applyAllL (xs : List (List Rec)) (t : List Nd) : List Nd := xs.foldl (fun t l => applyL l t) t
theorem applyAll_step {l : List Rec} {s : List Nd} (h : (layerFault l).2 = 0) (hs : Wood s) : Wood (applyL l s) ∧ (applyL l s).length ≤ s.length + 16 := by
  have h1 := applyL_spec s hs _ l rfl (layer_sheet h)
  have := layerOK_len h
  exact ⟨h1.1, by have := h1.2.2.1; omega⟩
def spec_l05All.b1 (a0 : List (List Rec)) : List Nd × Int → Option (Step (List Nd) (List Nd × Int) (List Nd)) :=
  fun q => match q with
  | (x1_13, x5_15) => bif (decide (x5_15 < (a0.length : Int))) then (bif inR x5_15 a0.length then (bif decide ((gt a0 x5_15).length ≤ 16) then (bif decide (x1_13.length ≤ 1000) then (bif decide (okT (gt a0 x5_15) x1_13 = true) then (some (.nxt ((applyL (gt a0 x5_15) x1_13), IntKind.wrap .i64 (x5_15 + 1)))) else none) else none) else none) else none) else (some (.brk x1_13))
def spec_l05All.sh (k : Nat) (a0 : List (List Rec)) (a1 : List Nd) : Option (List Nd) :=
  bif decide ((([] : List Nd).length + a1.length) * 48 ≤ 140737488355328) then ((loopF (spec_l05All.b1 a0) k (([] : List Nd) ++ a1, 0)).bind fun z => match z with | .inl t => some t | .inr x1_19 => some x1_19) else none
theorem spec_l05All.eq (a0 : List (List Rec)) (a1 : List Nd) (h0 : a0.length ≤ 5) (h1 : a1.length ≤ 24) (h2 : okA a0 a1 = true) : ∃ k, spec_l05All.sh k a0 a1 = some (applyAllL a0 a1) := by
  obtain ⟨hs, ht⟩ := okA_of h2
  refine ⟨a0.length + 1, ?_⟩
  unfold spec_l05All.sh
  have hk := foldI_run a0 (fun t l => applyL l t) (fun i s => Wood s ∧ s.length ≤ 24 + 16 * i) (spec_l05All.b1 a0) (fun i s hi hI => by
    have hl := hs (gt a0 (i : Int)) (by rw [getD_gt, getD_el hi]; exact List.getElem_mem hi)
    obtain ⟨w1, w2⟩ := applyAll_step hl hI.1
    have d1 : decide ((i : Int) < (a0.length : Int)) = true := decide_eq_true (by omega)
    have d2 : decide (s.length ≤ 1000) = true := decide_eq_true (by have := hI.2; omega)
    have e1 : IntKind.wrap .i64 ((i : Int) + 1) = ((i + 1 : Nat) : Int) := by rw [wrap_small (by omega) (by omega)]; omega
    refine ⟨?_, w1, by have := hI.2; omega⟩
    simp only [spec_l05All.b1, d1, d2, inR_nat hi, cond_true, e1, decide_eq_true (layerOK_len hl), okT_mk hl hI.1, decide_true]) (fun s => by simp [spec_l05All.b1]) a1 ⟨ht, by omega⟩
  have g1 : decide ((([] : List Nd).length + a1.length) * 48 ≤ 140737488355328) = true := decide_eq_true (by simp only [List.length_nil]; omega)
  have hk2 : loopF (spec_l05All.b1 a0) (a0.length + 1) (([] : List Nd) ++ a1, 0) = some (.inr (applyAllL a0 a1)) := hk
  rw [hk2]
  simp only [g1, cond_true, Option.bind_some]
def impl_applyAll.b1 (a0 : List (List Rec)) : List Nd × Int → Option (Step (List Nd) (List Nd × Int) (List Nd)) :=
  fun q => match q with
  | (x5_6, x12_8) => bif (decide (x12_8 < (a0.length : Int))) then (bif inR x12_8 a0.length then (bif decide ((gt a0 x12_8).length ≤ 16) then (bif decide (x5_6.length ≤ 1000) then (bif decide (okT (gt a0 x12_8) x5_6 = true) then (some (.nxt ((applyL (gt a0 x12_8) x5_6), IntKind.wrap .i64 (x12_8 + 1)))) else none) else none) else none) else none) else (some (.brk x5_6))
def impl_applyAll.sh (k : Nat) (a0 : List (List Rec)) (a1 : List Nd) : Option (List Nd) :=
  bif decide (a1.length ≤ 1048576) then ((loopF (impl_applyAll.b1 a0) k (a1, 0)).bind fun z => match z with | .inl t => some t | .inr x5_12 => some x5_12) else none
theorem impl_applyAll.eq (a0 : List (List Rec)) (a1 : List Nd) (h0 : a0.length ≤ 5) (h1 : a1.length ≤ 24) (h2 : okA a0 a1 = true) : ∃ k, impl_applyAll.sh k a0 a1 = some (applyAllL a0 a1) := by
  obtain ⟨hs, ht⟩ := okA_of h2
  refine ⟨a0.length + 1, ?_⟩
  unfold impl_applyAll.sh
  have hk := foldI_run a0 (fun t l => applyL l t) (fun i s => Wood s ∧ s.length ≤ 24 + 16 * i) (impl_applyAll.b1 a0) (fun i s hi hI => by
    have hl := hs (gt a0 (i : Int)) (by rw [getD_gt, getD_el hi]; exact List.getElem_mem hi)
    obtain ⟨w1, w2⟩ := applyAll_step hl hI.1
    have d1 : decide ((i : Int) < (a0.length : Int)) = true := decide_eq_true (by omega)
    have d2 : decide (s.length ≤ 1000) = true := decide_eq_true (by have := hI.2; omega)
    have e1 : IntKind.wrap .i64 ((i : Int) + 1) = ((i + 1 : Nat) : Int) := by rw [wrap_small (by omega) (by omega)]; omega
    refine ⟨?_, w1, by have := hI.2; omega⟩
    simp only [impl_applyAll.b1, d1, d2, inR_nat hi, cond_true, e1, decide_eq_true (layerOK_len hl), okT_mk hl hI.1, decide_true]) (fun s => by simp [impl_applyAll.b1]) a1 ⟨ht, by omega⟩
  have g1 : decide (a1.length ≤ 1048576) = true := decide_eq_true (by omega)
  rw [hk]
  simp only [g1, cond_true, Option.bind_some, applyAllL]
def rsCode (l : List (List Rec)) (t : List Nd) : Int := if decide (4096 < l.length) || decide (4096 < t.length) then 2 else if !stackOK l || !treeOK t then 1 else 0
def applyAllOf (l : List (List Rec)) (t : List Nd) : List Nd × Int := if rsCode l t = 0 then fitT (applyAllL l t) else ([], rsCode l t)
theorem rs_dec (a : List (List Rec)) (b : List Nd) : (decide ((4096 : Int) < (a.length : Int)) || decide ((4096 : Int) < (b.length : Int))) = (decide (4096 < a.length) || decide (4096 < b.length)) := by
  have h : ∀ n : Nat, decide ((4096 : Int) < (n : Int)) = decide (4096 < n) := fun n => by rw [decide_eq_decide]; omega
  rw [h, h]
def spec_ApplyAll.sh (a0 : List (List Rec)) (a1 : List Nd) : Option (List Nd × Int) :=
  bif ((decide (4096 < (a0.length : Int))) || (decide (4096 < (a1.length : Int)))) then (some (([] : List Nd), 2)) else (bif decide (a0.length ≤ 1048576) then (bif decide (∀ l ∈ a0, l.length ≤ 1048576) then (bif decide (∀ l ∈ a0, ∀ x ∈ l, x.path.length ≤ 1048576) then (((bif (!(stackOK a0)) then some true else (bif decide (∀ x ∈ a1, x.path.length ≤ 1048576) then (some (!(treeOK a1))) else none))).bind fun z20 => bif z20 then (some (([] : List Nd), 1)) else (bif decide (a0.length ≤ 5) then (bif decide (a1.length ≤ 24) then (bif decide (okA a0 a1 = true) then (bif (decide (24 < ((applyAllL a0 a1).length : Int))) then (some (([] : List Nd), 7)) else (some ((applyAllL a0 a1), 0))) else none) else none) else none)) else none) else none) else none)
theorem spec_ApplyAll.eq (a0 : List (List Rec)) (a1 : List Nd) (h0 : a0.length ≤ 1048576) (h1 : ∀ l ∈ a0, l.length ≤ 1048576) (h2 : ∀ l ∈ a0, ∀ x ∈ l, x.path.length ≤ 1048576) (h3 : a1.length ≤ 1048576) (h4 : ∀ x ∈ a1, x.path.length ≤ 1048576) : spec_ApplyAll.sh a0 a1 = some ((applyAllOf a0 a1).1, (applyAllOf a0 a1).2) := by
  unfold spec_ApplyAll.sh applyAllOf
  rw [rs_dec]
  by_cases h : (decide (4096 < a0.length) || decide (4096 < a1.length)) = true
  · have : rsCode a0 a1 = 2 := by simp only [rsCode, h, if_true]
    simp only [h, cond_true, this]; rfl
  · have hf : (decide (4096 < a0.length) || decide (4096 < a1.length)) = false := by simpa using h
    simp only [hf, cond_false, decide_eq_true h0, decide_eq_true h1, decide_eq_true h2, decide_eq_true h4, cond_true]
    rcases bool_two (stackOK a0) with c1 | c1
    · rcases bool_two (treeOK a1) with c2 | c2
      · have hc : rsCode a0 a1 = 0 := by simp only [rsCode, h, if_false, c1, c2]; rfl
        have l1 := stackOK_of c1
        have l2 := treeOK_len c2
        have l3 := l1.1
        simp only [c1, c2, hc, l2, l3, okA_mk l1.2 (treeOK_Wood c2), decide_true, Bool.not_true, cond_false, cond_true, Option.bind_some, if_true, n24_dec, fitT]
        by_cases h24 : 24 < (applyAllL a0 a1).length <;> simp [h24]
      · have hc : rsCode a0 a1 = 1 := by simp only [rsCode, h, if_false, c1, c2]; rfl
        simp only [c1, c2, hc, Bool.not_true, Bool.not_false, cond_false, cond_true, Option.bind_some]; rfl
    · have hc : rsCode a0 a1 = 1 := by simp only [rsCode, h, if_false, c1]; simp
      simp only [c1, hc, Bool.not_false, cond_true, Option.bind_some]; rfl
def impl_ApplyAll.sh (a0 : List (List Rec)) (a1 : List Nd) : Option (List Nd × Int) :=
  bif decide (a0.length ≤ 1048576) then (bif decide (∀ l ∈ a0, l.length ≤ 1048576) then (bif decide (∀ l ∈ a0, ∀ x ∈ l, x.path.length ≤ 1048576) then (((bif (!(stackOK a0)) then some true else (bif decide (a1.length ≤ 1048576) then (bif decide (∀ x ∈ a1, x.path.length ≤ 1048576) then (some (!(treeOK a1))) else none) else none))).bind fun z15 => bif decide (([.inl ((decide (4096 < a0.length)) || (decide (4096 < a1.length))), .inr 2, .inl z15, .inr 1] : List (Bool ⊕ Int)).length ≤ 4611686018427387904) then ((some (firstOf ([.inl ((decide (4096 < a0.length)) || (decide (4096 < a1.length))), .inr 2, .inl z15, .inr 1] : List (Bool ⊕ Int)))).bind fun z32 => bif (!decide (z32 = 0)) then (some ([], z32)) else (bif decide (a0.length ≤ 5) then (bif decide (a1.length ≤ 24) then (bif decide (okA a0 a1 = true) then (bif (decide (24 < ((applyAllL a0 a1).length : Int))) then (some ([], 7)) else (some ((applyAllL a0 a1), 0))) else none) else none) else none)) else none) else none) else none) else none
theorem impl_ApplyAll.eq (a0 : List (List Rec)) (a1 : List Nd) (h0 : a0.length ≤ 1048576) (h1 : ∀ l ∈ a0, l.length ≤ 1048576) (h2 : ∀ l ∈ a0, ∀ x ∈ l, x.path.length ≤ 1048576) (h3 : a1.length ≤ 1048576) (h4 : ∀ x ∈ a1, x.path.length ≤ 1048576) : impl_ApplyAll.sh a0 a1 = some ((applyAllOf a0 a1).1, (applyAllOf a0 a1).2) := by
  unfold impl_ApplyAll.sh applyAllOf
  simp only [h0, h3, decide_true, cond_true, decide_eq_true h1, decide_eq_true h2, decide_eq_true h4, firstOf_c, List.length_cons, List.length_nil, firstOf, anyB, anyI]
  by_cases h : (decide (4096 < a0.length) || decide (4096 < a1.length)) = true
  · have hc : rsCode a0 a1 = 2 := by simp only [rsCode, h, if_true]
    rcases bool_two (stackOK a0) with c1 | c1 <;> simp [h, hc, c1]
  · have hf : (decide (4096 < a0.length) || decide (4096 < a1.length)) = false := by simpa using h
    rcases bool_two (stackOK a0) with c1 | c1
    · rcases bool_two (treeOK a1) with c2 | c2
      · have hc : rsCode a0 a1 = 0 := by simp only [rsCode, h, if_false, c1, c2]; rfl
        have l1 := stackOK_of c1
        have l2 := treeOK_len c2
        have l3 := l1.1
        simp only [hf, c1, c2, hc, l2, l3, okA_mk l1.2 (treeOK_Wood c2), decide_true, Bool.not_true, cond_false, cond_true, Option.bind_some, if_true, n24_dec, fitT]
        by_cases h24 : 24 < (applyAllL a0 a1).length <;> simp [h24]
      · have hc : rsCode a0 a1 = 1 := by simp only [rsCode, h, if_false, c1, c2]; rfl
        simp [hf, c1, c2, hc]
    · have hc : rsCode a0 a1 = 1 := by simp only [rsCode, h, if_false, c1]; simp
      simp [hf, c1, hc]
theorem applyAllOf_len (l : List (List Rec)) (t : List Nd) : (applyAllOf l t).1.length ≤ 24 := by
  unfold applyAllOf
  split
  · exact fitT_len _
  · simp
theorem tot_small {a : List (List Rec)} (h : a.length ≤ 1048576) (k : ∀ y ∈ a, y.length ≤ 1048576) : totL a ≤ 1099511627776 := by
  have h1 := totL_le k
  have : a.length * 1048576 ≤ 1048576 * 1048576 := Nat.mul_le_mul_right _ h
  omega
def law_ApplyAll.sh (a0 : List (List Rec)) (a1 : List Nd) : Option (Bool) :=
  bif decide ((0 : Int) ≤ 1048576) then (bif decide ((1048576 : Int) ≤ 1048576) then (bif decide (a0.length ≤ 9223372036854775807) then (bif decide (∀ l ∈ a0, l.length ≤ 9223372036854775807) then (bif decide (∀ l ∈ a0, ∀ x ∈ l, okRec x) then (bif (decide ((szRecSS a0 1048576) < 0)) then (some true) else (bif decide ((0 : Int) ≤ (szRecSS a0 1048576)) then (bif decide (((szRecSS a0 1048576) : Int) ≤ 1048576) then (bif decide (a1.length ≤ 9223372036854775807) then (bif decide (∀ x ∈ a1, okNd x) then (bif (decide ((szNdS a1 (szRecSS a0 1048576)) < 0)) then (some true) else (bif decide (a0.length ≤ 1048576) then (bif decide (∀ l ∈ a0, l.length ≤ 1048576) then (bif decide (a1.length ≤ 1048576) then (bif decide (a0.length ≤ 1048576) then (bif decide (∀ l ∈ a0, l.length ≤ 1048576) then (bif decide (∀ l ∈ a0, ∀ x ∈ l, x.path.length ≤ 1048576) then (bif decide (a1.length ≤ 1048576) then (bif decide (∀ x ∈ a1, x.path.length ≤ 1048576) then (bif decide (a0.length ≤ 1048576) then (bif decide (∀ l ∈ a0, l.length ≤ 1048576) then (bif decide (a1.length ≤ 1048576) then (bif decide (a0.length ≤ 1048576) then (bif decide (∀ l ∈ a0, l.length ≤ 1048576) then (bif decide (∀ l ∈ a0, ∀ x ∈ l, x.path.length ≤ 1048576) then (bif decide (a1.length ≤ 1048576) then (bif decide (∀ x ∈ a1, x.path.length ≤ 1048576) then (bif decide (((applyAllOf a0 a1).1).length ≤ 4611686018427387904) then (bif ((!(decide (((applyAllOf a0 a1).1) = ((applyAllOf a0 a1).1)))) || (!decide (((applyAllOf a0 a1).2) = ((applyAllOf a0 a1).2)))) then (some false) else (bif decide (a0.length ≤ 1048576) then (bif decide (∀ l ∈ a0, l.length ≤ 1048576) then (bif decide (a0.length ≤ 1048576) then (bif decide (∀ l ∈ a0, l.length ≤ 1048576) then (bif (!(decide (a0 = a0))) then (some false) else (bif decide (a1.length ≤ 1048576) then (bif decide (a1.length ≤ 4611686018427387904) then (bif (!(decide (a1 = a1))) then (some false) else (bif decide (a0.length ≤ 1048576) then (bif decide (∀ l ∈ a0, l.length ≤ 1048576) then (bif decide ((0 : Int) ≤ 1) then (bif decide ((1 : Int) ≤ 4611686018427387904 - 5 * (totL a0 : Int)) then (bif decide (a1.length ≤ 1152921504606846976) then (bif decide ((0 : Int) ≤ (1 + 5 * (totL a0 : Int))) then (bif decide (((1 + 5 * (totL a0 : Int)) : Int) ≤ 4611686018427387904 - 4 * (a1.length : Int)) then (((bif (decide (((1 + 5 * (totL a0 : Int)) + 4 * (a1.length : Int)) < 0)) then some true else (bif decide (((applyAllOf a0 a1).1).length ≤ 4611686018427387904) then (some (!(decide (((applyAllOf a0 a1).1) = ((applyAllOf a0 a1).1))))) else none))).bind fun z100 => bif (z100 || (!decide (((applyAllOf a0 a1).2) = ((applyAllOf a0 a1).2)))) then (some false) else (bif decide (((applyAllOf a0 a1).1).length ≤ 1152921504606846976) then (bif decide ((0 : Int) ≤ 1) then (bif decide ((1 : Int) ≤ 4611686018427387904 - 4 * (((applyAllOf a0 a1).1).length : Int)) then (bif decide ((marksN ((applyAllOf a0 a1).1).length 1).length ≤ 1152921504606846976) then (bif decide ((0 : Int) ≤ 1) then (bif decide ((1 : Int) ≤ 4611686018427387904 - 4 * ((marksN ((applyAllOf a0 a1).1).length 1).length : Int)) then (bif (decide ((heldN (marksN ((applyAllOf a0 a1).1).length 1) 1) < 0)) then (some false) else (bif (!decide ((heldN (marksN ((applyAllOf a0 a1).1).length 1) 1) = (1 + 4 * (((applyAllOf a0 a1).1).length : Int)))) then (some false) else (bif decide (a0.length ≤ 1048576) then (bif decide (∀ l ∈ a0, l.length ≤ 1048576) then (bif decide (a1.length ≤ 1048576) then (bif decide (a0.length ≤ 1048576) then (bif decide (∀ l ∈ a0, l.length ≤ 1048576) then (bif decide (∀ l ∈ a0, ∀ x ∈ l, x.path.length ≤ 1048576) then (bif decide (a1.length ≤ 1048576) then (bif decide (∀ x ∈ a1, x.path.length ≤ 1048576) then (bif decide (((applyAllOf a0 a1).1).length ≤ 4611686018427387904) then (bif ((!(decide (((applyAllOf a0 a1).1) = ((applyAllOf a0 a1).1)))) || (!decide (((applyAllOf a0 a1).2) = ((applyAllOf a0 a1).2)))) then (some false) else (bif decide ((marksN ((applyAllOf a0 a1).1).length 1).length ≤ 1152921504606846976) then (bif decide ((0 : Int) ≤ 1) then (bif decide ((1 : Int) ≤ 4611686018427387904 - 4 * ((marksN ((applyAllOf a0 a1).1).length 1).length : Int)) then (bif (decide ((heldN (marksN ((applyAllOf a0 a1).1).length 1) 1) < 0)) then (some false) else (bif (!decide ((heldN (marksN ((applyAllOf a0 a1).1).length 1) 1) = (1 + 4 * (((applyAllOf a0 a1).1).length : Int)))) then (some false) else (some true))) else none) else none) else none)) else none) else none) else none) else none) else none) else none) else none) else none) else none))) else none) else none) else none) else none) else none) else none)) else none) else none) else none) else none) else none) else none) else none)) else none) else none)) else none) else none) else none) else none)) else none) else none) else none) else none) else none) else none) else none) else none) else none) else none) else none) else none) else none) else none) else none) else none) else none)) else none) else none) else none) else none)) else none) else none) else none) else none) else none
theorem law_ApplyAll.eq (a0 : List (List Rec)) (a1 : List Nd) (h2 : ∀ l ∈ a0, ∀ x ∈ l, okRec x) (h3 : a0.length ≤ 9223372036854775807) (h4 : ∀ l ∈ a0, l.length ≤ 9223372036854775807) (h5 : ∀ x ∈ a1, okNd x) (h6 : a1.length ≤ 9223372036854775807) : law_ApplyAll.sh a0 a1 = some true := by
  unfold law_ApplyAll.sh
  by_cases hs : szRecSS a0 1048576 < 0
  · simp [h3, decide_eq_true h2, decide_eq_true h4, hs]
  · obtain ⟨k1, k2, k3, _, k4, k5⟩ := szSS_of hs (by omega) (by omega)
    by_cases ht : szNdS a1 (szRecSS a0 1048576) < 0
    · simp [h3, h6, decide_eq_true h2, decide_eq_true h4, decide_eq_true h5, hs, ht, k4, k5]
    · obtain ⟨m1, m2, _, m4, m5⟩ := szN_of ht k4 k5
      have hl := applyAllOf_len a0 a1
      have hT := tot_small k1 k2
      have b1' : a1.length ≤ 4611686018427387904 := by omega
      have b2 : (applyAllOf a0 a1).1.length ≤ 4611686018427387904 := by omega
      have b2' : (applyAllOf a0 a1).1.length ≤ 1152921504606846976 := by omega
      have b3' : a1.length ≤ 1152921504606846976 := by omega
      have b4 : (1 : Int) ≤ 4611686018427387904 - 5 * (totL a0 : Int) := by omega
      have b5 : (0 : Int) ≤ 1 + 5 * (totL a0 : Int) := by omega
      have b6 : (1 + 5 * (totL a0 : Int)) ≤ 4611686018427387904 - 4 * (a1.length : Int) := by omega
      have b7 : ¬ (1 + 5 * (totL a0 : Int) + 4 * (a1.length : Int)) < 0 := by omega
      have b8 : (1 : Int) ≤ 4611686018427387904 - 4 * ((applyAllOf a0 a1).1.length : Int) := by omega
      have b9 : ¬ (1 + 4 * ((applyAllOf a0 a1).1.length : Int)) < 0 := by omega
      simp [h3, h6, decide_eq_true h2, decide_eq_true h4, decide_eq_true h5, hs, ht, k1, k4, k5, m1, decide_eq_true k2, decide_eq_true k3, decide_eq_true m2, marksN_length, heldN_marks, b1', b2, b2', b3', b4, b5, b6, b7, b8, b9]

end Go.UL
