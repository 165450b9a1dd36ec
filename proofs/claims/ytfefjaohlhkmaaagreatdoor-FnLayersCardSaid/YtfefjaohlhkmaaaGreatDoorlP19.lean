/- Plain Lean: what the functions compute. -/
import Derived.Test.YtfefjaohlhkmaaaGreatDoorlP13
set_option linter.unusedVariables false
set_option linter.unusedSimpArgs false
namespace Go.UL
open Go.RowKit
/-! ### stacks -/
theorem layerFaultL_zero (l : List Rec) : decide ((layerFaultL l).2 = 0) = decide ((layerFault l).2 = 0) := by
  unfold layerFaultL
  by_cases h : 4096 < l.length
  · have : ¬ (layerFault l).2 = 0 := fun hf => by have := layerOK_len hf; omega
    simp [h, this]
  · simp [h]
/-! ### the highest layer that cuts a path off -/
/-! ### nodes that are found -/
theorem findN_inR {t : List Nd} {p : List UInt8} (h : ¬ findN t p < 0) : inR (findN t p) t.length = true := inR_mk (by omega) (findN_lt t p)
/-! ### paths and their parts -/
theorem preL_cons (p x : List UInt8) (l : List (List UInt8)) : preL p (x :: l) = (p ++ x) :: l := rfl
theorem cut_cons_ne {b : UInt8} {l : List UInt8} (h : bn b ≠ 47) : cut 47 (b :: l) = preL [b] (cut 47 l) := by rw [cut, if_neg h]
theorem cut_cons_eq {b : UInt8} {l : List UInt8} (h : bn b = 47) : cut 47 (b :: l) = [] :: cut 47 l := by rw [cut, if_pos h]
theorem slash_bn : bn (47 : UInt8) = 47 := rfl
/-- A text is its parts with strokes between. -/
def joinL : List (List UInt8) → List UInt8
  | [] => []
  | [x] => x
  | x :: y :: l => x ++ 47 :: joinL (y :: l)
theorem joinL_cons (x : List UInt8) {l : List (List UInt8)} (h : l ≠ []) : joinL (x :: l) = x ++ 47 :: joinL l := by
  cases l with
  | nil => exact absurd rfl h
  | cons y l => rfl
theorem joinL_preL (p : List UInt8) (l : List (List UInt8)) (h : l ≠ []) : joinL (preL p l) = p ++ joinL l := by
  cases l with
  | nil => exact absurd rfl h
  | cons x l =>
    rw [preL_cons]
    cases l with
    | nil => rfl
    | cons y l => simp [joinL]
theorem joinL_cut (t : List UInt8) : joinL (cut 47 t) = t := by
  induction t with
  | nil => rfl
  | cons b l ih =>
    by_cases h : bn b = 47
    · have hb : b = 47 := by
        apply UInt8.toNat.inj
        show b.toNat = 47
        unfold bn at h; omega
      rw [cut_cons_eq h, joinL_cons _ (cut_ne 47 l), ih, hb]; rfl
    · rw [cut_cons_ne h, joinL_preL _ _ (cut_ne 47 l), ih]; rfl
theorem cut_free {x : List UInt8} (h : ∀ b ∈ x, bn b ≠ 47) : cut 47 x = [x] := by
  induction x with
  | nil => rfl
  | cons b l ih =>
    rw [cut_cons_ne (h b (by simp)), ih (fun c hc => h c (by simp [hc]))]; rfl
theorem cut_app {x t : List UInt8} (h : ∀ b ∈ x, bn b ≠ 47) : cut 47 (x ++ 47 :: t) = x :: cut 47 t := by
  induction x with
  | nil => exact cut_cons_eq slash_bn
  | cons b l ih =>
    rw [List.cons_append, cut_cons_ne (h b (by simp)), ih (fun c hc => h c (by simp [hc]))]; rfl
theorem cut_parts (t : List UInt8) : ∀ x ∈ cut 47 t, ∀ b ∈ x, bn b ≠ 47 := by
  induction t with
  | nil => intro x hx; simp [cut] at hx; subst hx; simp
  | cons b l ih =>
    by_cases h : bn b = 47
    · rw [cut_cons_eq h]
      intro x hx
      rcases List.mem_cons.1 hx with rfl | hx
      · simp
      · exact ih x hx
    · rw [cut_cons_ne h]
      cases hc : cut 47 l with
      | nil => exact absurd hc (cut_ne 47 l)
      | cons y r =>
        rw [hc] at ih
        rw [preL_cons]
        intro x hx
        rcases List.mem_cons.1 hx with rfl | hx
        · intro c hcx
          rcases List.mem_append.1 hcx with h2 | h2
          · simp at h2; subst h2; exact h
          · exact ih y (by simp) c h2
        · exact ih x (by simp [hx])
/-- Texts are their parts: lists of texts without strokes. -/
theorem cut_joinL {l : List (List UInt8)} (hn : l ≠ []) (h : ∀ x ∈ l, ∀ b ∈ x, bn b ≠ 47) : cut 47 (joinL l) = l := by
  induction l with
  | nil => exact absurd rfl hn
  | cons x l ih =>
    by_cases hl : l = []
    · subst hl; exact cut_free (h x (by simp))
    · rw [joinL_cons x hl, cut_app (h x (by simp)), ih hl (fun y hy => h y (by simp [hy]))]
theorem cut_inj {a b : List UInt8} (h : cut 47 a = cut 47 b) : a = b := by rw [← joinL_cut a, ← joinL_cut b, h]
theorem lastSlash_app (x t : List UInt8) (ht : ∀ b ∈ t, bn b ≠ 47) : lastSlash (x ++ 47 :: t) = x.length := by
  apply lastSlash_of (by simp) (by simp [List.getD_eq_getElem?_getD]; exact slash_bn)
  intro j h1 h2
  obtain ⟨m, rfl⟩ : ∃ m, j = x.length + 1 + m := ⟨j - x.length - 1, by omega⟩
  have h3 : m < t.length := by simp at h2; omega
  have : (x ++ 47 :: t).getD (x.length + 1 + m) 0 = t[m] := by
    have e : x.length + 1 + m - x.length = m + 1 := by omega
    rw [List.getD_eq_getElem?_getD, List.getElem?_append_right (by omega), e, List.getElem?_cons_succ, List.getElem?_eq_getElem h3]; rfl
  rw [this]
  exact ht _ (List.getElem_mem h3)
theorem joinL_append {l : List (List UInt8)} (x : List UInt8) (h : l ≠ []) : joinL (l ++ [x]) = joinL l ++ 47 :: x := by
  induction l with
  | nil => exact absurd rfl h
  | cons y l ih =>
    by_cases hl : l = []
    · subst hl; rfl
    · rw [List.cons_append, joinL_cons y (by simp), ih hl, joinL_cons y hl]; simp
/-- What is above a path has one part less. -/
theorem parentP_joinL {l : List (List UInt8)} {x : List UInt8} (h : ∀ y ∈ l ++ [x], ∀ b ∈ y, bn b ≠ 47) : parentP (joinL (l ++ [x])) = joinL l := by
  by_cases hl : l = []
  · subst hl
    have : lastSlash x = -1 := lastSlash_no fun j hj => h x (by simp) _ (by rw [List.getD_eq_getElem?_getD, List.getElem?_eq_getElem hj]; exact List.getElem_mem hj)
    simp [parentP, joinL, this]
  · rw [joinL_append x hl, parentP, lastSlash_app _ _ (fun b hb => h x (by simp) b hb)]
    simp
theorem parentP_cut (t : List UInt8) : parentP t = joinL (cut 47 t).dropLast := by
  obtain ⟨l, x, hlx⟩ : ∃ l x, cut 47 t = l ++ [x] := ⟨(cut 47 t).dropLast, (cut 47 t).getLast (cut_ne 47 t), (List.dropLast_concat_getLast (cut_ne 47 t)).symm⟩
  have hp := cut_parts t
  have := parentP_joinL (l := l) (x := x) (by rw [← hlx]; exact hp)
  rw [hlx, List.dropLast_concat, ← this, ← hlx, joinL_cut]
/-- The parts of a path are right ones, none of them empty. -/
theorem pathOK_parts {t : List UInt8} (h : pathOK t = true) : ∀ x ∈ cut 47 t, x ≠ [] := by
  simp only [pathOK, Bool.and_eq_true, decide_eq_true_eq, List.all_eq_true] at h
  intro x hx he
  have := h.2.2 x hx
  rw [he] at this
  revert this; decide
theorem joinL_ne {l : List (List UInt8)} (h : l ≠ []) (hp : ∀ x ∈ l, x ≠ []) : joinL l ≠ [] := by
  cases l with
  | nil => exact absurd rfl h
  | cons x l =>
    have := hp x (by simp)
    cases l with
    | nil => simpa [joinL] using this
    | cons y l => simp [joinL]
/-- What is above, from below: the beginnings of the parts. -/
theorem ancs_joinL : ∀ (n : Nat) (l : List (List UInt8)), l.length = n → (∀ y ∈ l, ∀ b ∈ y, bn b ≠ 47) → (∀ y ∈ l, y ≠ []) → ancs (joinL l) = ((List.range (l.length - 1)).map fun k => joinL (l.take (k + 1))).reverse := by
  intro n
  induction n with
  | zero => intro l hl _ _; have : l = [] := List.eq_nil_of_length_eq_zero hl; subst this; rfl
  | succ n ih =>
    intro l hl hp hn
    have hne : l ≠ [] := by intro e; subst e; simp at hl
    obtain ⟨m, x, rfl⟩ : ∃ m x, l = m ++ [x] := ⟨l.dropLast, l.getLast hne, (List.dropLast_concat_getLast hne).symm⟩
    rw [ancs_eq, parentP_joinL hp]
    have hm : m.length = n := by simpa using hl
    by_cases hm0 : m = []
    · subst hm0; simp [joinL]
    · have hpm : ∀ y ∈ m, y ≠ [] := fun y hy => hn y (by simp [hy])
      rw [if_neg (joinL_ne hm0 hpm), ih m hm (fun y hy => hp y (by simp [hy])) hpm]
      have hml : 0 < m.length := List.length_pos_iff.2 hm0
      have e1 : (m ++ [x]).length - 1 = (m.length - 1) + 1 := by simp; omega
      rw [e1, List.range_succ, List.map_append, List.reverse_append]
      simp only [List.map_cons, List.map_nil, List.reverse_cons, List.reverse_nil, List.nil_append, List.cons_append]
      congr 1
      · have e2 : m.length - 1 + 1 = m.length := by omega
        rw [e2, List.take_left]
      · congr 1
        apply List.map_congr_left
        intro k hk
        have := List.mem_range.1 hk
        rw [List.take_append_of_le_length (by omega)]
theorem ancs_cut {t : List UInt8} (h : pathOK t = true) : ancs t = ((List.range ((cut 47 t).length - 1)).map fun k => joinL ((cut 47 t).take (k + 1))).reverse := by
  have := ancs_joinL _ (cut 47 t) rfl (cut_parts t) (pathOK_parts h)
  rwa [joinL_cut] at this
/-! ### what stands in a directory -/
/-! ### nodes taken out -/
theorem findI_first {α : Type} (q : α → Bool) : ∀ (l : List α) (i : Nat), findI q l = i → ∀ x ∈ l.take i, q x = false := by
  intro l
  induction l with
  | nil => intro i _ x hx; simp at hx
  | cons y l ih =>
    intro i h x hx
    simp only [findI] at h
    cases i with
    | zero => simp at hx
    | succ i =>
      rcases bool_two (q y) with hq | hq
      · simp only [hq, if_true] at h; omega
      · simp only [hq, Bool.false_eq_true, if_false] at h
        by_cases hm : findI q l = -1
        · simp only [hm, if_true] at h; omega
        · simp only [hm, if_false] at h
          rw [List.take_succ_cons] at hx
          rcases List.mem_cons.1 hx with rfl | hx
          · exact hq
          · exact ih i (by omega) x hx
theorem List.take_set_succ {α : Type} {l : List α} {i : Nat} {x : α} (h : i < l.length) : (l.set i x).take (i + 1) = l.take i ++ [x] := by
  rw [List.take_succ_eq_append_getElem (by simpa using h)]
  rw [List.take_set, List.set_eq_of_length_le (by simp; omega)]
  simp
def without (l : List Nd) (p : List UInt8) (self : Bool) : List Nd := l.filter fun x => !((decide (p = []) && !decide (x.path = [])) || belowP x.path p) && (!self || !decide (x.path = p))
theorem without_len (l : List Nd) (p : List UInt8) (b : Bool) : (without l p b).length ≤ l.length := List.length_filter_le _ _
theorem without_impl (l : List Nd) (p : List UInt8) : without l p true = l.filter fun x => !(decide (x.path = p) || (decide (p = []) || belowP x.path p)) := by
  unfold without
  congr 1
  funext x
  by_cases h1 : x.path = p
  · simp [h1]
  · by_cases h2 : p = []
    · subst h2
      simp [h1]
    · simp [h1, h2]
def spec_l04Without.b1 (a0 : List Nd) (a1 : List UInt8) (a2 : Bool) : List Nd × Int → Option (Step (List Nd) (List Nd × Int) (List Nd)) :=
  fun q => match q with
  | (x7_7, x8_9) => bif (decide (x8_9 < (a0.length : Int))) then (bif inR x8_9 a0.length then (((bif (!((decide (a1 = []) && !decide (((gt a0 x8_9).path) = [])) || belowP ((gt a0 x8_9).path) a1)) then (((bif (!a2) then some true else (bif inR x8_9 a0.length then (some (!decide (((gt a0 x8_9).path) = a1))) else none))).bind fun z38 => some z38) else some false)).bind fun z37 => bif z37 then (bif inR x8_9 a0.length then (bif decide ((x7_7.length + ([gt a0 x8_9] : List Nd).length) * 48 ≤ 140737488355328) then (some (.nxt (x7_7 ++ ([gt a0 x8_9] : List Nd), IntKind.wrap .i64 (x8_9 + 1)))) else none) else none) else (some (.nxt (x7_7, IntKind.wrap .i64 (x8_9 + 1))))) else none) else (some (.brk x7_7))
def spec_l04Without.sh (k : Nat) (a0 : List Nd) (a1 : List UInt8) (a2 : Bool) : Option (List Nd) :=
  (loopF (spec_l04Without.b1 a0 a1 a2) k (([] : List Nd), 0)).bind fun z => match z with | .inl t => some t | .inr x7_13 => some x7_13
theorem spec_l04Without.eq (a0 : List Nd) (a1 : List UInt8) (a2 : Bool) (h0 : a0.length ≤ 1048576) : ∃ k, spec_l04Without.sh k a0 a1 a2 = some (without a0 a1 a2) := by
  refine ⟨a0.length + 1, ?_⟩
  unfold spec_l04Without.sh
  rw [collect_run a0 (fun x => if (!((decide (a1 = []) && !decide (x.path = [])) || belowP x.path a1) && (!a2 || !decide (x.path = a1))) then some x else none) (spec_l04Without.b1 a0 a1 a2) (fun i hi acc ha => by
    have e1 : ∀ z : Nd, (acc.length + ([z] : List Nd).length) * 48 ≤ 140737488355328 := fun z => by simp; omega
    simp only [spec_l04Without.b1, lt_nat, hi, decide_true, cond_true, inR_nat hi, getD_gt, getD_el hi, e1, wrap_succ hi (by omega)]
    rcases bool_two ((decide (a1 = []) && !decide (a0[i].path = [])) || belowP a0[i].path a1) with hb | hb
    · simp [hb]
    · generalize belowP a0[i].path a1 = bl at hb ⊢
      by_cases hp : a0[i].path = a1
      · cases a2 <;> simp [hp] at hb ⊢ <;> simp [hb]
      · cases a2 <;> simp [hb, hp]) (fun acc => by simp [spec_l04Without.b1])]
  have : ∀ l : List Nd, l.filterMap (fun x => if (!((decide (a1 = []) && !decide (x.path = [])) || belowP x.path a1) && (!a2 || !decide (x.path = a1))) then some x else none) = without l a1 a2 := by
    intro l
    have := filterMap_if (fun x : Nd => (!((decide (a1 = []) && !decide (x.path = [])) || belowP x.path a1) && (!a2 || !decide (x.path = a1)))) id l
    simpa [without] using this
  rw [this]; rfl
def impl_removed_1.sh (a0 : Nd) (a1 : List UInt8) : Option (Bool) :=
  ((bif (decide (a0.path = a1)) then some true else (bif decide (a1.length ≤ 1048576) then (some (decide (a1 = []) || belowP a0.path a1)) else none))).bind fun z8 => some z8
theorem impl_removed_1.eq (a0 : Nd) (a1 : List UInt8) (h : a1.length ≤ 1048576) : impl_removed_1.sh a0 a1 = some (decide (a0.path = a1) || (decide (a1 = []) || belowP a0.path a1)) := by
  unfold impl_removed_1.sh
  by_cases hp : a0.path = a1 <;> simp [hp, h]
/-! ### the record that counts at a path -/
theorem recFault_opq {r : Rec} (h : recFault r = 0) (ho : r.opq = true) : r.kind = 3 := by
  unfold recFault at h
  by_cases hk : r.kind = 3
  · exact hk
  · simp only [ho, hk, decide_false, Bool.not_false, Bool.true_and, Bool.or_true, if_true] at h
    repeat' split at h
    all_goals omega
/-! ### the order of paths -/
theorem bl_trans : ∀ a b c : List UInt8, Op.bytesLess a b = true → Op.bytesLess b c = true → Op.bytesLess a c = true := by
  intro a
  induction a with
  | nil => intro b c h1 h2; cases b with
    | nil => simp [Op.bytesLess] at h1
    | cons y b => cases c with
      | nil => simp [Op.bytesLess] at h2
      | cons z c => rfl
  | cons x a ih =>
    intro b c h1 h2
    cases b with
    | nil => simp [Op.bytesLess] at h1
    | cons y b => cases c with
      | nil => simp [Op.bytesLess] at h2
      | cons z c =>
        simp only [Op.bytesLess, Bool.or_eq_true, Bool.and_eq_true, decide_eq_true_eq, beq_iff_eq, UInt8.lt_iff_toNat_lt] at h1 h2 ⊢
        rcases h1 with h1 | ⟨rfl, h1⟩
        · rcases h2 with h2 | ⟨rfl, h2⟩
          · exact .inl (by omega)
          · exact .inl h1
        · rcases h2 with h2 | ⟨rfl, h2⟩
          · exact .inl h2
          · exact .inr ⟨rfl, ih b c h1 h2⟩
theorem bl_tri : ∀ a b : List UInt8, Op.bytesLess a b = false → Op.bytesLess b a = false → a = b := by
  intro a
  induction a with
  | nil => intro b h1 h2; cases b with
    | nil => rfl
    | cons y b => simp [Op.bytesLess] at h1
  | cons x a ih =>
    intro b h1 h2
    cases b with
    | nil => simp [Op.bytesLess] at h2
    | cons y b =>
      simp only [Op.bytesLess, Bool.or_eq_false_iff, Bool.and_eq_false_iff, decide_eq_false_iff_not, beq_eq_false_iff_ne, UInt8.lt_iff_toNat_lt] at h1 h2
      have hxy : x = y := UInt8.toNat_inj.1 (by omega)
      subst hxy
      rcases h1.2 with h | h
      · exact absurd rfl h
      · rcases h2.2 with h' | h'
        · exact absurd rfl h'
        · rw [ih b h h']
theorem lt8_trans {a b c : List UInt8} (h1 : lt8 a b = true) (h2 : lt8 b c = true) : lt8 a c = true := by
  simp only [lt8] at *
  exact bl_trans _ _ _ h1 h2
theorem lt8_tri {a b : List UInt8} (h1 : lt8 a b = false) (h2 : lt8 b a = false) : a = b := by
  simp only [lt8] at *
  exact bl_tri _ _ h1 h2
theorem lessL_irrefl : ∀ a, lessL a a = false := by
  intro a
  induction a with
  | nil => rfl
  | cons x a ih => simp [lessL, ih]
theorem lessL_trans : ∀ a b c, lessL a b = true → lessL b c = true → lessL a c = true := by
  intro a
  induction a with
  | nil =>
    intro b c h1 h2
    cases b with
    | nil => simp [lessL] at h1
    | cons y b => cases c with
      | nil => simp [lessL] at h2
      | cons z c => rfl
  | cons x a ih =>
    intro b c h1 h2
    cases b with
    | nil => simp [lessL] at h1
    | cons y b => cases c with
      | nil => simp [lessL] at h2
      | cons z c =>
        simp only [lessL] at h1 h2 ⊢
        by_cases hxy : x = y
        · subst hxy
          simp only [if_true] at h1
          by_cases hxz : x = z
          · subst hxz
            simp only [if_true] at h2 ⊢
            exact ih b c h1 h2
          · simp only [hxz, if_false] at h2 ⊢; exact h2
        · simp only [hxy, if_false] at h1
          by_cases hyz : y = z
          · subst hyz
            simp only [hxy, if_false]; exact h1
          · simp only [hyz, if_false] at h2
            have h3 := lt8_trans h1 h2
            by_cases hxz : x = z
            · subst hxz; rw [lt8_irrefl] at h3; cases h3
            · simp only [hxz, if_false]; exact h3
theorem lessL_tri : ∀ a b, lessL a b = false → lessL b a = false → a = b := by
  intro a
  induction a with
  | nil =>
    intro b h1 h2
    cases b with
    | nil => rfl
    | cons y b => simp [lessL] at h1
  | cons x a ih =>
    intro b h1 h2
    cases b with
    | nil => simp [lessL] at h2
    | cons y b =>
      simp only [lessL] at h1 h2
      by_cases hxy : x = y
      · subst hxy
        simp only [if_true] at h1 h2
        rw [ih b h1 h2]
      · have hyx : ¬ y = x := fun e => hxy e.symm
        simp only [hxy, hyx, if_false] at h1 h2
        exact absurd (lt8_tri h1 h2) hxy
def ltP (a b : List UInt8) : Bool := lessL (cut 47 a) (cut 47 b)
theorem ltP_irrefl (a : List UInt8) : ltP a a = false := lessL_irrefl _
theorem ltP_trans {a b c : List UInt8} (h1 : ltP a b = true) (h2 : ltP b c = true) : ltP a c = true := lessL_trans _ _ _ h1 h2
theorem ltP_tri {a b : List UInt8} (h1 : ltP a b = false) (h2 : ltP b a = false) : a = b := cut_inj (lessL_tri _ _ h1 h2)
theorem ltP_asymm {a b : List UInt8} (h : ltP a b = true) : ltP b a = false := by
  rcases bool_two (ltP b a) with h2 | h2
  · have := ltP_trans h h2; rw [ltP_irrefl] at this; cases this
  · exact h2
theorem ltP_ne {a b : List UInt8} (h : ltP a b = true) : a ≠ b := fun e => by subst e; rw [ltP_irrefl] at h; cases h
/-- Rising strictly. -/
def Rise (l : List (List UInt8)) : Prop := l.Pairwise fun a b => ltP a b = true
theorem Rise.uniq : ∀ {a b : List (List UInt8)}, Rise a → Rise b → (∀ x, x ∈ a ↔ x ∈ b) → a = b := by
  intro a
  induction a with
  | nil =>
    intro b _ _ h
    cases b with
    | nil => rfl
    | cons y b => exact absurd ((h y).2 (List.mem_cons_self ..)) (by simp)
  | cons x a ih =>
    intro b ha hb h
    cases b with
    | nil => exact absurd ((h x).1 (List.mem_cons_self ..)) (by simp)
    | cons y b =>
      have ha' := List.pairwise_cons.1 ha
      have hb' := List.pairwise_cons.1 hb
      have hxy : x = y := by
        rcases List.mem_cons.1 ((h x).1 (List.mem_cons_self ..)) with e | hx
        · exact e
        · rcases List.mem_cons.1 ((h y).2 (List.mem_cons_self ..)) with e | hy
          · exact e.symm
          · have h1 := hb'.1 x hx
            have h2 := ha'.1 y hy
            rw [ltP_asymm h1] at h2; cases h2
      subst hxy
      congr 1
      refine ih ha'.2 hb'.2 fun z => ?_
      constructor
      · intro hz
        rcases List.mem_cons.1 ((h z).1 (List.mem_cons_of_mem _ hz)) with e | hz'
        · subst e; exact absurd rfl (ltP_ne (ha'.1 z hz))
        · exact hz'
      · intro hz
        rcases List.mem_cons.1 ((h z).2 (List.mem_cons_of_mem _ hz)) with e | hz'
        · subst e; exact absurd rfl (ltP_ne (hb'.1 z hz))
        · exact hz'
/-- From neighbours to all. -/
theorem rise_of_near {α : Type} [Inhabited α] (f : α → List UInt8) {l : List α} (h : ∀ i, 0 < i → i < l.length → ltP (f (l.getD (i - 1) default)) (f (l.getD i default)) = true) : Rise (l.map f) := by
  unfold Rise
  rw [List.pairwise_map, List.pairwise_iff_getElem]
  intro i j hi hj hij
  obtain ⟨d, rfl⟩ : ∃ d, j = i + 1 + d := ⟨j - i - 1, by omega⟩
  induction d with
  | zero =>
    have := h (i + 1) (by omega) hj
    rw [getD_el hj, show i + 1 - 1 = i by omega, getD_el hi] at this
    exact this
  | succ d ih =>
    have h1 := ih (by omega) (by omega)
    have h2 := h (i + 1 + (d + 1)) (by omega) hj
    rw [getD_el hj, show i + 1 + (d + 1) - 1 = i + 1 + d by omega, getD_el (by omega)] at h2
    exact ltP_trans h1 h2
theorem treeOK_rise {t : List Nd} (h : treeOK t = true) : t.length ≤ 24 ∧ Rise (t.map (·.path)) := by
  unfold treeOK at h
  rw [Bool.and_eq_true] at h
  refine ⟨of_decide_eq_true h.1, rise_of_near _ fun i h0 hi => ?_⟩
  have := List.all_eq_true.1 h.2 i (List.mem_range.2 hi)
  have h9 : ¬ i = 0 := by omega
  simp only [nodeAtOK, Bool.and_eq_true, h9, decide_false, Bool.false_or] at this
  exact this.1.2
/-! ### two sorted trees side by side -/
theorem rise_lt {x : List UInt8} {l : List (List UInt8)} (h : Rise (x :: l)) : ∀ z ∈ l, ltP x z = true := (List.pairwise_cons.1 h).1
theorem rise_tl {x : List UInt8} {l : List (List UInt8)} (h : Rise (x :: l)) : Rise l := (List.pairwise_cons.1 h).2
/-! ### the paths of layers -/
theorem drop_gt {α : Type} [Inhabited α] {l : List α} {i : Nat} (h : i < l.length) : l.drop i = gt l (i : Int) :: l.drop (i + 1) := by
  rw [List.drop_eq_getElem_cons h, getD_gt, getD_el h]
end Go.UL
