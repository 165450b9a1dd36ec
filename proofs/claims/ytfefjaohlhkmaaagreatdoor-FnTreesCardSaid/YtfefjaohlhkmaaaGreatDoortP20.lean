/- Plain Lean: what the functions compute. -/
import Derived.Test.YtfefjaohlhkmaaaGreatDoortP14
set_option linter.unusedVariables false
set_option linter.unusedSimpArgs false
namespace Go.UL
open Go.RowKit
/-! ### nodes that are found -/
/-- What one step of resolving comes to; i = 0: the path itself. -/
def resStep (t : List Nd) (p : List UInt8) (i : Nat) : Option (Int × Int) :=
  if findN t p < 0 then some (0, 5) else if i = 0 then some (findN t p, 0) else if (gt t (findN t p)).kind ≠ 3 then some (0, 13) else none
def resGo (t : List Nd) (way : List (List UInt8)) : Nat → Int × Int
  | 0 => (0, 5)
  | n + 1 => match resStep t (way.getD n []) n with
    | some x => x
    | none => resGo t way n
def resolveT (t : List Nd) (p : List UInt8) : Int × Int := resGo t ([p] ++ ancs p) ([p] ++ ancs p).length
theorem resGo_some {t : List Nd} {way : List (List UInt8)} {i : Nat} {x : Int × Int} : ∀ m, i < m → resStep t (way.getD i []) i = some x → (∀ j, i < j → j < m → resStep t (way.getD j []) j = none) → resGo t way m = x := by
  intro m
  induction m with
  | zero => intro h; omega
  | succ m ih =>
    intro h hc hj
    rw [resGo]
    by_cases e : i = m
    · subst e; rw [hc]
    · rw [hj m (by omega) (by omega)]; exact ih (by omega) hc fun j h1 h2 => hj j h1 (by omega)
/-- The way down to a path, as its parts tell it. -/
def resDown (t : List Nd) : List UInt8 → List (List UInt8) → Nd × Int
  | _, [] => (⟨0, [], [], 0⟩, 5)
  | p, x :: l => if findN t (joinP p x) < 0 then (⟨0, [], [], 0⟩, 5) else if l = [] then (gt t (findN t (joinP p x)), 0) else if (gt t (findN t (joinP p x))).kind ≠ 3 then (⟨0, [], [], 0⟩, 13) else resDown t (joinP p x) l
def findNd (t : List Nd) (p : List UInt8) : Nd × Int := resDown t [] (cut 47 p)
theorem findN_inR {t : List Nd} {p : List UInt8} (h : ¬ findN t p < 0) : inR (findN t p) t.length = true := inR_mk (by omega) (findN_lt t p)
theorem joinP_len (p x : List UInt8) : (joinP p x).length ≤ p.length + x.length + 1 := by
  unfold joinP
  split
  · omega
  · simp; omega
def spec_l04Find.b1 (a0 : List Nd) (a1 : List UInt8) : List UInt8 × Int → Option (Step (Nd × Int) (List UInt8 × Int) (Unit)) :=
  fun q => match q with
  | (x7_12, x8_13) => bif (decide (x8_13 < ((cut 47 a1).length : Int))) then (bif inR x8_13 (cut 47 a1).length then (bif decide (x7_12.length ≤ 1048576) then (bif decide ((gt (cut 47 a1) x8_13).length ≤ 1048576) then (bif decide (a0.length ≤ 1048576) then (bif (decide ((findN a0 (joinP x7_12 (gt (cut 47 a1) x8_13))) < 0)) then (some (.ret ((⟨0, ([] : List UInt8), ([] : List UInt8), 0⟩ : Nd), 5))) else (bif (decide (x8_13 = (IntKind.wrap .i64 (((cut 47 a1).length : Int) - 1)))) then (bif inR (findN a0 (joinP x7_12 (gt (cut 47 a1) x8_13))) a0.length then (some (.ret ((gt a0 (findN a0 (joinP x7_12 (gt (cut 47 a1) x8_13)))), 0))) else none) else (bif inR (findN a0 (joinP x7_12 (gt (cut 47 a1) x8_13))) a0.length then (bif (!decide (((gt a0 (findN a0 (joinP x7_12 (gt (cut 47 a1) x8_13)))).kind) = 3)) then (some (.ret ((⟨0, ([] : List UInt8), ([] : List UInt8), 0⟩ : Nd), 13))) else (some (.nxt ((joinP x7_12 (gt (cut 47 a1) x8_13)), IntKind.wrap .i64 (x8_13 + 1))))) else none))) else none) else none) else none) else none) else (some (.brk ()))
def spec_l04Find.sh (k : Nat) (a0 : List Nd) (a1 : List UInt8) : Option (Nd × Int) :=
  bif decide (a1.length ≤ 1048576) then ((loopF (spec_l04Find.b1 a0 a1) k (([] : List UInt8), 0)).bind fun z => match z with | .inl t => some t | .inr _ => some ((⟨0, ([] : List UInt8), ([] : List UInt8), 0⟩ : Nd), 5)) else none
theorem spec_l04Find.eq (a0 : List Nd) (a1 : List UInt8) (h0 : a0.length ≤ 1048576) (h1 : pathOK a1 = true) : ∃ k, spec_l04Find.sh k a0 a1 = some ((findNd a0 a1).1, (findNd a0 a1).2) := by
  have hl := pathOK_len h1
  have hd := pathOK_depth h1
  have hl2 : a1.length ≤ 1048576 := by omega
  refine ⟨(cut 47 a1).length + 1, ?_⟩
  unfold spec_l04Find.sh findNd
  have hm : ∀ x ∈ cut 47 a1, x.length ≤ 1048576 := fun x hx => by have := cut_mem 47 a1 x hx; omega
  have key : ∀ (d i : Nat) (p : List UInt8) (k : Nat), i + d = (cut 47 a1).length → d < k → p.length ≤ i * 40 → ∃ z, loopF (spec_l04Find.b1 a0 a1) k (p, (i : Int)) = some z ∧ (match z with | .inl t => some t | .inr _ => some ((⟨0, ([] : List UInt8), ([] : List UInt8), 0⟩ : Nd), (5 : Int))) = some (resDown a0 p ((cut 47 a1).drop i)) := by
    intro d
    induction d with
    | zero =>
      intro i p k hi hk _
      obtain ⟨k, rfl⟩ : ∃ j, k = j + 1 := ⟨k - 1, by omega⟩
      have : i = (cut 47 a1).length := by omega
      subst this
      exact ⟨.inr (), by simp [loopF, spec_l04Find.b1], by simp [resDown]⟩
    | succ d ih =>
      intro i p k hi hk hp
      obtain ⟨k, rfl⟩ : ∃ j, k = j + 1 := ⟨k - 1, by omega⟩
      have hlt : i < (cut 47 a1).length := by omega
      have hx := hm _ (List.getElem_mem hlt)
      have hx2 : (cut 47 a1)[i].length ≤ 36 := by have := cut_mem 47 a1 _ (List.getElem_mem hlt); omega
      have hp2 : p.length ≤ 1048576 := by omega
      have hw : IntKind.wrap .i64 (((cut 47 a1).length : Int) - 1) = ((cut 47 a1).length : Int) - 1 := wrap_small (by omega) (by omega)
      have hs := wrap_succ hlt (by omega)
      rw [List.drop_eq_getElem_cons hlt, loopF]
      obtain ⟨x, hxx⟩ : ∃ x, (cut 47 a1)[i] = x := ⟨_, rfl⟩
      have hg : gt (cut 47 a1) (i : Int) = x := by rw [getD_gt, getD_el hlt, hxx]
      rw [hxx] at hx hx2 ⊢
      simp only [spec_l04Find.b1, lt_nat, hlt, decide_true, cond_true, inR_nat hlt, hg, hp2, hx, h0, hw, hs, resDown]
      by_cases hk0 : findN a0 (joinP p x) < 0
      · exact ⟨.inl (⟨0, [], [], 0⟩, 5), by simp only [hk0, decide_true, cond_true, Option.bind_some], by simp [hk0]⟩
      · simp only [hk0, decide_false, cond_false, if_false, findN_inR hk0, cond_true]
        by_cases he : (i : Int) = ((cut 47 a1).length : Int) - 1
        · have hnil : (cut 47 a1).drop (i + 1) = [] := List.drop_of_length_le (by omega)
          exact ⟨.inl (gt a0 (findN a0 (joinP p x)), 0), by simp only [he, decide_true, cond_true, Option.bind_some], by simp [hnil]⟩
        · have hnil : ¬ (cut 47 a1).drop (i + 1) = [] := by
            intro e
            have := congrArg List.length e
            simp at this; omega
          simp only [he, decide_false, cond_false, hnil, if_false]
          by_cases h3 : (gt a0 (findN a0 (joinP p x))).kind = 3
          · have hj := joinP_len p x
            obtain ⟨z, hz, hP⟩ := ih (i + 1) (joinP p x) k (by omega) (by omega) (by omega)
            rw [Int.natCast_add, Int.natCast_one] at hz
            exact ⟨z, by simp only [h3, decide_true, Bool.not_true, cond_false, Option.bind_some]; exact hz, by simp only [h3, ne_eq, not_true_eq_false, if_false]; exact hP⟩
          · exact ⟨.inl (⟨0, [], [], 0⟩, 13), by simp only [h3, decide_false, Bool.not_false, cond_true, Option.bind_some], by simp [h3]⟩
  obtain ⟨z, hz, hP⟩ := key (cut 47 a1).length 0 [] ((cut 47 a1).length + 1) (by omega) (by omega) (by simp)
  simp only [Int.natCast_zero] at hz
  simp only [hl2, decide_true, cond_true]
  rw [show loopF (spec_l04Find.b1 a0 a1) ((cut 47 a1).length + 1) (([] : List UInt8), (0 : Int)) = some z from hz]
  simpa using hP
/-! ### paths and their parts -/
theorem preL_cons (p x : List UInt8) (l : List (List UInt8)) : preL p (x :: l) = (p ++ x) :: l := rfl
theorem cut_cons_ne {b : UInt8} {l : List UInt8} (h : bn b ≠ 47) : cut 47 (b :: l) = preL [b] (cut 47 l) := by rw [cut, if_neg h]
theorem cut_cons_eq {b : UInt8} {l : List UInt8} (h : bn b = 47) : cut 47 (b :: l) = [] :: cut 47 l := by rw [cut, if_pos h]
theorem slash_bn : bn (47 : UInt8) = 47 := rfl
/-- A text is its parts with strokes between. -/
def joinL : List (List UInt8) → List UInt8
  | [] => []
  | [x] => x
  | x :: y :: l => x ++ 47 :: joinL (y :: l)
theorem joinL_cons (x : List UInt8) {l : List (List UInt8)} (h : l ≠ []) : joinL (x :: l) = x ++ 47 :: joinL l := by
  cases l with
  | nil => exact absurd rfl h
  | cons y l => rfl
theorem joinL_preL (p : List UInt8) (l : List (List UInt8)) (h : l ≠ []) : joinL (preL p l) = p ++ joinL l := by
  cases l with
  | nil => exact absurd rfl h
  | cons x l =>
    rw [preL_cons]
    cases l with
    | nil => rfl
    | cons y l => simp [joinL]
theorem joinL_cut (t : List UInt8) : joinL (cut 47 t) = t := by
  induction t with
  | nil => rfl
  | cons b l ih =>
    by_cases h : bn b = 47
    · have hb : b = 47 := by
        apply UInt8.toNat.inj
        show b.toNat = 47
        unfold bn at h; omega
      rw [cut_cons_eq h, joinL_cons _ (cut_ne 47 l), ih, hb]; rfl
    · rw [cut_cons_ne h, joinL_preL _ _ (cut_ne 47 l), ih]; rfl
theorem cut_free {x : List UInt8} (h : ∀ b ∈ x, bn b ≠ 47) : cut 47 x = [x] := by
  induction x with
  | nil => rfl
  | cons b l ih =>
    rw [cut_cons_ne (h b (by simp)), ih (fun c hc => h c (by simp [hc]))]; rfl
theorem cut_app {x t : List UInt8} (h : ∀ b ∈ x, bn b ≠ 47) : cut 47 (x ++ 47 :: t) = x :: cut 47 t := by
  induction x with
  | nil => exact cut_cons_eq slash_bn
  | cons b l ih =>
    rw [List.cons_append, cut_cons_ne (h b (by simp)), ih (fun c hc => h c (by simp [hc]))]; rfl
theorem cut_parts (t : List UInt8) : ∀ x ∈ cut 47 t, ∀ b ∈ x, bn b ≠ 47 := by
  induction t with
  | nil => intro x hx; simp [cut] at hx; subst hx; simp
  | cons b l ih =>
    by_cases h : bn b = 47
    · rw [cut_cons_eq h]
      intro x hx
      rcases List.mem_cons.1 hx with rfl | hx
      · simp
      · exact ih x hx
    · rw [cut_cons_ne h]
      cases hc : cut 47 l with
      | nil => exact absurd hc (cut_ne 47 l)
      | cons y r =>
        rw [hc] at ih
        rw [preL_cons]
        intro x hx
        rcases List.mem_cons.1 hx with rfl | hx
        · intro c hcx
          rcases List.mem_append.1 hcx with h2 | h2
          · simp at h2; subst h2; exact h
          · exact ih y (by simp) c h2
        · exact ih x (by simp [hx])
/-- Texts are their parts: lists of texts without strokes. -/
theorem cut_joinL {l : List (List UInt8)} (hn : l ≠ []) (h : ∀ x ∈ l, ∀ b ∈ x, bn b ≠ 47) : cut 47 (joinL l) = l := by
  induction l with
  | nil => exact absurd rfl hn
  | cons x l ih =>
    by_cases hl : l = []
    · subst hl; exact cut_free (h x (by simp))
    · rw [joinL_cons x hl, cut_app (h x (by simp)), ih hl (fun y hy => h y (by simp [hy]))]
theorem cut_inj {a b : List UInt8} (h : cut 47 a = cut 47 b) : a = b := by rw [← joinL_cut a, ← joinL_cut b, h]
theorem lastSlash_app (x t : List UInt8) (ht : ∀ b ∈ t, bn b ≠ 47) : lastSlash (x ++ 47 :: t) = x.length := by
  apply lastSlash_of (by simp) (by simp [List.getD_eq_getElem?_getD]; exact slash_bn)
  intro j h1 h2
  obtain ⟨m, rfl⟩ : ∃ m, j = x.length + 1 + m := ⟨j - x.length - 1, by omega⟩
  have h3 : m < t.length := by simp at h2; omega
  have : (x ++ 47 :: t).getD (x.length + 1 + m) 0 = t[m] := by
    have e : x.length + 1 + m - x.length = m + 1 := by omega
    rw [List.getD_eq_getElem?_getD, List.getElem?_append_right (by omega), e, List.getElem?_cons_succ, List.getElem?_eq_getElem h3]; rfl
  rw [this]
  exact ht _ (List.getElem_mem h3)
theorem joinL_append {l : List (List UInt8)} (x : List UInt8) (h : l ≠ []) : joinL (l ++ [x]) = joinL l ++ 47 :: x := by
  induction l with
  | nil => exact absurd rfl h
  | cons y l ih =>
    by_cases hl : l = []
    · subst hl; rfl
    · rw [List.cons_append, joinL_cons y (by simp), ih hl, joinL_cons y hl]; simp
/-- What is above a path has one part less. -/
theorem parentP_joinL {l : List (List UInt8)} {x : List UInt8} (h : ∀ y ∈ l ++ [x], ∀ b ∈ y, bn b ≠ 47) : parentP (joinL (l ++ [x])) = joinL l := by
  by_cases hl : l = []
  · subst hl
    have : lastSlash x = -1 := lastSlash_no fun j hj => h x (by simp) _ (by rw [List.getD_eq_getElem?_getD, List.getElem?_eq_getElem hj]; exact List.getElem_mem hj)
    simp [parentP, joinL, this]
  · rw [joinL_append x hl, parentP, lastSlash_app _ _ (fun b hb => h x (by simp) b hb)]
    simp
theorem parentP_cut (t : List UInt8) : parentP t = joinL (cut 47 t).dropLast := by
  obtain ⟨l, x, hlx⟩ : ∃ l x, cut 47 t = l ++ [x] := ⟨(cut 47 t).dropLast, (cut 47 t).getLast (cut_ne 47 t), (List.dropLast_concat_getLast (cut_ne 47 t)).symm⟩
  have hp := cut_parts t
  have := parentP_joinL (l := l) (x := x) (by rw [← hlx]; exact hp)
  rw [hlx, List.dropLast_concat, ← this, ← hlx, joinL_cut]
/-- The parts of a path are right ones, none of them empty. -/
theorem pathOK_parts {t : List UInt8} (h : pathOK t = true) : ∀ x ∈ cut 47 t, x ≠ [] := by
  simp only [pathOK, Bool.and_eq_true, decide_eq_true_eq, List.all_eq_true] at h
  intro x hx he
  have := h.2.2 x hx
  rw [he] at this
  revert this; decide
theorem joinL_ne {l : List (List UInt8)} (h : l ≠ []) (hp : ∀ x ∈ l, x ≠ []) : joinL l ≠ [] := by
  cases l with
  | nil => exact absurd rfl h
  | cons x l =>
    have := hp x (by simp)
    cases l with
    | nil => simpa [joinL] using this
    | cons y l => simp [joinL]
theorem joinP_joinL {l : List (List UInt8)} (x : List UInt8) (hp : ∀ y ∈ l, y ≠ []) : joinP (joinL l) x = joinL (l ++ [x]) := by
  by_cases hl : l = []
  · subst hl; simp [joinP, joinL]
  · rw [joinP, if_neg (joinL_ne hl hp), joinL_append x hl]; simp
/-- What is above, from below: the beginnings of the parts. -/
theorem ancs_joinL : ∀ (n : Nat) (l : List (List UInt8)), l.length = n → (∀ y ∈ l, ∀ b ∈ y, bn b ≠ 47) → (∀ y ∈ l, y ≠ []) → ancs (joinL l) = ((List.range (l.length - 1)).map fun k => joinL (l.take (k + 1))).reverse := by
  intro n
  induction n with
  | zero => intro l hl _ _; have : l = [] := List.eq_nil_of_length_eq_zero hl; subst this; rfl
  | succ n ih =>
    intro l hl hp hn
    have hne : l ≠ [] := by intro e; subst e; simp at hl
    obtain ⟨m, x, rfl⟩ : ∃ m x, l = m ++ [x] := ⟨l.dropLast, l.getLast hne, (List.dropLast_concat_getLast hne).symm⟩
    rw [ancs_eq, parentP_joinL hp]
    have hm : m.length = n := by simpa using hl
    by_cases hm0 : m = []
    · subst hm0; simp [joinL]
    · have hpm : ∀ y ∈ m, y ≠ [] := fun y hy => hn y (by simp [hy])
      rw [if_neg (joinL_ne hm0 hpm), ih m hm (fun y hy => hp y (by simp [hy])) hpm]
      have hml : 0 < m.length := List.length_pos_iff.2 hm0
      have e1 : (m ++ [x]).length - 1 = (m.length - 1) + 1 := by simp; omega
      rw [e1, List.range_succ, List.map_append, List.reverse_append]
      simp only [List.map_cons, List.map_nil, List.reverse_cons, List.reverse_nil, List.nil_append, List.cons_append]
      congr 1
      · have e2 : m.length - 1 + 1 = m.length := by omega
        rw [e2, List.take_left]
      · congr 1
        apply List.map_congr_left
        intro k hk
        have := List.mem_range.1 hk
        rw [List.take_append_of_le_length (by omega)]
theorem ancs_cut {t : List UInt8} (h : pathOK t = true) : ancs t = ((List.range ((cut 47 t).length - 1)).map fun k => joinL ((cut 47 t).take (k + 1))).reverse := by
  have := ancs_joinL _ (cut 47 t) rfl (cut_parts t) (pathOK_parts h)
  rwa [joinL_cut] at this
/-- The way from a path's first part down to it. -/
theorem way_cut {t : List UInt8} (h : pathOK t = true) : [t] ++ ancs t = ((List.range (cut 47 t).length).map fun k => joinL ((cut 47 t).take (k + 1))).reverse := by
  have hl : 0 < (cut 47 t).length := List.length_pos_iff.2 (cut_ne 47 t)
  have e : (cut 47 t).length = ((cut 47 t).length - 1) + 1 := by omega
  rw [ancs_cut h]
  conv => rhs; rw [e, List.range_succ, List.map_append, List.reverse_append]
  simp only [List.map_cons, List.map_nil, List.reverse_cons, List.reverse_nil, List.nil_append, List.cons_append]
  congr 1
  have e2 : (cut 47 t).length - 1 + 1 = (cut 47 t).length := by omega
  rw [e2, List.take_length, joinL_cut]
/-- Resolving upward and downward are one. -/
theorem resolve_down {t : List Nd} {p : List UInt8} (h : pathOK p = true) : findNd t p = (if (resolveT t p).2 = 0 then gt t (resolveT t p).1 else ⟨0, [], [], 0⟩, (resolveT t p).2) := by
  have hway := way_cut h
  have hparts := pathOK_parts h
  unfold findNd resolveT
  rw [hway]
  have hlen : (((List.range (cut 47 p).length).map fun k => joinL ((cut 47 p).take (k + 1))).reverse).length = (cut 47 p).length := by simp
  rw [hlen]
  have key : ∀ (d i : Nat), i + d = (cut 47 p).length → 0 < d ∨ i = 0 → resDown t (joinL ((cut 47 p).take i)) ((cut 47 p).drop i) =
      (if (resGo t (((List.range (cut 47 p).length).map fun k => joinL ((cut 47 p).take (k + 1))).reverse) d).2 = 0 then gt t (resGo t (((List.range (cut 47 p).length).map fun k => joinL ((cut 47 p).take (k + 1))).reverse) d).1 else ⟨0, [], [], 0⟩,
        (resGo t (((List.range (cut 47 p).length).map fun k => joinL ((cut 47 p).take (k + 1))).reverse) d).2) := by
    intro d
    induction d with
    | zero =>
      intro i hi h0
      exfalso
      have := List.length_pos_iff.2 (cut_ne 47 p)
      omega
    | succ d ih =>
      intro i hi _
      have hlt : i < (cut 47 p).length := by omega
      have hw : (((List.range (cut 47 p).length).map fun k => joinL ((cut 47 p).take (k + 1))).reverse).getD d [] = joinL ((cut 47 p).take (i + 1)) := by
        have h1 : d < (((List.range (cut 47 p).length).map fun k => joinL ((cut 47 p).take (k + 1))).reverse).length := by rw [hlen]; omega
        rw [List.getD_eq_getElem?_getD, List.getElem?_eq_getElem h1]
        simp only [List.getElem_reverse, List.getElem_map, List.getElem_range, List.length_map, List.length_range, Option.getD_some]
        congr 2; omega
      have hj : joinP (joinL ((cut 47 p).take i)) (cut 47 p)[i] = joinL ((cut 47 p).take (i + 1)) := by
        rw [joinP_joinL _ (fun y hy => hparts y (List.mem_of_mem_take hy)), List.take_succ_eq_append_getElem hlt]
      rw [List.drop_eq_getElem_cons hlt, resDown, hj, resGo, hw]
      obtain ⟨q, hq⟩ : ∃ q, joinL ((cut 47 p).take (i + 1)) = q := ⟨_, rfl⟩
      rw [hq]
      unfold resStep
      by_cases h1 : findN t q < 0
      · simp [h1]
      · simp only [h1, if_false]
        by_cases hd : d = 0
        · have hnil : (cut 47 p).drop (i + 1) = [] := List.drop_of_length_le (by omega)
          simp [hd, hnil]
        · have hnil : ¬ (cut 47 p).drop (i + 1) = [] := by
            intro e
            have := congrArg List.length e
            simp at this; omega
          simp only [hnil, hd, if_false]
          by_cases h3 : (gt t (findN t q)).kind = 3
          · simp only [h3, ne_eq, not_true_eq_false, if_false]
            rw [← hq]
            exact ih (i + 1) (by omega) (.inl (by omega))
          · simp [h3]
  have := key (cut 47 p).length 0 (by omega) (.inr rfl)
  simpa [joinL] using this

theorem resGo_zero {t : List Nd} {way : List (List UInt8)} : ∀ n, (resGo t way n).2 = 0 → inR (resGo t way n).1 t.length = true := by
  intro n
  induction n with
  | zero => intro h; simp [resGo] at h
  | succ n ih =>
    rw [resGo]
    unfold resStep
    obtain ⟨q, hq⟩ : ∃ q, way.getD n [] = q := ⟨_, rfl⟩
    rw [hq]
    by_cases h1 : findN t q < 0
    · simp [h1]
    · simp only [h1, if_false]
      by_cases hn : n = 0
      · simp only [hn, if_true]; intro _; exact findN_inR h1
      · simp only [hn, if_false]
        by_cases h3 : (gt t (findN t q)).kind = 3
        · simp only [h3, ne_eq, not_true_eq_false, if_false]; exact ih
        · simp [h3]
theorem resolveT_zero {t : List Nd} {p : List UInt8} (h : (resolveT t p).2 = 0) : inR (resolveT t p).1 t.length = true := resGo_zero _ h
def askT (l : List Nd) (p : List UInt8) : Int := if decide (4096 < l.length) || decide (65536 < p.length) then 2 else if !treeOK l then 1 else 0
def zeroN : Nd := ⟨0, [], [], 0⟩
def findNode (l : List Nd) (p : List UInt8) : Nd × Int := if askT l p ≠ 0 then (zeroN, askT l p) else if !pathOK p then (zeroN, 10) else findNd l p
def spec_l04Ask.sh (a0 : List Nd) (a1 : List UInt8) : Option (Int) :=
  bif ((decide (4096 < (a0.length : Int))) || (decide (65536 < (a1.length : Int)))) then (some 2) else (bif decide (∀ x ∈ a0, x.path.length ≤ 1048576) then (bif (!(treeOK a0)) then (some 1) else (some 0)) else none)
theorem spec_l04Ask.eq (a0 : List Nd) (a1 : List UInt8) (h1 : ∀ x ∈ a0, x.path.length ≤ 1048576) : spec_l04Ask.sh a0 a1 = some (askT a0 a1) := by
  unfold spec_l04Ask.sh askT
  rw [lenN4096, len_dec]
  by_cases h : (decide (4096 < a0.length) || decide (65536 < a1.length)) = true
  · simp only [h, cond_true, if_true]
  · simp only [h, cond_false, if_false, decide_eq_true h1, cond_true, Bool.false_eq_true]
    rcases bool_two (treeOK a0) with ht | ht <;> simp [ht]
def spec_FindNode.sh (a0 : List Nd) (a1 : List UInt8) : Option (Nd × Int) :=
  bif ((decide (4096 < (a0.length : Int))) || (decide (65536 < (a1.length : Int)))) then (some ((⟨0, ([] : List UInt8), ([] : List UInt8), 0⟩ : Nd), 2)) else (bif decide (∀ x ∈ a0, x.path.length ≤ 1048576) then (bif (!decide ((askT a0 a1) = 0)) then (some ((⟨0, ([] : List UInt8), ([] : List UInt8), 0⟩ : Nd), (askT a0 a1))) else (bif (!(pathOK a1)) then (some ((⟨0, ([] : List UInt8), ([] : List UInt8), 0⟩ : Nd), 10)) else (bif decide (a0.length ≤ 1048576) then (bif decide (pathOK a1 = true) then (some (((findNd a0 a1).1), (findNd a0 a1).2)) else none) else none))) else none)
theorem spec_FindNode.eq (a0 : List Nd) (a1 : List UInt8) (h0 : a0.length ≤ 1048576) (h1 : ∀ x ∈ a0, x.path.length ≤ 1048576) : spec_FindNode.sh a0 a1 = some ((findNode a0 a1).1, (findNode a0 a1).2) := by
  unfold spec_FindNode.sh findNode
  rw [lenN4096, len_dec]
  by_cases h : (decide (4096 < a0.length) || decide (65536 < a1.length)) = true
  · have : askT a0 a1 = 2 := by simp [askT, h]
    simp only [h, cond_true, this]; rfl
  · simp only [h, cond_false, decide_eq_true h1, cond_true]
    by_cases ha : askT a0 a1 = 0
    · rcases bool_two (pathOK a1) with hp | hp
      · simp [ha, hp, h0]
      · simp [ha, hp, zeroN]
    · simp [ha, zeroN]
def impl_FindNode.sh (a0 : List Nd) (a1 : List UInt8) : Option (Nd × Int) :=
  bif decide (([a1] : List (List UInt8)).length ≤ 4611686018427387904) then (bif decide (a0.length ≤ 1048576) then (bif decide (∀ x ∈ a0, x.path.length ≤ 1048576) then (bif decide (([.inl ((([a1] : List (List UInt8)).any fun t => decide (65536 < t.length)) || (decide (4096 < a0.length))), .inr 2, .inl (!(treeOK a0)), .inr 1, .inl (!(pathOK a1)), .inr 10] : List (Bool ⊕ Int)).length ≤ 4611686018427387904) then ((some (firstOf ([.inl ((([a1] : List (List UInt8)).any fun t => decide (65536 < t.length)) || (decide (4096 < a0.length))), .inr 2, .inl (!(treeOK a0)), .inr 1, .inl (!(pathOK a1)), .inr 10] : List (Bool ⊕ Int)))).bind fun z37 => bif (!decide (z37 = 0)) then (some ((⟨0, ([] : List UInt8), ([] : List UInt8), 0⟩ : Nd), z37)) else (bif decide (a0.length ≤ 1048576) then (bif decide (a1.length ≤ 1048576) then (bif (!decide (((resolveT a0 a1).2) = 0)) then (some ((⟨0, ([] : List UInt8), ([] : List UInt8), 0⟩ : Nd), (resolveT a0 a1).2)) else (bif inR ((resolveT a0 a1).1) a0.length then (some ((gt a0 ((resolveT a0 a1).1)), 0)) else none)) else none) else none)) else none) else none) else none) else none
theorem impl_FindNode.eq (a0 : List Nd) (a1 : List UInt8) (h0 : a0.length ≤ 1048576) (h1 : ∀ x ∈ a0, x.path.length ≤ 1048576) : impl_FindNode.sh a0 a1 = some ((findNode a0 a1).1, (findNode a0 a1).2) := by
  unfold impl_FindNode.sh findNode askT
  simp only [h0, decide_true, cond_true, decide_eq_true h1, firstOf_c, List.length_cons, List.length_nil, firstOf, anyB, anyI, List.any_cons, List.any_nil, Bool.or_false]
  rw [Bool.or_comm (decide (65536 < a1.length))]
  by_cases h : 4096 < a0.length
  · simp [h, zeroN]
  · by_cases h2 : 65536 < a1.length
    · simp [h, h2, zeroN]
    · rcases bool_two (treeOK a0) with ht | ht
      · rcases bool_two (pathOK a1) with hp | hp
        · have hs := pathOK_small hp
          rw [resolve_down hp]
          by_cases hc : (resolveT a0 a1).2 = 0
          · simp [h, h2, ht, hp, hs, hc, resolveT_zero hc]
          · simp [h, h2, ht, hp, hs, hc]
        · simp [h, h2, ht, hp, zeroN]
      · simp [h, h2, ht, zeroN]
/-! ### what stands in a directory -/
def lastP (t : List UInt8) : List UInt8 := t.drop (lastSlash t + 1).toNat
theorem lastP_joinL {l : List (List UInt8)} {x : List UInt8} (h : ∀ y ∈ l ++ [x], ∀ b ∈ y, bn b ≠ 47) : lastP (joinL (l ++ [x])) = x := by
  by_cases hl : l = []
  · subst hl
    have : lastSlash x = -1 := lastSlash_no fun j hj => h x (by simp) _ (by rw [List.getD_eq_getElem?_getD, List.getElem?_eq_getElem hj]; exact List.getElem_mem hj)
    simp [lastP, joinL, this]
  · rw [joinL_append x hl, lastP, lastSlash_app _ _ (fun b hb => h x (by simp) b hb)]
    have : ((joinL l).length + 1 : Int).toNat = (joinL l).length + 1 := by omega
    rw [this, List.drop_append]
    simp
theorem lastP_cut (t : List UInt8) : gt (cut 47 t) (((cut 47 t).length : Int) - 1) = lastP t := by
  obtain ⟨l, x, hlx⟩ : ∃ l x, cut 47 t = l ++ [x] := ⟨(cut 47 t).dropLast, (cut 47 t).getLast (cut_ne 47 t), (List.dropLast_concat_getLast (cut_ne 47 t)).symm⟩
  have hp := cut_parts t
  have := lastP_joinL (l := l) (x := x) (by rw [← hlx]; exact hp)
  rw [← hlx, joinL_cut] at this
  rw [this, hlx]
  have e : (((l ++ [x]).length : Int) - 1) = ((l.length : Nat) : Int) := by simp
  rw [e, getD_gt]
  simp [List.getD_eq_getElem?_getD]
def listT (l : List Nd) (p : List UInt8) : List (List UInt8) := (l.filter fun n => decide (parentP n.path = p)).map fun n => lastP n.path
theorem listT_len (l : List Nd) (p : List UInt8) : (listT l p).length ≤ l.length := by simpa [listT] using List.length_filter_le _ l
def listDir (l : List Nd) (p : List UInt8) : List (List UInt8) × Int :=
  if askT l p ≠ 0 then ([], askT l p) else if p = [] then (listT l p, 0) else if !pathOK p then ([], 10) else if (findNd l p).2 ≠ 0 then ([], (findNd l p).2) else if (findNd l p).1.kind ≠ 3 then ([], 13) else (listT l p, 0)
theorem listDir_len (l : List Nd) (p : List UInt8) : (listDir l p).1.length ≤ l.length := by
  have := listT_len l p
  unfold listDir
  repeat (split; first | exact this | simp)
  exact this
def spec_l04List.b1 (a0 : List Nd) (a1 : List UInt8) : List (List UInt8) × Int → Option (Step (List (List UInt8)) (List (List UInt8) × Int) (List (List UInt8))) :=
  fun q => match q with
  | (x5_7, x6_9) => bif (decide (x6_9 < (a0.length : Int))) then (bif inR x6_9 a0.length then (bif decide (((gt a0 x6_9).path).length ≤ 4611686018427387904) then (bif (decide ((parentP ((gt a0 x6_9).path)) = a1)) then (bif inR x6_9 a0.length then (bif decide (((gt a0 x6_9).path).length ≤ 1048576) then (bif inR (IntKind.wrap .i64 (((cut 47 ((gt a0 x6_9).path)).length : Int) - 1)) (cut 47 ((gt a0 x6_9).path)).length then (bif decide ((x5_7.length + ([gt (cut 47 ((gt a0 x6_9).path)) (IntKind.wrap .i64 (((cut 47 ((gt a0 x6_9).path)).length : Int) - 1))] : List (List UInt8)).length) * 16 ≤ 140737488355328) then (some (.nxt (x5_7 ++ ([gt (cut 47 ((gt a0 x6_9).path)) (IntKind.wrap .i64 (((cut 47 ((gt a0 x6_9).path)).length : Int) - 1))] : List (List UInt8)), IntKind.wrap .i64 (x6_9 + 1)))) else none) else none) else none) else none) else (some (.nxt (x5_7, IntKind.wrap .i64 (x6_9 + 1))))) else none) else none) else (some (.brk x5_7))
def spec_l04List.sh (k : Nat) (a0 : List Nd) (a1 : List UInt8) : Option (List (List UInt8)) :=
  (loopF (spec_l04List.b1 a0 a1) k (([] : List (List UInt8)), 0)).bind fun z => match z with | .inl t => some t | .inr x5_13 => some x5_13
theorem spec_l04List.eq (a0 : List Nd) (a1 : List UInt8) (h0 : a0.length ≤ 1048576) (h1 : ∀ x ∈ a0, x.path.length ≤ 1048576) : ∃ k, spec_l04List.sh k a0 a1 = some (listT a0 a1) := by
  refine ⟨a0.length + 1, ?_⟩
  unfold spec_l04List.sh
  rw [collect_run a0 (fun n => if decide (parentP n.path = a1) then some (lastP n.path) else none) (spec_l04List.b1 a0 a1) (fun i hi acc ha => by
    have hp := h1 _ (List.getElem_mem hi)
    have hp2 : a0[i].path.length ≤ 4611686018427387904 := by omega
    have e1 : ∀ z : List UInt8, (acc.length + ([z] : List (List UInt8)).length) * 16 ≤ 140737488355328 := fun z => by simp; omega
    have hc := cut_len 47 a0[i].path
    have hc0 : 0 < (cut 47 a0[i].path).length := List.length_pos_iff.2 (cut_ne 47 _)
    have hw : IntKind.wrap .i64 (((cut 47 a0[i].path).length : Int) - 1) = ((cut 47 a0[i].path).length : Int) - 1 := wrap_small (by omega) (by omega)
    have hin : inR (((cut 47 a0[i].path).length : Int) - 1) (cut 47 a0[i].path).length = true := inR_mk (by omega) (by omega)
    simp only [spec_l04List.b1, lt_nat, hi, decide_true, cond_true, inR_nat hi, getD_gt, getD_el hi, hp, hp2, e1, hw, lastP_cut, hin, wrap_succ hi (by omega)]
    by_cases hq : parentP a0[i].path = a1 <;> simp [hq]) (fun acc => by simp [spec_l04List.b1]), filterMap_if]
  simp [listT]
def spec_ListDir.sh (a0 : List Nd) (a1 : List UInt8) : Option (List (List UInt8) × Int) :=
  bif ((decide (4096 < (a0.length : Int))) || (decide (65536 < (a1.length : Int)))) then (some (([] : List (List UInt8)), 2)) else (bif decide (∀ x ∈ a0, x.path.length ≤ 1048576) then (bif (!decide ((askT a0 a1) = 0)) then (some (([] : List (List UInt8)), (askT a0 a1))) else (bif (decide (a1 = ([] : List UInt8))) then (bif decide (a0.length ≤ 1048576) then (bif decide (∀ x ∈ a0, x.path.length ≤ 1048576) then (some ((listT a0 a1), 0)) else none) else none) else (bif (!(pathOK a1)) then (some (([] : List (List UInt8)), 10)) else (bif decide (a0.length ≤ 1048576) then (bif decide (pathOK a1 = true) then (bif (!decide (((findNd a0 a1).2) = 0)) then (some (([] : List (List UInt8)), (findNd a0 a1).2)) else (bif (!decide ((((findNd a0 a1).1).kind) = 3)) then (some (([] : List (List UInt8)), 13)) else (bif decide (a0.length ≤ 1048576) then (bif decide (∀ x ∈ a0, x.path.length ≤ 1048576) then (some ((listT a0 a1), 0)) else none) else none))) else none) else none)))) else none)
theorem spec_ListDir.eq (a0 : List Nd) (a1 : List UInt8) (h0 : a0.length ≤ 1048576) (h1 : ∀ x ∈ a0, x.path.length ≤ 1048576) : spec_ListDir.sh a0 a1 = some ((listDir a0 a1).1, (listDir a0 a1).2) := by
  unfold spec_ListDir.sh listDir
  rw [lenN4096, len_dec]
  by_cases h : (decide (4096 < a0.length) || decide (65536 < a1.length)) = true
  · have : askT a0 a1 = 2 := by simp [askT, h]
    simp only [h, cond_true, this]; rfl
  · simp only [h, cond_false, decide_eq_true h1, cond_true]
    by_cases ha : askT a0 a1 = 0
    · by_cases hn : a1 = []
      · subst hn; simp [ha, h0]
      · rcases bool_two (pathOK a1) with hp | hp
        · by_cases hc : (findNd a0 a1).2 = 0
          · by_cases h3 : (findNd a0 a1).1.kind = 3 <;> simp [ha, hn, hp, h0, hc, h3]
          · simp [ha, hn, hp, h0, hc]
        · simp [ha, hn, hp]
    · simp [ha]
def impl_last.sh (a0 : List UInt8) : Option (List UInt8) :=
  bif decide (a0.length ≤ 1048576) then (bif decide (([47] : List UInt8) = [47]) then (bif inS (IntKind.wrap .i64 ((lastSlash a0) + 1)) (a0.length : Int) (a0.length : Int) then (some (sub a0 (IntKind.wrap .i64 ((lastSlash a0) + 1)) (a0.length : Int))) else none) else none) else none
theorem impl_last.eq (a0 : List UInt8) (h : a0.length ≤ 1048576) : impl_last.sh a0 = some (lastP a0) := by
  unfold impl_last.sh
  have hge := lastSlash_ge a0
  have hlt := lastSlash_lt a0
  have hw : IntKind.wrap .i64 (lastSlash a0 + 1) = lastSlash a0 + 1 := wrap_small (by omega) (by omega)
  simp only [h, decide_true, cond_true, hw]
  rw [inS_mk (l := lastSlash a0 + 1) (h := (a0.length : Int)) (n := (a0.length : Int)) (by omega) (by omega) (by omega)]
  simp [sub, lastP]
def impl_ListDir.b1 (a0 : List Nd) (a1 : List UInt8) : List (List UInt8) × Int → Option (Step (List (List UInt8) × Int) (List (List UInt8) × Int) (List (List UInt8))) :=
  fun q => match q with
  | (x9_65, x60_67) => bif (decide (x60_67 < (a0.length : Int))) then (bif inR x60_67 a0.length then (bif decide (((gt a0 x60_67).path).length ≤ 1048576) then (bif (decide ((parentP ((gt a0 x60_67).path)) = a1)) then (bif decide (((gt a0 x60_67).path).length ≤ 1048576) then (bif decide ((x9_65.length + ([(lastP ((gt a0 x60_67).path))] : List (List UInt8)).length) * 16 ≤ 140737488355328) then (some (.nxt (x9_65 ++ ([(lastP ((gt a0 x60_67).path))] : List (List UInt8)), IntKind.wrap .i64 (x60_67 + 1)))) else none) else none) else (some (.nxt (x9_65, IntKind.wrap .i64 (x60_67 + 1))))) else none) else none) else (some (.brk x9_65))
def impl_ListDir.sh (k : Nat) (a0 : List Nd) (a1 : List UInt8) : Option (List (List UInt8) × Int) :=
  bif decide (([a1] : List (List UInt8)).length ≤ 4611686018427387904) then (bif decide (a0.length ≤ 1048576) then (bif decide (∀ x ∈ a0, x.path.length ≤ 1048576) then (bif decide (([.inl ((([a1] : List (List UInt8)).any fun t => decide (65536 < t.length)) || (decide (4096 < a0.length))), .inr 2, .inl (!(treeOK a0)), .inr 1, .inl (!(decide (a1 = []) || pathOK a1)), .inr 10] : List (Bool ⊕ Int)).length ≤ 4611686018427387904) then ((some (firstOf ([.inl ((([a1] : List (List UInt8)).any fun t => decide (65536 < t.length)) || (decide (4096 < a0.length))), .inr 2, .inl (!(treeOK a0)), .inr 1, .inl (!(decide (a1 = []) || pathOK a1)), .inr 10] : List (Bool ⊕ Int)))).bind fun z31 => bif (!decide (z31 = 0)) then (some ([], z31)) else ((bif (!decide (a1 = ([] : List UInt8))) then (bif decide (a0.length ≤ 1048576) then (bif decide (a1.length ≤ 1048576) then (((bif (decide (((resolveT a0 a1).2) = 0)) then (bif inR ((resolveT a0 a1).1) a0.length then (some (!decide (((gt a0 ((resolveT a0 a1).1)).kind) = 3))) else none) else some false)).bind fun z43 => bif z43 then (bif (!decide ((13 : Int) = 0)) then (some (.inl ([], 13))) else (some (.inr ()))) else (bif (!decide (((resolveT a0 a1).2) = 0)) then (some (.inl ([], (resolveT a0 a1).2))) else (some (.inr ())))) else none) else none) else (some (.inr ())) : Option ((List (List UInt8) × Int) ⊕ (Unit))).bind fun z => match z with | .inl t => some t | .inr _ => (loopF (impl_ListDir.b1 a0 a1) k (([] : List (List UInt8)), 0)).bind fun z => match z with | .inl t => some t | .inr x9_71 => some (x9_71, 0))) else none) else none) else none) else none
theorem impl_ListDir.eq (a0 : List Nd) (a1 : List UInt8) (h0 : a0.length ≤ 1048576) (h1 : ∀ x ∈ a0, x.path.length ≤ 1048576) : ∃ k, impl_ListDir.sh k a0 a1 = some ((listDir a0 a1).1, (listDir a0 a1).2) := by
  refine ⟨a0.length + 1, ?_⟩
  unfold impl_ListDir.sh listDir askT
  have hrun := collect_run (T := List (List UInt8) × Int) a0 (fun n => if decide (parentP n.path = a1) then some (lastP n.path) else none) (impl_ListDir.b1 a0 a1) (fun i hi acc ha => by
    have hp := h1 _ (List.getElem_mem hi)
    have e1 : ∀ z : List UInt8, (acc.length + ([z] : List (List UInt8)).length) * 16 ≤ 140737488355328 := fun z => by simp; omega
    simp only [impl_ListDir.b1, lt_nat, hi, decide_true, cond_true, inR_nat hi, getD_gt, getD_el hi, hp, e1, wrap_succ hi (by omega)]
    by_cases hq : parentP a0[i].path = a1 <;> simp [hq]) (fun acc => by simp [impl_ListDir.b1])
  rw [filterMap_if] at hrun
  rw [hrun]
  simp only [h0, decide_true, cond_true, decide_eq_true h1, firstOf_c, List.length_cons, List.length_nil, firstOf, anyB, anyI, List.any_cons, List.any_nil, Bool.or_false]
  rw [Bool.or_comm (decide (65536 < a1.length))]
  by_cases h : 4096 < a0.length
  · simp [h]
  · by_cases h2 : 65536 < a1.length
    · simp [h, h2]
    · rcases bool_two (treeOK a0) with ht | ht
      · by_cases hn : a1 = []
        · subst hn; simp [h, ht, listT]
        · rcases bool_two (pathOK a1) with hp | hp
          · have hs := pathOK_small hp
            rw [resolve_down hp]
            by_cases hc : (resolveT a0 a1).2 = 0
            · by_cases h3 : (gt a0 (resolveT a0 a1).1).kind = 3 <;> simp [h, h2, ht, hn, hp, hs, hc, resolveT_zero hc, h3, listT]
            · simp [h, h2, ht, hn, hp, hs, hc]
          · simp [h, h2, ht, hn, hp]
      · simp [h, h2, ht]

/-! ### nodes taken out -/
theorem findI_first {α : Type} (q : α → Bool) : ∀ (l : List α) (i : Nat), findI q l = i → ∀ x ∈ l.take i, q x = false := by
  intro l
  induction l with
  | nil => intro i _ x hx; simp at hx
  | cons y l ih =>
    intro i h x hx
    simp only [findI] at h
    cases i with
    | zero => simp at hx
    | succ i =>
      rcases bool_two (q y) with hq | hq
      · simp only [hq, if_true] at h; omega
      · simp only [hq, Bool.false_eq_true, if_false] at h
        by_cases hm : findI q l = -1
        · simp only [hm, if_true] at h; omega
        · simp only [hm, if_false] at h
          rw [List.take_succ_cons] at hx
          rcases List.mem_cons.1 hx with rfl | hx
          · exact hq
          · exact ih i (by omega) x hx
theorem List.take_set_succ {α : Type} {l : List α} {i : Nat} {x : α} (h : i < l.length) : (l.set i x).take (i + 1) = l.take i ++ [x] := by
  rw [List.take_succ_eq_append_getElem (by simpa using h)]
  rw [List.take_set, List.set_eq_of_length_le (by simp; omega)]
  simp
def without (l : List Nd) (p : List UInt8) (self : Bool) : List Nd := l.filter fun x => !((decide (p = []) && !decide (x.path = [])) || belowP x.path p) && (!self || !decide (x.path = p))
theorem without_len (l : List Nd) (p : List UInt8) (b : Bool) : (without l p b).length ≤ l.length := List.length_filter_le _ _
theorem without_impl (l : List Nd) (p : List UInt8) : without l p true = l.filter fun x => !(decide (x.path = p) || (decide (p = []) || belowP x.path p)) := by
  unfold without
  congr 1
  funext x
  by_cases h1 : x.path = p
  · simp [h1]
  · by_cases h2 : p = []
    · subst h2
      simp [h1]
    · simp [h1, h2]
def spec_l04Without.b1 (a0 : List Nd) (a1 : List UInt8) (a2 : Bool) : List Nd × Int → Option (Step (List Nd) (List Nd × Int) (List Nd)) :=
  fun q => match q with
  | (x7_7, x8_9) => bif (decide (x8_9 < (a0.length : Int))) then (bif inR x8_9 a0.length then (((bif (!((decide (a1 = []) && !decide (((gt a0 x8_9).path) = [])) || belowP ((gt a0 x8_9).path) a1)) then (((bif (!a2) then some true else (bif inR x8_9 a0.length then (some (!decide (((gt a0 x8_9).path) = a1))) else none))).bind fun z38 => some z38) else some false)).bind fun z37 => bif z37 then (bif inR x8_9 a0.length then (bif decide ((x7_7.length + ([gt a0 x8_9] : List Nd).length) * 48 ≤ 140737488355328) then (some (.nxt (x7_7 ++ ([gt a0 x8_9] : List Nd), IntKind.wrap .i64 (x8_9 + 1)))) else none) else none) else (some (.nxt (x7_7, IntKind.wrap .i64 (x8_9 + 1))))) else none) else (some (.brk x7_7))
def spec_l04Without.sh (k : Nat) (a0 : List Nd) (a1 : List UInt8) (a2 : Bool) : Option (List Nd) :=
  (loopF (spec_l04Without.b1 a0 a1 a2) k (([] : List Nd), 0)).bind fun z => match z with | .inl t => some t | .inr x7_13 => some x7_13
theorem spec_l04Without.eq (a0 : List Nd) (a1 : List UInt8) (a2 : Bool) (h0 : a0.length ≤ 1048576) : ∃ k, spec_l04Without.sh k a0 a1 a2 = some (without a0 a1 a2) := by
  refine ⟨a0.length + 1, ?_⟩
  unfold spec_l04Without.sh
  rw [collect_run a0 (fun x => if (!((decide (a1 = []) && !decide (x.path = [])) || belowP x.path a1) && (!a2 || !decide (x.path = a1))) then some x else none) (spec_l04Without.b1 a0 a1 a2) (fun i hi acc ha => by
    have e1 : ∀ z : Nd, (acc.length + ([z] : List Nd).length) * 48 ≤ 140737488355328 := fun z => by simp; omega
    simp only [spec_l04Without.b1, lt_nat, hi, decide_true, cond_true, inR_nat hi, getD_gt, getD_el hi, e1, wrap_succ hi (by omega)]
    rcases bool_two ((decide (a1 = []) && !decide (a0[i].path = [])) || belowP a0[i].path a1) with hb | hb
    · simp [hb]
    · generalize belowP a0[i].path a1 = bl at hb ⊢
      by_cases hp : a0[i].path = a1
      · cases a2 <;> simp [hp] at hb ⊢ <;> simp [hb]
      · cases a2 <;> simp [hb, hp]) (fun acc => by simp [spec_l04Without.b1])]
  have : ∀ l : List Nd, l.filterMap (fun x => if (!((decide (a1 = []) && !decide (x.path = [])) || belowP x.path a1) && (!a2 || !decide (x.path = a1))) then some x else none) = without l a1 a2 := by
    intro l
    have := filterMap_if (fun x : Nd => (!((decide (a1 = []) && !decide (x.path = [])) || belowP x.path a1) && (!a2 || !decide (x.path = a1)))) id l
    simpa [without] using this
  rw [this]; rfl
def impl_removed_1.sh (a0 : Nd) (a1 : List UInt8) : Option (Bool) :=
  ((bif (decide (a0.path = a1)) then some true else (bif decide (a1.length ≤ 1048576) then (some (decide (a1 = []) || belowP a0.path a1)) else none))).bind fun z8 => some z8
theorem impl_removed_1.eq (a0 : Nd) (a1 : List UInt8) (h : a1.length ≤ 1048576) : impl_removed_1.sh a0 a1 = some (decide (a0.path = a1) || (decide (a1 = []) || belowP a0.path a1)) := by
  unfold impl_removed_1.sh
  by_cases hp : a0.path = a1 <;> simp [hp, h]
def removeNode (l : List Nd) (p : List UInt8) : List Nd × Int :=
  if askT l p ≠ 0 then ([], askT l p) else if !pathOK p then (l, 10) else if (findNd l p).2 ≠ 0 then (l, (findNd l p).2) else (without l p true, 0)
theorem removeNode_len (l : List Nd) (p : List UInt8) : (removeNode l p).1.length ≤ l.length := by
  have := without_len l p true
  unfold removeNode
  repeat (split; simp)
  exact this
def spec_RemoveNode.sh (a0 : List Nd) (a1 : List UInt8) : Option (List Nd × Int) :=
  bif ((decide (4096 < (a0.length : Int))) || (decide (65536 < (a1.length : Int)))) then (some (([] : List Nd), 2)) else (bif decide (∀ x ∈ a0, x.path.length ≤ 1048576) then (bif (!decide ((askT a0 a1) = 0)) then (some (([] : List Nd), (askT a0 a1))) else (bif (!(pathOK a1)) then (bif decide ((([] : List Nd).length + a0.length) * 48 ≤ 140737488355328) then (some (([] : List Nd) ++ a0, 10)) else none) else (bif decide (a0.length ≤ 1048576) then (bif decide (pathOK a1 = true) then (bif (!decide (((findNd a0 a1).2) = 0)) then (bif decide ((([] : List Nd).length + a0.length) * 48 ≤ 140737488355328) then (some (([] : List Nd) ++ a0, (findNd a0 a1).2)) else none) else (bif decide (a0.length ≤ 1048576) then (some ((without a0 a1 true), 0)) else none)) else none) else none))) else none)
theorem spec_RemoveNode.eq (a0 : List Nd) (a1 : List UInt8) (h0 : a0.length ≤ 1048576) (h1 : ∀ x ∈ a0, x.path.length ≤ 1048576) : spec_RemoveNode.sh a0 a1 = some ((removeNode a0 a1).1, (removeNode a0 a1).2) := by
  unfold spec_RemoveNode.sh removeNode
  rw [lenN4096, len_dec]
  have e1 : (([] : List Nd).length + a0.length) * 48 ≤ 140737488355328 := by simp; omega
  by_cases h : (decide (4096 < a0.length) || decide (65536 < a1.length)) = true
  · have : askT a0 a1 = 2 := by simp [askT, h]
    simp only [h, cond_true, this]; rfl
  · simp only [h, cond_false, decide_eq_true h1, cond_true, e1, decide_true, List.nil_append]
    by_cases ha : askT a0 a1 = 0
    · rcases bool_two (pathOK a1) with hp | hp
      · by_cases hc : (findNd a0 a1).2 = 0 <;> simp [ha, hp, h0, hc]
      · simp [ha, hp]
    · simp [ha]
def impl_RemoveNode.sh (a0 : List Nd) (a1 : List UInt8) : Option (List Nd × Int) :=
  bif decide (([a1] : List (List UInt8)).length ≤ 4611686018427387904) then (bif decide (a0.length ≤ 1048576) then (bif decide (∀ x ∈ a0, x.path.length ≤ 1048576) then (bif decide (([.inl ((([a1] : List (List UInt8)).any fun t => decide (65536 < t.length)) || (decide (4096 < a0.length))), .inr 2, .inl (!(treeOK a0)), .inr 1] : List (Bool ⊕ Int)).length ≤ 4611686018427387904) then ((some (firstOf ([.inl ((([a1] : List (List UInt8)).any fun t => decide (65536 < t.length)) || (decide (4096 < a0.length))), .inr 2, .inl (!(treeOK a0)), .inr 1] : List (Bool ⊕ Int)))).bind fun z29 => bif (!decide (z29 = 0)) then (some ([], z29)) else (bif (!(pathOK a1)) then (bif decide (a0.length ≤ 1048576) then (some (a0, 10)) else none) else (bif decide (a0.length ≤ 1048576) then (bif decide (a1.length ≤ 1048576) then (bif (!decide (((resolveT a0 a1).2) = 0)) then (bif decide (a0.length ≤ 1048576) then (some (a0, (resolveT a0 a1).2)) else none) else (bif decide (a0.length ≤ 1048576) then (bif decide (a1.length ≤ 1048576) then (some ((without a0 a1 true), 0)) else none) else none)) else none) else none))) else none) else none) else none) else none
theorem impl_RemoveNode.eq (a0 : List Nd) (a1 : List UInt8) (h0 : a0.length ≤ 1048576) (h1 : ∀ x ∈ a0, x.path.length ≤ 1048576) : impl_RemoveNode.sh a0 a1 = some ((removeNode a0 a1).1, (removeNode a0 a1).2) := by
  unfold impl_RemoveNode.sh removeNode askT
  simp only [h0, decide_true, cond_true, decide_eq_true h1, firstOf_c, List.length_cons, List.length_nil, firstOf, anyB, anyI, List.any_cons, List.any_nil, Bool.or_false]
  rw [Bool.or_comm (decide (65536 < a1.length))]
  by_cases h : 4096 < a0.length
  · simp [h]
  · by_cases h2 : 65536 < a1.length
    · simp [h, h2]
    · rcases bool_two (treeOK a0) with ht | ht
      · rcases bool_two (pathOK a1) with hp | hp
        · have hs := pathOK_small hp
          rw [resolve_down hp]
          by_cases hc : (resolveT a0 a1).2 = 0 <;> simp [h, h2, ht, hp, hs, hc]
        · simp [h, h2, ht, hp]
      · simp [h, h2, ht]

/-! ### the record that counts at a path -/
/-! ### the order of paths -/
theorem bl_trans : ∀ a b c : List UInt8, Op.bytesLess a b = true → Op.bytesLess b c = true → Op.bytesLess a c = true := by
  intro a
  induction a with
  | nil => intro b c h1 h2; cases b with
    | nil => simp [Op.bytesLess] at h1
    | cons y b => cases c with
      | nil => simp [Op.bytesLess] at h2
      | cons z c => rfl
  | cons x a ih =>
    intro b c h1 h2
    cases b with
    | nil => simp [Op.bytesLess] at h1
    | cons y b => cases c with
      | nil => simp [Op.bytesLess] at h2
      | cons z c =>
        simp only [Op.bytesLess, Bool.or_eq_true, Bool.and_eq_true, decide_eq_true_eq, beq_iff_eq, UInt8.lt_iff_toNat_lt] at h1 h2 ⊢
        rcases h1 with h1 | ⟨rfl, h1⟩
        · rcases h2 with h2 | ⟨rfl, h2⟩
          · exact .inl (by omega)
          · exact .inl h1
        · rcases h2 with h2 | ⟨rfl, h2⟩
          · exact .inl h2
          · exact .inr ⟨rfl, ih b c h1 h2⟩
theorem bl_tri : ∀ a b : List UInt8, Op.bytesLess a b = false → Op.bytesLess b a = false → a = b := by
  intro a
  induction a with
  | nil => intro b h1 h2; cases b with
    | nil => rfl
    | cons y b => simp [Op.bytesLess] at h1
  | cons x a ih =>
    intro b h1 h2
    cases b with
    | nil => simp [Op.bytesLess] at h2
    | cons y b =>
      simp only [Op.bytesLess, Bool.or_eq_false_iff, Bool.and_eq_false_iff, decide_eq_false_iff_not, beq_eq_false_iff_ne, UInt8.lt_iff_toNat_lt] at h1 h2
      have hxy : x = y := UInt8.toNat_inj.1 (by omega)
      subst hxy
      rcases h1.2 with h | h
      · exact absurd rfl h
      · rcases h2.2 with h' | h'
        · exact absurd rfl h'
        · rw [ih b h h']
theorem lt8_trans {a b c : List UInt8} (h1 : lt8 a b = true) (h2 : lt8 b c = true) : lt8 a c = true := by
  simp only [lt8] at *
  exact bl_trans _ _ _ h1 h2
theorem lt8_tri {a b : List UInt8} (h1 : lt8 a b = false) (h2 : lt8 b a = false) : a = b := by
  simp only [lt8] at *
  exact bl_tri _ _ h1 h2
theorem lessL_irrefl : ∀ a, lessL a a = false := by
  intro a
  induction a with
  | nil => rfl
  | cons x a ih => simp [lessL, ih]
theorem lessL_trans : ∀ a b c, lessL a b = true → lessL b c = true → lessL a c = true := by
  intro a
  induction a with
  | nil =>
    intro b c h1 h2
    cases b with
    | nil => simp [lessL] at h1
    | cons y b => cases c with
      | nil => simp [lessL] at h2
      | cons z c => rfl
  | cons x a ih =>
    intro b c h1 h2
    cases b with
    | nil => simp [lessL] at h1
    | cons y b => cases c with
      | nil => simp [lessL] at h2
      | cons z c =>
        simp only [lessL] at h1 h2 ⊢
        by_cases hxy : x = y
        · subst hxy
          simp only [if_true] at h1
          by_cases hxz : x = z
          · subst hxz
            simp only [if_true] at h2 ⊢
            exact ih b c h1 h2
          · simp only [hxz, if_false] at h2 ⊢; exact h2
        · simp only [hxy, if_false] at h1
          by_cases hyz : y = z
          · subst hyz
            simp only [hxy, if_false]; exact h1
          · simp only [hyz, if_false] at h2
            have h3 := lt8_trans h1 h2
            by_cases hxz : x = z
            · subst hxz; rw [lt8_irrefl] at h3; cases h3
            · simp only [hxz, if_false]; exact h3
theorem lessL_tri : ∀ a b, lessL a b = false → lessL b a = false → a = b := by
  intro a
  induction a with
  | nil =>
    intro b h1 h2
    cases b with
    | nil => rfl
    | cons y b => simp [lessL] at h1
  | cons x a ih =>
    intro b h1 h2
    cases b with
    | nil => simp [lessL] at h2
    | cons y b =>
      simp only [lessL] at h1 h2
      by_cases hxy : x = y
      · subst hxy
        simp only [if_true] at h1 h2
        rw [ih b h1 h2]
      · have hyx : ¬ y = x := fun e => hxy e.symm
        simp only [hxy, hyx, if_false] at h1 h2
        exact absurd (lt8_tri h1 h2) hxy
def ltP (a b : List UInt8) : Bool := lessL (cut 47 a) (cut 47 b)
theorem ltP_irrefl (a : List UInt8) : ltP a a = false := lessL_irrefl _
theorem ltP_trans {a b c : List UInt8} (h1 : ltP a b = true) (h2 : ltP b c = true) : ltP a c = true := lessL_trans _ _ _ h1 h2
theorem ltP_tri {a b : List UInt8} (h1 : ltP a b = false) (h2 : ltP b a = false) : a = b := cut_inj (lessL_tri _ _ h1 h2)
theorem ltP_asymm {a b : List UInt8} (h : ltP a b = true) : ltP b a = false := by
  rcases bool_two (ltP b a) with h2 | h2
  · have := ltP_trans h h2; rw [ltP_irrefl] at this; cases this
  · exact h2
theorem ltP_ne {a b : List UInt8} (h : ltP a b = true) : a ≠ b := fun e => by subst e; rw [ltP_irrefl] at h; cases h
/-- Rising strictly. -/
def Rise (l : List (List UInt8)) : Prop := l.Pairwise fun a b => ltP a b = true
theorem Rise.uniq : ∀ {a b : List (List UInt8)}, Rise a → Rise b → (∀ x, x ∈ a ↔ x ∈ b) → a = b := by
  intro a
  induction a with
  | nil =>
    intro b _ _ h
    cases b with
    | nil => rfl
    | cons y b => exact absurd ((h y).2 (List.mem_cons_self ..)) (by simp)
  | cons x a ih =>
    intro b ha hb h
    cases b with
    | nil => exact absurd ((h x).1 (List.mem_cons_self ..)) (by simp)
    | cons y b =>
      have ha' := List.pairwise_cons.1 ha
      have hb' := List.pairwise_cons.1 hb
      have hxy : x = y := by
        rcases List.mem_cons.1 ((h x).1 (List.mem_cons_self ..)) with e | hx
        · exact e
        · rcases List.mem_cons.1 ((h y).2 (List.mem_cons_self ..)) with e | hy
          · exact e.symm
          · have h1 := hb'.1 x hx
            have h2 := ha'.1 y hy
            rw [ltP_asymm h1] at h2; cases h2
      subst hxy
      congr 1
      refine ih ha'.2 hb'.2 fun z => ?_
      constructor
      · intro hz
        rcases List.mem_cons.1 ((h z).1 (List.mem_cons_of_mem _ hz)) with e | hz'
        · subst e; exact absurd rfl (ltP_ne (ha'.1 z hz))
        · exact hz'
      · intro hz
        rcases List.mem_cons.1 ((h z).2 (List.mem_cons_of_mem _ hz)) with e | hz'
        · subst e; exact absurd rfl (ltP_ne (hb'.1 z hz))
        · exact hz'
/-- From neighbours to all. -/
theorem rise_of_near {α : Type} [Inhabited α] (f : α → List UInt8) {l : List α} (h : ∀ i, 0 < i → i < l.length → ltP (f (l.getD (i - 1) default)) (f (l.getD i default)) = true) : Rise (l.map f) := by
  unfold Rise
  rw [List.pairwise_map, List.pairwise_iff_getElem]
  intro i j hi hj hij
  obtain ⟨d, rfl⟩ : ∃ d, j = i + 1 + d := ⟨j - i - 1, by omega⟩
  induction d with
  | zero =>
    have := h (i + 1) (by omega) hj
    rw [getD_el hj, show i + 1 - 1 = i by omega, getD_el hi] at this
    exact this
  | succ d ih =>
    have h1 := ih (by omega) (by omega)
    have h2 := h (i + 1 + (d + 1)) (by omega) hj
    rw [getD_el hj, show i + 1 + (d + 1) - 1 = i + 1 + d by omega, getD_el (by omega)] at h2
    exact ltP_trans h1 h2
theorem treeOK_rise {t : List Nd} (h : treeOK t = true) : t.length ≤ 24 ∧ Rise (t.map (·.path)) := by
  unfold treeOK at h
  rw [Bool.and_eq_true] at h
  refine ⟨of_decide_eq_true h.1, rise_of_near _ fun i h0 hi => ?_⟩
  have := List.all_eq_true.1 h.2 i (List.mem_range.2 hi)
  have h9 : ¬ i = 0 := by omega
  simp only [nodeAtOK, Bool.and_eq_true, h9, decide_false, Bool.false_or] at this
  exact this.1.2
/-! ### two sorted trees side by side -/
theorem rise_lt {x : List UInt8} {l : List (List UInt8)} (h : Rise (x :: l)) : ∀ z ∈ l, ltP x z = true := (List.pairwise_cons.1 h).1
theorem rise_tl {x : List UInt8} {l : List (List UInt8)} (h : Rise (x :: l)) : Rise l := (List.pairwise_cons.1 h).2
/-! ### the paths of layers -/
theorem drop_gt {α : Type} [Inhabited α] {l : List α} {i : Nat} (h : i < l.length) : l.drop i = gt l (i : Int) :: l.drop (i + 1) := by
  rw [List.drop_eq_getElem_cons h, getD_gt, getD_el h]
end Go.UL
