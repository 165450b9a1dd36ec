/- Plain Lean: what the functions compute. -/
import Derived.Test.YtfefjaohlhkmaaaGreatDooraP11
set_option linter.unusedVariables false
set_option linter.unusedSimpArgs false
namespace Go.UL
open Go.RowKit
/-! ### lists that are collected -/
/-- A loop that collects. -/
theorem collect_run {α β T : Type} (xs : List α) (g : α → Option β) (b : List β × Int → Option (Step T (List β × Int) (List β)))
    (hb : ∀ (i : Nat) (h : i < xs.length) (acc : List β), acc.length ≤ i → b (acc, (i : Int)) = some (.nxt (acc ++ (g xs[i]).toList, (i : Int) + 1))) (hn : ∀ acc : List β, b (acc, (xs.length : Int)) = some (.brk acc)) :
    loopF b (xs.length + 1) ([], 0) = some (.inr (xs.filterMap g)) := by
  have key : ∀ d i k (acc : List β), i + d = xs.length → d < k → acc.length ≤ i → loopF b k (acc, (i : Int)) = some (.inr (acc ++ (xs.drop i).filterMap g)) := by
    intro d
    induction d with
    | zero =>
      intro i k acc hi hk _
      obtain ⟨k, rfl⟩ : ∃ j, k = j + 1 := ⟨k - 1, by omega⟩
      have : i = xs.length := by omega
      subst this
      simp [loopF, hn]
    | succ d ih =>
      intro i k acc hi hk ha
      obtain ⟨k, rfl⟩ : ∃ j, k = j + 1 := ⟨k - 1, by omega⟩
      have hlt : i < xs.length := by omega
      rw [loopF, hb i hlt acc ha]
      simp only [Option.bind_some]
      have hl : (acc ++ (g xs[i]).toList).length ≤ i + 1 := by cases g xs[i] <;> simp <;> omega
      have := ih (i + 1) k (acc ++ (g xs[i]).toList) (by omega) (by omega) hl
      rw [Int.natCast_add, Int.natCast_one] at this
      have e : (xs.drop i).filterMap g = (g xs[i]).toList ++ (xs.drop (i + 1)).filterMap g := by
        rw [List.drop_eq_getElem_cons hlt, List.filterMap_cons]
        cases g xs[i] <;> rfl
      rw [e, ← List.append_assoc]
      exact this
  have := key xs.length 0 (xs.length + 1) [] (by omega) (by omega) (by simp)
  simpa using this
theorem filterMap_if {α β : Type} (q : α → Bool) (f : α → β) (l : List α) : l.filterMap (fun x => if q x then some (f x) else none) = (l.filter q).map f := by
  induction l with
  | nil => rfl
  | cons x l ih =>
    rcases bool_two (q x) with h | h <;> simp [h, ih]
theorem getD_el {α : Type} [Inhabited α] {l : List α} {i : Nat} (h : i < l.length) : l.getD i default = l[i] := by simp [List.getD_eq_getElem?_getD, List.getElem?_eq_getElem h]
/-! ### what is above -/
theorem parentP_lt {t : List UInt8} (h : t ≠ []) : (parentP t).length < t.length := by
  have h1 := lastSlash_lt t
  have h2 := lastSlash_ge t
  have h3 : 0 < t.length := by cases t with | nil => exact absurd rfl h | cons _ _ => simp
  simp [parentP]; omega
def ancsF : Nat → List UInt8 → List (List UInt8)
  | 0, _ => []
  | n + 1, t => if parentP t = [] then [] else parentP t :: ancsF n (parentP t)
/-- All that is above a path, from below. -/
def ancs (t : List UInt8) : List (List UInt8) := ancsF t.length t
theorem parentP_nil : parentP [] = [] := rfl
theorem ancsF_succ : ∀ (c : Nat) (v : List UInt8), v.length ≤ c → ancsF c v = ancsF (c + 1) v := by
  intro c
  induction c with
  | zero => intro v hv; have : v = [] := List.eq_nil_of_length_eq_zero (by omega); subst this; simp [ancsF, parentP_nil]
  | succ c ihc =>
    intro v hv
    rw [ancsF, ancsF]
    by_cases hpv : parentP v = []
    · simp [hpv]
    · simp only [hpv, if_false]
      have hvne : v ≠ [] := by intro e; subst e; exact hpv parentP_nil
      have := parentP_lt hvne
      rw [ihc (parentP v) (by omega)]
theorem ancsF_enough (d : Nat) (t : List UInt8) : ancsF (t.length + d) t = ancs t := by
  induction d with
  | zero => rfl
  | succ d ih => rw [← ih, show t.length + (d + 1) = (t.length + d) + 1 by omega]; exact (ancsF_succ _ _ (by omega)).symm
theorem ancs_eq (t : List UInt8) : ancs t = if parentP t = [] then [] else parentP t :: ancs (parentP t) := by
  have h := ancsF_enough 1 t
  rw [← h, ancsF]
  by_cases hp : parentP t = []
  · simp [hp]
  · simp only [hp, if_false]
    have hne : t ≠ [] := by intro e; subst e; exact hp parentP_nil
    have := parentP_lt hne
    have h2 := ancsF_enough (t.length - (parentP t).length) (parentP t)
    rw [show (parentP t).length + (t.length - (parentP t).length) = t.length by omega] at h2
    rw [h2]
/-- A loop over what is above. -/
theorem anc_run (q : List UInt8 → Bool) (b : List UInt8 → Option (Step Bool (List UInt8) Unit)) (hb : ∀ x : List UInt8, x ≠ [] → x.length ≤ 1048576 → b x = some (if q x then .ret true else .nxt (parentP x))) (hn : b [] = some (.brk ())) :
    ∀ (n : Nat) (t : List UInt8) (k : Nat), (parentP t).length ≤ n → n < k → (parentP t).length ≤ 1048576 → loopF b k (parentP t) = some (if (ancs t).any q then .inl true else .inr ()) := by
  intro n
  induction n with
  | zero =>
    intro t k h hk _
    obtain ⟨k, rfl⟩ : ∃ j, k = j + 1 := ⟨k - 1, by omega⟩
    have hp : parentP t = [] := List.eq_nil_of_length_eq_zero (by omega)
    rw [ancs_eq, hp, loopF, hn]; simp
  | succ n ih =>
    intro t k h hk hl
    obtain ⟨k, rfl⟩ : ∃ j, k = j + 1 := ⟨k - 1, by omega⟩
    by_cases hp : parentP t = []
    · rw [ancs_eq, hp, loopF, hn]; simp
    · rw [ancs_eq, loopF, hb _ hp hl]
      have hlt := parentP_lt hp
      simp only [hp, if_false, List.any_cons]
      rcases bool_two (q (parentP t)) with hq | hq
      · simp [hq]
      · simp only [hq, Bool.false_eq_true, if_false, Option.bind_some, Bool.false_or]
        exact ih (parentP t) k (by omega) (by omega) (by omega)
def stopsR (r : Rec) : Bool := !decide (r.kind = 3) || r.opq
def underO (l : List Rec) (p : List UInt8) : Bool := (ancs p).any fun x => decide (0 ≤ findR l x) && (gt l (findR l x)).opq
def cutsR (l : List Rec) (p : List UInt8) : Bool := (ancs p).any fun x => decide (0 ≤ findR l x) && stopsR (gt l (findR l x))
theorem findR_inR {l : List Rec} {p : List UInt8} (h : 0 ≤ findR l p) : inR (findR l p) l.length = true := findR_in (by omega)
def spec_l06Stops.sh (a0 : Rec) : Option (Bool) :=
  some ((!decide (a0.kind = 3)) || a0.opq)
theorem spec_l06Stops.eq (a0 : Rec) : spec_l06Stops.sh a0 = some (stopsR a0) := rfl
def spec_l06Cuts.b1 (a0 : List Rec) : List UInt8 → Option (Step (Bool) (List UInt8) (Unit)) :=
  fun x5_4 => bif (!decide (x5_4 = ([] : List UInt8))) then (bif decide (a0.length ≤ 1048576) then (((bif (decide (0 ≤ (findR a0 x5_4))) then (bif inR (findR a0 x5_4) a0.length then (some (stopsR (gt a0 (findR a0 x5_4)))) else none) else some false)).bind fun z26 => bif z26 then (some (.ret true)) else (bif decide (x5_4.length ≤ 4611686018427387904) then (some (.nxt (parentP x5_4))) else none)) else none) else (some (.brk ()))
def spec_l06Cuts.sh (k : Nat) (a0 : List Rec) (a1 : List UInt8) : Option (Bool) :=
  bif decide (a1.length ≤ 4611686018427387904) then ((loopF (spec_l06Cuts.b1 a0) k (parentP a1)).bind fun z => match z with | .inl t => some t | .inr _ => some false) else none
theorem spec_l06Cuts.eq (a0 : List Rec) (a1 : List UInt8) (h0 : a0.length ≤ 1048576) (h1 : a1.length ≤ 1048576) : ∃ k, spec_l06Cuts.sh k a0 a1 = some (cutsR a0 a1) := by
  refine ⟨a1.length + 1, ?_⟩
  have hl := parentP_len a1
  have h2 : a1.length ≤ 4611686018427387904 := by omega
  unfold spec_l06Cuts.sh
  rw [anc_run (fun x => decide (0 ≤ findR a0 x) && stopsR (gt a0 (findR a0 x))) (spec_l06Cuts.b1 a0) (fun x hx hx2 => by
    have h3 : x.length ≤ 4611686018427387904 := by omega
    simp only [spec_l06Cuts.b1, hx, decide_false, Bool.not_false, cond_true, h0, decide_true, h3]
    by_cases hk : 0 ≤ findR a0 x
    · simp only [hk, decide_true, cond_true, findR_inR hk, Bool.true_and, Option.bind_some]
      cases stopsR (gt a0 (findR a0 x)) <;> simp
    · simp [hk]) (by simp [spec_l06Cuts.b1]) a1.length a1 (a1.length + 1) hl (by omega) (by omega)]
  simp only [h2, decide_true, cond_true, Option.bind_some]
  unfold cutsR
  cases (ancs a1).any fun x => decide (0 ≤ findR a0 x) && stopsR (gt a0 (findR a0 x)) <;> simp
/-- What is asked of a layer at a path. -/
def atPath (f : List Rec → List UInt8 → Bool) (l : List Rec) (p : List UInt8) : Bool × Int :=
  if decide (4096 < l.length) || decide (65536 < p.length) then (false, 2) else if (layerFault l).2 ≠ 0 then (false, 1) else if !pathOK p then (false, 10) else (f l p, 0)
def cutsOf := atPath cutsR
theorem pathOK_small {p : List UInt8} (h : pathOK p = true) : p.length ≤ 1048576 := by have := pathOK_len h; omega
def spec_Cuts.sh (a0 : List Rec) (a1 : List UInt8) : Option (Bool × Int) :=
  bif ((decide (4096 < (a0.length : Int))) || (decide (65536 < (a1.length : Int)))) then (some (false, 2)) else (bif decide (a0.length ≤ 1048576) then (bif decide (∀ x ∈ a0, x.path.length ≤ 1048576) then (bif (!(decide ((layerFault a0).2 = 0))) then (some (false, 1)) else (bif (!(pathOK a1)) then (some (false, 10)) else (bif decide (a0.length ≤ 1048576) then (bif decide (a1.length ≤ 1048576) then (some ((cutsR a0 a1), 0)) else none) else none))) else none) else none)
theorem spec_Cuts.eq (a0 : List Rec) (a1 : List UInt8) (h0 : a0.length ≤ 1048576) (h1 : ∀ x ∈ a0, x.path.length ≤ 1048576) : spec_Cuts.sh a0 a1 = some ((cutsOf a0 a1).1, (cutsOf a0 a1).2) := by
  unfold spec_Cuts.sh cutsOf atPath
  rw [len4096, len_dec]
  by_cases h : (decide (4096 < a0.length) || decide (65536 < a1.length)) = true
  · simp only [h, cond_true, if_true]
  · simp only [h, h0, decide_true, cond_false, cond_true, if_false, decide_eq_true h1, Bool.false_eq_true]
    by_cases hf : (layerFault a0).2 = 0
    · rcases bool_two (pathOK a1) with hp | hp
      · simp [hf, hp, pathOK_small hp]
      · simp [hf, hp]
    · simp [hf]

/-! ### right layers -/
theorem layerFault_zero {l : List Rec} (h : (layerFault l).2 = 0) : ∀ i, i < l.length → codeAt l i = 0 := by
  unfold layerFault at h
  cases hf : (List.range l.length).findSome? (fun i => if codeAt l i = 0 then none else some ((i : Int), codeAt l i)) with
  | none =>
    intro i hi
    have := List.findSome?_eq_none_iff.1 hf i (List.mem_range.2 hi)
    by_cases hc : codeAt l i = 0
    · exact hc
    · simp [hc] at this
  | some x =>
    rw [hf] at h
    obtain ⟨i, _, hi⟩ := List.exists_of_findSome?_eq_some hf
    by_cases hc : codeAt l i = 0
    · simp [hc] at hi
    · simp only [hc, if_false, Option.some.injEq] at hi
      subst hi
      exact absurd h hc
theorem layerFault_of {l : List Rec} (h : ∀ i, i < l.length → codeAt l i = 0) : layerFault l = (0, 0) := by
  unfold layerFault
  have : (List.range l.length).findSome? (fun i => if codeAt l i = 0 then none else some ((i : Int), codeAt l i)) = none := by
    apply List.findSome?_eq_none_iff.2
    intro i hi
    simp [h i (List.mem_range.1 hi)]
  rw [this]
theorem layerOK_rec {l : List Rec} (h : (layerFault l).2 = 0) : ∀ x ∈ l, recFault x = 0 := by
  intro x hx
  obtain ⟨i, hi, rfl⟩ := List.getElem_of_mem hx
  have := codeAt_rec (layerFault_zero h i hi)
  rwa [getD_el hi] at this
theorem layerOK_len {l : List Rec} (h : (layerFault l).2 = 0) : l.length ≤ 16 := by
  by_cases hc : l.length ≤ 16
  · exact hc
  · have := layerFault_zero h 16 (by omega)
    simp [codeAt] at this
/-! ### the canonical form -/
def canonR (l : List Rec) (r : Rec) : Option Rec :=
  if underO l r.path then (if r.kind = 4 then none else some ⟨r.kind, r.path, r.body, r.mode, false⟩) else some ⟨r.kind, r.path, r.body, r.mode, r.opq && decide ((cut 47 r.path).length < 4)⟩
def canonL (l : List Rec) : List Rec := l.filterMap (canonR l)
/-! ### two layers -/
/-! ### trees as layers -/
def impl_isLongListN.sh (a0 : List Nd) : Option (Bool) :=
  some (decide (4096 < (a0.length : Int)))
theorem impl_isLongListN.eq (a0 : List Nd) : impl_isLongListN.sh a0 = some (decide (4096 < a0.length)) := by
  have : (4096 : Int) < (a0.length : Int) ↔ 4096 < a0.length := by omega
  simp [impl_isLongListN.sh, this]
/-! ### marks -/
/-! ### stacks -/
theorem layerFaultL_zero (l : List Rec) : decide ((layerFaultL l).2 = 0) = decide ((layerFault l).2 = 0) := by
  unfold layerFaultL
  by_cases h : 4096 < l.length
  · have : ¬ (layerFault l).2 = 0 := fun hf => by have := layerOK_len hf; omega
    simp [h, this]
  · simp [h]
/-! ### the highest layer that cuts a path off -/
/-! ### nodes that are found -/
theorem findN_inR {t : List Nd} {p : List UInt8} (h : ¬ findN t p < 0) : inR (findN t p) t.length = true := inR_mk (by omega) (findN_lt t p)
/-! ### paths and their parts -/
theorem preL_cons (p x : List UInt8) (l : List (List UInt8)) : preL p (x :: l) = (p ++ x) :: l := rfl
theorem cut_cons_ne {b : UInt8} {l : List UInt8} (h : bn b ≠ 47) : cut 47 (b :: l) = preL [b] (cut 47 l) := by rw [cut, if_neg h]
theorem cut_cons_eq {b : UInt8} {l : List UInt8} (h : bn b = 47) : cut 47 (b :: l) = [] :: cut 47 l := by rw [cut, if_pos h]
theorem slash_bn : bn (47 : UInt8) = 47 := rfl
/-- A text is its parts with strokes between. -/
def joinL : List (List UInt8) → List UInt8
  | [] => []
  | [x] => x
  | x :: y :: l => x ++ 47 :: joinL (y :: l)
theorem joinL_cons (x : List UInt8) {l : List (List UInt8)} (h : l ≠ []) : joinL (x :: l) = x ++ 47 :: joinL l := by
  cases l with
  | nil => exact absurd rfl h
  | cons y l => rfl
theorem joinL_preL (p : List UInt8) (l : List (List UInt8)) (h : l ≠ []) : joinL (preL p l) = p ++ joinL l := by
  cases l with
  | nil => exact absurd rfl h
  | cons x l =>
    rw [preL_cons]
    cases l with
    | nil => rfl
    | cons y l => simp [joinL]
theorem joinL_cut (t : List UInt8) : joinL (cut 47 t) = t := by
  induction t with
  | nil => rfl
  | cons b l ih =>
    by_cases h : bn b = 47
    · have hb : b = 47 := by
        apply UInt8.toNat.inj
        show b.toNat = 47
        unfold bn at h; omega
      rw [cut_cons_eq h, joinL_cons _ (cut_ne 47 l), ih, hb]; rfl
    · rw [cut_cons_ne h, joinL_preL _ _ (cut_ne 47 l), ih]; rfl
theorem cut_free {x : List UInt8} (h : ∀ b ∈ x, bn b ≠ 47) : cut 47 x = [x] := by
  induction x with
  | nil => rfl
  | cons b l ih =>
    rw [cut_cons_ne (h b (by simp)), ih (fun c hc => h c (by simp [hc]))]; rfl
theorem cut_app {x t : List UInt8} (h : ∀ b ∈ x, bn b ≠ 47) : cut 47 (x ++ 47 :: t) = x :: cut 47 t := by
  induction x with
  | nil => exact cut_cons_eq slash_bn
  | cons b l ih =>
    rw [List.cons_append, cut_cons_ne (h b (by simp)), ih (fun c hc => h c (by simp [hc]))]; rfl
theorem cut_parts (t : List UInt8) : ∀ x ∈ cut 47 t, ∀ b ∈ x, bn b ≠ 47 := by
  induction t with
  | nil => intro x hx; simp [cut] at hx; subst hx; simp
  | cons b l ih =>
    by_cases h : bn b = 47
    · rw [cut_cons_eq h]
      intro x hx
      rcases List.mem_cons.1 hx with rfl | hx
      · simp
      · exact ih x hx
    · rw [cut_cons_ne h]
      cases hc : cut 47 l with
      | nil => exact absurd hc (cut_ne 47 l)
      | cons y r =>
        rw [hc] at ih
        rw [preL_cons]
        intro x hx
        rcases List.mem_cons.1 hx with rfl | hx
        · intro c hcx
          rcases List.mem_append.1 hcx with h2 | h2
          · simp at h2; subst h2; exact h
          · exact ih y (by simp) c h2
        · exact ih x (by simp [hx])
/-- Texts are their parts: lists of texts without strokes. -/
theorem cut_joinL {l : List (List UInt8)} (hn : l ≠ []) (h : ∀ x ∈ l, ∀ b ∈ x, bn b ≠ 47) : cut 47 (joinL l) = l := by
  induction l with
  | nil => exact absurd rfl hn
  | cons x l ih =>
    by_cases hl : l = []
    · subst hl; exact cut_free (h x (by simp))
    · rw [joinL_cons x hl, cut_app (h x (by simp)), ih hl (fun y hy => h y (by simp [hy]))]
theorem cut_inj {a b : List UInt8} (h : cut 47 a = cut 47 b) : a = b := by rw [← joinL_cut a, ← joinL_cut b, h]
theorem lastSlash_app (x t : List UInt8) (ht : ∀ b ∈ t, bn b ≠ 47) : lastSlash (x ++ 47 :: t) = x.length := by
  apply lastSlash_of (by simp) (by simp [List.getD_eq_getElem?_getD]; exact slash_bn)
  intro j h1 h2
  obtain ⟨m, rfl⟩ : ∃ m, j = x.length + 1 + m := ⟨j - x.length - 1, by omega⟩
  have h3 : m < t.length := by simp at h2; omega
  have : (x ++ 47 :: t).getD (x.length + 1 + m) 0 = t[m] := by
    have e : x.length + 1 + m - x.length = m + 1 := by omega
    rw [List.getD_eq_getElem?_getD, List.getElem?_append_right (by omega), e, List.getElem?_cons_succ, List.getElem?_eq_getElem h3]; rfl
  rw [this]
  exact ht _ (List.getElem_mem h3)
theorem joinL_append {l : List (List UInt8)} (x : List UInt8) (h : l ≠ []) : joinL (l ++ [x]) = joinL l ++ 47 :: x := by
  induction l with
  | nil => exact absurd rfl h
  | cons y l ih =>
    by_cases hl : l = []
    · subst hl; rfl
    · rw [List.cons_append, joinL_cons y (by simp), ih hl, joinL_cons y hl]; simp
/-- What is above a path has one part less. -/
theorem parentP_joinL {l : List (List UInt8)} {x : List UInt8} (h : ∀ y ∈ l ++ [x], ∀ b ∈ y, bn b ≠ 47) : parentP (joinL (l ++ [x])) = joinL l := by
  by_cases hl : l = []
  · subst hl
    have : lastSlash x = -1 := lastSlash_no fun j hj => h x (by simp) _ (by rw [List.getD_eq_getElem?_getD, List.getElem?_eq_getElem hj]; exact List.getElem_mem hj)
    simp [parentP, joinL, this]
  · rw [joinL_append x hl, parentP, lastSlash_app _ _ (fun b hb => h x (by simp) b hb)]
    simp
theorem parentP_cut (t : List UInt8) : parentP t = joinL (cut 47 t).dropLast := by
  obtain ⟨l, x, hlx⟩ : ∃ l x, cut 47 t = l ++ [x] := ⟨(cut 47 t).dropLast, (cut 47 t).getLast (cut_ne 47 t), (List.dropLast_concat_getLast (cut_ne 47 t)).symm⟩
  have hp := cut_parts t
  have := parentP_joinL (l := l) (x := x) (by rw [← hlx]; exact hp)
  rw [hlx, List.dropLast_concat, ← this, ← hlx, joinL_cut]
/-- The parts of a path are right ones, none of them empty. -/
theorem pathOK_parts {t : List UInt8} (h : pathOK t = true) : ∀ x ∈ cut 47 t, x ≠ [] := by
  simp only [pathOK, Bool.and_eq_true, decide_eq_true_eq, List.all_eq_true] at h
  intro x hx he
  have := h.2.2 x hx
  rw [he] at this
  revert this; decide
theorem joinL_ne {l : List (List UInt8)} (h : l ≠ []) (hp : ∀ x ∈ l, x ≠ []) : joinL l ≠ [] := by
  cases l with
  | nil => exact absurd rfl h
  | cons x l =>
    have := hp x (by simp)
    cases l with
    | nil => simpa [joinL] using this
    | cons y l => simp [joinL]
/-- What is above, from below: the beginnings of the parts. -/
theorem ancs_joinL : ∀ (n : Nat) (l : List (List UInt8)), l.length = n → (∀ y ∈ l, ∀ b ∈ y, bn b ≠ 47) → (∀ y ∈ l, y ≠ []) → ancs (joinL l) = ((List.range (l.length - 1)).map fun k => joinL (l.take (k + 1))).reverse := by
  intro n
  induction n with
  | zero => intro l hl _ _; have : l = [] := List.eq_nil_of_length_eq_zero hl; subst this; rfl
  | succ n ih =>
    intro l hl hp hn
    have hne : l ≠ [] := by intro e; subst e; simp at hl
    obtain ⟨m, x, rfl⟩ : ∃ m x, l = m ++ [x] := ⟨l.dropLast, l.getLast hne, (List.dropLast_concat_getLast hne).symm⟩
    rw [ancs_eq, parentP_joinL hp]
    have hm : m.length = n := by simpa using hl
    by_cases hm0 : m = []
    · subst hm0; simp [joinL]
    · have hpm : ∀ y ∈ m, y ≠ [] := fun y hy => hn y (by simp [hy])
      rw [if_neg (joinL_ne hm0 hpm), ih m hm (fun y hy => hp y (by simp [hy])) hpm]
      have hml : 0 < m.length := List.length_pos_iff.2 hm0
      have e1 : (m ++ [x]).length - 1 = (m.length - 1) + 1 := by simp; omega
      rw [e1, List.range_succ, List.map_append, List.reverse_append]
      simp only [List.map_cons, List.map_nil, List.reverse_cons, List.reverse_nil, List.nil_append, List.cons_append]
      congr 1
      · have e2 : m.length - 1 + 1 = m.length := by omega
        rw [e2, List.take_left]
      · congr 1
        apply List.map_congr_left
        intro k hk
        have := List.mem_range.1 hk
        rw [List.take_append_of_le_length (by omega)]
theorem ancs_cut {t : List UInt8} (h : pathOK t = true) : ancs t = ((List.range ((cut 47 t).length - 1)).map fun k => joinL ((cut 47 t).take (k + 1))).reverse := by
  have := ancs_joinL _ (cut 47 t) rfl (cut_parts t) (pathOK_parts h)
  rwa [joinL_cut] at this
/-! ### what stands in a directory -/
/-! ### nodes taken out -/
theorem findI_first {α : Type} (q : α → Bool) : ∀ (l : List α) (i : Nat), findI q l = i → ∀ x ∈ l.take i, q x = false := by
  intro l
  induction l with
  | nil => intro i _ x hx; simp at hx
  | cons y l ih =>
    intro i h x hx
    simp only [findI] at h
    cases i with
    | zero => simp at hx
    | succ i =>
      rcases bool_two (q y) with hq | hq
      · simp only [hq, if_true] at h; omega
      · simp only [hq, Bool.false_eq_true, if_false] at h
        by_cases hm : findI q l = -1
        · simp only [hm, if_true] at h; omega
        · simp only [hm, if_false] at h
          rw [List.take_succ_cons] at hx
          rcases List.mem_cons.1 hx with rfl | hx
          · exact hq
          · exact ih i (by omega) x hx
theorem List.take_set_succ {α : Type} {l : List α} {i : Nat} {x : α} (h : i < l.length) : (l.set i x).take (i + 1) = l.take i ++ [x] := by
  rw [List.take_succ_eq_append_getElem (by simpa using h)]
  rw [List.take_set, List.set_eq_of_length_le (by simp; omega)]
  simp
def without (l : List Nd) (p : List UInt8) (self : Bool) : List Nd := l.filter fun x => !((decide (p = []) && !decide (x.path = [])) || belowP x.path p) && (!self || !decide (x.path = p))
theorem without_len (l : List Nd) (p : List UInt8) (b : Bool) : (without l p b).length ≤ l.length := List.length_filter_le _ _
theorem without_impl (l : List Nd) (p : List UInt8) : without l p true = l.filter fun x => !(decide (x.path = p) || (decide (p = []) || belowP x.path p)) := by
  unfold without
  congr 1
  funext x
  by_cases h1 : x.path = p
  · simp [h1]
  · by_cases h2 : p = []
    · subst h2
      simp [h1]
    · simp [h1, h2]
def spec_l04Without.b1 (a0 : List Nd) (a1 : List UInt8) (a2 : Bool) : List Nd × Int → Option (Step (List Nd) (List Nd × Int) (List Nd)) :=
  fun q => match q with
  | (x7_7, x8_9) => bif (decide (x8_9 < (a0.length : Int))) then (bif inR x8_9 a0.length then (((bif (!((decide (a1 = []) && !decide (((gt a0 x8_9).path) = [])) || belowP ((gt a0 x8_9).path) a1)) then (((bif (!a2) then some true else (bif inR x8_9 a0.length then (some (!decide (((gt a0 x8_9).path) = a1))) else none))).bind fun z38 => some z38) else some false)).bind fun z37 => bif z37 then (bif inR x8_9 a0.length then (bif decide ((x7_7.length + ([gt a0 x8_9] : List Nd).length) * 48 ≤ 140737488355328) then (some (.nxt (x7_7 ++ ([gt a0 x8_9] : List Nd), IntKind.wrap .i64 (x8_9 + 1)))) else none) else none) else (some (.nxt (x7_7, IntKind.wrap .i64 (x8_9 + 1))))) else none) else (some (.brk x7_7))
def spec_l04Without.sh (k : Nat) (a0 : List Nd) (a1 : List UInt8) (a2 : Bool) : Option (List Nd) :=
  (loopF (spec_l04Without.b1 a0 a1 a2) k (([] : List Nd), 0)).bind fun z => match z with | .inl t => some t | .inr x7_13 => some x7_13
theorem spec_l04Without.eq (a0 : List Nd) (a1 : List UInt8) (a2 : Bool) (h0 : a0.length ≤ 1048576) : ∃ k, spec_l04Without.sh k a0 a1 a2 = some (without a0 a1 a2) := by
  refine ⟨a0.length + 1, ?_⟩
  unfold spec_l04Without.sh
  rw [collect_run a0 (fun x => if (!((decide (a1 = []) && !decide (x.path = [])) || belowP x.path a1) && (!a2 || !decide (x.path = a1))) then some x else none) (spec_l04Without.b1 a0 a1 a2) (fun i hi acc ha => by
    have e1 : ∀ z : Nd, (acc.length + ([z] : List Nd).length) * 48 ≤ 140737488355328 := fun z => by simp; omega
    simp only [spec_l04Without.b1, lt_nat, hi, decide_true, cond_true, inR_nat hi, getD_gt, getD_el hi, e1, wrap_succ hi (by omega)]
    rcases bool_two ((decide (a1 = []) && !decide (a0[i].path = [])) || belowP a0[i].path a1) with hb | hb
    · simp [hb]
    · generalize belowP a0[i].path a1 = bl at hb ⊢
      by_cases hp : a0[i].path = a1
      · cases a2 <;> simp [hp] at hb ⊢ <;> simp [hb]
      · cases a2 <;> simp [hb, hp]) (fun acc => by simp [spec_l04Without.b1])]
  have : ∀ l : List Nd, l.filterMap (fun x => if (!((decide (a1 = []) && !decide (x.path = [])) || belowP x.path a1) && (!a2 || !decide (x.path = a1))) then some x else none) = without l a1 a2 := by
    intro l
    have := filterMap_if (fun x : Nd => (!((decide (a1 = []) && !decide (x.path = [])) || belowP x.path a1) && (!a2 || !decide (x.path = a1)))) id l
    simpa [without] using this
  rw [this]; rfl
def impl_removed_1.sh (a0 : Nd) (a1 : List UInt8) : Option (Bool) :=
  ((bif (decide (a0.path = a1)) then some true else (bif decide (a1.length ≤ 1048576) then (some (decide (a1 = []) || belowP a0.path a1)) else none))).bind fun z8 => some z8
theorem impl_removed_1.eq (a0 : Nd) (a1 : List UInt8) (h : a1.length ≤ 1048576) : impl_removed_1.sh a0 a1 = some (decide (a0.path = a1) || (decide (a1 = []) || belowP a0.path a1)) := by
  unfold impl_removed_1.sh
  by_cases hp : a0.path = a1 <;> simp [hp, h]
end Go.UL
