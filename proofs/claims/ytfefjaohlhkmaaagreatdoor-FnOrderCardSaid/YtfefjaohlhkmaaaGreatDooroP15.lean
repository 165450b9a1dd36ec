/- Plain Lean: what the functions compute. -/
import Derived.Test.YtfefjaohlhkmaaaGreatDooroP9
set_option linter.unusedVariables false
set_option linter.unusedSimpArgs false
namespace Go.UL
open Go.RowKit
/-! ### nodes -/
/-! ### trees -/
def recOf (n : Nd) : Rec := ⟨n.kind, n.path, n.body, n.mode, false⟩
def ndOf (r : Rec) : Nd := ⟨r.kind, r.path, r.body, r.mode⟩
def nodeOK (n : Nd) : Bool := decide (recFault (recOf n) = 0) && !decide (n.kind = 4)
theorem nodeOK_path {n : Nd} (h : nodeOK n = true) : pathOK n.path = true := by
  simp only [nodeOK, Bool.and_eq_true, decide_eq_true_eq] at h
  exact recFault_path h.1
theorem gtake {α : Type} [Inhabited α] (l : List α) (i : Nat) (k : Int) (h0 : 0 ≤ k) (h : k < (l.take i).length) : gt (l.take i) k = gt l k := by
  obtain ⟨n, rfl⟩ : ∃ n : Nat, k = n := ⟨k.toNat, by omega⟩
  have : n < i ∧ n < l.length := by simp at h; omega
  simp only [getD_gt, List.getD_eq_getElem?_getD, List.getElem?_take, this.1, if_true]
/-! ### lists that are collected -/
/-- A loop that collects. -/
theorem collect_run {α β T : Type} (xs : List α) (g : α → Option β) (b : List β × Int → Option (Step T (List β × Int) (List β)))
    (hb : ∀ (i : Nat) (h : i < xs.length) (acc : List β), acc.length ≤ i → b (acc, (i : Int)) = some (.nxt (acc ++ (g xs[i]).toList, (i : Int) + 1))) (hn : ∀ acc : List β, b (acc, (xs.length : Int)) = some (.brk acc)) :
    loopF b (xs.length + 1) ([], 0) = some (.inr (xs.filterMap g)) := by
  have key : ∀ d i k (acc : List β), i + d = xs.length → d < k → acc.length ≤ i → loopF b k (acc, (i : Int)) = some (.inr (acc ++ (xs.drop i).filterMap g)) := by
    intro d
    induction d with
    | zero =>
      intro i k acc hi hk _
      obtain ⟨k, rfl⟩ : ∃ j, k = j + 1 := ⟨k - 1, by omega⟩
      have : i = xs.length := by omega
      subst this
      simp [loopF, hn]
    | succ d ih =>
      intro i k acc hi hk ha
      obtain ⟨k, rfl⟩ : ∃ j, k = j + 1 := ⟨k - 1, by omega⟩
      have hlt : i < xs.length := by omega
      rw [loopF, hb i hlt acc ha]
      simp only [Option.bind_some]
      have hl : (acc ++ (g xs[i]).toList).length ≤ i + 1 := by cases g xs[i] <;> simp <;> omega
      have := ih (i + 1) k (acc ++ (g xs[i]).toList) (by omega) (by omega) hl
      rw [Int.natCast_add, Int.natCast_one] at this
      have e : (xs.drop i).filterMap g = (g xs[i]).toList ++ (xs.drop (i + 1)).filterMap g := by
        rw [List.drop_eq_getElem_cons hlt, List.filterMap_cons]
        cases g xs[i] <;> rfl
      rw [e, ← List.append_assoc]
      exact this
  have := key xs.length 0 (xs.length + 1) [] (by omega) (by omega) (by simp)
  simpa using this
theorem getD_el {α : Type} [Inhabited α] {l : List α} {i : Nat} (h : i < l.length) : l.getD i default = l[i] := by simp [List.getD_eq_getElem?_getD, List.getElem?_eq_getElem h]
/-! ### what is above -/
theorem parentP_lt {t : List UInt8} (h : t ≠ []) : (parentP t).length < t.length := by
  have h1 := lastSlash_lt t
  have h2 := lastSlash_ge t
  have h3 : 0 < t.length := by cases t with | nil => exact absurd rfl h | cons _ _ => simp
  simp [parentP]; omega
def ancsF : Nat → List UInt8 → List (List UInt8)
  | 0, _ => []
  | n + 1, t => if parentP t = [] then [] else parentP t :: ancsF n (parentP t)
/-- All that is above a path, from below. -/
def ancs (t : List UInt8) : List (List UInt8) := ancsF t.length t
theorem parentP_nil : parentP [] = [] := rfl
theorem ancsF_succ : ∀ (c : Nat) (v : List UInt8), v.length ≤ c → ancsF c v = ancsF (c + 1) v := by
  intro c
  induction c with
  | zero => intro v hv; have : v = [] := List.eq_nil_of_length_eq_zero (by omega); subst this; simp [ancsF, parentP_nil]
  | succ c ihc =>
    intro v hv
    rw [ancsF, ancsF]
    by_cases hpv : parentP v = []
    · simp [hpv]
    · simp only [hpv, if_false]
      have hvne : v ≠ [] := by intro e; subst e; exact hpv parentP_nil
      have := parentP_lt hvne
      rw [ihc (parentP v) (by omega)]
theorem ancsF_enough (d : Nat) (t : List UInt8) : ancsF (t.length + d) t = ancs t := by
  induction d with
  | zero => rfl
  | succ d ih => rw [← ih, show t.length + (d + 1) = (t.length + d) + 1 by omega]; exact (ancsF_succ _ _ (by omega)).symm
theorem ancs_eq (t : List UInt8) : ancs t = if parentP t = [] then [] else parentP t :: ancs (parentP t) := by
  have h := ancsF_enough 1 t
  rw [← h, ancsF]
  by_cases hp : parentP t = []
  · simp [hp]
  · simp only [hp, if_false]
    have hne : t ≠ [] := by intro e; subst e; exact hp parentP_nil
    have := parentP_lt hne
    have h2 := ancsF_enough (t.length - (parentP t).length) (parentP t)
    rw [show (parentP t).length + (t.length - (parentP t).length) = t.length by omega] at h2
    rw [h2]
theorem ancs_bound : ∀ (n : Nat) (t : List UInt8), t.length ≤ n → (ancs t).length ≤ t.length ∧ ∀ x ∈ ancs t, x.length ≤ t.length ∧ x ≠ [] := by
  intro n
  induction n with
  | zero => intro t h; have : t = [] := List.eq_nil_of_length_eq_zero (by omega); subst this; exact ⟨by decide, by intro x hx; have e : ancs [] = [] := rfl; rw [e] at hx; cases hx⟩
  | succ n ih =>
    intro t h
    rw [ancs_eq]
    by_cases hp : parentP t = []
    · simp [hp]
    · have hne : t ≠ [] := by intro e; subst e; exact hp parentP_nil
      have hlt := parentP_lt hne
      obtain ⟨h1, h2⟩ := ih (parentP t) (by omega)
      simp only [hp, if_false, List.length_cons, List.mem_cons]
      refine ⟨by omega, ?_⟩
      rintro x (rfl | hx)
      · exact ⟨by omega, hp⟩
      · have := h2 x hx; exact ⟨by omega, this.2⟩
theorem ancs_len (t : List UInt8) : (ancs t).length ≤ t.length := (ancs_bound _ t (Nat.le_refl _)).1
/-- A loop over what is above. -/
theorem anc_run (q : List UInt8 → Bool) (b : List UInt8 → Option (Step Bool (List UInt8) Unit)) (hb : ∀ x : List UInt8, x ≠ [] → x.length ≤ 1048576 → b x = some (if q x then .ret true else .nxt (parentP x))) (hn : b [] = some (.brk ())) :
    ∀ (n : Nat) (t : List UInt8) (k : Nat), (parentP t).length ≤ n → n < k → (parentP t).length ≤ 1048576 → loopF b k (parentP t) = some (if (ancs t).any q then .inl true else .inr ()) := by
  intro n
  induction n with
  | zero =>
    intro t k h hk _
    obtain ⟨k, rfl⟩ : ∃ j, k = j + 1 := ⟨k - 1, by omega⟩
    have hp : parentP t = [] := List.eq_nil_of_length_eq_zero (by omega)
    rw [ancs_eq, hp, loopF, hn]; simp
  | succ n ih =>
    intro t k h hk hl
    obtain ⟨k, rfl⟩ : ∃ j, k = j + 1 := ⟨k - 1, by omega⟩
    by_cases hp : parentP t = []
    · rw [ancs_eq, hp, loopF, hn]; simp
    · rw [ancs_eq, loopF, hb _ hp hl]
      have hlt := parentP_lt hp
      simp only [hp, if_false, List.any_cons]
      rcases bool_two (q (parentP t)) with hq | hq
      · simp [hq]
      · simp only [hq, Bool.false_eq_true, if_false, Option.bind_some, Bool.false_or]
        exact ih (parentP t) k (by omega) (by omega) (by omega)
def stopsR (r : Rec) : Bool := !decide (r.kind = 3) || r.opq
def underO (l : List Rec) (p : List UInt8) : Bool := (ancs p).any fun x => decide (0 ≤ findR l x) && (gt l (findR l x)).opq
def cutsR (l : List Rec) (p : List UInt8) : Bool := (ancs p).any fun x => decide (0 ≤ findR l x) && stopsR (gt l (findR l x))
def aboveO (l : List Rec) (h : Rec → Option Bool) (p : List UInt8) : Option Bool := (h (gt l (findR l p))).bind fun z => some (decide (0 ≤ findR l p) && z)
theorem findR_inR {l : List Rec} {p : List UInt8} (h : 0 ≤ findR l p) : inR (findR l p) l.length = true := findR_in (by omega)
def spec_l03Under.b1 (a0 : List Rec) : List UInt8 → Option (Step (Bool) (List UInt8) (Unit)) :=
  fun x5_4 => bif (!decide (x5_4 = ([] : List UInt8))) then (bif decide (a0.length ≤ 1048576) then (((bif (decide (0 ≤ (findR a0 x5_4))) then (bif inR (findR a0 x5_4) a0.length then (some ((gt a0 (findR a0 x5_4)).opq)) else none) else some false)).bind fun z26 => bif z26 then (some (.ret true)) else (bif decide (x5_4.length ≤ 4611686018427387904) then (some (.nxt (parentP x5_4))) else none)) else none) else (some (.brk ()))
def spec_l03Under.sh (k : Nat) (a0 : List Rec) (a1 : List UInt8) : Option (Bool) :=
  bif decide (a1.length ≤ 4611686018427387904) then ((loopF (spec_l03Under.b1 a0) k (parentP a1)).bind fun z => match z with | .inl t => some t | .inr _ => some false) else none
theorem spec_l03Under.eq (a0 : List Rec) (a1 : List UInt8) (h0 : a0.length ≤ 1048576) (h1 : a1.length ≤ 1048576) : ∃ k, spec_l03Under.sh k a0 a1 = some (underO a0 a1) := by
  refine ⟨a1.length + 1, ?_⟩
  have hl := parentP_len a1
  have h2 : a1.length ≤ 4611686018427387904 := by omega
  unfold spec_l03Under.sh
  rw [anc_run (fun x => decide (0 ≤ findR a0 x) && (gt a0 (findR a0 x)).opq) (spec_l03Under.b1 a0) (fun x hx hx2 => by
    have h3 : x.length ≤ 4611686018427387904 := by omega
    simp only [spec_l03Under.b1, hx, decide_false, Bool.not_false, cond_true, h0, decide_true, h3]
    by_cases hk : 0 ≤ findR a0 x
    · simp only [hk, decide_true, cond_true, findR_inR hk, Bool.true_and, Option.bind_some]
      cases (gt a0 (findR a0 x)).opq <;> simp
    · simp [hk]) (by simp [spec_l03Under.b1]) a1.length a1 (a1.length + 1) hl (by omega) (by omega)]
  simp only [h2, decide_true, cond_true, Option.bind_some]
  unfold underO
  cases (ancs a1).any fun x => decide (0 ≤ findR a0 x) && (gt a0 (findR a0 x)).opq <;> simp
def spec_l06Stops.sh (a0 : Rec) : Option (Bool) :=
  some ((!decide (a0.kind = 3)) || a0.opq)
theorem spec_l06Stops.eq (a0 : Rec) : spec_l06Stops.sh a0 = some (stopsR a0) := rfl
def spec_l06Cuts.b1 (a0 : List Rec) : List UInt8 → Option (Step (Bool) (List UInt8) (Unit)) :=
  fun x5_4 => bif (!decide (x5_4 = ([] : List UInt8))) then (bif decide (a0.length ≤ 1048576) then (((bif (decide (0 ≤ (findR a0 x5_4))) then (bif inR (findR a0 x5_4) a0.length then (some (stopsR (gt a0 (findR a0 x5_4)))) else none) else some false)).bind fun z26 => bif z26 then (some (.ret true)) else (bif decide (x5_4.length ≤ 4611686018427387904) then (some (.nxt (parentP x5_4))) else none)) else none) else (some (.brk ()))
def spec_l06Cuts.sh (k : Nat) (a0 : List Rec) (a1 : List UInt8) : Option (Bool) :=
  bif decide (a1.length ≤ 4611686018427387904) then ((loopF (spec_l06Cuts.b1 a0) k (parentP a1)).bind fun z => match z with | .inl t => some t | .inr _ => some false) else none
theorem spec_l06Cuts.eq (a0 : List Rec) (a1 : List UInt8) (h0 : a0.length ≤ 1048576) (h1 : a1.length ≤ 1048576) : ∃ k, spec_l06Cuts.sh k a0 a1 = some (cutsR a0 a1) := by
  refine ⟨a1.length + 1, ?_⟩
  have hl := parentP_len a1
  have h2 : a1.length ≤ 4611686018427387904 := by omega
  unfold spec_l06Cuts.sh
  rw [anc_run (fun x => decide (0 ≤ findR a0 x) && stopsR (gt a0 (findR a0 x))) (spec_l06Cuts.b1 a0) (fun x hx hx2 => by
    have h3 : x.length ≤ 4611686018427387904 := by omega
    simp only [spec_l06Cuts.b1, hx, decide_false, Bool.not_false, cond_true, h0, decide_true, h3]
    by_cases hk : 0 ≤ findR a0 x
    · simp only [hk, decide_true, cond_true, findR_inR hk, Bool.true_and, Option.bind_some]
      cases stopsR (gt a0 (findR a0 x)) <;> simp
    · simp [hk]) (by simp [spec_l06Cuts.b1]) a1.length a1 (a1.length + 1) hl (by omega) (by omega)]
  simp only [h2, decide_true, cond_true, Option.bind_some]
  unfold cutsR
  cases (ancs a1).any fun x => decide (0 ≤ findR a0 x) && stopsR (gt a0 (findR a0 x)) <;> simp
def impl_ancestors.b1  : List UInt8 × List (List UInt8) → Option (Step (List (List UInt8)) (List UInt8 × List (List UInt8)) (List (List UInt8))) :=
  fun q => match q with
  | (x0_10, x3_11) => bif (!decide (x0_10 = ([] : List UInt8))) then (bif decide ((x3_11.length + ([x0_10] : List (List UInt8)).length) * 16 ≤ 140737488355328) then (bif decide (x0_10.length ≤ 1048576) then (some (.nxt ((parentP x0_10), x3_11 ++ ([x0_10] : List (List UInt8))))) else none) else none) else (some (.brk x3_11))
def impl_ancestors.sh (k : Nat) (a0 : List UInt8) : Option (List (List UInt8)) :=
  bif decide (a0.length ≤ 1048576) then ((loopF (impl_ancestors.b1) k ((parentP a0), ([] : List (List UInt8)))).bind fun z => match z with | .inl t => some t | .inr x3_16 => some x3_16) else none
theorem impl_ancestors.eq (a0 : List UInt8) (h0 : a0.length ≤ 1048576) : ∃ k, impl_ancestors.sh k a0 = some (ancs a0) := by
  refine ⟨a0.length + 1, ?_⟩
  have key : ∀ (n : Nat) (t : List UInt8) (k : Nat) (acc : List (List UInt8)), (parentP t).length ≤ n → n < k → acc.length + (parentP t).length ≤ 1048576 → loopF impl_ancestors.b1 k (parentP t, acc) = some (.inr (acc ++ ancs t)) := by
    intro n
    induction n with
    | zero =>
      intro t k acc h hk _
      obtain ⟨k, rfl⟩ : ∃ j, k = j + 1 := ⟨k - 1, by omega⟩
      have hp : parentP t = [] := List.eq_nil_of_length_eq_zero (by omega)
      rw [ancs_eq, hp, loopF]; simp [impl_ancestors.b1]
    | succ n ih =>
      intro t k acc h hk hl
      obtain ⟨k, rfl⟩ : ∃ j, k = j + 1 := ⟨k - 1, by omega⟩
      by_cases hp : parentP t = []
      · rw [ancs_eq, hp, loopF]; simp [impl_ancestors.b1]
      · have hlt := parentP_lt hp
        have e1 : (acc.length + ([parentP t] : List (List UInt8)).length) * 16 ≤ 140737488355328 := by simp; omega
        have e2 : (parentP t).length ≤ 1048576 := by omega
        rw [ancs_eq t, loopF]
        simp only [impl_ancestors.b1, hp, decide_false, Bool.not_false, cond_true, e1, e2, decide_true, if_false, Option.bind_some]
        have := ih (parentP t) k (acc ++ [parentP t]) (by omega) (by omega) (by simp; omega)
        rw [show loopF impl_ancestors.b1 k (parentP (parentP t), acc ++ [parentP t]) = _ from this]
        simp
  have hl := parentP_len a0
  unfold impl_ancestors.sh
  rw [key a0.length a0 (a0.length + 1) [] hl (by omega) (by simp; omega)]
  simp [h0]
def impl_above_1.sh (a0 : List UInt8) (a1 : List Rec) (a2 : Rec → Option Bool) : Option (Bool) :=
  bif decide (a1.length ≤ 1048576) then (bif (!(decide (0 ≤ (findR a1 a0))) || (inR (findR a1 a0) a1.length)) then ((a2 (gt a1 (findR a1 a0))).bind fun z7 => some ((decide (0 ≤ (findR a1 a0))) && z7)) else none) else none
theorem impl_above_1.eq (a0 : List UInt8) (a1 : List Rec) (a2 : Rec → Option Bool) (h0 : a1.length ≤ 1048576) {r : Bool} (H : aboveO a1 a2 a0 = some r) : impl_above_1.sh a0 a1 a2 = some r := by
  unfold impl_above_1.sh
  have h1 : (!decide (0 ≤ findR a1 a0) || inR (findR a1 a0) a1.length) = true := by
    by_cases hk : 0 ≤ findR a1 a0
    · simp [findR_inR hk]
    · simp [hk]
  rw [h1]
  simp only [h0, decide_true, cond_true]
  exact H
def impl_above.sh (a0 : List Rec) (a1 : List UInt8) (a2 : Rec → Option Bool) : Option (Bool) :=
  bif decide (a1.length ≤ 1048576) then (bif decide ((ancs a1).length ≤ 4611686018427387904) then (((anyO (fun (x0_ : List UInt8) => bif decide (a0.length ≤ 1048576) then (aboveO a0 a2 x0_) else none) (ancs a1))).bind fun z23 => some z23) else none) else none
theorem impl_above.eq (a0 : List Rec) (a1 : List UInt8) (a2 : Rec → Option Bool) (h0 : a0.length ≤ 1048576) (h1 : a1.length ≤ 1048576) {r : Bool} (H : anyO (aboveO a0 a2) (ancs a1) = some r) : impl_above.sh a0 a1 a2 = some r := by
  have hl := ancs_len a1
  have h2 : (ancs a1).length ≤ 4611686018427387904 := by omega
  unfold impl_above.sh
  simp only [h0, h1, h2, decide_true, cond_true]
  rw [show (anyO (fun (x0_ : List UInt8) => aboveO a0 a2 x0_) (ancs a1)) = some r from H]; rfl
theorem anyO_above (l : List Rec) (q : Rec → Bool) (p : List UInt8) : anyO (aboveO l (fun x => some (q x))) (ancs p) = some ((ancs p).any fun x => decide (0 ≤ findR l x) && q (gt l (findR l x))) := anyO_some fun x _ => rfl
def impl_underOpaque_1.sh (a0 : Rec) : Option (Bool) :=
  some a0.opq
theorem impl_underOpaque_1.eq (a0 : Rec) : impl_underOpaque_1.sh a0 = some a0.opq := rfl
def impl_underOpaque.sh (a0 : List Rec) (a1 : List UInt8) : Option (Bool) :=
  bif decide (a0.length ≤ 1048576) then (bif decide (a1.length ≤ 1048576) then (((anyO (aboveO a0 (fun (x0_ : Rec) => some x0_.opq)) (ancs a1))).bind fun z7 => some z7) else none) else none
theorem impl_underOpaque.eq (a0 : List Rec) (a1 : List UInt8) (h0 : a0.length ≤ 1048576) (h1 : a1.length ≤ 1048576) : impl_underOpaque.sh a0 a1 = some (underO a0 a1) := by
  unfold impl_underOpaque.sh
  simp only [h0, h1, decide_true, cond_true, anyO_above a0 (fun x => x.opq) a1, Option.bind_some]; rfl
def impl_stops.sh (a0 : Rec) : Option (Bool) :=
  some ((!decide (a0.kind = 3)) || a0.opq)
theorem impl_stops.eq (a0 : Rec) : impl_stops.sh a0 = some (stopsR a0) := rfl
def impl_cuts.sh (a0 : List Rec) (a1 : List UInt8) : Option (Bool) :=
  bif decide (a0.length ≤ 1048576) then (bif decide (a1.length ≤ 1048576) then (((anyO (aboveO a0 (fun (x0_ : Rec) => some (stopsR x0_))) (ancs a1))).bind fun z7 => some z7) else none) else none
theorem impl_cuts.eq (a0 : List Rec) (a1 : List UInt8) (h0 : a0.length ≤ 1048576) (h1 : a1.length ≤ 1048576) : impl_cuts.sh a0 a1 = some (cutsR a0 a1) := by
  unfold impl_cuts.sh
  simp only [h0, h1, decide_true, cond_true, anyO_above a0 stopsR a1, Option.bind_some]; rfl
theorem pathOK_small {p : List UInt8} (h : pathOK p = true) : p.length ≤ 1048576 := by have := pathOK_len h; omega

/-! ### right layers -/
theorem layerFault_zero {l : List Rec} (h : (layerFault l).2 = 0) : ∀ i, i < l.length → codeAt l i = 0 := by
  unfold layerFault at h
  cases hf : (List.range l.length).findSome? (fun i => if codeAt l i = 0 then none else some ((i : Int), codeAt l i)) with
  | none =>
    intro i hi
    have := List.findSome?_eq_none_iff.1 hf i (List.mem_range.2 hi)
    by_cases hc : codeAt l i = 0
    · exact hc
    · simp [hc] at this
  | some x =>
    rw [hf] at h
    obtain ⟨i, _, hi⟩ := List.exists_of_findSome?_eq_some hf
    by_cases hc : codeAt l i = 0
    · simp [hc] at hi
    · simp only [hc, if_false, Option.some.injEq] at hi
      subst hi
      exact absurd h hc
theorem layerFault_of {l : List Rec} (h : ∀ i, i < l.length → codeAt l i = 0) : layerFault l = (0, 0) := by
  unfold layerFault
  have : (List.range l.length).findSome? (fun i => if codeAt l i = 0 then none else some ((i : Int), codeAt l i)) = none := by
    apply List.findSome?_eq_none_iff.2
    intro i hi
    simp [h i (List.mem_range.1 hi)]
  rw [this]
theorem layerOK_rec {l : List Rec} (h : (layerFault l).2 = 0) : ∀ x ∈ l, recFault x = 0 := by
  intro x hx
  obtain ⟨i, hi, rfl⟩ := List.getElem_of_mem hx
  have := codeAt_rec (layerFault_zero h i hi)
  rwa [getD_el hi] at this
theorem layerOK_path {l : List Rec} (h : (layerFault l).2 = 0) : ∀ x ∈ l, pathOK x.path = true := fun x hx => recFault_path (layerOK_rec h x hx)
theorem layerOK_len {l : List Rec} (h : (layerFault l).2 = 0) : l.length ≤ 16 := by
  by_cases hc : l.length ≤ 16
  · exact hc
  · have := layerFault_zero h 16 (by omega)
    simp [codeAt] at this
theorem pathOK_depth {p : List UInt8} (h : pathOK p = true) : (cut 47 p).length ≤ 4 := by
  simp only [pathOK, Bool.and_eq_true, decide_eq_true_eq] at h
  exact h.2.1
/-! ### the canonical form -/
def canonR (l : List Rec) (r : Rec) : Option Rec :=
  if underO l r.path then (if r.kind = 4 then none else some ⟨r.kind, r.path, r.body, r.mode, false⟩) else some ⟨r.kind, r.path, r.body, r.mode, r.opq && decide ((cut 47 r.path).length < 4)⟩
def canonL (l : List Rec) : List Rec := l.filterMap (canonR l)
theorem canonL_len (l : List Rec) : (canonL l).length ≤ l.length := List.length_filterMap_le _ _
def spec_l03Canon.b1 (a0 : List Rec) : List Rec × Int → Option (Step (List Rec) (List Rec × Int) (List Rec)) :=
  fun q => match q with
  | (x3_7, x4_9) => bif (decide (x4_9 < (a0.length : Int))) then (bif inR x4_9 a0.length then (bif decide (a0.length ≤ 1048576) then (bif decide (((gt a0 x4_9).path).length ≤ 1048576) then (bif (!(underO a0 ((gt a0 x4_9).path))) then (((bif ((gt a0 x4_9).opq) then (bif decide (((gt a0 x4_9).path).length ≤ 1048576) then (some (decide (((cut 47 ((gt a0 x4_9).path)).length : Int) < 4))) else none) else some false)).bind fun z49 => bif decide ((x3_7.length + ([(⟨(gt a0 x4_9).kind, (gt a0 x4_9).path, (gt a0 x4_9).body, (gt a0 x4_9).mode, z49⟩ : Rec)] : List Rec).length) * 56 ≤ 140737488355328) then (some (.nxt (x3_7 ++ ([(⟨(gt a0 x4_9).kind, (gt a0 x4_9).path, (gt a0 x4_9).body, (gt a0 x4_9).mode, z49⟩ : Rec)] : List Rec), IntKind.wrap .i64 (x4_9 + 1)))) else none) else (bif (!decide (((gt a0 x4_9).kind) = 4)) then (bif decide ((x3_7.length + ([(⟨(gt a0 x4_9).kind, (gt a0 x4_9).path, (gt a0 x4_9).body, (gt a0 x4_9).mode, false⟩ : Rec)] : List Rec).length) * 56 ≤ 140737488355328) then (some (.nxt (x3_7 ++ ([(⟨(gt a0 x4_9).kind, (gt a0 x4_9).path, (gt a0 x4_9).body, (gt a0 x4_9).mode, false⟩ : Rec)] : List Rec), IntKind.wrap .i64 (x4_9 + 1)))) else none) else (some (.nxt (x3_7, IntKind.wrap .i64 (x4_9 + 1)))))) else none) else none) else none) else (some (.brk x3_7))
def spec_l03Canon.sh (k : Nat) (a0 : List Rec) : Option (List Rec) :=
  (loopF (spec_l03Canon.b1 a0) k (([] : List Rec), 0)).bind fun z => match z with | .inl t => some t | .inr x3_13 => some x3_13
theorem spec_l03Canon.eq (a0 : List Rec) (h0 : a0.length ≤ 1048576) (h1 : ∀ x ∈ a0, pathOK x.path = true) : ∃ k, spec_l03Canon.sh k a0 = some (canonL a0) := by
  refine ⟨a0.length + 1, ?_⟩
  unfold spec_l03Canon.sh
  rw [collect_run a0 (canonR a0) (spec_l03Canon.b1 a0) (fun i hi acc ha => by
    have hp := pathOK_small (h1 _ (List.getElem_mem hi))
    have e1 : ∀ z : Rec, (acc.length + ([z] : List Rec).length) * 56 ≤ 140737488355328 := fun z => by simp; omega
    have e4 : decide (((cut 47 a0[i].path).length : Int) < 4) = decide ((cut 47 a0[i].path).length < 4) := by rw [decide_eq_decide]; omega
    simp only [spec_l03Canon.b1, lt_nat, hi, decide_true, cond_true, inR_nat hi, getD_gt, getD_el hi, h0, hp, e1, e4, wrap_succ hi (by omega), canonR]
    rcases bool_two (underO a0 a0[i].path) with hu | hu
    · by_cases hk : a0[i].kind = 4 <;> simp [hu, hk]
    · rcases bool_two a0[i].opq with ho | ho <;> simp [hu, ho]) (fun acc => by simp [spec_l03Canon.b1])]
  simp [canonL]
def impl_canonical.b1 (a0 : List Rec) : List Rec × Int → Option (Step (List Rec) (List Rec × Int) (List Rec)) :=
  fun q => match q with
  | (x3_7, x10_9) => bif (decide (x10_9 < (a0.length : Int))) then (bif inR x10_9 a0.length then (bif decide (a0.length ≤ 1048576) then (bif decide (((gt a0 x10_9).path).length ≤ 1048576) then (bif ((underO a0 ((gt a0 x10_9).path)) && (decide (((gt a0 x10_9).kind) = 4))) then (some (.nxt (x3_7, IntKind.wrap .i64 (x10_9 + 1)))) else (((bif (underO a0 ((gt a0 x10_9).path)) then some true else (bif decide (((gt a0 x10_9).path).length ≤ 1048576) then (some (decide (((cut 47 ((gt a0 x10_9).path)).length : Int) = 4))) else none))).bind fun z55 => bif z55 then (bif decide ((x3_7.length + ([(⟨(gt a0 x10_9).kind, (gt a0 x10_9).path, (gt a0 x10_9).body, (gt a0 x10_9).mode, false⟩ : Rec)] : List Rec).length) * 56 ≤ 140737488355328) then (some (.nxt (x3_7 ++ ([(⟨(gt a0 x10_9).kind, (gt a0 x10_9).path, (gt a0 x10_9).body, (gt a0 x10_9).mode, false⟩ : Rec)] : List Rec), IntKind.wrap .i64 (x10_9 + 1)))) else none) else (bif decide ((x3_7.length + ([(gt a0 x10_9)] : List Rec).length) * 56 ≤ 140737488355328) then (some (.nxt (x3_7 ++ ([(gt a0 x10_9)] : List Rec), IntKind.wrap .i64 (x10_9 + 1)))) else none))) else none) else none) else none) else (some (.brk x3_7))
def impl_canonical.sh (k : Nat) (a0 : List Rec) : Option (List Rec) :=
  (loopF (impl_canonical.b1 a0) k (([] : List Rec), 0)).bind fun z => match z with | .inl t => some t | .inr x3_13 => some x3_13
theorem impl_canonical.eq (a0 : List Rec) (h0 : a0.length ≤ 1048576) (h1 : ∀ x ∈ a0, pathOK x.path = true) : ∃ k, impl_canonical.sh k a0 = some (canonL a0) := by
  refine ⟨a0.length + 1, ?_⟩
  unfold impl_canonical.sh
  rw [collect_run a0 (canonR a0) (impl_canonical.b1 a0) (fun i hi acc ha => by
    have hpo := h1 _ (List.getElem_mem hi)
    have hp := pathOK_small hpo
    have hd := pathOK_depth hpo
    have e1 : ∀ z : Rec, (acc.length + ([z] : List Rec).length) * 56 ≤ 140737488355328 := fun z => by simp; omega
    have e4 : decide (((cut 47 a0[i].path).length : Int) = 4) = !decide ((cut 47 a0[i].path).length < 4) := by
      by_cases h : (cut 47 a0[i].path).length < 4
      · have : ¬ ((cut 47 a0[i].path).length : Int) = 4 := by omega
        simp [h, this]
      · have : ((cut 47 a0[i].path).length : Int) = 4 := by omega
        simp [h, this]
    simp only [impl_canonical.b1, lt_nat, hi, decide_true, cond_true, inR_nat hi, getD_gt, getD_el hi, h0, hp, e1, e4, wrap_succ hi (by omega), canonR]
    rcases bool_two (underO a0 a0[i].path) with hu | hu
    · by_cases hk : a0[i].kind = 4 <;> simp [hu, hk]
    · by_cases h4 : (cut 47 a0[i].path).length < 4 <;> simp [hu, h4]) (fun acc => by simp [impl_canonical.b1])]
  simp [canonL]
/-! ### two layers -/
def pairCode (a b : List Rec) : Int := if decide (4096 < a.length) || decide (4096 < b.length) then 2 else if !decide ((layerFault a).2 = 0) || !decide ((layerFault b).2 = 0) then 1 else 0
theorem pairCode_zero {a b : List Rec} (h : pairCode a b = 0) : (layerFault a).2 = 0 ∧ (layerFault b).2 = 0 := by
  unfold pairCode at h
  split at h
  · cases h
  · split at h
    · cases h
    · rename_i h1
      simpa using h1
def impl_pairCode.sh (a0 : List Rec) (a1 : List Rec) : Option (Int) :=
  bif decide (a0.length ≤ 1048576) then (bif decide (∀ x ∈ a0, x.path.length ≤ 1048576) then (((bif (!(decide ((layerFaultL a0).2 = 0))) then some true else (bif decide (a1.length ≤ 1048576) then (bif decide (∀ x ∈ a1, x.path.length ≤ 1048576) then (some (!(decide ((layerFaultL a1).2 = 0)))) else none) else none))).bind fun z14 => bif decide (([.inl ((decide (4096 < a0.length)) || (decide (4096 < a1.length))), .inr 2, .inl z14, .inr 1] : List (Bool ⊕ Int)).length ≤ 4611686018427387904) then ((some (firstOf ([.inl ((decide (4096 < a0.length)) || (decide (4096 < a1.length))), .inr 2, .inl z14, .inr 1] : List (Bool ⊕ Int)))).bind fun z31 => some z31) else none) else none) else none
theorem impl_pairCode.eq (a0 a1 : List Rec) (h0 : a0.length ≤ 1048576) (h1 : a1.length ≤ 1048576) (h2 : ∀ x ∈ a0, x.path.length ≤ 1048576) (h3 : ∀ x ∈ a1, x.path.length ≤ 1048576) : impl_pairCode.sh a0 a1 = some (pairCode a0 a1) := by
  unfold impl_pairCode.sh pairCode layerFaultL
  simp only [h0, h1, decide_true, cond_true, decide_eq_true h2, decide_eq_true h3, firstOf_c, List.length_cons, List.length_nil, firstOf, anyB, anyI]
  by_cases h : 4096 < a0.length
  · simp [h]
  · by_cases h' : 4096 < a1.length
    · by_cases hf : (layerFault a0).2 = 0 <;> simp [h, h', hf]
    · by_cases hf : (layerFault a0).2 = 0
      · by_cases hg : (layerFault a1).2 = 0
        · simp [h, h', hf, hg]
        · simp [h, h', hf, hg]
      · simp [h, h', hf]
/-! ### trees as layers -/
/-! ### marks -/
/-! ### stacks -/
def stackOK (l : List (List Rec)) : Bool := decide (l.length ≤ 5) && l.all fun x => decide ((layerFault x).2 = 0)
theorem layerFaultL_zero (l : List Rec) : decide ((layerFaultL l).2 = 0) = decide ((layerFault l).2 = 0) := by
  unfold layerFaultL
  by_cases h : 4096 < l.length
  · have : ¬ (layerFault l).2 = 0 := fun hf => by have := layerOK_len hf; omega
    simp [h, this]
  · simp [h]
theorem stackOK_layer {l : List (List Rec)} (h : stackOK l = true) : l.length ≤ 5 ∧ ∀ x ∈ l, (layerFault x).2 = 0 := by
  simpa [stackOK] using h
def spec_l05Stack.b1 (a0 : List (List Rec)) : Int → Option (Step (Bool) (Int) (Unit)) :=
  fun x3_2 => bif (decide (x3_2 < (a0.length : Int))) then (bif inR x3_2 a0.length then (bif decide ((gt a0 x3_2).length ≤ 1048576) then (bif decide (∀ x ∈ (gt a0 x3_2), x.path.length ≤ 1048576) then (bif (!(decide ((layerFault (gt a0 x3_2)).2 = 0))) then (some (.ret false)) else (some (.nxt (IntKind.wrap .i64 (x3_2 + 1))))) else none) else none) else none) else (some (.brk ()))
def spec_l05Stack.sh (k : Nat) (a0 : List (List Rec)) : Option (Bool) :=
  bif (decide (5 < (a0.length : Int))) then (some false) else ((loopF (spec_l05Stack.b1 a0) k 0).bind fun z => match z with | .inl t => some t | .inr _ => some true)
theorem spec_l05Stack.eq (a0 : List (List Rec)) (h0 : a0.length ≤ 1048576) (h1 : ∀ l ∈ a0, l.length ≤ 1048576) (h2 : ∀ l ∈ a0, ∀ x ∈ l, x.path.length ≤ 1048576) : ∃ k, spec_l05Stack.sh k a0 = some (stackOK a0) := by
  refine ⟨a0.length + 1, ?_⟩
  unfold spec_l05Stack.sh stackOK
  by_cases hl : a0.length ≤ 5
  · have hl' : ¬ (5 : Int) < (a0.length : Int) := by omega
    simp only [hl', decide_false, cond_false]
    have hb : ∀ i : Nat, i < a0.length → spec_l05Stack.b1 a0 i = some (sc (if !decide ((layerFault (a0.getD i default)).2 = 0) then some false else none : Option Bool) ((i : Int) + 1)) := by
      intro i hi
      have e := h1 a0[i] (List.getElem_mem hi)
      have e2 := h2 a0[i] (List.getElem_mem hi)
      have eg : a0.getD i default = gt a0 (i : Int) := rfl
      rw [← getD_el hi, eg] at e e2
      rw [eg]
      simp only [spec_l05Stack.b1, lt_nat, hi, decide_true, cond_true, inR_nat hi, e, decide_eq_true e2, wrap_succ hi (by omega)]
      by_cases hf : (layerFault (gt a0 (i : Int))).2 = 0
      · simp only [hf, decide_true, Bool.not_true, cond_false, Bool.false_eq_true, if_false, sc_none]
      · simp only [hf, decide_false, Bool.not_false, cond_true, if_true, sc_some]
    rw [loop_scan0 a0.length _ hb (by simp [spec_l05Stack.b1]) _ (by omega), find_any0 a0 default (fun x => !decide ((layerFault x).2 = 0)) false]
    have hna : (a0.any fun x => !decide ((layerFault x).2 = 0)) = !(a0.all fun x => decide ((layerFault x).2 = 0)) := by rw [List.not_all_eq_any_not]
    rw [hna]
    simp only [hl, decide_true, Bool.true_and]
    cases (a0.all fun x => decide ((layerFault x).2 = 0)) <;> simp
  · have hl' : (5 : Int) < (a0.length : Int) := by omega
    simp [hl', hl]
def impl_allSS_1.sh (a0 : List Rec) (a1 : List Rec → Option Bool) : Option (Bool) :=
  (a1 a0).bind fun z1 => some (!z1)
theorem impl_allSS_1.eq (a0 : List Rec) (a1 : List Rec → Option Bool) {r : Bool} (H : ((a1 a0).map (!·)) = some r) : impl_allSS_1.sh a0 a1 = some r := by
  unfold impl_allSS_1.sh
  cases h : a1 a0 with
  | none => rw [h] at H; cases H
  | some z => rw [h] at H; exact H
def slices_IndexFuncSS.b1 (a0 : List (List Rec)) (a1 : List Rec → Option Bool) : Int → Option (Step (Int) (Int) (Unit)) :=
  fun x8_1 => bif (decide (x8_1 < (a0.length : Int))) then (bif inR x8_1 a0.length then ((a1 (gt a0 x8_1)).bind fun z24 => bif z24 then (some (.ret x8_1)) else (some (.nxt (IntKind.wrap .i64 (x8_1 + 1))))) else none) else (some (.brk ()))
def slices_IndexFuncSS.sh (k : Nat) (a0 : List (List Rec)) (a1 : List Rec → Option Bool) : Option (Int) :=
  (loopF (slices_IndexFuncSS.b1 a0 a1) k 0).bind fun z => match z with | .inl t => some t | .inr _ => some (-1)
theorem slices_IndexFuncSS.eq (a0 : List (List Rec)) (a1 : List Rec → Option Bool) (h : a0.length ≤ 4611686018427387904) {r : Int} (H : idxO a1 a0 = some r) : ∃ k, slices_IndexFuncSS.sh k a0 a1 = some r := by
  refine ⟨a0.length + 1, ?_⟩
  have := idxO_find a0 a0.length 0 (by omega) r (by simpa using H) (slices_IndexFuncSS.b1 a0 a1) (fun i hi => by
    simp only [slices_IndexFuncSS.b1, lt_nat, hi, decide_true, cond_true, inR_nat hi, getD_gt, wrap_succ hi h]) (by simp [slices_IndexFuncSS.b1]) (a0.length + 1) (by omega)
  simp only [Int.natCast_zero] at this
  unfold slices_IndexFuncSS.sh
  rw [this]
  by_cases hr : r = -1
  · simp [hr]
  · simp [hr]
def slices_ContainsFuncSS.sh (a0 : List (List Rec)) (a1 : List Rec → Option Bool) : Option (Bool) :=
  bif decide (a0.length ≤ 4611686018427387904) then (((idxO a1 a0)).bind fun z2 => some (decide (0 ≤ z2))) else none
theorem slices_ContainsFuncSS.eq (a0 : List (List Rec)) (a1 : List Rec → Option Bool) (h : a0.length ≤ 4611686018427387904) {r : Bool} (H : anyO a1 a0 = some r) : slices_ContainsFuncSS.sh a0 a1 = some r := by
  obtain ⟨i, hi⟩ := any_idxO H
  have := (idxO_any hi).2
  rw [H] at this
  simp only [slices_ContainsFuncSS.sh, h, decide_true, cond_true, hi, Option.bind_some, this]
def impl_allSS.sh (a0 : List (List Rec)) (a1 : List Rec → Option Bool) : Option (Bool) :=
  bif decide (a0.length ≤ 4611686018427387904) then (((anyO (fun (x0_ : List Rec) => ((a1 x0_).map (!·))) a0)).bind fun z12 => some (!z12)) else none
theorem impl_allSS.eq (a0 : List (List Rec)) (a1 : List Rec → Option Bool) (h : a0.length ≤ 4611686018427387904) {r : Bool} (H : allO a1 a0 = some r) : impl_allSS.sh a0 a1 = some r := by
  simp only [impl_allSS.sh, h, decide_true, cond_true]
  have := anyO_not (p := a1) a0
  rw [H] at this
  rw [show (anyO (fun (x0_ : List Rec) => (a1 x0_).map (!·)) a0) = _ from this]
  simp
def impl_StackOK.sh (a0 : List (List Rec)) : Option (Bool) :=
  ((bif (decide ((a0.length : Int) ≤ 5)) then (bif decide (a0.length ≤ 4611686018427387904) then (((allO (fun (x0_ : List Rec) => bif decide (x0_.length ≤ 1048576) then (bif decide (∀ x ∈ x0_, x.path.length ≤ 1048576) then (some (decide ((layerFaultL x0_).2 = 0))) else none) else none) a0)).bind fun z7 => some z7) else none) else some false)).bind fun z2 => some z2
theorem impl_StackOK.eq (a0 : List (List Rec)) (h0 : a0.length ≤ 1048576) (h1 : ∀ l ∈ a0, l.length ≤ 1048576) (h2 : ∀ l ∈ a0, ∀ x ∈ l, x.path.length ≤ 1048576) : impl_StackOK.sh a0 = some (stackOK a0) := by
  unfold impl_StackOK.sh stackOK
  have h3 : a0.length ≤ 4611686018427387904 := by omega
  have e : allO (fun (x0_ : List Rec) => bif decide (x0_.length ≤ 1048576) then (bif decide (∀ x ∈ x0_, x.path.length ≤ 1048576) then (some (decide ((layerFaultL x0_).2 = 0))) else none) else none) a0 = some (a0.all fun x => decide ((layerFault x).2 = 0)) :=
    allO_some fun x hx => by simp only [h1 x hx, decide_true, cond_true, decide_eq_true (h2 x hx), layerFaultL_zero]
  simp only [h3, decide_true, cond_true, e, Option.bind_some]
  by_cases hl : a0.length ≤ 5
  · have hl' : (a0.length : Int) ≤ 5 := by omega
    simp [hl, hl']
  · have hl' : ¬ (a0.length : Int) ≤ 5 := by omega
    simp [hl, hl']
/-! ### the highest layer that cuts a path off -/
def cutDN (l : List (List Rec)) (p : List UInt8) : Nat → Int
  | 0 => 0
  | n + 1 => if cutsR (l.getD n default) p then (n : Int) + 1 else cutDN l p n
def cutD (l : List (List Rec)) (p : List UInt8) : Int := cutDN l p l.length
theorem cutDN_none {l : List (List Rec)} {p : List UInt8} : ∀ m, (∀ j, j < m → cutsR (l.getD j default) p = false) → cutDN l p m = 0 := by
  intro m
  induction m with
  | zero => intro _; rfl
  | succ m ih => intro h; rw [cutDN, h m (by omega)]; exact ih fun j hj => h j (by omega)
theorem cutDN_some {l : List (List Rec)} {p : List UInt8} {i : Nat} : ∀ m, i < m → cutsR (l.getD i default) p = true → (∀ j, i < j → j < m → cutsR (l.getD j default) p = false) → cutDN l p m = (i : Int) + 1 := by
  intro m
  induction m with
  | zero => intro h; omega
  | succ m ih =>
    intro h hc hj
    rw [cutDN]
    by_cases e : i = m
    · subst e; rw [hc]; rfl
    · rw [hj m (by omega) (by omega)]; exact ih (by omega) hc fun j h1 h2 => hj j h1 (by omega)
def spec_l07Cut.b1 (a0 : List (List Rec)) (a1 : List UInt8) : Int → Option (Step (Int) (Int) (Unit)) :=
  fun x5_1 => bif (decide (0 ≤ x5_1)) then (bif inR x5_1 a0.length then (bif decide ((gt a0 x5_1).length ≤ 1048576) then (bif decide (a1.length ≤ 1048576) then (bif (cutsR (gt a0 x5_1) a1) then (some (.ret (IntKind.wrap .i64 (x5_1 + 1)))) else (some (.nxt (IntKind.wrap .i64 (x5_1 - 1))))) else none) else none) else none) else (some (.brk ()))
def spec_l07Cut.sh (k : Nat) (a0 : List (List Rec)) (a1 : List UInt8) : Option (Int) :=
  (loopF (spec_l07Cut.b1 a0 a1) k (IntKind.wrap .i64 ((a0.length : Int) - 1))).bind fun z => match z with | .inl t => some t | .inr _ => some 0
theorem spec_l07Cut.eq (a0 : List (List Rec)) (a1 : List UInt8) (h0 : a0.length ≤ 1048576) (h1 : a1.length ≤ 1048576) (h2 : ∀ l ∈ a0, l.length ≤ 1048576) : ∃ k, spec_l07Cut.sh k a0 a1 = some (cutD a0 a1) := by
  refine ⟨a0.length + 1, ?_⟩
  unfold spec_l07Cut.sh cutD
  rw [wrap_small (n := (a0.length : Int) - 1) (by omega) (by omega)]
  have key : ∀ (m k : Nat), m ≤ a0.length → m < k → ∃ z, loopF (spec_l07Cut.b1 a0 a1) k ((m : Int) - 1) = some z ∧ (match z with | .inl t => some t | .inr _ => some 0) = some (cutDN a0 a1 m) := by
    intro m
    induction m with
    | zero =>
      intro k _ hk
      obtain ⟨k, rfl⟩ : ∃ j, k = j + 1 := ⟨k - 1, by omega⟩
      exact ⟨.inr (), by simp [loopF, spec_l07Cut.b1], by simp [cutDN]⟩
    | succ m ih =>
      intro k hm hk
      obtain ⟨k, rfl⟩ : ∃ j, k = j + 1 := ⟨k - 1, by omega⟩
      have hlt : m < a0.length := by omega
      have e : ((m + 1 : Nat) : Int) - 1 = (m : Int) := by omega
      have e1 := h2 a0[m] (List.getElem_mem hlt)
      rw [← getD_el hlt] at e1
      have h9 : (0 : Int) ≤ (m : Int) := by omega
      rw [e, loopF]
      simp only [spec_l07Cut.b1, h9, decide_true, cond_true, inR_nat hlt, getD_gt, e1, h1, wrap_succ hlt (by omega), cutDN]
      rcases bool_two (cutsR (a0.getD m default) a1) with hc | hc
      · exact ⟨.inl ((m : Int) + 1), by rw [hc]; rfl, by rw [hc]; rfl⟩
      · obtain ⟨z, hz, hP⟩ := ih k (by omega) (by omega)
        refine ⟨z, ?_, by rw [hc]; exact hP⟩
        rw [hc, wrap_small (n := (m : Int) - 1) (by omega) (by omega)]
        exact hz
  obtain ⟨z, hz, hP⟩ := key a0.length (a0.length + 1) (by omega) (by omega)
  rw [hz]
  exact hP
def stackCode (a : List (List Rec)) : Int := if 4096 < a.length then 2 else if !stackOK a then 1 else 0
def pathCode (a : List (List Rec)) (p : List UInt8) : Int := if 65536 < p.length then 2 else if stackCode a ≠ 0 then stackCode a else if !pathOK p then 10 else 0
def cutDepth (a : List (List Rec)) (p : List UInt8) : Int × Int := if pathCode a p = 0 then (cutD a p, 0) else (0, pathCode a p)
theorem lenSS4096 (l : List (List Rec)) : decide ((4096 : Int) < (l.length : Int)) = decide (4096 < l.length) := by rw [decide_eq_decide]; omega
def impl_isLongListSS.sh (a0 : List (List Rec)) : Option (Bool) :=
  some (decide (4096 < (a0.length : Int)))
theorem impl_isLongListSS.eq (a0 : List (List Rec)) : impl_isLongListSS.sh a0 = some (decide (4096 < a0.length)) := by
  unfold impl_isLongListSS.sh
  rw [lenSS4096]
def impl_stackCode.sh (a0 : List (List Rec)) : Option (Int) :=
  bif decide (a0.length ≤ 1048576) then (bif decide (∀ l ∈ a0, l.length ≤ 1048576) then (bif decide (∀ l ∈ a0, ∀ x ∈ l, x.path.length ≤ 1048576) then (bif decide (([.inl (decide (4096 < a0.length)), .inr 2, .inl (!(stackOK a0)), .inr 1] : List (Bool ⊕ Int)).length ≤ 4611686018427387904) then ((some (firstOf ([.inl (decide (4096 < a0.length)), .inr 2, .inl (!(stackOK a0)), .inr 1] : List (Bool ⊕ Int)))).bind fun z17 => some z17) else none) else none) else none) else none
theorem impl_stackCode.eq (a0 : List (List Rec)) (h0 : a0.length ≤ 1048576) (h1 : ∀ l ∈ a0, l.length ≤ 1048576) (h2 : ∀ l ∈ a0, ∀ x ∈ l, x.path.length ≤ 1048576) : impl_stackCode.sh a0 = some (stackCode a0) := by
  unfold impl_stackCode.sh stackCode
  simp only [h0, decide_true, cond_true, decide_eq_true h1, decide_eq_true h2, firstOf_c, List.length_cons, List.length_nil, firstOf, anyB, anyI]
  by_cases h : 4096 < a0.length
  · simp [h]
  · rcases bool_two (stackOK a0) with h3 | h3 <;> simp [h, h3]

/-! ### nodes that are found -/
/-! ### paths and their parts -/
theorem preL_cons (p x : List UInt8) (l : List (List UInt8)) : preL p (x :: l) = (p ++ x) :: l := rfl
theorem cut_cons_ne {b : UInt8} {l : List UInt8} (h : bn b ≠ 47) : cut 47 (b :: l) = preL [b] (cut 47 l) := by rw [cut, if_neg h]
theorem cut_cons_eq {b : UInt8} {l : List UInt8} (h : bn b = 47) : cut 47 (b :: l) = [] :: cut 47 l := by rw [cut, if_pos h]
theorem slash_bn : bn (47 : UInt8) = 47 := rfl
/-- A text is its parts with strokes between. -/
def joinL : List (List UInt8) → List UInt8
  | [] => []
  | [x] => x
  | x :: y :: l => x ++ 47 :: joinL (y :: l)
theorem joinL_cons (x : List UInt8) {l : List (List UInt8)} (h : l ≠ []) : joinL (x :: l) = x ++ 47 :: joinL l := by
  cases l with
  | nil => exact absurd rfl h
  | cons y l => rfl
theorem joinL_preL (p : List UInt8) (l : List (List UInt8)) (h : l ≠ []) : joinL (preL p l) = p ++ joinL l := by
  cases l with
  | nil => exact absurd rfl h
  | cons x l =>
    rw [preL_cons]
    cases l with
    | nil => rfl
    | cons y l => simp [joinL]
theorem joinL_cut (t : List UInt8) : joinL (cut 47 t) = t := by
  induction t with
  | nil => rfl
  | cons b l ih =>
    by_cases h : bn b = 47
    · have hb : b = 47 := by
        apply UInt8.toNat.inj
        show b.toNat = 47
        unfold bn at h; omega
      rw [cut_cons_eq h, joinL_cons _ (cut_ne 47 l), ih, hb]; rfl
    · rw [cut_cons_ne h, joinL_preL _ _ (cut_ne 47 l), ih]; rfl
theorem cut_free {x : List UInt8} (h : ∀ b ∈ x, bn b ≠ 47) : cut 47 x = [x] := by
  induction x with
  | nil => rfl
  | cons b l ih =>
    rw [cut_cons_ne (h b (by simp)), ih (fun c hc => h c (by simp [hc]))]; rfl
theorem cut_app {x t : List UInt8} (h : ∀ b ∈ x, bn b ≠ 47) : cut 47 (x ++ 47 :: t) = x :: cut 47 t := by
  induction x with
  | nil => exact cut_cons_eq slash_bn
  | cons b l ih =>
    rw [List.cons_append, cut_cons_ne (h b (by simp)), ih (fun c hc => h c (by simp [hc]))]; rfl
theorem cut_parts (t : List UInt8) : ∀ x ∈ cut 47 t, ∀ b ∈ x, bn b ≠ 47 := by
  induction t with
  | nil => intro x hx; simp [cut] at hx; subst hx; simp
  | cons b l ih =>
    by_cases h : bn b = 47
    · rw [cut_cons_eq h]
      intro x hx
      rcases List.mem_cons.1 hx with rfl | hx
      · simp
      · exact ih x hx
    · rw [cut_cons_ne h]
      cases hc : cut 47 l with
      | nil => exact absurd hc (cut_ne 47 l)
      | cons y r =>
        rw [hc] at ih
        rw [preL_cons]
        intro x hx
        rcases List.mem_cons.1 hx with rfl | hx
        · intro c hcx
          rcases List.mem_append.1 hcx with h2 | h2
          · simp at h2; subst h2; exact h
          · exact ih y (by simp) c h2
        · exact ih x (by simp [hx])
/-- Texts are their parts: lists of texts without strokes. -/
theorem cut_joinL {l : List (List UInt8)} (hn : l ≠ []) (h : ∀ x ∈ l, ∀ b ∈ x, bn b ≠ 47) : cut 47 (joinL l) = l := by
  induction l with
  | nil => exact absurd rfl hn
  | cons x l ih =>
    by_cases hl : l = []
    · subst hl; exact cut_free (h x (by simp))
    · rw [joinL_cons x hl, cut_app (h x (by simp)), ih hl (fun y hy => h y (by simp [hy]))]
theorem cut_inj {a b : List UInt8} (h : cut 47 a = cut 47 b) : a = b := by rw [← joinL_cut a, ← joinL_cut b, h]
theorem lastSlash_app (x t : List UInt8) (ht : ∀ b ∈ t, bn b ≠ 47) : lastSlash (x ++ 47 :: t) = x.length := by
  apply lastSlash_of (by simp) (by simp [List.getD_eq_getElem?_getD]; exact slash_bn)
  intro j h1 h2
  obtain ⟨m, rfl⟩ : ∃ m, j = x.length + 1 + m := ⟨j - x.length - 1, by omega⟩
  have h3 : m < t.length := by simp at h2; omega
  have : (x ++ 47 :: t).getD (x.length + 1 + m) 0 = t[m] := by
    have e : x.length + 1 + m - x.length = m + 1 := by omega
    rw [List.getD_eq_getElem?_getD, List.getElem?_append_right (by omega), e, List.getElem?_cons_succ, List.getElem?_eq_getElem h3]; rfl
  rw [this]
  exact ht _ (List.getElem_mem h3)
theorem joinL_append {l : List (List UInt8)} (x : List UInt8) (h : l ≠ []) : joinL (l ++ [x]) = joinL l ++ 47 :: x := by
  induction l with
  | nil => exact absurd rfl h
  | cons y l ih =>
    by_cases hl : l = []
    · subst hl; rfl
    · rw [List.cons_append, joinL_cons y (by simp), ih hl, joinL_cons y hl]; simp
/-- What is above a path has one part less. -/
theorem parentP_joinL {l : List (List UInt8)} {x : List UInt8} (h : ∀ y ∈ l ++ [x], ∀ b ∈ y, bn b ≠ 47) : parentP (joinL (l ++ [x])) = joinL l := by
  by_cases hl : l = []
  · subst hl
    have : lastSlash x = -1 := lastSlash_no fun j hj => h x (by simp) _ (by rw [List.getD_eq_getElem?_getD, List.getElem?_eq_getElem hj]; exact List.getElem_mem hj)
    simp [parentP, joinL, this]
  · rw [joinL_append x hl, parentP, lastSlash_app _ _ (fun b hb => h x (by simp) b hb)]
    simp
theorem parentP_cut (t : List UInt8) : parentP t = joinL (cut 47 t).dropLast := by
  obtain ⟨l, x, hlx⟩ : ∃ l x, cut 47 t = l ++ [x] := ⟨(cut 47 t).dropLast, (cut 47 t).getLast (cut_ne 47 t), (List.dropLast_concat_getLast (cut_ne 47 t)).symm⟩
  have hp := cut_parts t
  have := parentP_joinL (l := l) (x := x) (by rw [← hlx]; exact hp)
  rw [hlx, List.dropLast_concat, ← this, ← hlx, joinL_cut]
/-- The parts of a path are right ones, none of them empty. -/
theorem pathOK_parts {t : List UInt8} (h : pathOK t = true) : ∀ x ∈ cut 47 t, x ≠ [] := by
  simp only [pathOK, Bool.and_eq_true, decide_eq_true_eq, List.all_eq_true] at h
  intro x hx he
  have := h.2.2 x hx
  rw [he] at this
  revert this; decide
theorem joinL_ne {l : List (List UInt8)} (h : l ≠ []) (hp : ∀ x ∈ l, x ≠ []) : joinL l ≠ [] := by
  cases l with
  | nil => exact absurd rfl h
  | cons x l =>
    have := hp x (by simp)
    cases l with
    | nil => simpa [joinL] using this
    | cons y l => simp [joinL]
/-- What is above, from below: the beginnings of the parts. -/
theorem ancs_joinL : ∀ (n : Nat) (l : List (List UInt8)), l.length = n → (∀ y ∈ l, ∀ b ∈ y, bn b ≠ 47) → (∀ y ∈ l, y ≠ []) → ancs (joinL l) = ((List.range (l.length - 1)).map fun k => joinL (l.take (k + 1))).reverse := by
  intro n
  induction n with
  | zero => intro l hl _ _; have : l = [] := List.eq_nil_of_length_eq_zero hl; subst this; rfl
  | succ n ih =>
    intro l hl hp hn
    have hne : l ≠ [] := by intro e; subst e; simp at hl
    obtain ⟨m, x, rfl⟩ : ∃ m x, l = m ++ [x] := ⟨l.dropLast, l.getLast hne, (List.dropLast_concat_getLast hne).symm⟩
    rw [ancs_eq, parentP_joinL hp]
    have hm : m.length = n := by simpa using hl
    by_cases hm0 : m = []
    · subst hm0; simp [joinL]
    · have hpm : ∀ y ∈ m, y ≠ [] := fun y hy => hn y (by simp [hy])
      rw [if_neg (joinL_ne hm0 hpm), ih m hm (fun y hy => hp y (by simp [hy])) hpm]
      have hml : 0 < m.length := List.length_pos_iff.2 hm0
      have e1 : (m ++ [x]).length - 1 = (m.length - 1) + 1 := by simp; omega
      rw [e1, List.range_succ, List.map_append, List.reverse_append]
      simp only [List.map_cons, List.map_nil, List.reverse_cons, List.reverse_nil, List.nil_append, List.cons_append]
      congr 1
      · have e2 : m.length - 1 + 1 = m.length := by omega
        rw [e2, List.take_left]
      · congr 1
        apply List.map_congr_left
        intro k hk
        have := List.mem_range.1 hk
        rw [List.take_append_of_le_length (by omega)]
theorem ancs_cut {t : List UInt8} (h : pathOK t = true) : ancs t = ((List.range ((cut 47 t).length - 1)).map fun k => joinL ((cut 47 t).take (k + 1))).reverse := by
  have := ancs_joinL _ (cut 47 t) rfl (cut_parts t) (pathOK_parts h)
  rwa [joinL_cut] at this
end Go.UL
