/- Plain Lean: what the functions compute. -/
import Derived.Test.YthpjkenkbfkdhaaGreatDoorJP11
set_option linter.unusedVariables false
set_option linter.unusedSimpArgs false
namespace Go.UL
open Go.RowKit
/-! ### lists that are collected -/
/-- A loop that collects. -/
theorem collect_run {α β T : Type} (xs : List α) (g : α → Option β) (b : List β × Int → Option (Step T (List β × Int) (List β)))
    (hb : ∀ (i : Nat) (h : i < xs.length) (acc : List β), acc.length ≤ i → b (acc, (i : Int)) = some (.nxt (acc ++ (g xs[i]).toList, (i : Int) + 1))) (hn : ∀ acc : List β, b (acc, (xs.length : Int)) = some (.brk acc)) :
    loopF b (xs.length + 1) ([], 0) = some (.inr (xs.filterMap g)) := by
  have key : ∀ d i k (acc : List β), i + d = xs.length → d < k → acc.length ≤ i → loopF b k (acc, (i : Int)) = some (.inr (acc ++ (xs.drop i).filterMap g)) := by
    intro d
    induction d with
    | zero =>
      intro i k acc hi hk _
      obtain ⟨k, rfl⟩ : ∃ j, k = j + 1 := ⟨k - 1, by omega⟩
      have : i = xs.length := by omega
      subst this
      simp [loopF, hn]
    | succ d ih =>
      intro i k acc hi hk ha
      obtain ⟨k, rfl⟩ : ∃ j, k = j + 1 := ⟨k - 1, by omega⟩
      have hlt : i < xs.length := by omega
      rw [loopF, hb i hlt acc ha]
      simp only [Option.bind_some]
      have hl : (acc ++ (g xs[i]).toList).length ≤ i + 1 := by cases g xs[i] <;> simp <;> omega
      have := ih (i + 1) k (acc ++ (g xs[i]).toList) (by omega) (by omega) hl
      rw [Int.natCast_add, Int.natCast_one] at this
      have e : (xs.drop i).filterMap g = (g xs[i]).toList ++ (xs.drop (i + 1)).filterMap g := by
        rw [List.drop_eq_getElem_cons hlt, List.filterMap_cons]
        cases g xs[i] <;> rfl
      rw [e, ← List.append_assoc]
      exact this
  have := key xs.length 0 (xs.length + 1) [] (by omega) (by omega) (by simp)
  simpa using this
theorem getD_el {α : Type} [Inhabited α] {l : List α} {i : Nat} (h : i < l.length) : l.getD i default = l[i] := by simp [List.getD_eq_getElem?_getD, List.getElem?_eq_getElem h]
/-! ### what is above -/
theorem parentP_lt {t : List UInt8} (h : t ≠ []) : (parentP t).length < t.length := by
  have h1 := lastSlash_lt t
  have h2 := lastSlash_ge t
  have h3 : 0 < t.length := by cases t with | nil => exact absurd rfl h | cons _ _ => simp
  simp [parentP]; omega
def ancsF : Nat → List UInt8 → List (List UInt8)
  | 0, _ => []
  | n + 1, t => if parentP t = [] then [] else parentP t :: ancsF n (parentP t)
/-- All that is above a path, from below. -/
def ancs (t : List UInt8) : List (List UInt8) := ancsF t.length t
theorem parentP_nil : parentP [] = [] := rfl
theorem ancsF_succ : ∀ (c : Nat) (v : List UInt8), v.length ≤ c → ancsF c v = ancsF (c + 1) v := by
  intro c
  induction c with
  | zero => intro v hv; have : v = [] := List.eq_nil_of_length_eq_zero (by omega); subst this; simp [ancsF, parentP_nil]
  | succ c ihc =>
    intro v hv
    rw [ancsF, ancsF]
    by_cases hpv : parentP v = []
    · simp [hpv]
    · simp only [hpv, if_false]
      have hvne : v ≠ [] := by intro e; subst e; exact hpv parentP_nil
      have := parentP_lt hvne
      rw [ihc (parentP v) (by omega)]
theorem ancsF_enough (d : Nat) (t : List UInt8) : ancsF (t.length + d) t = ancs t := by
  induction d with
  | zero => rfl
  | succ d ih => rw [← ih, show t.length + (d + 1) = (t.length + d) + 1 by omega]; exact (ancsF_succ _ _ (by omega)).symm
theorem ancs_eq (t : List UInt8) : ancs t = if parentP t = [] then [] else parentP t :: ancs (parentP t) := by
  have h := ancsF_enough 1 t
  rw [← h, ancsF]
  by_cases hp : parentP t = []
  · simp [hp]
  · simp only [hp, if_false]
    have hne : t ≠ [] := by intro e; subst e; exact hp parentP_nil
    have := parentP_lt hne
    have h2 := ancsF_enough (t.length - (parentP t).length) (parentP t)
    rw [show (parentP t).length + (t.length - (parentP t).length) = t.length by omega] at h2
    rw [h2]
theorem ancs_bound : ∀ (n : Nat) (t : List UInt8), t.length ≤ n → (ancs t).length ≤ t.length ∧ ∀ x ∈ ancs t, x.length ≤ t.length ∧ x ≠ [] := by
  intro n
  induction n with
  | zero => intro t h; have : t = [] := List.eq_nil_of_length_eq_zero (by omega); subst this; exact ⟨by decide, by intro x hx; have e : ancs [] = [] := rfl; rw [e] at hx; cases hx⟩
  | succ n ih =>
    intro t h
    rw [ancs_eq]
    by_cases hp : parentP t = []
    · simp [hp]
    · have hne : t ≠ [] := by intro e; subst e; exact hp parentP_nil
      have hlt := parentP_lt hne
      obtain ⟨h1, h2⟩ := ih (parentP t) (by omega)
      simp only [hp, if_false, List.length_cons, List.mem_cons]
      refine ⟨by omega, ?_⟩
      rintro x (rfl | hx)
      · exact ⟨by omega, hp⟩
      · have := h2 x hx; exact ⟨by omega, this.2⟩
theorem ancs_len (t : List UInt8) : (ancs t).length ≤ t.length := (ancs_bound _ t (Nat.le_refl _)).1
/-- A loop over what is above. -/
theorem anc_run (q : List UInt8 → Bool) (b : List UInt8 → Option (Step Bool (List UInt8) Unit)) (hb : ∀ x : List UInt8, x ≠ [] → x.length ≤ 1048576 → b x = some (if q x then .ret true else .nxt (parentP x))) (hn : b [] = some (.brk ())) :
    ∀ (n : Nat) (t : List UInt8) (k : Nat), (parentP t).length ≤ n → n < k → (parentP t).length ≤ 1048576 → loopF b k (parentP t) = some (if (ancs t).any q then .inl true else .inr ()) := by
  intro n
  induction n with
  | zero =>
    intro t k h hk _
    obtain ⟨k, rfl⟩ : ∃ j, k = j + 1 := ⟨k - 1, by omega⟩
    have hp : parentP t = [] := List.eq_nil_of_length_eq_zero (by omega)
    rw [ancs_eq, hp, loopF, hn]; simp
  | succ n ih =>
    intro t k h hk hl
    obtain ⟨k, rfl⟩ : ∃ j, k = j + 1 := ⟨k - 1, by omega⟩
    by_cases hp : parentP t = []
    · rw [ancs_eq, hp, loopF, hn]; simp
    · rw [ancs_eq, loopF, hb _ hp hl]
      have hlt := parentP_lt hp
      simp only [hp, if_false, List.any_cons]
      rcases bool_two (q (parentP t)) with hq | hq
      · simp [hq]
      · simp only [hq, Bool.false_eq_true, if_false, Option.bind_some, Bool.false_or]
        exact ih (parentP t) k (by omega) (by omega) (by omega)
def stopsR (r : Rec) : Bool := !decide (r.kind = 3) || r.opq
def underO (l : List Rec) (p : List UInt8) : Bool := (ancs p).any fun x => decide (0 ≤ findR l x) && (gt l (findR l x)).opq
def cutsR (l : List Rec) (p : List UInt8) : Bool := (ancs p).any fun x => decide (0 ≤ findR l x) && stopsR (gt l (findR l x))
def aboveO (l : List Rec) (h : Rec → Option Bool) (p : List UInt8) : Option Bool := (h (gt l (findR l p))).bind fun z => some (decide (0 ≤ findR l p) && z)
theorem findR_inR {l : List Rec} {p : List UInt8} (h : 0 ≤ findR l p) : inR (findR l p) l.length = true := findR_in (by omega)
def spec_l03Under.b1 (a0 : List Rec) : List UInt8 → Option (Step (Bool) (List UInt8) (Unit)) :=
  fun x5_4 => bif (!decide (x5_4 = ([] : List UInt8))) then (bif decide (a0.length ≤ 1048576) then (((bif (decide (0 ≤ (findR a0 x5_4))) then (bif inR (findR a0 x5_4) a0.length then (some ((gt a0 (findR a0 x5_4)).opq)) else none) else some false)).bind fun z26 => bif z26 then (some (.ret true)) else (bif decide (x5_4.length ≤ 4611686018427387904) then (some (.nxt (parentP x5_4))) else none)) else none) else (some (.brk ()))
def spec_l03Under.sh (k : Nat) (a0 : List Rec) (a1 : List UInt8) : Option (Bool) :=
  bif decide (a1.length ≤ 4611686018427387904) then ((loopF (spec_l03Under.b1 a0) k (parentP a1)).bind fun z => match z with | .inl t => some t | .inr _ => some false) else none
theorem spec_l03Under.eq (a0 : List Rec) (a1 : List UInt8) (h0 : a0.length ≤ 1048576) (h1 : a1.length ≤ 1048576) : ∃ k, spec_l03Under.sh k a0 a1 = some (underO a0 a1) := by
  refine ⟨a1.length + 1, ?_⟩
  have hl := parentP_len a1
  have h2 : a1.length ≤ 4611686018427387904 := by omega
  unfold spec_l03Under.sh
  rw [anc_run (fun x => decide (0 ≤ findR a0 x) && (gt a0 (findR a0 x)).opq) (spec_l03Under.b1 a0) (fun x hx hx2 => by
    have h3 : x.length ≤ 4611686018427387904 := by omega
    simp only [spec_l03Under.b1, hx, decide_false, Bool.not_false, cond_true, h0, decide_true, h3]
    by_cases hk : 0 ≤ findR a0 x
    · simp only [hk, decide_true, cond_true, findR_inR hk, Bool.true_and, Option.bind_some]
      cases (gt a0 (findR a0 x)).opq <;> simp
    · simp [hk]) (by simp [spec_l03Under.b1]) a1.length a1 (a1.length + 1) hl (by omega) (by omega)]
  simp only [h2, decide_true, cond_true, Option.bind_some]
  unfold underO
  cases (ancs a1).any fun x => decide (0 ≤ findR a0 x) && (gt a0 (findR a0 x)).opq <;> simp
def spec_l06Stops.sh (a0 : Rec) : Option (Bool) :=
  some ((!decide (a0.kind = 3)) || a0.opq)
theorem spec_l06Stops.eq (a0 : Rec) : spec_l06Stops.sh a0 = some (stopsR a0) := rfl
def spec_l06Cuts.b1 (a0 : List Rec) : List UInt8 → Option (Step (Bool) (List UInt8) (Unit)) :=
  fun x5_4 => bif (!decide (x5_4 = ([] : List UInt8))) then (bif decide (a0.length ≤ 1048576) then (((bif (decide (0 ≤ (findR a0 x5_4))) then (bif inR (findR a0 x5_4) a0.length then (some (stopsR (gt a0 (findR a0 x5_4)))) else none) else some false)).bind fun z26 => bif z26 then (some (.ret true)) else (bif decide (x5_4.length ≤ 4611686018427387904) then (some (.nxt (parentP x5_4))) else none)) else none) else (some (.brk ()))
def spec_l06Cuts.sh (k : Nat) (a0 : List Rec) (a1 : List UInt8) : Option (Bool) :=
  bif decide (a1.length ≤ 4611686018427387904) then ((loopF (spec_l06Cuts.b1 a0) k (parentP a1)).bind fun z => match z with | .inl t => some t | .inr _ => some false) else none
theorem spec_l06Cuts.eq (a0 : List Rec) (a1 : List UInt8) (h0 : a0.length ≤ 1048576) (h1 : a1.length ≤ 1048576) : ∃ k, spec_l06Cuts.sh k a0 a1 = some (cutsR a0 a1) := by
  refine ⟨a1.length + 1, ?_⟩
  have hl := parentP_len a1
  have h2 : a1.length ≤ 4611686018427387904 := by omega
  unfold spec_l06Cuts.sh
  rw [anc_run (fun x => decide (0 ≤ findR a0 x) && stopsR (gt a0 (findR a0 x))) (spec_l06Cuts.b1 a0) (fun x hx hx2 => by
    have h3 : x.length ≤ 4611686018427387904 := by omega
    simp only [spec_l06Cuts.b1, hx, decide_false, Bool.not_false, cond_true, h0, decide_true, h3]
    by_cases hk : 0 ≤ findR a0 x
    · simp only [hk, decide_true, cond_true, findR_inR hk, Bool.true_and, Option.bind_some]
      cases stopsR (gt a0 (findR a0 x)) <;> simp
    · simp [hk]) (by simp [spec_l06Cuts.b1]) a1.length a1 (a1.length + 1) hl (by omega) (by omega)]
  simp only [h2, decide_true, cond_true, Option.bind_some]
  unfold cutsR
  cases (ancs a1).any fun x => decide (0 ≤ findR a0 x) && stopsR (gt a0 (findR a0 x)) <;> simp
def impl_ancestors.b1  : List UInt8 × List (List UInt8) → Option (Step (List (List UInt8)) (List UInt8 × List (List UInt8)) (List (List UInt8))) :=
  fun q => match q with
  | (x0_10, x3_11) => bif (!decide (x0_10 = ([] : List UInt8))) then (bif decide ((x3_11.length + ([x0_10] : List (List UInt8)).length) * 16 ≤ 140737488355328) then (bif decide (x0_10.length ≤ 1048576) then (some (.nxt ((parentP x0_10), x3_11 ++ ([x0_10] : List (List UInt8))))) else none) else none) else (some (.brk x3_11))
def impl_ancestors.sh (k : Nat) (a0 : List UInt8) : Option (List (List UInt8)) :=
  bif decide (a0.length ≤ 1048576) then ((loopF (impl_ancestors.b1) k ((parentP a0), ([] : List (List UInt8)))).bind fun z => match z with | .inl t => some t | .inr x3_16 => some x3_16) else none
theorem impl_ancestors.eq (a0 : List UInt8) (h0 : a0.length ≤ 1048576) : ∃ k, impl_ancestors.sh k a0 = some (ancs a0) := by
  refine ⟨a0.length + 1, ?_⟩
  have key : ∀ (n : Nat) (t : List UInt8) (k : Nat) (acc : List (List UInt8)), (parentP t).length ≤ n → n < k → acc.length + (parentP t).length ≤ 1048576 → loopF impl_ancestors.b1 k (parentP t, acc) = some (.inr (acc ++ ancs t)) := by
    intro n
    induction n with
    | zero =>
      intro t k acc h hk _
      obtain ⟨k, rfl⟩ : ∃ j, k = j + 1 := ⟨k - 1, by omega⟩
      have hp : parentP t = [] := List.eq_nil_of_length_eq_zero (by omega)
      rw [ancs_eq, hp, loopF]; simp [impl_ancestors.b1]
    | succ n ih =>
      intro t k acc h hk hl
      obtain ⟨k, rfl⟩ : ∃ j, k = j + 1 := ⟨k - 1, by omega⟩
      by_cases hp : parentP t = []
      · rw [ancs_eq, hp, loopF]; simp [impl_ancestors.b1]
      · have hlt := parentP_lt hp
        have e1 : (acc.length + ([parentP t] : List (List UInt8)).length) * 16 ≤ 140737488355328 := by simp; omega
        have e2 : (parentP t).length ≤ 1048576 := by omega
        rw [ancs_eq t, loopF]
        simp only [impl_ancestors.b1, hp, decide_false, Bool.not_false, cond_true, e1, e2, decide_true, if_false, Option.bind_some]
        have := ih (parentP t) k (acc ++ [parentP t]) (by omega) (by omega) (by simp; omega)
        rw [show loopF impl_ancestors.b1 k (parentP (parentP t), acc ++ [parentP t]) = _ from this]
        simp
  have hl := parentP_len a0
  unfold impl_ancestors.sh
  rw [key a0.length a0 (a0.length + 1) [] hl (by omega) (by simp; omega)]
  simp [h0]
def impl_above_1.sh (a0 : List UInt8) (a1 : List Rec) (a2 : Rec → Option Bool) : Option (Bool) :=
  bif decide (a1.length ≤ 1048576) then (bif (!(decide (0 ≤ (findR a1 a0))) || (inR (findR a1 a0) a1.length)) then ((a2 (gt a1 (findR a1 a0))).bind fun z7 => some ((decide (0 ≤ (findR a1 a0))) && z7)) else none) else none
theorem impl_above_1.eq (a0 : List UInt8) (a1 : List Rec) (a2 : Rec → Option Bool) (h0 : a1.length ≤ 1048576) {r : Bool} (H : aboveO a1 a2 a0 = some r) : impl_above_1.sh a0 a1 a2 = some r := by
  unfold impl_above_1.sh
  have h1 : (!decide (0 ≤ findR a1 a0) || inR (findR a1 a0) a1.length) = true := by
    by_cases hk : 0 ≤ findR a1 a0
    · simp [findR_inR hk]
    · simp [hk]
  rw [h1]
  simp only [h0, decide_true, cond_true]
  exact H
def impl_above.sh (a0 : List Rec) (a1 : List UInt8) (a2 : Rec → Option Bool) : Option (Bool) :=
  bif decide (a1.length ≤ 1048576) then (bif decide ((ancs a1).length ≤ 4611686018427387904) then (((anyO (fun (x0_ : List UInt8) => bif decide (a0.length ≤ 1048576) then (aboveO a0 a2 x0_) else none) (ancs a1))).bind fun z23 => some z23) else none) else none
theorem impl_above.eq (a0 : List Rec) (a1 : List UInt8) (a2 : Rec → Option Bool) (h0 : a0.length ≤ 1048576) (h1 : a1.length ≤ 1048576) {r : Bool} (H : anyO (aboveO a0 a2) (ancs a1) = some r) : impl_above.sh a0 a1 a2 = some r := by
  have hl := ancs_len a1
  have h2 : (ancs a1).length ≤ 4611686018427387904 := by omega
  unfold impl_above.sh
  simp only [h0, h1, h2, decide_true, cond_true]
  rw [show (anyO (fun (x0_ : List UInt8) => aboveO a0 a2 x0_) (ancs a1)) = some r from H]; rfl
theorem anyO_above (l : List Rec) (q : Rec → Bool) (p : List UInt8) : anyO (aboveO l (fun x => some (q x))) (ancs p) = some ((ancs p).any fun x => decide (0 ≤ findR l x) && q (gt l (findR l x))) := anyO_some fun x _ => rfl
def impl_stops.sh (a0 : Rec) : Option (Bool) :=
  some ((!decide (a0.kind = 3)) || a0.opq)
theorem impl_stops.eq (a0 : Rec) : impl_stops.sh a0 = some (stopsR a0) := rfl
def impl_cuts.sh (a0 : List Rec) (a1 : List UInt8) : Option (Bool) :=
  bif decide (a0.length ≤ 1048576) then (bif decide (a1.length ≤ 1048576) then (((anyO (aboveO a0 (fun (x0_ : Rec) => some (stopsR x0_))) (ancs a1))).bind fun z7 => some z7) else none) else none
theorem impl_cuts.eq (a0 : List Rec) (a1 : List UInt8) (h0 : a0.length ≤ 1048576) (h1 : a1.length ≤ 1048576) : impl_cuts.sh a0 a1 = some (cutsR a0 a1) := by
  unfold impl_cuts.sh
  simp only [h0, h1, decide_true, cond_true, anyO_above a0 stopsR a1, Option.bind_some]; rfl
theorem pathOK_small {p : List UInt8} (h : pathOK p = true) : p.length ≤ 1048576 := by have := pathOK_len h; omega

end Go.UL
