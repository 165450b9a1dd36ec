import Derived.Test.YtdhmlillkbjjjaaGreatDoorpP11
set_option linter.unusedVariables false
set_option linter.unusedSimpArgs false
namespace Go.UL
open Go.RowKit
theorem Q4 {α β T : Type} (xs : List α) (g : α → Option β) (b : List β × Int → Option (Step T (List β × Int) (List β)))
  (hb : ∀ (i : Nat) (h : i < xs.length) (acc : List β), acc.length ≤ i → b (acc, (i : Int)) = some (.nxt (acc ++ (g xs[i]).toList, (i : Int) + 1))) (hn : ∀ acc : List β, b (acc, (xs.length : Int)) = some (.brk acc)) :
  qp b (xs.length + 1) ([], 0) = some (.inr (xs.filterMap g)) := by
 have key : ∀ d i k (acc : List β), i + d = xs.length → d < k → acc.length ≤ i → qp b k (acc, (i : Int)) = some (.inr (acc ++ (xs.drop i).filterMap g)) := by
  intro d
  induction d with
  | zero =>
   intro i k acc hi hk _
   obtain ⟨k, rfl⟩ : ∃ j, k = j + 1 := ⟨k - 1, by omega⟩
   have : i = xs.length := by omega
   subst this
   simp [qp, hn]
  | succ d ih =>
   intro i k acc hi hk ha
   obtain ⟨k, rfl⟩ : ∃ j, k = j + 1 := ⟨k - 1, by omega⟩
   have hlt : i < xs.length := by omega
   rw [qp, hb i hlt acc ha]
   simp only [Option.bind_some]
   have hl : (acc ++ (g xs[i]).toList).length ≤ i + 1 := by cases g xs[i] <;> simp <;> omega
   have := ih (i + 1) k (acc ++ (g xs[i]).toList) (by omega) (by omega) hl
   rw [Int.natCast_add, Int.natCast_one] at this
   have e : (xs.drop i).filterMap g = (g xs[i]).toList ++ (xs.drop (i + 1)).filterMap g := by
    rw [List.drop_eq_getElem_cons hlt, List.filterMap_cons]
    cases g xs[i] <;> rfl
   rw [e, ← List.append_assoc]
   exact this
 have := key xs.length 0 (xs.length + 1) [] (by omega) (by omega) (by simp)
 simpa using this
theorem ya {α : Type} [Inhabited α] {l : List α} {i : Nat} (h : i < l.length) : l.getD i default = l[i] := by simp [List.getD_eq_getElem?_getD, List.getElem?_eq_getElem h]
theorem jI {t : List UInt8} (h : t ≠ []) : (ql t).length < t.length := by
 have h1 := Yq t
 have h2 := YB t
 have h3 : 0 < t.length := by cases t with | nil => exact absurd rfl h | cons _ _ => simp
 simp [ql]; omega
def Ys : Nat → List UInt8 → List (List UInt8)
 | 0, _ => []
 | n + 1, t => if ql t = [] then [] else ql t :: Ys n (ql t)
def jp (t : List UInt8) : List (List UInt8) := Ys t.length t
theorem yV : ql [] = [] := rfl
theorem Xt : ∀ (c : Nat) (v : List UInt8), v.length ≤ c → Ys c v = Ys (c + 1) v := by
 intro c
 induction c with
 | zero => intro v hv; have : v = [] := List.eq_nil_of_length_eq_zero (by omega); subst this; simp [Ys, yV]
 | succ c ihc =>
  intro v hv
  rw [Ys, Ys]
  by_cases hpv : ql v = []
  ·simp [hpv]
  ·simp only [hpv, if_false]
   have hvne : v ≠ [] := by intro e; subst e; exact hpv yV
   have := jI hvne
   rw [ihc (ql v) (by omega)]
theorem Yv (d : Nat) (t : List UInt8) : Ys (t.length + d) t = jp t := by
 induction d with
 | zero => rfl
 | succ d ih => rw [← ih, show t.length + (d + 1) = (t.length + d) + 1 by omega]; exact (Xt _ _ (by omega)).symm
theorem jv (t : List UInt8) : jp t = if ql t = [] then [] else ql t :: jp (ql t) := by
 have h := Yv 1 t
 rw [← h, Ys]
 by_cases hp : ql t = []
 ·simp [hp]
 ·simp only [hp, if_false]
  have hne : t ≠ [] := by intro e; subst e; exact hp yV
  have := jI hne
  have h2 := Yv (t.length - (ql t).length) (ql t)
  rw [show (ql t).length + (t.length - (ql t).length) = t.length by omega] at h2
  rw [h2]
theorem Xq : ∀ (n : Nat) (t : List UInt8), t.length ≤ n → (jp t).length ≤ t.length ∧ ∀ x ∈ jp t, x.length ≤ t.length ∧ x ≠ [] := by
 intro n
 induction n with
 | zero => intro t h; have : t = [] := List.eq_nil_of_length_eq_zero (by omega); subst this; exact ⟨by decide, by intro x hx; have e : jp [] = [] := rfl; rw [e] at hx; cases hx⟩
 | succ n ih =>
  intro t h
  rw [jv]
  by_cases hp : ql t = []
  ·simp [hp]
  ·have hne : t ≠ [] := by intro e; subst e; exact hp yV
   have hlt := jI hne
   obtain ⟨h1, h2⟩ := ih (ql t) (by omega)
   simp only [hp, if_false, List.length_cons, List.mem_cons]
   refine ⟨by omega, ?_⟩
   rintro x (rfl | hx)
   ·exact ⟨by omega, hp⟩
   ·have := h2 x hx; exact ⟨by omega, this.2⟩
theorem ancs_len (t : List UInt8) : (jp t).length ≤ t.length := (Xq _ t (Nat.le_refl _)).1
theorem XX (q : List UInt8 → Bool) (b : List UInt8 → Option (Step Bool (List UInt8) Unit)) (hb : ∀ x : List UInt8, x ≠ [] → x.length ≤ 1048576 → b x = some (if q x then .ret true else .nxt (ql x))) (hn : b [] = some (.brk ())) :
  ∀ (n : Nat) (t : List UInt8) (k : Nat), (ql t).length ≤ n → n < k → (ql t).length ≤ 1048576 → qp b k (ql t) = some (if (jp t).any q then .inl true else .inr ()) := by
 intro n
 induction n with
 | zero =>
  intro t k h hk _
  obtain ⟨k, rfl⟩ : ∃ j, k = j + 1 := ⟨k - 1, by omega⟩
  have hp : ql t = [] := List.eq_nil_of_length_eq_zero (by omega)
  rw [jv, hp, qp, hn]; simp
 | succ n ih =>
  intro t k h hk hl
  obtain ⟨k, rfl⟩ : ∃ j, k = j + 1 := ⟨k - 1, by omega⟩
  by_cases hp : ql t = []
  ·rw [jv, hp, qp, hn]; simp
  ·rw [jv, qp, hb _ hp hl]
   have hlt := jI hp
   simp only [hp, if_false, List.any_cons]
   rcases qF (q (ql t)) with hq | hq
   ·simp [hq]
   ·simp only [hq, Bool.false_eq_true, if_false, Option.bind_some, Bool.false_or]
    exact ih (ql t) k (by omega) (by omega) (by omega)
def yX (r : Rec) : Bool := !decide (r.kind = 3) || r.opq
def jt (l : List Rec) (p : List UInt8) : Bool := (jp p).any fun x => decide (0 ≤ qz l x) && (gt l (qz l x)).opq
def jF (l : List Rec) (p : List UInt8) : Bool := (jp p).any fun x => decide (0 ≤ qz l x) && yX (gt l (qz l x))
def Q9 (l : List Rec) (h : Rec → Option Bool) (p : List UInt8) : Option Bool := (h (gt l (qz l p))).bind fun z => some (decide (0 ≤ qz l p) && z)
theorem QJ {l : List Rec} {p : List UInt8} (h : 0 ≤ qz l p) : inR (qz l p) l.length = true := findR_in (by omega)
def vO.b1 (a0 : List Rec) : List UInt8 → Option (Step (Bool) (List UInt8) (Unit)) :=
 fun x5_4 => bif (!decide (x5_4 = ([] : List UInt8))) then (bif decide (a0.length ≤ 1048576) then (((bif (decide (0 ≤ (qz a0 x5_4))) then (bif inR (qz a0 x5_4) a0.length then (some ((gt a0 (qz a0 x5_4)).opq)) else none) else some false)).bind fun z26 => bif z26 then (some (.ret true)) else (bif decide (x5_4.length ≤ 4611686018427387904) then (some (.nxt (ql x5_4))) else none)) else none) else (some (.brk ()))
def vO.sh (k : Nat) (a0 : List Rec) (a1 : List UInt8) : Option (Bool) :=
  bif decide (a1.length ≤ 4611686018427387904) then ((qp (vO.b1 a0) k (ql a1)).bind fun z => match z with | .inl t => some t | .inr _ => some false) else none
theorem vO.eq (a0 : List Rec) (a1 : List UInt8) (h0 : a0.length ≤ 1048576) (h1 : a1.length ≤ 1048576) : ∃ k, vO.sh k a0 a1 = some (jt a0 a1) := by
 refine ⟨a1.length + 1, ?_⟩
 have hl := VA a1
 have h2 : a1.length ≤ 4611686018427387904 := by omega
 unfold vO.sh
 rw [XX (fun x => decide (0 ≤ qz a0 x) && (gt a0 (qz a0 x)).opq) (vO.b1 a0) (fun x hx hx2 => by
  have h3 : x.length ≤ 4611686018427387904 := by omega
  simp only [vO.b1, hx, decide_false, Bool.not_false, cond_true, h0, decide_true, h3]
  by_cases hk : 0 ≤ qz a0 x
  ·simp only [hk, decide_true, cond_true, QJ hk, Bool.true_and, Option.bind_some]
   cases (gt a0 (qz a0 x)).opq <;> simp
  ·simp [hk]) (by simp [vO.b1]) a1.length a1 (a1.length + 1) hl (by omega) (by omega)]
 simp only [h2, decide_true, cond_true, Option.bind_some]
 unfold jt
 cases (jp a1).any fun x => decide (0 ≤ qz a0 x) && (gt a0 (qz a0 x)).opq <;> simp
def ji.sh (a0 : Rec) : Option (Bool) :=
 some ((!decide (a0.kind = 3)) || a0.opq)
theorem ji.eq (a0 : Rec) : ji.sh a0 = some (yX a0) := rfl
def vZ.b1 (a0 : List Rec) : List UInt8 → Option (Step (Bool) (List UInt8) (Unit)) :=
 fun x5_4 => bif (!decide (x5_4 = ([] : List UInt8))) then (bif decide (a0.length ≤ 1048576) then (((bif (decide (0 ≤ (qz a0 x5_4))) then (bif inR (qz a0 x5_4) a0.length then (some (yX (gt a0 (qz a0 x5_4)))) else none) else some false)).bind fun z26 => bif z26 then (some (.ret true)) else (bif decide (x5_4.length ≤ 4611686018427387904) then (some (.nxt (ql x5_4))) else none)) else none) else (some (.brk ()))
def vZ.sh (k : Nat) (a0 : List Rec) (a1 : List UInt8) : Option (Bool) :=
  bif decide (a1.length ≤ 4611686018427387904) then ((qp (vZ.b1 a0) k (ql a1)).bind fun z => match z with | .inl t => some t | .inr _ => some false) else none
theorem vZ.eq (a0 : List Rec) (a1 : List UInt8) (h0 : a0.length ≤ 1048576) (h1 : a1.length ≤ 1048576) : ∃ k, vZ.sh k a0 a1 = some (jF a0 a1) := by
 refine ⟨a1.length + 1, ?_⟩
 have hl := VA a1
 have h2 : a1.length ≤ 4611686018427387904 := by omega
 unfold vZ.sh
 rw [XX (fun x => decide (0 ≤ qz a0 x) && yX (gt a0 (qz a0 x))) (vZ.b1 a0) (fun x hx hx2 => by
  have h3 : x.length ≤ 4611686018427387904 := by omega
  simp only [vZ.b1, hx, decide_false, Bool.not_false, cond_true, h0, decide_true, h3]
  by_cases hk : 0 ≤ qz a0 x
  ·simp only [hk, decide_true, cond_true, QJ hk, Bool.true_and, Option.bind_some]
   cases yX (gt a0 (qz a0 x)) <;> simp
  ·simp [hk]) (by simp [vZ.b1]) a1.length a1 (a1.length + 1) hl (by omega) (by omega)]
 simp only [h2, decide_true, cond_true, Option.bind_some]
 unfold jF
 cases (jp a1).any fun x => decide (0 ≤ qz a0 x) && yX (gt a0 (qz a0 x)) <;> simp
def vo.b1  : List UInt8 × List (List UInt8) → Option (Step (List (List UInt8)) (List UInt8 × List (List UInt8)) (List (List UInt8))) :=
 fun q => match q with
 | (x0_10, x3_11) => bif (!decide (x0_10 = ([] : List UInt8))) then (bif decide ((x3_11.length + ([x0_10] : List (List UInt8)).length) * 16 ≤ 140737488355328) then (bif decide (x0_10.length ≤ 1048576) then (some (.nxt ((ql x0_10), x3_11 ++ ([x0_10] : List (List UInt8))))) else none) else none) else (some (.brk x3_11))
def vo.sh (k : Nat) (a0 : List UInt8) : Option (List (List UInt8)) :=
  bif decide (a0.length ≤ 1048576) then ((qp (vo.b1) k ((ql a0), ([] : List (List UInt8)))).bind fun z => match z with | .inl t => some t | .inr x3_16 => some x3_16) else none
theorem vo.eq (a0 : List UInt8) (h0 : a0.length ≤ 1048576) : ∃ k, vo.sh k a0 = some (jp a0) := by
 refine ⟨a0.length + 1, ?_⟩
 have key : ∀ (n : Nat) (t : List UInt8) (k : Nat) (acc : List (List UInt8)), (ql t).length ≤ n → n < k → acc.length + (ql t).length ≤ 1048576 → qp vo.b1 k (ql t, acc) = some (.inr (acc ++ jp t)) := by
  intro n
  induction n with
  | zero =>
   intro t k acc h hk _
   obtain ⟨k, rfl⟩ : ∃ j, k = j + 1 := ⟨k - 1, by omega⟩
   have hp : ql t = [] := List.eq_nil_of_length_eq_zero (by omega)
   rw [jv, hp, qp]; simp [vo.b1]
  | succ n ih =>
   intro t k acc h hk hl
   obtain ⟨k, rfl⟩ : ∃ j, k = j + 1 := ⟨k - 1, by omega⟩
   by_cases hp : ql t = []
   ·rw [jv, hp, qp]; simp [vo.b1]
   ·have hlt := jI hp
    have e1 : (acc.length + ([ql t] : List (List UInt8)).length) * 16 ≤ 140737488355328 := by simp; omega
    have e2 : (ql t).length ≤ 1048576 := by omega
    rw [jv t, qp]
    simp only [vo.b1, hp, decide_false, Bool.not_false, cond_true, e1, e2, decide_true, if_false, Option.bind_some]
    have := ih (ql t) k (acc ++ [ql t]) (by omega) (by omega) (by simp; omega)
    rw [show qp vo.b1 k (ql (ql t), acc ++ [ql t]) = _ from this]
    simp
 have hl := VA a0
 unfold vo.sh
 rw [key a0.length a0 (a0.length + 1) [] hl (by omega) (by simp; omega)]
 simp [h0]
def yJ.sh (a0 : List UInt8) (a1 : List Rec) (a2 : Rec → Option Bool) : Option (Bool) :=
 bif decide (a1.length ≤ 1048576) then (bif (!(decide (0 ≤ (qz a1 a0))) || (inR (qz a1 a0) a1.length)) then ((a2 (gt a1 (qz a1 a0))).bind fun z7 => some ((decide (0 ≤ (qz a1 a0))) && z7)) else none) else none
theorem yJ.eq (a0 : List UInt8) (a1 : List Rec) (a2 : Rec → Option Bool) (h0 : a1.length ≤ 1048576) {r : Bool} (H : Q9 a1 a2 a0 = some r) : yJ.sh a0 a1 a2 = some r := by
 unfold yJ.sh
 have h1 : (!decide (0 ≤ qz a1 a0) || inR (qz a1 a0) a1.length) = true := by
  by_cases hk : 0 ≤ qz a1 a0
  ·simp [QJ hk]
  ·simp [hk]
 rw [h1]
 simp only [h0, decide_true, cond_true]
 exact H
def yY.sh (a0 : List Rec) (a1 : List UInt8) (a2 : Rec → Option Bool) : Option (Bool) :=
 bif decide (a1.length ≤ 1048576) then (bif decide ((jp a1).length ≤ 4611686018427387904) then (((Qx (fun (x0_ : List UInt8) => bif decide (a0.length ≤ 1048576) then (Q9 a0 a2 x0_) else none) (jp a1))).bind fun z23 => some z23) else none) else none
theorem yY.eq (a0 : List Rec) (a1 : List UInt8) (a2 : Rec → Option Bool) (h0 : a0.length ≤ 1048576) (h1 : a1.length ≤ 1048576) {r : Bool} (H : Qx (Q9 a0 a2) (jp a1) = some r) : yY.sh a0 a1 a2 = some r := by
 have hl := ancs_len a1
 have h2 : (jp a1).length ≤ 4611686018427387904 := by omega
 unfold yY.sh
 simp only [h0, h1, h2, decide_true, cond_true]
 rw [show (Qx (fun (x0_ : List UInt8) => Q9 a0 a2 x0_) (jp a1)) = some r from H]; rfl
theorem JG (l : List Rec) (q : Rec → Bool) (p : List UInt8) : Qx (Q9 l (fun x => some (q x))) (jp p) = some ((jp p).any fun x => decide (0 ≤ qz l x) && q (gt l (qz l x))) := X9 fun x _ => rfl
def vV.sh (a0 : Rec) : Option (Bool) :=
 some a0.opq
theorem vV.eq (a0 : Rec) : vV.sh a0 = some a0.opq := rfl
def yC.sh (a0 : List Rec) (a1 : List UInt8) : Option (Bool) :=
 bif decide (a0.length ≤ 1048576) then (bif decide (a1.length ≤ 1048576) then (((Qx (Q9 a0 (fun (x0_ : Rec) => some x0_.opq)) (jp a1))).bind fun z7 => some z7) else none) else none
theorem yC.eq (a0 : List Rec) (a1 : List UInt8) (h0 : a0.length ≤ 1048576) (h1 : a1.length ≤ 1048576) : yC.sh a0 a1 = some (jt a0 a1) := by
 unfold yC.sh
 simp only [h0, h1, decide_true, cond_true, JG a0 (fun x => x.opq) a1, Option.bind_some]; rfl
def jT.sh (a0 : Rec) : Option (Bool) :=
 some ((!decide (a0.kind = 3)) || a0.opq)
theorem jT.eq (a0 : Rec) : jT.sh a0 = some (yX a0) := rfl
def Ql.sh (a0 : List Rec) (a1 : List UInt8) : Option (Bool) :=
 bif decide (a0.length ≤ 1048576) then (bif decide (a1.length ≤ 1048576) then (((Qx (Q9 a0 (fun (x0_ : Rec) => some (yX x0_))) (jp a1))).bind fun z7 => some z7) else none) else none
theorem Ql.eq (a0 : List Rec) (a1 : List UInt8) (h0 : a0.length ≤ 1048576) (h1 : a1.length ≤ 1048576) : Ql.sh a0 a1 = some (jF a0 a1) := by
 unfold Ql.sh
 simp only [h0, h1, decide_true, cond_true, JG a0 yX a1, Option.bind_some]; rfl
theorem jN {p : List UInt8} (h : qK p = true) : p.length ≤ 1048576 := by have := Ye h; omega
theorem QD {l : List Rec} (h : (qA l).2 = 0) : ∀ i, i < l.length → yD l i = 0 := by
 unfold qA at h
 cases hf : (List.range l.length).findSome? (fun i => if yD l i = 0 then none else some ((i : Int), yD l i)) with
 | none =>
  intro i hi
  have := List.findSome?_eq_none_iff.1 hf i (List.mem_range.2 hi)
  by_cases hc : yD l i = 0
  ·exact hc
  ·simp [hc] at this
 | some x =>
  rw [hf] at h
  obtain ⟨i, _, hi⟩ := List.exists_of_findSome?_eq_some hf
  by_cases hc : yD l i = 0
  ·simp [hc] at hi
  ·simp only [hc, if_false, Option.some.injEq] at hi
   subst hi
   exact absurd h hc
theorem JR {l : List Rec} (h : ∀ i, i < l.length → yD l i = 0) : qA l = (0, 0) := by
 unfold qA
 have : (List.range l.length).findSome? (fun i => if yD l i = 0 then none else some ((i : Int), yD l i)) = none := by
  apply List.findSome?_eq_none_iff.2
  intro i hi
  simp [h i (List.mem_range.1 hi)]
 rw [this]
theorem GU {l : List Rec} (h : (qA l).2 = 0) : ∀ x ∈ l, qH x = 0 := by
 intro x hx
 obtain ⟨i, hi, rfl⟩ := List.getElem_of_mem hx
 have := JL (QD h i hi)
 rwa [ya hi] at this
theorem GH {l : List Rec} (h : (qA l).2 = 0) : ∀ x ∈ l, qK x.path = true := fun x hx => jh (GU h x hx)
theorem Q5 {l : List Rec} (h : (qA l).2 = 0) : l.length ≤ 16 := by
 by_cases hc : l.length ≤ 16
 ·exact hc
 ·have := QD h 16 (by omega)
  simp [yD] at this
theorem GN {p : List UInt8} (h : qK p = true) : (cut 47 p).length ≤ 4 := by
 simp only [qK, Bool.and_eq_true, decide_eq_true_eq] at h
 exact h.2.1
def VE (l : List Rec) (r : Rec) : Option Rec :=
 if jt l r.path then (if r.kind = 4 then none else some ⟨r.kind, r.path, r.body, r.mode, false⟩) else some ⟨r.kind, r.path, r.body, r.mode, r.opq && decide ((cut 47 r.path).length < 4)⟩
def jV (l : List Rec) : List Rec := l.filterMap (VE l)
theorem XO (l : List Rec) : (jV l).length ≤ l.length := List.length_filterMap_le _ _
def vP.b1 (a0 : List Rec) : List Rec × Int → Option (Step (List Rec) (List Rec × Int) (List Rec)) :=
 fun q => match q with
 | (x3_7, x4_9) => bif (decide (x4_9 < (a0.length : Int))) then (bif inR x4_9 a0.length then (bif decide (a0.length ≤ 1048576) then (bif decide (((gt a0 x4_9).path).length ≤ 1048576) then (bif (!(jt a0 ((gt a0 x4_9).path))) then (((bif ((gt a0 x4_9).opq) then (bif decide (((gt a0 x4_9).path).length ≤ 1048576) then (some (decide (((cut 47 ((gt a0 x4_9).path)).length : Int) < 4))) else none) else some false)).bind fun z49 => bif decide ((x3_7.length + ([(⟨(gt a0 x4_9).kind, (gt a0 x4_9).path, (gt a0 x4_9).body, (gt a0 x4_9).mode, z49⟩ : Rec)] : List Rec).length) * 56 ≤ 140737488355328) then (some (.nxt (x3_7 ++ ([(⟨(gt a0 x4_9).kind, (gt a0 x4_9).path, (gt a0 x4_9).body, (gt a0 x4_9).mode, z49⟩ : Rec)] : List Rec), IntKind.wrap .i64 (x4_9 + 1)))) else none) else (bif (!decide (((gt a0 x4_9).kind) = 4)) then (bif decide ((x3_7.length + ([(⟨(gt a0 x4_9).kind, (gt a0 x4_9).path, (gt a0 x4_9).body, (gt a0 x4_9).mode, false⟩ : Rec)] : List Rec).length) * 56 ≤ 140737488355328) then (some (.nxt (x3_7 ++ ([(⟨(gt a0 x4_9).kind, (gt a0 x4_9).path, (gt a0 x4_9).body, (gt a0 x4_9).mode, false⟩ : Rec)] : List Rec), IntKind.wrap .i64 (x4_9 + 1)))) else none) else (some (.nxt (x3_7, IntKind.wrap .i64 (x4_9 + 1)))))) else none) else none) else none) else (some (.brk x3_7))
def vP.sh (k : Nat) (a0 : List Rec) : Option (List Rec) :=
  (qp (vP.b1 a0) k (([] : List Rec), 0)).bind fun z => match z with | .inl t => some t | .inr x3_13 => some x3_13
theorem vP.eq (a0 : List Rec) (h0 : a0.length ≤ 1048576) (h1 : ∀ x ∈ a0, qK x.path = true) : ∃ k, vP.sh k a0 = some (jV a0) := by
 refine ⟨a0.length + 1, ?_⟩
 unfold vP.sh
 rw [Q4 a0 (VE a0) (vP.b1 a0) (fun i hi acc ha => by
  have hp := jN (h1 _ (List.getElem_mem hi))
  have e1 : ∀ z : Rec, (acc.length + ([z] : List Rec).length) * 56 ≤ 140737488355328 := fun z => by simp; omega
  have e4 : decide (((cut 47 a0[i].path).length : Int) < 4) = decide ((cut 47 a0[i].path).length < 4) := by rw [decide_eq_decide]; omega
  simp only [vP.b1, yn, hi, decide_true, cond_true, qR hi, vI, ya hi, h0, hp, e1, e4, vd hi (by omega), VE]
  rcases qF (jt a0 a0[i].path) with hu | hu
  ·by_cases hk : a0[i].kind = 4 <;> simp [hu, hk]
  ·rcases qF a0[i].opq with ho | ho <;> simp [hu, ho]) (fun acc => by simp [vP.b1])]
 simp [jV]
def vG.b1 (a0 : List Rec) : List Rec × Int → Option (Step (List Rec) (List Rec × Int) (List Rec)) :=
 fun q => match q with
 | (x3_7, x10_9) => bif (decide (x10_9 < (a0.length : Int))) then (bif inR x10_9 a0.length then (bif decide (a0.length ≤ 1048576) then (bif decide (((gt a0 x10_9).path).length ≤ 1048576) then (bif ((jt a0 ((gt a0 x10_9).path)) && (decide (((gt a0 x10_9).kind) = 4))) then (some (.nxt (x3_7, IntKind.wrap .i64 (x10_9 + 1)))) else (((bif (jt a0 ((gt a0 x10_9).path)) then some true else (bif decide (((gt a0 x10_9).path).length ≤ 1048576) then (some (decide (((cut 47 ((gt a0 x10_9).path)).length : Int) = 4))) else none))).bind fun z55 => bif z55 then (bif decide ((x3_7.length + ([(⟨(gt a0 x10_9).kind, (gt a0 x10_9).path, (gt a0 x10_9).body, (gt a0 x10_9).mode, false⟩ : Rec)] : List Rec).length) * 56 ≤ 140737488355328) then (some (.nxt (x3_7 ++ ([(⟨(gt a0 x10_9).kind, (gt a0 x10_9).path, (gt a0 x10_9).body, (gt a0 x10_9).mode, false⟩ : Rec)] : List Rec), IntKind.wrap .i64 (x10_9 + 1)))) else none) else (bif decide ((x3_7.length + ([(gt a0 x10_9)] : List Rec).length) * 56 ≤ 140737488355328) then (some (.nxt (x3_7 ++ ([(gt a0 x10_9)] : List Rec), IntKind.wrap .i64 (x10_9 + 1)))) else none))) else none) else none) else none) else (some (.brk x3_7))
def vG.sh (k : Nat) (a0 : List Rec) : Option (List Rec) :=
  (qp (vG.b1 a0) k (([] : List Rec), 0)).bind fun z => match z with | .inl t => some t | .inr x3_13 => some x3_13
theorem vG.eq (a0 : List Rec) (h0 : a0.length ≤ 1048576) (h1 : ∀ x ∈ a0, qK x.path = true) : ∃ k, vG.sh k a0 = some (jV a0) := by
 refine ⟨a0.length + 1, ?_⟩
 unfold vG.sh
 rw [Q4 a0 (VE a0) (vG.b1 a0) (fun i hi acc ha => by
  have hpo := h1 _ (List.getElem_mem hi)
  have hp := jN hpo
  have hd := GN hpo
  have e1 : ∀ z : Rec, (acc.length + ([z] : List Rec).length) * 56 ≤ 140737488355328 := fun z => by simp; omega
  have e4 : decide (((cut 47 a0[i].path).length : Int) = 4) = !decide ((cut 47 a0[i].path).length < 4) := by
   by_cases h : (cut 47 a0[i].path).length < 4
   ·have : ¬ ((cut 47 a0[i].path).length : Int) = 4 := by omega
    simp [h, this]
   ·have : ((cut 47 a0[i].path).length : Int) = 4 := by omega
    simp [h, this]
  simp only [vG.b1, yn, hi, decide_true, cond_true, qR hi, vI, ya hi, h0, hp, e1, e4, vd hi (by omega), VE]
  rcases qF (jt a0 a0[i].path) with hu | hu
  ·by_cases hk : a0[i].kind = 4 <;> simp [hu, hk]
  ·by_cases h4 : (cut 47 a0[i].path).length < 4 <;> simp [hu, h4]) (fun acc => by simp [vG.b1])]
 simp [jV]
def J6 (k : Int) : Rec := ⟨k, jb (k + 1), jb (k + 2), k + 3, decide ((k + 4).tmod 3 = 0)⟩
def Qm (n : Nat) (k : Int) : List Rec := (List.range n).map fun (i : Nat) => J6 (k + ((i * 5 : Nat) : Int))
def Qy (xs : List Rec) (k : Int) : Int := if xs = Qm xs.length k then k + 5 * (xs.length : Int) else -1
theorem Q8 (n : Nat) (k : Int) : (Qm n k).length = n := by simp [Qm]
theorem GR (n : Nat) (k : Int) : Qy (Qm n k) k = k + 5 * (n : Int) := by
 unfold Qy; rw [Q8]; simp
def qw.b1  : Int × Int × List Rec → Option (Step (Int × List Rec) (Int × Int × List Rec) (Int × List Rec)) :=
 fun q => match q with
 | (x1_1, x5_2, y3) => bif (decide (x5_2 < (y3.length : Int))) then (bif inR x5_2 y3.length then (bif decide (((IntKind.wrap .i64 (x1_1 + 1)) : Int) ≤ 4611686018427387904) then (bif decide (((IntKind.wrap .i64 ((IntKind.wrap .i64 (x1_1 + 1)) + 1)) : Int) ≤ 4611686018427387904) then (some (.nxt (IntKind.wrap .i64 ((IntKind.wrap .i64 ((IntKind.wrap .i64 ((IntKind.wrap .i64 ((IntKind.wrap .i64 (x1_1 + 1)) + 1)) + 1)) + 1)) + 1), IntKind.wrap .i64 (x5_2 + 1), jA y3 x5_2 (⟨x1_1, (jb (IntKind.wrap .i64 (x1_1 + 1))), (jb (IntKind.wrap .i64 ((IntKind.wrap .i64 (x1_1 + 1)) + 1))), IntKind.wrap .i64 ((IntKind.wrap .i64 ((IntKind.wrap .i64 (x1_1 + 1)) + 1)) + 1), (decide (((IntKind.wrap .i64 ((IntKind.wrap .i64 ((IntKind.wrap .i64 ((IntKind.wrap .i64 (x1_1 + 1)) + 1)) + 1)) + 1)).tmod 3) = 0))⟩ : Rec)))) else none) else none) else none) else (some (.brk (x1_1, y3)))
def qw.sh (k : Nat) (a0 : List Rec) (a1 : Int) : Option (Int × List Rec) :=
  (qp (qw.b1) k (a1, 0, a0)).bind fun z => match z with | .inl t => some t | .inr (x1_7, y8) => some (x1_7, y8)
theorem qw.eq (a0 : List Rec) (a1 : Int) (h0 : a0.length ≤ 576460752303423488) (h1 : 0 ≤ a1) (h2 : a1 ≤ 4611686018427387904 - 5 * a0.length) : ∃ k, qw.sh k a0 a1 = some (a1 + 5 * (a0.length : Int), Qm a0.length a1) := by
 refine ⟨a0.length + 1, ?_⟩
 have := mark_run a0 (fun (i : Nat) => J6 (a1 + ((i * 5 : Nat) : Int))) a1 5 qw.b1 (fun i hi y hy => by
  have e2 : a1 + (((i + 1) * 5 : Nat) : Int) = a1 + ((i * 5 : Nat) : Int) + 5 := by omega
  obtain ⟨c, hc⟩ : ∃ c, a1 + ((i * 5 : Nat) : Int) = c := ⟨_, rfl⟩
  have h3 : 0 ≤ c ∧ c + 5 ≤ 4611686018427387904 := by omega
  have h4 : c + 1 ≤ 4611686018427387904 := by omega
  have h5 : c + 1 + 1 ≤ 4611686018427387904 := by omega
  rw [e2, hc]
  simp only [qw.b1, hy, yn, hi, decide_true, cond_true, qR hi, vd hi (by omega)]
  rw [wrap_small (n := c + 1) (by omega) (by omega), wrap_small (n := c + 1 + 1) (by omega) (by omega), wrap_small (n := c + 1 + 1 + 1) (by omega) (by omega), wrap_small (n := c + 1 + 1 + 1 + 1) (by omega) (by omega), wrap_small (n := c + 1 + 1 + 1 + 1 + 1) (by omega) (by omega)]
  simp only [h4, h5, decide_true, cond_true, J6]
  have : c + 1 + 1 = c + 2 := by omega
  rw [this]
  have : c + 2 + 1 = c + 3 := by omega
  rw [this]
  have : c + 3 + 1 = c + 4 := by omega
  rw [this]
  have : c + 4 + 1 = c + 5 := by omega
  rw [this]) (fun y hy => by simp [qw.b1, hy])
 unfold qw.sh
 rw [this]
 simp only [Option.bind_some, Qm]
 congr 2; omega
def vk.b1 (a0 : List Rec) : Int × Int → Option (Step (Int) (Int × Int) (Int)) :=
 fun q => match q with
 | (x1_1, x5_2) => bif (decide (x5_2 < (a0.length : Int))) then (bif inR x5_2 a0.length then (bif (!decide (((gt a0 x5_2).kind) = x1_1)) then (some (.ret (-1))) else (bif inR x5_2 a0.length then (bif decide (((IntKind.wrap .i64 (x1_1 + 1)) : Int) ≤ 4611686018427387904) then (bif (!decide (((gt a0 x5_2).path) = (jb (IntKind.wrap .i64 (x1_1 + 1))))) then (some (.ret (-1))) else (bif inR x5_2 a0.length then (bif decide (((IntKind.wrap .i64 ((IntKind.wrap .i64 (x1_1 + 1)) + 1)) : Int) ≤ 4611686018427387904) then (bif (!decide (((gt a0 x5_2).body) = (jb (IntKind.wrap .i64 ((IntKind.wrap .i64 (x1_1 + 1)) + 1))))) then (some (.ret (-1))) else (bif inR x5_2 a0.length then (bif (!decide (((gt a0 x5_2).mode) = (IntKind.wrap .i64 ((IntKind.wrap .i64 ((IntKind.wrap .i64 (x1_1 + 1)) + 1)) + 1)))) then (some (.ret (-1))) else (bif inR x5_2 a0.length then (bif (!decide (((gt a0 x5_2).opq) = (decide (((IntKind.wrap .i64 ((IntKind.wrap .i64 ((IntKind.wrap .i64 ((IntKind.wrap .i64 (x1_1 + 1)) + 1)) + 1)) + 1)).tmod 3) = 0)))) then (some (.ret (-1))) else (some (.nxt (IntKind.wrap .i64 ((IntKind.wrap .i64 ((IntKind.wrap .i64 ((IntKind.wrap .i64 ((IntKind.wrap .i64 (x1_1 + 1)) + 1)) + 1)) + 1)) + 1), IntKind.wrap .i64 (x5_2 + 1))))) else none)) else none)) else none) else none)) else none) else none)) else none) else (some (.brk x1_1))
def vk.sh (k : Nat) (a0 : List Rec) (a1 : Int) : Option (Int) :=
  (qp (vk.b1 a0) k (a1, 0)).bind fun z => match z with | .inl t => some t | .inr x1_6 => some x1_6
theorem vk.eq (a0 : List Rec) (a1 : Int) (h0 : a0.length ≤ 576460752303423488) (h1 : 0 ≤ a1) (h2 : a1 ≤ 4611686018427387904 - 5 * a0.length) : ∃ k, vk.sh k a0 a1 = some (Qy a0 a1) := by
 refine ⟨a0.length + 1, ?_⟩
 have := held_run a0 (fun (i : Nat) => J6 (a1 + ((i * 5 : Nat) : Int))) a1 5 (vk.b1 a0) (fun i hi => by
  have e2 : a1 + (((i + 1) * 5 : Nat) : Int) = a1 + ((i * 5 : Nat) : Int) + 5 := by omega
  obtain ⟨c, hc⟩ : ∃ c, a1 + ((i * 5 : Nat) : Int) = c := ⟨_, rfl⟩
  have h3 : 0 ≤ c ∧ c + 5 ≤ 4611686018427387904 := by omega
  have h4 : c + 1 ≤ 4611686018427387904 := by omega
  have h5 : c + 2 ≤ 4611686018427387904 := by omega
  rw [e2, hc]
  simp only [vk.b1, yn, hi, decide_true, cond_true, qR hi, vI, vd hi (by omega)]
  obtain ⟨x, hx⟩ : ∃ x, a0.getD i default = x := ⟨_, rfl⟩
  obtain ⟨f1, f2, f3, f4, f5⟩ := x
  simp only [hx, J6, Rec.mk.injEq]
  rw [wrap_small (n := c + 1) (by omega) (by omega), wrap_small (n := c + 1 + 1) (by omega) (by omega), wrap_small (n := c + 1 + 1 + 1) (by omega) (by omega), wrap_small (n := c + 1 + 1 + 1 + 1) (by omega) (by omega), wrap_small (n := c + 1 + 1 + 1 + 1 + 1) (by omega) (by omega)]
  have : c + 1 + 1 = c + 2 := by omega
  rw [this]
  have : c + 2 + 1 = c + 3 := by omega
  rw [this]
  have : c + 3 + 1 = c + 4 := by omega
  rw [this]
  have : c + 4 + 1 = c + 5 := by omega
  rw [this]
  simp only [h4, h5, decide_true, cond_true]
  generalize decide ((c + 4).tmod 3 = 0) = o
  by_cases g1 : f1 = c
  ·by_cases g2 : f2 = jb (c + 1)
   ·by_cases g3 : f3 = jb (c + 2)
    ·by_cases g4 : f4 = c + 3
     ·by_cases g5 : f5 = o
      ·simp [g1, g2, g3, g4, g5]
      ·simp [g1, g2, g3, g4, g5]
     ·simp [g1, g2, g3, g4]
    ·simp [g1, g2, g3]
   ·simp [g1, g2]
  ·simp [g1]) (by simp [vk.b1])
 unfold vk.sh
 rw [this]
 unfold Qy Qm
 by_cases he : a0 = (List.range a0.length).map fun (i : Nat) => J6 (a1 + ((i * 5 : Nat) : Int))
 ·rw [if_pos he, if_pos he]
  simp only [Option.bind_some]
  congr 1; omega
 ·rw [if_neg he, if_neg he]; simp
def jM : List (List Rec) → Int → Int
 | [], a => a
 | x :: l, a => if jE x a < 0 then -1 else jM l (jE x a)
def jR (l : List (List Rec)) (left : Int) : Int := if left - (l.length : Int) < 0 then -1 else jM l (left - (l.length : Int))
theorem GJ : ∀ {l : List (List Rec)} {a : Int}, 0 ≤ jM l a → 0 ≤ a → jM l a ≤ a ∧ ∀ y ∈ l, (y.length : Int) ≤ a ∧ ∀ x ∈ y, (x.path.length : Int) ≤ a ∧ (x.body.length : Int) ≤ a := by
 intro l
 induction l with
 | nil => intro a _ _; exact ⟨Int.le_refl _, by simp⟩
 | cons y l ih =>
  intro a h h0
  simp only [jM] at h ⊢
  by_cases hx : jE y a < 0
  ·simp [hx] at h
  ·simp only [hx, if_false] at h ⊢
   have h1 := J3 hx h0
   have h2 := ih h (by omega)
   refine ⟨by omega, ?_⟩
   intro z hz
   rcases List.mem_cons.1 hz with rfl | hz
   ·exact ⟨h1.2.2.1, h1.2.2.2⟩
   ·have := h2.2 z hz
    exact ⟨by omega, fun x hx => by have := this.2 x hx; omega⟩
theorem szSS_of {l : List (List Rec)} {a : Int} (h : ¬ jR l a < 0) (h0 : 0 ≤ a) (ha : a ≤ 1048576) : l.length ≤ 1048576 ∧ (∀ y ∈ l, y.length ≤ 1048576) ∧ (∀ y ∈ l, ∀ x ∈ y, x.path.length ≤ 1048576) ∧ (∀ y ∈ l, ∀ x ∈ y, x.body.length ≤ 1048576) ∧ 0 ≤ jR l a ∧ jR l a ≤ 1048576 := by
 unfold jR at *
 by_cases hl : a - (l.length : Int) < 0
 ·simp [hl] at h
 ·simp only [hl, if_false] at h ⊢
  have := GJ (l := l) (a := a - (l.length : Int)) (by omega) (by omega)
  refine ⟨by omega, fun y hy => ?_, fun y hy x hx => ?_, fun y hy x hx => ?_, by omega, by omega⟩
  ·have := (this.2 y hy).1; omega
  ·have := ((this.2 y hy).2 x hx).1; omega
  ·have := ((this.2 y hy).2 x hx).2; omega
def vu.b1 (a0 : List (List Rec)) : Int × Int → Option (Step (Int) (Int × Int) (Int)) :=
 fun q => match q with
 | (x1_2, x5_3) => bif (decide (x5_3 < (a0.length : Int))) then (bif inR x5_3 a0.length then (bif decide ((0 : Int) ≤ x1_2) then (bif decide ((x1_2 : Int) ≤ 1048576) then (bif decide ((gt a0 x5_3).length ≤ 9223372036854775807) then (bif decide (∀ x ∈ (gt a0 x5_3), Vt x) then (bif (decide ((jE (gt a0 x5_3) x1_2) < 0)) then (some (.ret (-1))) else (some (.nxt ((jE (gt a0 x5_3) x1_2), IntKind.wrap .i64 (x5_3 + 1))))) else none) else none) else none) else none) else none) else (some (.brk x1_2))
def vu.sh (k : Nat) (a0 : List (List Rec)) (a1 : Int) : Option (Int) :=
  bif (decide ((IntKind.wrap .i64 (a1 - (a0.length : Int))) < 0)) then (some (-1)) else ((qp (vu.b1 a0) k (IntKind.wrap .i64 (a1 - (a0.length : Int)), 0)).bind fun z => match z with | .inl t => some t | .inr x1_7 => some x1_7)
theorem vu.eq (a0 : List (List Rec)) (a1 : Int) (h0 : 0 ≤ a1) (h1 : a1 ≤ 1048576) (h2 : a0.length ≤ 9223372036854775807) (h3 : ∀ l ∈ a0, l.length ≤ 9223372036854775807) (h4 : ∀ l ∈ a0, ∀ x ∈ l, Vt x) : ∃ k, vu.sh k a0 a1 = some (jR a0 a1) := by
  refine ⟨a0.length + 1, ?_⟩
  unfold vu.sh jR
  rw [wrap_small (n := a1 - (a0.length : Int)) (by omega) (by omega)]
  by_cases hl : a1 - (a0.length : Int) < 0
  · simp [hl]
  · simp only [hl, decide_false, cond_false, if_false]
    have key : ∀ (d i : Nat) (a : Int) (k : Nat), i + d = a0.length → d < k → 0 ≤ a → a ≤ 1048576 → ∃ z, qp (vu.b1 a0) k (a, (i : Int)) = some z ∧ (match z with | .inl t => some t | .inr x => some x) = some (jM (a0.drop i) a) := by
      intro d
      induction d with
      | zero =>
        intro i a k hi hk _ _
        obtain ⟨k, rfl⟩ : ∃ j, k = j + 1 := ⟨k - 1, by omega⟩
        have : i = a0.length := by omega
        subst this
        exact ⟨.inr a, by simp [qp, vu.b1], by simp [jM]⟩
      | succ d ih =>
        intro i a k hi hk ha0 ha1
        obtain ⟨k, rfl⟩ : ∃ j, k = j + 1 := ⟨k - 1, by omega⟩
        have hlt : i < a0.length := by omega
        have hg : a0.getD i default = a0[i] := ya hlt
        have e3 := h3 a0[i] (List.getElem_mem hlt)
        have e4 := h4 a0[i] (List.getElem_mem hlt)
        rw [List.drop_eq_getElem_cons hlt, qp]
        simp only [vu.b1, yn, hlt, decide_true, cond_true, qR hlt, vI, hg, ha0, ha1, e3, decide_eq_true e4, vd hlt (by omega)]
        by_cases hx : jE a0[i] a < 0
        · exact ⟨.inl (-1), by simp [hx], by simp [jM, hx]⟩
        · have hle := J3 hx ha0
          obtain ⟨z, hz, hP⟩ := ih (i + 1) (jE a0[i] a) k (by omega) (by omega) (by omega) (by omega)
          rw [Int.natCast_add, Int.natCast_one] at hz
          exact ⟨z, by simp only [hx, decide_false, cond_false, Option.bind_some]; exact hz, by simp only [jM, hx, if_false]; exact hP⟩
    obtain ⟨z, hz, hP⟩ := key a0.length 0 (a1 - (a0.length : Int)) (a0.length + 1) (by omega) (by omega) (by omega) (by omega)
    simp only [Int.natCast_zero] at hz
    rw [hz]
    simpa using hP
def qN.b1 (a0 : List (List Rec)) : Int × List (List Rec) → Option (Step (List (List Rec)) (Int × List (List Rec)) (List (List Rec))) :=
 fun q => match q with
 | (x4_8, y9) => bif (decide (x4_8 < (a0.length : Int))) then (bif inR x4_8 a0.length then (bif decide ((gt a0 x4_8).length ≤ 1048576) then (bif inR x4_8 y9.length then (some (.nxt (IntKind.wrap .i64 (x4_8 + 1), jA y9 x4_8 (gt a0 x4_8)))) else none) else none) else none) else (some (.brk y9))
def qN.sh (k : Nat) (a0 : List (List Rec)) : Option (List (List Rec)) :=
  bif decide (a0.length * 24 ≤ 281474976710656) then ((qp (qN.b1 a0) k (0, List.replicate a0.length ([] : List Rec))).bind fun z => match z with | .inl t => some t | .inr y13 => some y13) else none
theorem qN.eq (a0 : List (List Rec)) (h : a0.length ≤ 1048576) (h1 : ∀ l ∈ a0, l.length ≤ 1048576) : ∃ k, qN.sh k a0 = some a0 := by
 refine ⟨a0.length + 1, ?_⟩
 unfold qN.sh
 have hb : a0.length * 24 ≤ 281474976710656 := by omega
 simp only [hb, decide_true, cond_true]
 have := G6 (List.replicate a0.length ([] : List Rec)) (fun i => a0.getD i default) (qN.b1 a0) (fun i hi y hy => by
  have hi' : i < a0.length := by simpa using hi
  have hy' : y.length = a0.length := by simpa using hy
  have e := h1 a0[i] (List.getElem_mem hi')
  rw [← ya hi'] at e
  simp only [qN.b1, hy', yn, hi', decide_true, cond_true, qR hi', vI, e, vd hi' (by omega)]) (fun y hy => by
  have hy' : y.length = a0.length := by simpa using hy
  simp [qN.b1])
 simp only [List.length_replicate, GS] at this
 rw [this]; rfl
def qX.b1 (a0 : List (List Rec)) (a1 : List (List Rec)) : Int → Option (Step (Bool) (Int) (Unit)) :=
 fun x5_2 => bif (decide (x5_2 < (a0.length : Int))) then (bif inR x5_2 a0.length then (bif inR x5_2 a1.length then (bif decide ((gt a0 x5_2).length ≤ 4611686018427387904) then (bif (!(decide ((gt a0 x5_2) = (gt a1 x5_2)))) then (some (.ret false)) else (some (.nxt (IntKind.wrap .i64 (x5_2 + 1))))) else none) else none) else none) else (some (.brk ()))
def qX.sh (k : Nat) (a0 : List (List Rec)) (a1 : List (List Rec)) : Option (Bool) :=
  bif (!decide ((a0.length : Int) = (a1.length : Int))) then (some false) else ((qp (qX.b1 a0 a1) k 0).bind fun z => match z with | .inl t => some t | .inr _ => some true)
theorem qX.eq (a0 a1 : List (List Rec)) (h : a0.length ≤ 1048576) (h1 : ∀ l ∈ a0, l.length ≤ 1048576) : ∃ k, qX.sh k a0 a1 = some (decide (a0 = a1)) := by
 refine ⟨a0.length + 1, ?_⟩
 unfold qX.sh
 by_cases hl : a0.length = a1.length
 ·rw [eq_run a0 a1 (qX.b1 a0 a1) hl (fun i hi => by
   have hi2 : i < a1.length := by omega
   have e := h1 a0[i] (List.getElem_mem hi)
   rw [← ya hi] at e
   have e' : (a0.getD i default).length ≤ 4611686018427387904 := by omega
   simp only [qX.b1, yn, hi, decide_true, cond_true, qR hi, qR hi2, vI, e', vd hi (by omega)]
   by_cases he : a0.getD i default = a1.getD i default
   ·simp only [he, decide_true, Bool.not_true, cond_false, if_true]
   ·simp only [he, decide_false, Bool.not_false, cond_true, if_false]) (by simp [qX.b1])]
  have : (a0.length : Int) = (a1.length : Int) := by omega
  by_cases he : a0 = a1 <;> simp [this, he]
 ·have h1 : ¬ (a0.length : Int) = (a1.length : Int) := by omega
  have h2 : a0 ≠ a1 := fun e => hl (by rw [e])
  simp [h1, h2]
def vr (l : List (List Rec)) : Bool := decide (l.length ≤ 5) && l.all fun x => decide ((qA x).2 = 0)
theorem YM (l : List Rec) : decide ((vx l).2 = 0) = decide ((qA l).2 = 0) := by
 unfold vx
 by_cases h : 4096 < l.length
 ·have : ¬ (qA l).2 = 0 := fun hf => by have := Q5 hf; omega
  simp [h, this]
 ·simp [h]
def vN.b1 (a0 : List (List Rec)) : Int → Option (Step (Bool) (Int) (Unit)) :=
 fun x3_2 => bif (decide (x3_2 < (a0.length : Int))) then (bif inR x3_2 a0.length then (bif decide ((gt a0 x3_2).length ≤ 1048576) then (bif decide (∀ x ∈ (gt a0 x3_2), x.path.length ≤ 1048576) then (bif (!(decide ((qA (gt a0 x3_2)).2 = 0))) then (some (.ret false)) else (some (.nxt (IntKind.wrap .i64 (x3_2 + 1))))) else none) else none) else none) else (some (.brk ()))
def vN.sh (k : Nat) (a0 : List (List Rec)) : Option (Bool) :=
  bif (decide (5 < (a0.length : Int))) then (some false) else ((qp (vN.b1 a0) k 0).bind fun z => match z with | .inl t => some t | .inr _ => some true)
theorem vN.eq (a0 : List (List Rec)) (h0 : a0.length ≤ 1048576) (h1 : ∀ l ∈ a0, l.length ≤ 1048576) (h2 : ∀ l ∈ a0, ∀ x ∈ l, x.path.length ≤ 1048576) : ∃ k, vN.sh k a0 = some (vr a0) := by
 refine ⟨a0.length + 1, ?_⟩
 unfold vN.sh vr
 by_cases hl : a0.length ≤ 5
 ·have hl' : ¬ (5 : Int) < (a0.length : Int) := by omega
  simp only [hl', decide_false, cond_false]
  have hb : ∀ i : Nat, i < a0.length → vN.b1 a0 i = some (sc (if !decide ((qA (a0.getD i default)).2 = 0) then some false else none : Option Bool) ((i : Int) + 1)) := by
   intro i hi
   have e := h1 a0[i] (List.getElem_mem hi)
   have e2 := h2 a0[i] (List.getElem_mem hi)
   have eg : a0.getD i default = gt a0 (i : Int) := rfl
   rw [← ya hi, eg] at e e2
   rw [eg]
   simp only [vN.b1, yn, hi, decide_true, cond_true, qR hi, e, decide_eq_true e2, vd hi (by omega)]
   by_cases hf : (qA (gt a0 (i : Int))).2 = 0
   ·simp only [hf, decide_true, Bool.not_true, cond_false, Bool.false_eq_true, if_false, VP]
   ·simp only [hf, decide_false, Bool.not_false, cond_true, if_true, VM]
  rw [y6 a0.length _ hb (by simp [vN.b1]) _ (by omega), VO a0 default (fun x => !decide ((qA x).2 = 0)) false]
  have hna : (a0.any fun x => !decide ((qA x).2 = 0)) = !(a0.all fun x => decide ((qA x).2 = 0)) := by rw [List.not_all_eq_any_not]
  rw [hna]
  simp only [hl, decide_true, Bool.true_and]
  cases (a0.all fun x => decide ((qA x).2 = 0)) <;> simp
 ·have hl' : (5 : Int) < (a0.length : Int) := by omega
  simp [hl', hl]
def yG.sh (a0 : List Rec) (a1 : List Rec → Option Bool) : Option (Bool) :=
 (a1 a0).bind fun z1 => some (!z1)
theorem yG.eq (a0 : List Rec) (a1 : List Rec → Option Bool) {r : Bool} (H : ((a1 a0).map (!·)) = some r) : yG.sh a0 a1 = some r := by
 unfold yG.sh
 cases h : a1 a0 with
 | none => rw [h] at H; cases H
 | some z => rw [h] at H; exact H
def qL.b1 (a0 : List (List Rec)) (a1 : List Rec → Option Bool) : Int → Option (Step (Int) (Int) (Unit)) :=
 fun x8_1 => bif (decide (x8_1 < (a0.length : Int))) then (bif inR x8_1 a0.length then ((a1 (gt a0 x8_1)).bind fun z24 => bif z24 then (some (.ret x8_1)) else (some (.nxt (IntKind.wrap .i64 (x8_1 + 1))))) else none) else (some (.brk ()))
def qL.sh (k : Nat) (a0 : List (List Rec)) (a1 : List Rec → Option Bool) : Option (Int) :=
  (qp (qL.b1 a0 a1) k 0).bind fun z => match z with | .inl t => some t | .inr _ => some (-1)
theorem qL.eq (a0 : List (List Rec)) (a1 : List Rec → Option Bool) (h : a0.length ≤ 4611686018427387904) {r : Int} (H : Va a1 a0 = some r) : ∃ k, qL.sh k a0 a1 = some r := by
 refine ⟨a0.length + 1, ?_⟩
 have := VL a0 a0.length 0 (by omega) r (by simpa using H) (qL.b1 a0 a1) (fun i hi => by
  simp only [qL.b1, yn, hi, decide_true, cond_true, qR hi, vI, vd hi h]) (by simp [qL.b1]) (a0.length + 1) (by omega)
 simp only [Int.natCast_zero] at this
 unfold qL.sh
 rw [this]
 by_cases hr : r = -1
 ·simp [hr]
 ·simp [hr]
def vl.sh (a0 : List (List Rec)) (a1 : List Rec → Option Bool) : Option (Bool) :=
 bif decide (a0.length ≤ 4611686018427387904) then (((Va a1 a0)).bind fun z2 => some (decide (0 ≤ z2))) else none
theorem vl.eq (a0 : List (List Rec)) (a1 : List Rec → Option Bool) (h : a0.length ≤ 4611686018427387904) {r : Bool} (H : Qx a1 a0 = some r) : vl.sh a0 a1 = some r := by
 obtain ⟨i, hi⟩ := Xh H
 have := (Yu hi).2
 rw [H] at this
 simp only [vl.sh, h, decide_true, cond_true, hi, Option.bind_some, this]
def jg.sh (a0 : List (List Rec)) (a1 : List Rec → Option Bool) : Option (Bool) :=
 bif decide (a0.length ≤ 4611686018427387904) then (((Qx (fun (x0_ : List Rec) => ((a1 x0_).map (!·))) a0)).bind fun z12 => some (!z12)) else none
theorem jg.eq (a0 : List (List Rec)) (a1 : List Rec → Option Bool) (h : a0.length ≤ 4611686018427387904) {r : Bool} (H : Y5 a1 a0 = some r) : jg.sh a0 a1 = some r := by
 simp only [jg.sh, h, decide_true, cond_true]
 have := Xa (p := a1) a0
 rw [H] at this
 rw [show (Qx (fun (x0_ : List Rec) => (a1 x0_).map (!·)) a0) = _ from this]
 simp
def jy.sh (a0 : List (List Rec)) : Option (Bool) :=
 ((bif (decide ((a0.length : Int) ≤ 5)) then (bif decide (a0.length ≤ 4611686018427387904) then (((Y5 (fun (x0_ : List Rec) => bif decide (x0_.length ≤ 1048576) then (bif decide (∀ x ∈ x0_, x.path.length ≤ 1048576) then (some (decide ((vx x0_).2 = 0))) else none) else none) a0)).bind fun z7 => some z7) else none) else some false)).bind fun z2 => some z2
theorem jy.eq (a0 : List (List Rec)) (h0 : a0.length ≤ 1048576) (h1 : ∀ l ∈ a0, l.length ≤ 1048576) (h2 : ∀ l ∈ a0, ∀ x ∈ l, x.path.length ≤ 1048576) : jy.sh a0 = some (vr a0) := by
 unfold jy.sh vr
 have h3 : a0.length ≤ 4611686018427387904 := by omega
 have e : Y5 (fun (x0_ : List Rec) => bif decide (x0_.length ≤ 1048576) then (bif decide (∀ x ∈ x0_, x.path.length ≤ 1048576) then (some (decide ((vx x0_).2 = 0))) else none) else none) a0 = some (a0.all fun x => decide ((qA x).2 = 0)) :=
  Gb fun x hx => by simp only [h1 x hx, decide_true, cond_true, decide_eq_true (h2 x hx), YM]
 simp only [h3, decide_true, cond_true, e, Option.bind_some]
 by_cases hl : a0.length ≤ 5
 ·have hl' : (a0.length : Int) ≤ 5 := by omega
  simp [hl, hl']
 ·have hl' : ¬ (a0.length : Int) ≤ 5 := by omega
  simp [hl, hl']
def stackCode (a : List (List Rec)) : Int := if 4096 < a.length then 2 else if !vr a then 1 else 0
theorem Ge (l : List (List Rec)) : decide ((4096 : Int) < (l.length : Int)) = decide (4096 < l.length) := by rw [decide_eq_decide]; omega
def yw.sh (a0 : List (List Rec)) : Option (Bool) :=
 some (decide (4096 < (a0.length : Int)))
theorem yw.eq (a0 : List (List Rec)) : yw.sh a0 = some (decide (4096 < a0.length)) := by
 unfold yw.sh
 rw [Ge]
def yZ.sh (a0 : List (List Rec)) : Option (Int) :=
 bif decide (a0.length ≤ 1048576) then (bif decide (∀ l ∈ a0, l.length ≤ 1048576) then (bif decide (∀ l ∈ a0, ∀ x ∈ l, x.path.length ≤ 1048576) then (bif decide (([.inl (decide (4096 < a0.length)), .inr 2, .inl (!(vr a0)), .inr 1] : List (Bool ⊕ Int)).length ≤ 4611686018427387904) then ((some (vp ([.inl (decide (4096 < a0.length)), .inr 2, .inl (!(vr a0)), .inr 1] : List (Bool ⊕ Int)))).bind fun z17 => some z17) else none) else none) else none) else none
theorem yZ.eq (a0 : List (List Rec)) (h0 : a0.length ≤ 1048576) (h1 : ∀ l ∈ a0, l.length ≤ 1048576) (h2 : ∀ l ∈ a0, ∀ x ∈ l, x.path.length ≤ 1048576) : yZ.sh a0 = some (stackCode a0) := by
 unfold yZ.sh stackCode
 simp only [h0, decide_true, cond_true, decide_eq_true h1, decide_eq_true h2, Gf, List.length_cons, List.length_nil, vp, Yp, YS]
 by_cases h : 4096 < a0.length
 ·simp [h]
 ·rcases qF (vr a0) with h3 | h3 <;> simp [h, h3]
def QY (t : List Nd) (p : List UInt8) (i : Nat) : Option (Int × Int) :=
 if QA t p < 0 then some (0, 5) else if i = 0 then some (QA t p, 0) else if (gt t (QA t p)).kind ≠ 3 then some (0, 13) else none
def Y2 (t : List Nd) (way : List (List UInt8)) : Nat → Int × Int
 | 0 => (0, 5)
 | n + 1 => match QY t (way.getD n []) n with
  | some x => x
  | none => Y2 t way n
def Vc (t : List Nd) (p : List UInt8) : Int × Int := Y2 t ([p] ++ jp p) ([p] ++ jp p).length
theorem XH {t : List Nd} {way : List (List UInt8)} {i : Nat} {x : Int × Int} : ∀ m, i < m → QY t (way.getD i []) i = some x → (∀ j, i < j → j < m → QY t (way.getD j []) j = none) → Y2 t way m = x := by
 intro m
 induction m with
 | zero => intro h; omega
 | succ m ih =>
  intro h hc hj
  rw [Y2]
  by_cases e : i = m
  ·subst e; rw [hc]
  ·rw [hj m (by omega) (by omega)]; exact ih (by omega) hc fun j h1 h2 => hj j h1 (by omega)
def Je (t : List Nd) : List UInt8 → List (List UInt8) → Nd × Int
 | _, [] => (⟨0, [], [], 0⟩, 5)
 | p, x :: l => if QA t (Y1 p x) < 0 then (⟨0, [], [], 0⟩, 5) else if l = [] then (gt t (QA t (Y1 p x)), 0) else if (gt t (QA t (Y1 p x))).kind ≠ 3 then (⟨0, [], [], 0⟩, 13) else Je t (Y1 p x) l
def Xy (t : List Nd) (p : List UInt8) : Nd × Int := Je t [] (cut 47 p)
theorem findN_inR {t : List Nd} {p : List UInt8} (h : ¬ QA t p < 0) : inR (QA t p) t.length = true := Vx (by omega) (findN_lt t p)
theorem J5 (p x : List UInt8) (l : List (List UInt8)) : preL p (x :: l) = (p ++ x) :: l := rfl
theorem j6 {b : UInt8} {l : List UInt8} (h : bn b ≠ 47) : cut 47 (b :: l) = preL [b] (cut 47 l) := by rw [cut, if_neg h]
theorem j0 {b : UInt8} {l : List UInt8} (h : bn b = 47) : cut 47 (b :: l) = [] :: cut 47 l := by rw [cut, if_pos h]
theorem Jq : bn (47 : UInt8) = 47 := rfl
def yj : List (List UInt8) → List UInt8
 | [] => []
 | [x] => x
 | x :: y :: l => x ++ 47 :: yj (y :: l)
theorem Qk (x : List UInt8) {l : List (List UInt8)} (h : l ≠ []) : yj (x :: l) = x ++ 47 :: yj l := by
 cases l with
 | nil => exact absurd rfl h
 | cons y l => rfl
theorem Xz (p : List UInt8) (l : List (List UInt8)) (h : l ≠ []) : yj (preL p l) = p ++ yj l := by
 cases l with
 | nil => exact absurd rfl h
 | cons x l =>
  rw [J5]
  cases l with
  | nil => rfl
  | cons y l => simp [yj]
theorem Qi (t : List UInt8) : yj (cut 47 t) = t := by
 induction t with
 | nil => rfl
 | cons b l ih =>
  by_cases h : bn b = 47
  ·have hb : b = 47 := by
    apply UInt8.toNat.inj
    show b.toNat = 47
    unfold bn at h; omega
   rw [j0 h, Qk _ (ju 47 l), ih, hb]; rfl
  ·rw [j6 h, Xz _ _ (ju 47 l), ih]; rfl
theorem cut_free {x : List UInt8} (h : ∀ b ∈ x, bn b ≠ 47) : cut 47 x = [x] := by
 induction x with
 | nil => rfl
 | cons b l ih =>
  rw [j6 (h b (by simp)), ih (fun c hc => h c (by simp [hc]))]; rfl
theorem cut_app {x t : List UInt8} (h : ∀ b ∈ x, bn b ≠ 47) : cut 47 (x ++ 47 :: t) = x :: cut 47 t := by
 induction x with
 | nil => exact j0 Jq
 | cons b l ih =>
  rw [List.cons_append, j6 (h b (by simp)), ih (fun c hc => h c (by simp [hc]))]; rfl
theorem VU (t : List UInt8) : ∀ x ∈ cut 47 t, ∀ b ∈ x, bn b ≠ 47 := by
 induction t with
 | nil => intro x hx; simp [cut] at hx; subst hx; simp
 | cons b l ih =>
  by_cases h : bn b = 47
  ·rw [j0 h]
   intro x hx
   rcases List.mem_cons.1 hx with rfl | hx
   ·simp
   ·exact ih x hx
  ·rw [j6 h]
   cases hc : cut 47 l with
   | nil => exact absurd hc (ju 47 l)
   | cons y r =>
    rw [hc] at ih
    rw [J5]
    intro x hx
    rcases List.mem_cons.1 hx with rfl | hx
    ·intro c hcx
     rcases List.mem_append.1 hcx with h2 | h2
     ·simp at h2; subst h2; exact h
     ·exact ih y (by simp) c h2
    ·exact ih x (by simp [hx])
theorem YQ {l : List (List UInt8)} (hn : l ≠ []) (h : ∀ x ∈ l, ∀ b ∈ x, bn b ≠ 47) : cut 47 (yj l) = l := by
 induction l with
 | nil => exact absurd rfl hn
 | cons x l ih =>
  by_cases hl : l = []
  ·subst hl; exact cut_free (h x (by simp))
  ·rw [Qk x hl, cut_app (h x (by simp)), ih hl (fun y hy => h y (by simp [hy]))]
theorem XW {a b : List UInt8} (h : cut 47 a = cut 47 b) : a = b := by rw [← Qi a, ← Qi b, h]
theorem JQ (x t : List UInt8) (ht : ∀ b ∈ t, bn b ≠ 47) : vf (x ++ 47 :: t) = x.length := by
 apply Vo (by simp) (by simp [List.getD_eq_getElem?_getD]; exact Jq)
 intro j h1 h2
 obtain ⟨m, rfl⟩ : ∃ m, j = x.length + 1 + m := ⟨j - x.length - 1, by omega⟩
 have h3 : m < t.length := by simp at h2; omega
 have : (x ++ 47 :: t).getD (x.length + 1 + m) 0 = t[m] := by
  have e : x.length + 1 + m - x.length = m + 1 := by omega
  rw [List.getD_eq_getElem?_getD, List.getElem?_append_right (by omega), e, List.getElem?_cons_succ, List.getElem?_eq_getElem h3]; rfl
 rw [this]
 exact ht _ (List.getElem_mem h3)
theorem YF {l : List (List UInt8)} (x : List UInt8) (h : l ≠ []) : yj (l ++ [x]) = yj l ++ 47 :: x := by
 induction l with
 | nil => exact absurd rfl h
 | cons y l ih =>
  by_cases hl : l = []
  ·subst hl; rfl
  ·rw [List.cons_append, Qk y (by simp), ih hl, Qk y hl]; simp
theorem V8 {l : List (List UInt8)} {x : List UInt8} (h : ∀ y ∈ l ++ [x], ∀ b ∈ y, bn b ≠ 47) : ql (yj (l ++ [x])) = yj l := by
 by_cases hl : l = []
 ·subst hl
  have : vf x = -1 := Vn fun j hj => h x (by simp) _ (by rw [List.getD_eq_getElem?_getD, List.getElem?_eq_getElem hj]; exact List.getElem_mem hj)
  simp [ql, yj, this]
 ·rw [YF x hl, ql, JQ _ _ (fun b hb => h x (by simp) b hb)]
  simp
theorem Xd (t : List UInt8) : ql t = yj (cut 47 t).dropLast := by
 obtain ⟨l, x, hlx⟩ : ∃ l x, cut 47 t = l ++ [x] := ⟨(cut 47 t).dropLast, (cut 47 t).getLast (ju 47 t), (List.dropLast_concat_getLast (ju 47 t)).symm⟩
 have hp := VU t
 have := V8 (l := l) (x := x) (by rw [← hlx]; exact hp)
 rw [hlx, List.dropLast_concat, ← this, ← hlx, Qi]
theorem Yo {t : List UInt8} (h : qK t = true) : ∀ x ∈ cut 47 t, x ≠ [] := by
 simp only [qK, Bool.and_eq_true, decide_eq_true_eq, List.all_eq_true] at h
 intro x hx he
 have := h.2.2 x hx
 rw [he] at this
 revert this; decide
theorem Xp {l : List (List UInt8)} (h : l ≠ []) (hp : ∀ x ∈ l, x ≠ []) : yj l ≠ [] := by
 cases l with
 | nil => exact absurd rfl h
 | cons x l =>
  have := hp x (by simp)
  cases l with
  | nil => simpa [yj] using this
  | cons y l => simp [yj]
theorem Xb {l : List (List UInt8)} (x : List UInt8) (hp : ∀ y ∈ l, y ≠ []) : Y1 (yj l) x = yj (l ++ [x]) := by
 by_cases hl : l = []
 ·subst hl; simp [Y1, yj]
 ·rw [Y1, if_neg (Xp hl hp), YF x hl]; simp
theorem XB : ∀ (n : Nat) (l : List (List UInt8)), l.length = n → (∀ y ∈ l, ∀ b ∈ y, bn b ≠ 47) → (∀ y ∈ l, y ≠ []) → jp (yj l) = ((List.range (l.length - 1)).map fun k => yj (l.take (k + 1))).reverse := by
 intro n
 induction n with
 | zero => intro l hl _ _; have : l = [] := List.eq_nil_of_length_eq_zero hl; subst this; rfl
 | succ n ih =>
  intro l hl hp hn
  have hne : l ≠ [] := by intro e; subst e; simp at hl
  obtain ⟨m, x, rfl⟩ : ∃ m x, l = m ++ [x] := ⟨l.dropLast, l.getLast hne, (List.dropLast_concat_getLast hne).symm⟩
  rw [jv, V8 hp]
  have hm : m.length = n := by simpa using hl
  by_cases hm0 : m = []
  ·subst hm0; simp [yj]
  ·have hpm : ∀ y ∈ m, y ≠ [] := fun y hy => hn y (by simp [hy])
   rw [if_neg (Xp hm0 hpm), ih m hm (fun y hy => hp y (by simp [hy])) hpm]
   have hml : 0 < m.length := List.length_pos_iff.2 hm0
   have e1 : (m ++ [x]).length - 1 = (m.length - 1) + 1 := by simp; omega
   rw [e1, List.range_succ, List.map_append, List.reverse_append]
   simp only [List.map_cons, List.map_nil, List.reverse_cons, List.reverse_nil, List.nil_append, List.cons_append]
   congr 1
   ·have e2 : m.length - 1 + 1 = m.length := by omega
    rw [e2, List.take_left]
   ·congr 1
    apply List.map_congr_left
    intro k hk
    have := List.mem_range.1 hk
    rw [List.take_append_of_le_length (by omega)]
theorem GT {t : List UInt8} (h : qK t = true) : jp t = ((List.range ((cut 47 t).length - 1)).map fun k => yj ((cut 47 t).take (k + 1))).reverse := by
 have := XB _ (cut 47 t) rfl (VU t) (Yo h)
 rwa [Qi] at this
theorem way_cut {t : List UInt8} (h : qK t = true) : [t] ++ jp t = ((List.range (cut 47 t).length).map fun k => yj ((cut 47 t).take (k + 1))).reverse := by
 have hl : 0 < (cut 47 t).length := List.length_pos_iff.2 (ju 47 t)
 have e : (cut 47 t).length = ((cut 47 t).length - 1) + 1 := by omega
 rw [GT h]
 conv => rhs; rw [e, List.range_succ, List.map_append, List.reverse_append]
 simp only [List.map_cons, List.map_nil, List.reverse_cons, List.reverse_nil, List.nil_append, List.cons_append]
 congr 1
 have e2 : (cut 47 t).length - 1 + 1 = (cut 47 t).length := by omega
 rw [e2, List.take_length, Qi]
theorem Gx {t : List Nd} {p : List UInt8} (h : qK p = true) : Xy t p = (if (Vc t p).2 = 0 then gt t (Vc t p).1 else ⟨0, [], [], 0⟩, (Vc t p).2) := by
 have hway := way_cut h
 have hparts := Yo h
 unfold Xy Vc
 rw [hway]
 have hlen : (((List.range (cut 47 p).length).map fun k => yj ((cut 47 p).take (k + 1))).reverse).length = (cut 47 p).length := by simp
 rw [hlen]
 have key : ∀ (d i : Nat), i + d = (cut 47 p).length → 0 < d ∨ i = 0 → Je t (yj ((cut 47 p).take i)) ((cut 47 p).drop i) =
   (if (Y2 t (((List.range (cut 47 p).length).map fun k => yj ((cut 47 p).take (k + 1))).reverse) d).2 = 0 then gt t (Y2 t (((List.range (cut 47 p).length).map fun k => yj ((cut 47 p).take (k + 1))).reverse) d).1 else ⟨0, [], [], 0⟩,
    (Y2 t (((List.range (cut 47 p).length).map fun k => yj ((cut 47 p).take (k + 1))).reverse) d).2) := by
  intro d
  induction d with
  | zero =>
   intro i hi h0
   exfalso
   have := List.length_pos_iff.2 (ju 47 p)
   omega
  | succ d ih =>
   intro i hi _
   have hlt : i < (cut 47 p).length := by omega
   have hw : (((List.range (cut 47 p).length).map fun k => yj ((cut 47 p).take (k + 1))).reverse).getD d [] = yj ((cut 47 p).take (i + 1)) := by
    have h1 : d < (((List.range (cut 47 p).length).map fun k => yj ((cut 47 p).take (k + 1))).reverse).length := by rw [hlen]; omega
    rw [List.getD_eq_getElem?_getD, List.getElem?_eq_getElem h1]
    simp only [List.getElem_reverse, List.getElem_map, List.getElem_range, List.length_map, List.length_range, Option.getD_some]
    congr 2; omega
   have hj : Y1 (yj ((cut 47 p).take i)) (cut 47 p)[i] = yj ((cut 47 p).take (i + 1)) := by
    rw [Xb _ (fun y hy => hparts y (List.mem_of_mem_take hy)), List.take_succ_eq_append_getElem hlt]
   rw [List.drop_eq_getElem_cons hlt, Je, hj, Y2, hw]
   obtain ⟨q, hq⟩ : ∃ q, yj ((cut 47 p).take (i + 1)) = q := ⟨_, rfl⟩
   rw [hq]
   unfold QY
   by_cases h1 : QA t q < 0
   ·simp [h1]
   ·simp only [h1, if_false]
    by_cases hd : d = 0
    ·have hnil : (cut 47 p).drop (i + 1) = [] := List.drop_of_length_le (by omega)
     simp [hd, hnil]
    ·have hnil : ¬ (cut 47 p).drop (i + 1) = [] := by
      intro e
      have := congrArg List.length e
      simp at this; omega
     simp only [hnil, hd, if_false]
     by_cases h3 : (gt t (QA t q)).kind = 3
     ·simp only [h3, ne_eq, not_true_eq_false, if_false]
      rw [← hq]
      exact ih (i + 1) (by omega) (.inl (by omega))
     ·simp [h3]
 have := key (cut 47 p).length 0 (by omega) (.inr rfl)
 simpa [yj] using this
def without (l : List Nd) (p : List UInt8) (self : Bool) : List Nd := l.filter fun x => !((decide (p = []) && !decide (x.path = [])) || jK x.path p) && (!self || !decide (x.path = p))
end Go.UL
