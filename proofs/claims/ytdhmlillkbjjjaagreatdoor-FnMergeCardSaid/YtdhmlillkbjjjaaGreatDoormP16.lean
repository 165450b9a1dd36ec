import Derived.Test.YtdhmlillkbjjjaaGreatDoormP10
set_option linter.unusedVariables false
set_option linter.unusedSimpArgs false
namespace Go.UL
open Go.RowKit
def recOf (n : Nd) : Rec := ⟨n.kind, n.path, n.body, n.mode, false⟩
def ndOf (r : Rec) : Nd := ⟨r.kind, r.path, r.body, r.mode⟩
def nodeOK (n : Nd) : Bool := decide (qz (recOf n) = 0) && !decide (n.kind = 4)
theorem XV {n : Nd} (h : nodeOK n = true) : qy n.path = true := by
 simp only [nodeOK, Bool.and_eq_true, decide_eq_true_eq] at h
 exact yA h.1
theorem gtake {α : Type} [Inhabited α] (l : List α) (i : Nat) (k : Int) (h0 : 0 ≤ k) (h : k < (l.take i).length) : gt (l.take i) k = gt l k := by
 obtain ⟨n, rfl⟩ : ∃ n : Nat, k = n := ⟨k.toNat, by omega⟩
 have : n < i ∧ n < l.length := by simp at h; omega
 simp only [vJ, List.getD_eq_getElem?_getD, List.getElem?_take, this.1, if_true]
theorem findN_lt (l : List Nd) (p : List UInt8) : QS l p < l.length := YT _ _
theorem Jm {α β T : Type} (xs : List α) (g : α → Option β) (b : List β × Int → Option (Step T (List β × Int) (List β)))
  (hb : ∀ (i : Nat) (h : i < xs.length) (acc : List β), acc.length ≤ i → b (acc, (i : Int)) = some (.nxt (acc ++ (g xs[i]).toList, (i : Int) + 1))) (hn : ∀ acc : List β, b (acc, (xs.length : Int)) = some (.brk acc)) :
  qn b (xs.length + 1) ([], 0) = some (.inr (xs.filterMap g)) := by
 have key : ∀ d i k (acc : List β), i + d = xs.length → d < k → acc.length ≤ i → qn b k (acc, (i : Int)) = some (.inr (acc ++ (xs.drop i).filterMap g)) := by
  intro d
  induction d with
  | zero =>
   intro i k acc hi hk _
   obtain ⟨k, rfl⟩ : ∃ j, k = j + 1 := ⟨k - 1, by omega⟩
   have : i = xs.length := by omega
   subst this
   simp [qn, hn]
  | succ d ih =>
   intro i k acc hi hk ha
   obtain ⟨k, rfl⟩ : ∃ j, k = j + 1 := ⟨k - 1, by omega⟩
   have hlt : i < xs.length := by omega
   rw [qn, hb i hlt acc ha]
   simp only [Option.bind_some]
   have hl : (acc ++ (g xs[i]).toList).length ≤ i + 1 := by cases g xs[i] <;> simp <;> omega
   have := ih (i + 1) k (acc ++ (g xs[i]).toList) (by omega) (by omega) hl
   rw [Int.natCast_add, Int.natCast_one] at this
   have e : (xs.drop i).filterMap g = (g xs[i]).toList ++ (xs.drop (i + 1)).filterMap g := by
    rw [List.drop_eq_getElem_cons hlt, List.filterMap_cons]
    cases g xs[i] <;> rfl
   rw [e, ← List.append_assoc]
   exact this
 have := key xs.length 0 (xs.length + 1) [] (by omega) (by omega) (by simp)
 simpa using this
theorem vY {α : Type} [Inhabited α] {l : List α} {i : Nat} (h : i < l.length) : l.getD i default = l[i] := by simp [List.getD_eq_getElem?_getD, List.getElem?_eq_getElem h]
theorem jV {t : List UInt8} (h : t ≠ []) : (qb t).length < t.length := by
 have h1 := Yy t
 have h2 := YP t
 have h3 : 0 < t.length := by cases t with | nil => exact absurd rfl h | cons _ _ => simp
 simp [qb]; omega
def YV : Nat → List UInt8 → List (List UInt8)
 | 0, _ => []
 | n + 1, t => if qb t = [] then [] else qb t :: YV n (qb t)
def jz (t : List UInt8) : List (List UInt8) := YV t.length t
theorem y9 : qb [] = [] := rfl
theorem X9 : ∀ (c : Nat) (v : List UInt8), v.length ≤ c → YV c v = YV (c + 1) v := by
 intro c
 induction c with
 | zero => intro v hv; have : v = [] := List.eq_nil_of_length_eq_zero (by omega); subst this; simp [YV, y9]
 | succ c ihc =>
  intro v hv
  rw [YV, YV]
  by_cases hpv : qb v = []
  ·simp [hpv]
  ·simp only [hpv, if_false]
   have hvne : v ≠ [] := by intro e; subst e; exact hpv y9
   have := jV hvne
   rw [ihc (qb v) (by omega)]
theorem YO (d : Nat) (t : List UInt8) : YV (t.length + d) t = jz t := by
 induction d with
 | zero => rfl
 | succ d ih => rw [← ih, show t.length + (d + 1) = (t.length + d) + 1 by omega]; exact (X9 _ _ (by omega)).symm
theorem jJ (t : List UInt8) : jz t = if qb t = [] then [] else qb t :: jz (qb t) := by
 have h := YO 1 t
 rw [← h, YV]
 by_cases hp : qb t = []
 ·simp [hp]
 ·simp only [hp, if_false]
  have hne : t ≠ [] := by intro e; subst e; exact hp y9
  have := jV hne
  have h2 := YO (t.length - (qb t).length) (qb t)
  rw [show (qb t).length + (t.length - (qb t).length) = t.length by omega] at h2
  rw [h2]
theorem ancs_bound : ∀ (n : Nat) (t : List UInt8), t.length ≤ n → (jz t).length ≤ t.length ∧ ∀ x ∈ jz t, x.length ≤ t.length ∧ x ≠ [] := by
 intro n
 induction n with
 | zero => intro t h; have : t = [] := List.eq_nil_of_length_eq_zero (by omega); subst this; exact ⟨by decide, by intro x hx; have e : jz [] = [] := rfl; rw [e] at hx; cases hx⟩
 | succ n ih =>
  intro t h
  rw [jJ]
  by_cases hp : qb t = []
  ·simp [hp]
  ·have hne : t ≠ [] := by intro e; subst e; exact hp y9
   have hlt := jV hne
   obtain ⟨h1, h2⟩ := ih (qb t) (by omega)
   simp only [hp, if_false, List.length_cons, List.mem_cons]
   refine ⟨by omega, ?_⟩
   rintro x (rfl | hx)
   ·exact ⟨by omega, hp⟩
   ·have := h2 x hx; exact ⟨by omega, this.2⟩
theorem ancs_len (t : List UInt8) : (jz t).length ≤ t.length := (ancs_bound _ t (Nat.le_refl _)).1
theorem anc_run (q : List UInt8 → Bool) (b : List UInt8 → Option (Step Bool (List UInt8) Unit)) (hb : ∀ x : List UInt8, x ≠ [] → x.length ≤ 1048576 → b x = some (if q x then .ret true else .nxt (qb x))) (hn : b [] = some (.brk ())) :
  ∀ (n : Nat) (t : List UInt8) (k : Nat), (qb t).length ≤ n → n < k → (qb t).length ≤ 1048576 → qn b k (qb t) = some (if (jz t).any q then .inl true else .inr ()) := by
 intro n
 induction n with
 | zero =>
  intro t k h hk _
  obtain ⟨k, rfl⟩ : ∃ j, k = j + 1 := ⟨k - 1, by omega⟩
  have hp : qb t = [] := List.eq_nil_of_length_eq_zero (by omega)
  rw [jJ, hp, qn, hn]; simp
 | succ n ih =>
  intro t k h hk hl
  obtain ⟨k, rfl⟩ : ∃ j, k = j + 1 := ⟨k - 1, by omega⟩
  by_cases hp : qb t = []
  ·rw [jJ, hp, qn, hn]; simp
  ·rw [jJ, qn, hb _ hp hl]
   have hlt := jV hp
   simp only [hp, if_false, List.any_cons]
   rcases qw (q (qb t)) with hq | hq
   ·simp [hq]
   ·simp only [hq, Bool.false_eq_true, if_false, Option.bind_some, Bool.false_or]
    exact ih (qb t) k (by omega) (by omega) (by omega)
def yC (r : Rec) : Bool := !decide (r.kind = 3) || r.opq
def Yq (l : List Rec) (p : List UInt8) : Bool := (jz p).any fun x => decide (0 ≤ qt l x) && (gt l (qt l x)).opq
def QB (l : List Rec) (p : List UInt8) : Bool := (jz p).any fun x => decide (0 ≤ qt l x) && yC (gt l (qt l x))
def VD (l : List Rec) (h : Rec → Option Bool) (p : List UInt8) : Option Bool := (h (gt l (qt l p))).bind fun z => some (decide (0 ≤ qt l p) && z)
theorem Q0 {l : List Rec} {p : List UInt8} (h : 0 ≤ qt l p) : inR (qt l p) l.length = true := YE (by omega)
def vO.b1 (a0 : List Rec) : List UInt8 → Option (Step (Bool) (List UInt8) (Unit)) :=
 fun x5_4 => bif (!decide (x5_4 = ([] : List UInt8))) then (bif decide (a0.length ≤ 1048576) then (((bif (decide (0 ≤ (qt a0 x5_4))) then (bif inR (qt a0 x5_4) a0.length then (some ((gt a0 (qt a0 x5_4)).opq)) else none) else some false)).bind fun z26 => bif z26 then (some (.ret true)) else (bif decide (x5_4.length ≤ 4611686018427387904) then (some (.nxt (qb x5_4))) else none)) else none) else (some (.brk ()))
def vO.sh (k : Nat) (a0 : List Rec) (a1 : List UInt8) : Option (Bool) :=
  bif decide (a1.length ≤ 4611686018427387904) then ((qn (vO.b1 a0) k (qb a1)).bind fun z => match z with | .inl t => some t | .inr _ => some false) else none
theorem vO.eq (a0 : List Rec) (a1 : List UInt8) (h0 : a0.length ≤ 1048576) (h1 : a1.length ≤ 1048576) : ∃ k, vO.sh k a0 a1 = some (Yq a0 a1) := by
 refine ⟨a1.length + 1, ?_⟩
 have hl := VM a1
 have h2 : a1.length ≤ 4611686018427387904 := by omega
 unfold vO.sh
 rw [anc_run (fun x => decide (0 ≤ qt a0 x) && (gt a0 (qt a0 x)).opq) (vO.b1 a0) (fun x hx hx2 => by
  have h3 : x.length ≤ 4611686018427387904 := by omega
  simp only [vO.b1, hx, decide_false, Bool.not_false, cond_true, h0, decide_true, h3]
  by_cases hk : 0 ≤ qt a0 x
  ·simp only [hk, decide_true, cond_true, Q0 hk, Bool.true_and, Option.bind_some]
   cases (gt a0 (qt a0 x)).opq <;> simp
  ·simp [hk]) (by simp [vO.b1]) a1.length a1 (a1.length + 1) hl (by omega) (by omega)]
 simp only [h2, decide_true, cond_true, Option.bind_some]
 unfold Yq
 cases (jz a1).any fun x => decide (0 ≤ qt a0 x) && (gt a0 (qt a0 x)).opq <;> simp
def y7.sh (a0 : Rec) : Option (Bool) :=
 some ((!decide (a0.kind = 3)) || a0.opq)
theorem y7.eq (a0 : Rec) : y7.sh a0 = some (yC a0) := rfl
def yf.b1 (a0 : List Rec) : List UInt8 → Option (Step (Bool) (List UInt8) (Unit)) :=
 fun x5_4 => bif (!decide (x5_4 = ([] : List UInt8))) then (bif decide (a0.length ≤ 1048576) then (((bif (decide (0 ≤ (qt a0 x5_4))) then (bif inR (qt a0 x5_4) a0.length then (some (yC (gt a0 (qt a0 x5_4)))) else none) else some false)).bind fun z26 => bif z26 then (some (.ret true)) else (bif decide (x5_4.length ≤ 4611686018427387904) then (some (.nxt (qb x5_4))) else none)) else none) else (some (.brk ()))
def yf.sh (k : Nat) (a0 : List Rec) (a1 : List UInt8) : Option (Bool) :=
  bif decide (a1.length ≤ 4611686018427387904) then ((qn (yf.b1 a0) k (qb a1)).bind fun z => match z with | .inl t => some t | .inr _ => some false) else none
theorem yf.eq (a0 : List Rec) (a1 : List UInt8) (h0 : a0.length ≤ 1048576) (h1 : a1.length ≤ 1048576) : ∃ k, yf.sh k a0 a1 = some (QB a0 a1) := by
 refine ⟨a1.length + 1, ?_⟩
 have hl := VM a1
 have h2 : a1.length ≤ 4611686018427387904 := by omega
 unfold yf.sh
 rw [anc_run (fun x => decide (0 ≤ qt a0 x) && yC (gt a0 (qt a0 x))) (yf.b1 a0) (fun x hx hx2 => by
  have h3 : x.length ≤ 4611686018427387904 := by omega
  simp only [yf.b1, hx, decide_false, Bool.not_false, cond_true, h0, decide_true, h3]
  by_cases hk : 0 ≤ qt a0 x
  ·simp only [hk, decide_true, cond_true, Q0 hk, Bool.true_and, Option.bind_some]
   cases yC (gt a0 (qt a0 x)) <;> simp
  ·simp [hk]) (by simp [yf.b1]) a1.length a1 (a1.length + 1) hl (by omega) (by omega)]
 simp only [h2, decide_true, cond_true, Option.bind_some]
 unfold QB
 cases (jz a1).any fun x => decide (0 ≤ qt a0 x) && yC (gt a0 (qt a0 x)) <;> simp
def vq.b1  : List UInt8 × List (List UInt8) → Option (Step (List (List UInt8)) (List UInt8 × List (List UInt8)) (List (List UInt8))) :=
 fun q => match q with
 | (x0_10, x3_11) => bif (!decide (x0_10 = ([] : List UInt8))) then (bif decide ((x3_11.length + ([x0_10] : List (List UInt8)).length) * 16 ≤ 140737488355328) then (bif decide (x0_10.length ≤ 1048576) then (some (.nxt ((qb x0_10), x3_11 ++ ([x0_10] : List (List UInt8))))) else none) else none) else (some (.brk x3_11))
def vq.sh (k : Nat) (a0 : List UInt8) : Option (List (List UInt8)) :=
  bif decide (a0.length ≤ 1048576) then ((qn (vq.b1) k ((qb a0), ([] : List (List UInt8)))).bind fun z => match z with | .inl t => some t | .inr x3_16 => some x3_16) else none
theorem vq.eq (a0 : List UInt8) (h0 : a0.length ≤ 1048576) : ∃ k, vq.sh k a0 = some (jz a0) := by
 refine ⟨a0.length + 1, ?_⟩
 have key : ∀ (n : Nat) (t : List UInt8) (k : Nat) (acc : List (List UInt8)), (qb t).length ≤ n → n < k → acc.length + (qb t).length ≤ 1048576 → qn vq.b1 k (qb t, acc) = some (.inr (acc ++ jz t)) := by
  intro n
  induction n with
  | zero =>
   intro t k acc h hk _
   obtain ⟨k, rfl⟩ : ∃ j, k = j + 1 := ⟨k - 1, by omega⟩
   have hp : qb t = [] := List.eq_nil_of_length_eq_zero (by omega)
   rw [jJ, hp, qn]; simp [vq.b1]
  | succ n ih =>
   intro t k acc h hk hl
   obtain ⟨k, rfl⟩ : ∃ j, k = j + 1 := ⟨k - 1, by omega⟩
   by_cases hp : qb t = []
   ·rw [jJ, hp, qn]; simp [vq.b1]
   ·have hlt := jV hp
    have e1 : (acc.length + ([qb t] : List (List UInt8)).length) * 16 ≤ 140737488355328 := by simp; omega
    have e2 : (qb t).length ≤ 1048576 := by omega
    rw [jJ t, qn]
    simp only [vq.b1, hp, decide_false, Bool.not_false, cond_true, e1, e2, decide_true, if_false, Option.bind_some]
    have := ih (qb t) k (acc ++ [qb t]) (by omega) (by omega) (by simp; omega)
    rw [show qn vq.b1 k (qb (qb t), acc ++ [qb t]) = _ from this]
    simp
 have hl := VM a0
 unfold vq.sh
 rw [key a0.length a0 (a0.length + 1) [] hl (by omega) (by simp; omega)]
 simp [h0]
def yW.sh (a0 : List UInt8) (a1 : List Rec) (a2 : Rec → Option Bool) : Option (Bool) :=
 bif decide (a1.length ≤ 1048576) then (bif (!(decide (0 ≤ (qt a1 a0))) || (inR (qt a1 a0) a1.length)) then ((a2 (gt a1 (qt a1 a0))).bind fun z7 => some ((decide (0 ≤ (qt a1 a0))) && z7)) else none) else none
theorem yW.eq (a0 : List UInt8) (a1 : List Rec) (a2 : Rec → Option Bool) (h0 : a1.length ≤ 1048576) {r : Bool} (H : VD a1 a2 a0 = some r) : yW.sh a0 a1 a2 = some r := by
 unfold yW.sh
 have h1 : (!decide (0 ≤ qt a1 a0) || inR (qt a1 a0) a1.length) = true := by
  by_cases hk : 0 ≤ qt a1 a0
  ·simp [Q0 hk]
  ·simp [hk]
 rw [h1]
 simp only [h0, decide_true, cond_true]
 exact H
def jr.sh (a0 : List Rec) (a1 : List UInt8) (a2 : Rec → Option Bool) : Option (Bool) :=
 bif decide (a1.length ≤ 1048576) then (bif decide ((jz a1).length ≤ 4611686018427387904) then (((QX (fun (x0_ : List UInt8) => bif decide (a0.length ≤ 1048576) then (VD a0 a2 x0_) else none) (jz a1))).bind fun z23 => some z23) else none) else none
theorem jr.eq (a0 : List Rec) (a1 : List UInt8) (a2 : Rec → Option Bool) (h0 : a0.length ≤ 1048576) (h1 : a1.length ≤ 1048576) {r : Bool} (H : QX (VD a0 a2) (jz a1) = some r) : jr.sh a0 a1 a2 = some r := by
 have hl := ancs_len a1
 have h2 : (jz a1).length ≤ 4611686018427387904 := by omega
 unfold jr.sh
 simp only [h0, h1, h2, decide_true, cond_true]
 rw [show (QX (fun (x0_ : List UInt8) => VD a0 a2 x0_) (jz a1)) = some r from H]; rfl
theorem X8 (l : List Rec) (q : Rec → Bool) (p : List UInt8) : QX (VD l (fun x => some (q x))) (jz p) = some ((jz p).any fun x => decide (0 ≤ qt l x) && q (gt l (qt l x))) := anyO_some fun x _ => rfl
def Qa.sh (a0 : Rec) : Option (Bool) :=
 some ((!decide (a0.kind = 3)) || a0.opq)
theorem Qa.eq (a0 : Rec) : Qa.sh a0 = some (yC a0) := rfl
def QI.sh (a0 : List Rec) (a1 : List UInt8) : Option (Bool) :=
 bif decide (a0.length ≤ 1048576) then (bif decide (a1.length ≤ 1048576) then (((QX (VD a0 (fun (x0_ : Rec) => some (yC x0_))) (jz a1))).bind fun z7 => some z7) else none) else none
theorem QI.eq (a0 : List Rec) (a1 : List UInt8) (h0 : a0.length ≤ 1048576) (h1 : a1.length ≤ 1048576) : QI.sh a0 a1 = some (QB a0 a1) := by
 unfold QI.sh
 simp only [h0, h1, decide_true, cond_true, X8 a0 yC a1, Option.bind_some]; rfl
theorem yi {p : List UInt8} (h : qy p = true) : p.length ≤ 1048576 := by have := Q5 h; omega
theorem VH {l : List Rec} (h : (qC l).2 = 0) : ∀ i, i < l.length → y2 l i = 0 := by
 unfold qC at h
 cases hf : (List.range l.length).findSome? (fun i => if y2 l i = 0 then none else some ((i : Int), y2 l i)) with
 | none =>
  intro i hi
  have := List.findSome?_eq_none_iff.1 hf i (List.mem_range.2 hi)
  by_cases hc : y2 l i = 0
  ·exact hc
  ·simp [hc] at this
 | some x =>
  rw [hf] at h
  obtain ⟨i, _, hi⟩ := List.exists_of_findSome?_eq_some hf
  by_cases hc : y2 l i = 0
  ·simp [hc] at hi
  ·simp only [hc, if_false, Option.some.injEq] at hi
   subst hi
   exact absurd h hc
theorem GC {l : List Rec} (h : ∀ i, i < l.length → y2 l i = 0) : qC l = (0, 0) := by
 unfold qC
 have : (List.range l.length).findSome? (fun i => if y2 l i = 0 then none else some ((i : Int), y2 l i)) = none := by
  apply List.findSome?_eq_none_iff.2
  intro i hi
  simp [h i (List.mem_range.1 hi)]
 rw [this]
theorem Jj {l : List Rec} (h : (qC l).2 = 0) : ∀ x ∈ l, qz x = 0 := by
 intro x hx
 obtain ⟨i, hi, rfl⟩ := List.getElem_of_mem hx
 have := Gj (VH h i hi)
 rwa [vY hi] at this
theorem YL {l : List Rec} (h : (qC l).2 = 0) : ∀ x ∈ l, qy x.path = true := fun x hx => yA (Jj h x hx)
theorem Vc {l : List Rec} (h : (qC l).2 = 0) : l.length ≤ 16 := by
 by_cases hc : l.length ≤ 16
 ·exact hc
 ·have := VH h 16 (by omega)
  simp [y2] at this
def canonR (l : List Rec) (r : Rec) : Option Rec :=
 if Yq l r.path then (if r.kind = 4 then none else some ⟨r.kind, r.path, r.body, r.mode, false⟩) else some ⟨r.kind, r.path, r.body, r.mode, r.opq && decide ((cut 47 r.path).length < 4)⟩
def Yx (l : List Rec) : List Rec := l.filterMap (canonR l)
def vN.b1 (a0 : List Rec) : List Rec × Int → Option (Step (List Rec) (List Rec × Int) (List Rec)) :=
 fun q => match q with
 | (x3_7, x4_9) => bif (decide (x4_9 < (a0.length : Int))) then (bif inR x4_9 a0.length then (bif decide (a0.length ≤ 1048576) then (bif decide (((gt a0 x4_9).path).length ≤ 1048576) then (bif (!(Yq a0 ((gt a0 x4_9).path))) then (((bif ((gt a0 x4_9).opq) then (bif decide (((gt a0 x4_9).path).length ≤ 1048576) then (some (decide (((cut 47 ((gt a0 x4_9).path)).length : Int) < 4))) else none) else some false)).bind fun z49 => bif decide ((x3_7.length + ([(⟨(gt a0 x4_9).kind, (gt a0 x4_9).path, (gt a0 x4_9).body, (gt a0 x4_9).mode, z49⟩ : Rec)] : List Rec).length) * 56 ≤ 140737488355328) then (some (.nxt (x3_7 ++ ([(⟨(gt a0 x4_9).kind, (gt a0 x4_9).path, (gt a0 x4_9).body, (gt a0 x4_9).mode, z49⟩ : Rec)] : List Rec), IntKind.wrap .i64 (x4_9 + 1)))) else none) else (bif (!decide (((gt a0 x4_9).kind) = 4)) then (bif decide ((x3_7.length + ([(⟨(gt a0 x4_9).kind, (gt a0 x4_9).path, (gt a0 x4_9).body, (gt a0 x4_9).mode, false⟩ : Rec)] : List Rec).length) * 56 ≤ 140737488355328) then (some (.nxt (x3_7 ++ ([(⟨(gt a0 x4_9).kind, (gt a0 x4_9).path, (gt a0 x4_9).body, (gt a0 x4_9).mode, false⟩ : Rec)] : List Rec), IntKind.wrap .i64 (x4_9 + 1)))) else none) else (some (.nxt (x3_7, IntKind.wrap .i64 (x4_9 + 1)))))) else none) else none) else none) else (some (.brk x3_7))
def vN.sh (k : Nat) (a0 : List Rec) : Option (List Rec) :=
  (qn (vN.b1 a0) k (([] : List Rec), 0)).bind fun z => match z with | .inl t => some t | .inr x3_13 => some x3_13
theorem vN.eq (a0 : List Rec) (h0 : a0.length ≤ 1048576) (h1 : ∀ x ∈ a0, qy x.path = true) : ∃ k, vN.sh k a0 = some (Yx a0) := by
 refine ⟨a0.length + 1, ?_⟩
 unfold vN.sh
 rw [Jm a0 (canonR a0) (vN.b1 a0) (fun i hi acc ha => by
  have hp := yi (h1 _ (List.getElem_mem hi))
  have e1 : ∀ z : Rec, (acc.length + ([z] : List Rec).length) * 56 ≤ 140737488355328 := fun z => by simp; omega
  have e4 : decide (((cut 47 a0[i].path).length : Int) < 4) = decide ((cut 47 a0[i].path).length < 4) := by rw [decide_eq_decide]; omega
  simp only [vN.b1, yY, hi, decide_true, cond_true, qT hi, vJ, vY hi, h0, hp, e1, e4, vR hi (by omega), canonR]
  rcases qw (Yq a0 a0[i].path) with hu | hu
  ·by_cases hk : a0[i].kind = 4 <;> simp [hu, hk]
  ·rcases qw a0[i].opq with ho | ho <;> simp [hu, ho]) (fun acc => by simp [vN.b1])]
 simp [Yx]
def qO (l : List (List Rec)) : Bool := decide (l.length ≤ 5) && l.all fun x => decide ((qC x).2 = 0)
theorem YY (l : List Rec) : decide ((qY l).2 = 0) = decide ((qC l).2 = 0) := by
 unfold qY
 by_cases h : 4096 < l.length
 ·have : ¬ (qC l).2 = 0 := fun hf => by have := Vc hf; omega
  simp [h, this]
 ·simp [h]
theorem Gv {l : List (List Rec)} (h : qO l = true) : l.length ≤ 5 ∧ ∀ x ∈ l, (qC x).2 = 0 := by
 simpa [qO] using h
def vv.b1 (a0 : List (List Rec)) : Int → Option (Step (Bool) (Int) (Unit)) :=
 fun x3_2 => bif (decide (x3_2 < (a0.length : Int))) then (bif inR x3_2 a0.length then (bif decide ((gt a0 x3_2).length ≤ 1048576) then (bif decide (∀ x ∈ (gt a0 x3_2), x.path.length ≤ 1048576) then (bif (!(decide ((qC (gt a0 x3_2)).2 = 0))) then (some (.ret false)) else (some (.nxt (IntKind.wrap .i64 (x3_2 + 1))))) else none) else none) else none) else (some (.brk ()))
def vv.sh (k : Nat) (a0 : List (List Rec)) : Option (Bool) :=
  bif (decide (5 < (a0.length : Int))) then (some false) else ((qn (vv.b1 a0) k 0).bind fun z => match z with | .inl t => some t | .inr _ => some true)
theorem vv.eq (a0 : List (List Rec)) (h0 : a0.length ≤ 1048576) (h1 : ∀ l ∈ a0, l.length ≤ 1048576) (h2 : ∀ l ∈ a0, ∀ x ∈ l, x.path.length ≤ 1048576) : ∃ k, vv.sh k a0 = some (qO a0) := by
 refine ⟨a0.length + 1, ?_⟩
 unfold vv.sh qO
 by_cases hl : a0.length ≤ 5
 ·have hl' : ¬ (5 : Int) < (a0.length : Int) := by omega
  simp only [hl', decide_false, cond_false]
  have hb : ∀ i : Nat, i < a0.length → vv.b1 a0 i = some (sc (if !decide ((qC (a0.getD i default)).2 = 0) then some false else none : Option Bool) ((i : Int) + 1)) := by
   intro i hi
   have e := h1 a0[i] (List.getElem_mem hi)
   have e2 := h2 a0[i] (List.getElem_mem hi)
   have eg : a0.getD i default = gt a0 (i : Int) := rfl
   rw [← vY hi, eg] at e e2
   rw [eg]
   simp only [vv.b1, yY, hi, decide_true, cond_true, qT hi, e, decide_eq_true e2, vR hi (by omega)]
   by_cases hf : (qC (gt a0 (i : Int))).2 = 0
   ·simp only [hf, decide_true, Bool.not_true, cond_false, Bool.false_eq_true, if_false, Ye]
   ·simp only [hf, decide_false, Bool.not_false, cond_true, if_true, V8]
  rw [jg a0.length _ hb (by simp [vv.b1]) _ (by omega), V9 a0 default (fun x => !decide ((qC x).2 = 0)) false]
  have hna : (a0.any fun x => !decide ((qC x).2 = 0)) = !(a0.all fun x => decide ((qC x).2 = 0)) := by rw [List.not_all_eq_any_not]
  rw [hna]
  simp only [hl, decide_true, Bool.true_and]
  cases (a0.all fun x => decide ((qC x).2 = 0)) <;> simp
 ·have hl' : (5 : Int) < (a0.length : Int) := by omega
  simp [hl', hl]
def yT.sh (a0 : List Rec) (a1 : List Rec → Option Bool) : Option (Bool) :=
 (a1 a0).bind fun z1 => some (!z1)
theorem yT.eq (a0 : List Rec) (a1 : List Rec → Option Bool) {r : Bool} (H : ((a1 a0).map (!·)) = some r) : yT.sh a0 a1 = some r := by
 unfold yT.sh
 cases h : a1 a0 with
 | none => rw [h] at H; cases H
 | some z => rw [h] at H; exact H
def qP.b1 (a0 : List (List Rec)) (a1 : List Rec → Option Bool) : Int → Option (Step (Int) (Int) (Unit)) :=
 fun x8_1 => bif (decide (x8_1 < (a0.length : Int))) then (bif inR x8_1 a0.length then ((a1 (gt a0 x8_1)).bind fun z24 => bif z24 then (some (.ret x8_1)) else (some (.nxt (IntKind.wrap .i64 (x8_1 + 1))))) else none) else (some (.brk ()))
def qP.sh (k : Nat) (a0 : List (List Rec)) (a1 : List Rec → Option Bool) : Option (Int) :=
  (qn (qP.b1 a0 a1) k 0).bind fun z => match z with | .inl t => some t | .inr _ => some (-1)
theorem qP.eq (a0 : List (List Rec)) (a1 : List Rec → Option Bool) (h : a0.length ≤ 4611686018427387904) {r : Int} (H : Vj a1 a0 = some r) : ∃ k, qP.sh k a0 a1 = some r := by
 refine ⟨a0.length + 1, ?_⟩
 have := Yd a0 a0.length 0 (by omega) r (by simpa using H) (qP.b1 a0 a1) (fun i hi => by
  simp only [qP.b1, yY, hi, decide_true, cond_true, qT hi, vJ, vR hi h]) (by simp [qP.b1]) (a0.length + 1) (by omega)
 simp only [Int.natCast_zero] at this
 unfold qP.sh
 rw [this]
 by_cases hr : r = -1
 ·simp [hr]
 ·simp [hr]
def vn.sh (a0 : List (List Rec)) (a1 : List Rec → Option Bool) : Option (Bool) :=
 bif decide (a0.length ≤ 4611686018427387904) then (((Vj a1 a0)).bind fun z2 => some (decide (0 ≤ z2))) else none
theorem vn.eq (a0 : List (List Rec)) (a1 : List Rec → Option Bool) (h : a0.length ≤ 4611686018427387904) {r : Bool} (H : QX a1 a0 = some r) : vn.sh a0 a1 = some r := by
 obtain ⟨i, hi⟩ := X4 H
 have := (Yz hi).2
 rw [H] at this
 simp only [vn.sh, h, decide_true, cond_true, hi, Option.bind_some, this]
def js.sh (a0 : List (List Rec)) (a1 : List Rec → Option Bool) : Option (Bool) :=
 bif decide (a0.length ≤ 4611686018427387904) then (((QX (fun (x0_ : List Rec) => ((a1 x0_).map (!·))) a0)).bind fun z12 => some (!z12)) else none
theorem js.eq (a0 : List (List Rec)) (a1 : List Rec → Option Bool) (h : a0.length ≤ 4611686018427387904) {r : Bool} (H : Jc a1 a0 = some r) : js.sh a0 a1 = some r := by
 simp only [js.sh, h, decide_true, cond_true]
 have := Xq (p := a1) a0
 rw [H] at this
 rw [show (QX (fun (x0_ : List Rec) => (a1 x0_).map (!·)) a0) = _ from this]
 simp
def jH.sh (a0 : List (List Rec)) : Option (Bool) :=
 ((bif (decide ((a0.length : Int) ≤ 5)) then (bif decide (a0.length ≤ 4611686018427387904) then (((Jc (fun (x0_ : List Rec) => bif decide (x0_.length ≤ 1048576) then (bif decide (∀ x ∈ x0_, x.path.length ≤ 1048576) then (some (decide ((qY x0_).2 = 0))) else none) else none) a0)).bind fun z7 => some z7) else none) else some false)).bind fun z2 => some z2
theorem jH.eq (a0 : List (List Rec)) (h0 : a0.length ≤ 1048576) (h1 : ∀ l ∈ a0, l.length ≤ 1048576) (h2 : ∀ l ∈ a0, ∀ x ∈ l, x.path.length ≤ 1048576) : jH.sh a0 = some (qO a0) := by
 unfold jH.sh qO
 have h3 : a0.length ≤ 4611686018427387904 := by omega
 have e : Jc (fun (x0_ : List Rec) => bif decide (x0_.length ≤ 1048576) then (bif decide (∀ x ∈ x0_, x.path.length ≤ 1048576) then (some (decide ((qY x0_).2 = 0))) else none) else none) a0 = some (a0.all fun x => decide ((qC x).2 = 0)) :=
  Y1 fun x hx => by simp only [h1 x hx, decide_true, cond_true, decide_eq_true (h2 x hx), YY]
 simp only [h3, decide_true, cond_true, e, Option.bind_some]
 by_cases hl : a0.length ≤ 5
 ·have hl' : (a0.length : Int) ≤ 5 := by omega
  simp [hl, hl']
 ·have hl' : ¬ (a0.length : Int) ≤ 5 := by omega
  simp [hl, hl']
def VJ (l : List (List Rec)) (p : List UInt8) : Nat → Int
 | 0 => 0
 | n + 1 => if QB (l.getD n default) p then (n : Int) + 1 else VJ l p n
def jT (l : List (List Rec)) (p : List UInt8) : Int := VJ l p l.length
theorem cutDN_none {l : List (List Rec)} {p : List UInt8} : ∀ m, (∀ j, j < m → QB (l.getD j default) p = false) → VJ l p m = 0 := by
 intro m
 induction m with
 | zero => intro _; rfl
 | succ m ih => intro h; rw [VJ, h m (by omega)]; exact ih fun j hj => h j (by omega)
theorem cutDN_some {l : List (List Rec)} {p : List UInt8} {i : Nat} : ∀ m, i < m → QB (l.getD i default) p = true → (∀ j, i < j → j < m → QB (l.getD j default) p = false) → VJ l p m = (i : Int) + 1 := by
 intro m
 induction m with
 | zero => intro h; omega
 | succ m ih =>
  intro h hc hj
  rw [VJ]
  by_cases e : i = m
  ·subst e; rw [hc]; rfl
  ·rw [hj m (by omega) (by omega)]; exact ih (by omega) hc fun j h1 h2 => hj j h1 (by omega)
def yn.b1 (a0 : List (List Rec)) (a1 : List UInt8) : Int → Option (Step (Int) (Int) (Unit)) :=
 fun x5_1 => bif (decide (0 ≤ x5_1)) then (bif inR x5_1 a0.length then (bif decide ((gt a0 x5_1).length ≤ 1048576) then (bif decide (a1.length ≤ 1048576) then (bif (QB (gt a0 x5_1) a1) then (some (.ret (IntKind.wrap .i64 (x5_1 + 1)))) else (some (.nxt (IntKind.wrap .i64 (x5_1 - 1))))) else none) else none) else none) else (some (.brk ()))
def yn.sh (k : Nat) (a0 : List (List Rec)) (a1 : List UInt8) : Option (Int) :=
  (qn (yn.b1 a0 a1) k (IntKind.wrap .i64 ((a0.length : Int) - 1))).bind fun z => match z with | .inl t => some t | .inr _ => some 0
theorem yn.eq (a0 : List (List Rec)) (a1 : List UInt8) (h0 : a0.length ≤ 1048576) (h1 : a1.length ≤ 1048576) (h2 : ∀ l ∈ a0, l.length ≤ 1048576) : ∃ k, yn.sh k a0 a1 = some (jT a0 a1) := by
  refine ⟨a0.length + 1, ?_⟩
  unfold yn.sh jT
  rw [wrap_small (n := (a0.length : Int) - 1) (by omega) (by omega)]
  have key : ∀ (m k : Nat), m ≤ a0.length → m < k → ∃ z, qn (yn.b1 a0 a1) k ((m : Int) - 1) = some z ∧ (match z with | .inl t => some t | .inr _ => some 0) = some (VJ a0 a1 m) := by
    intro m
    induction m with
    | zero =>
      intro k _ hk
      obtain ⟨k, rfl⟩ : ∃ j, k = j + 1 := ⟨k - 1, by omega⟩
      exact ⟨.inr (), by simp [qn, yn.b1], by simp [VJ]⟩
    | succ m ih =>
      intro k hm hk
      obtain ⟨k, rfl⟩ : ∃ j, k = j + 1 := ⟨k - 1, by omega⟩
      have hlt : m < a0.length := by omega
      have e : ((m + 1 : Nat) : Int) - 1 = (m : Int) := by omega
      have e1 := h2 a0[m] (List.getElem_mem hlt)
      rw [← vY hlt] at e1
      have h9 : (0 : Int) ≤ (m : Int) := by omega
      rw [e, qn]
      simp only [yn.b1, h9, decide_true, cond_true, qT hlt, vJ, e1, h1, vR hlt (by omega), VJ]
      rcases qw (QB (a0.getD m default) a1) with hc | hc
      · exact ⟨.inl ((m : Int) + 1), by rw [hc]; rfl, by rw [hc]; rfl⟩
      · obtain ⟨z, hz, hP⟩ := ih k (by omega) (by omega)
        refine ⟨z, ?_, by rw [hc]; exact hP⟩
        rw [hc, wrap_small (n := (m : Int) - 1) (by omega) (by omega)]
        exact hz
  obtain ⟨z, hz, hP⟩ := key a0.length (a0.length + 1) (by omega) (by omega)
  rw [hz]
  exact hP
def stackCode (a : List (List Rec)) : Int := if 4096 < a.length then 2 else if !qO a then 1 else 0
def pathCode (a : List (List Rec)) (p : List UInt8) : Int := if 65536 < p.length then 2 else if stackCode a ≠ 0 then stackCode a else if !qy p then 10 else 0
def cutDepth (a : List (List Rec)) (p : List UInt8) : Int × Int := if pathCode a p = 0 then (jT a p, 0) else (0, pathCode a p)
theorem Yh {a : List (List Rec)} {p : List UInt8} (h : pathCode a p = 0) : qO a = true ∧ qy p = true := by
 unfold pathCode stackCode at h
 by_cases h1 : 65536 < p.length
 ·simp [h1] at h
 ·by_cases h2 : 4096 < a.length
  ·simp [h1, h2] at h
  ·rcases qw (qO a) with h3 | h3
   ·rcases qw (qy p) with h4 | h4
    ·exact ⟨h3, h4⟩
    ·simp [h1, h2, h3, h4] at h
   ·simp [h1, h2, h3] at h
theorem Vr (l : List (List Rec)) : decide ((4096 : Int) < (l.length : Int)) = decide (4096 < l.length) := by rw [decide_eq_decide]; omega
def yL.sh (a0 : List (List Rec)) (a1 : List UInt8) : Option (Int × Int) :=
 bif ((decide (4096 < (a0.length : Int))) || (decide (65536 < (a1.length : Int)))) then (some (0, 2)) else (bif decide (a0.length ≤ 1048576) then (bif decide (∀ l ∈ a0, l.length ≤ 1048576) then (bif decide (∀ l ∈ a0, ∀ x ∈ l, x.path.length ≤ 1048576) then (bif (!(qO a0)) then (some (0, 1)) else (bif (!(qy a1)) then (some (0, 10)) else (bif decide (a0.length ≤ 1048576) then (bif decide (a1.length ≤ 1048576) then (bif decide (∀ l ∈ a0, l.length ≤ 1048576) then (some ((jT a0 a1), 0)) else none) else none) else none))) else none) else none) else none)
theorem yL.eq (a0 : List (List Rec)) (a1 : List UInt8) (h0 : a0.length ≤ 1048576) (h1 : ∀ l ∈ a0, l.length ≤ 1048576) (h2 : ∀ l ∈ a0, ∀ x ∈ l, x.path.length ≤ 1048576) : yL.sh a0 a1 = some ((cutDepth a0 a1).1, (cutDepth a0 a1).2) := by
 unfold yL.sh cutDepth pathCode stackCode
 rw [Vr, len_dec]
 by_cases h : 65536 < a1.length
 ·simp [h]
 ·by_cases h4 : 4096 < a0.length
  ·simp [h, h4]
  ·rcases qw (qO a0) with h3 | h3
   ·rcases qw (qy a1) with h5 | h5
    ·simp [h, h4, h3, h5, h0, decide_eq_true h1, decide_eq_true h2, yi h5]
    ·simp [h, h4, h3, h5, h0, decide_eq_true h1, decide_eq_true h2]
   ·simp [h, h4, h3, h0, decide_eq_true h1, decide_eq_true h2]
def yM.sh (a0 : List (List Rec)) : Option (Bool) :=
 some (decide (4096 < (a0.length : Int)))
theorem yM.eq (a0 : List (List Rec)) : yM.sh a0 = some (decide (4096 < a0.length)) := by
 unfold yM.sh
 rw [Vr]
def yz.sh (a0 : List (List Rec)) : Option (Int) :=
 bif decide (a0.length ≤ 1048576) then (bif decide (∀ l ∈ a0, l.length ≤ 1048576) then (bif decide (∀ l ∈ a0, ∀ x ∈ l, x.path.length ≤ 1048576) then (bif decide (([.inl (decide (4096 < a0.length)), .inr 2, .inl (!(qO a0)), .inr 1] : List (Bool ⊕ Int)).length ≤ 4611686018427387904) then ((some (vu ([.inl (decide (4096 < a0.length)), .inr 2, .inl (!(qO a0)), .inr 1] : List (Bool ⊕ Int)))).bind fun z17 => some z17) else none) else none) else none) else none
theorem yz.eq (a0 : List (List Rec)) (h0 : a0.length ≤ 1048576) (h1 : ∀ l ∈ a0, l.length ≤ 1048576) (h2 : ∀ l ∈ a0, ∀ x ∈ l, x.path.length ≤ 1048576) : yz.sh a0 = some (stackCode a0) := by
 unfold yz.sh stackCode
 simp only [h0, decide_true, cond_true, decide_eq_true h1, decide_eq_true h2, V7, List.length_cons, List.length_nil, vu, Jv, JJ]
 by_cases h : 4096 < a0.length
 ·simp [h]
 ·rcases qw (qO a0) with h3 | h3 <;> simp [h, h3]
def ja.sh (a0 : List (List Rec)) (a1 : List UInt8) : Option (Int) :=
 bif decide (([a1] : List (List UInt8)).length ≤ 4611686018427387904) then (bif decide (a0.length ≤ 1048576) then (bif decide (∀ l ∈ a0, l.length ≤ 1048576) then (bif decide (∀ l ∈ a0, ∀ x ∈ l, x.path.length ≤ 1048576) then (bif decide (a0.length ≤ 1048576) then (bif decide (∀ l ∈ a0, l.length ≤ 1048576) then (bif decide (∀ l ∈ a0, ∀ x ∈ l, x.path.length ≤ 1048576) then (bif decide (([.inl (!decide ((stackCode a0) = 0)), .inr (stackCode a0), .inl (!(qy a1)), .inr 10] : List (Bool ⊕ Int)).length ≤ 4611686018427387904) then ((some (vu ([.inl (!decide ((stackCode a0) = 0)), .inr (stackCode a0), .inl (!(qy a1)), .inr 10] : List (Bool ⊕ Int)))).bind fun z31 => bif decide (([.inl (([a1] : List (List UInt8)).any fun t => decide (65536 < t.length)), .inr 2, .inl true, .inr z31] : List (Bool ⊕ Int)).length ≤ 4611686018427387904) then ((some (vu ([.inl (([a1] : List (List UInt8)).any fun t => decide (65536 < t.length)), .inr 2, .inl true, .inr z31] : List (Bool ⊕ Int)))).bind fun z42 => some z42) else none) else none) else none) else none) else none) else none) else none) else none) else none
theorem ja.eq (a0 : List (List Rec)) (a1 : List UInt8) (h0 : a0.length ≤ 1048576) (h1 : ∀ l ∈ a0, l.length ≤ 1048576) (h2 : ∀ l ∈ a0, ∀ x ∈ l, x.path.length ≤ 1048576) : ja.sh a0 a1 = some (pathCode a0 a1) := by
 unfold ja.sh pathCode
 simp only [h0, decide_true, cond_true, decide_eq_true h1, decide_eq_true h2, V7, List.length_cons, List.length_nil, vu, Jv, JJ, List.any_cons, List.any_nil, Bool.or_false]
 by_cases h : 65536 < a1.length
 ·simp [h]
 ·by_cases hs : stackCode a0 = 0
  ·rcases qw (qy a1) with h3 | h3 <;> simp [h, hs, h3]
  ·simp [h, hs]
def yJ.sh (a0 : List (List Rec)) (a1 : List UInt8) : Option (Int × Int) :=
 bif decide (a0.length ≤ 1048576) then (bif decide (∀ l ∈ a0, l.length ≤ 1048576) then (bif decide (∀ l ∈ a0, ∀ x ∈ l, x.path.length ≤ 1048576) then (bif (!decide ((pathCode a0 a1) = 0)) then (some (0, (pathCode a0 a1))) else (bif decide (a0.length ≤ 1048576) then (bif decide (a1.length ≤ 1048576) then (bif decide (∀ l ∈ a0, l.length ≤ 1048576) then (some ((jT a0 a1), 0)) else none) else none) else none)) else none) else none) else none
theorem yJ.eq (a0 : List (List Rec)) (a1 : List UInt8) (h0 : a0.length ≤ 1048576) (h1 : ∀ l ∈ a0, l.length ≤ 1048576) (h2 : ∀ l ∈ a0, ∀ x ∈ l, x.path.length ≤ 1048576) : yJ.sh a0 a1 = some ((cutDepth a0 a1).1, (cutDepth a0 a1).2) := by
 unfold yJ.sh cutDepth
 by_cases hp : pathCode a0 a1 = 0
 ·have := yi (Yh hp).2
  simp [h0, decide_eq_true h1, decide_eq_true h2, hp, this]
 ·simp [h0, decide_eq_true h1, decide_eq_true h2, hp]
def Vg (t : List Nd) (p : List UInt8) (i : Nat) : Option (Int × Int) :=
 if QS t p < 0 then some (0, 5) else if i = 0 then some (QS t p, 0) else if (gt t (QS t p)).kind ≠ 3 then some (0, 13) else none
def Je (t : List Nd) (way : List (List UInt8)) : Nat → Int × Int
 | 0 => (0, 5)
 | n + 1 => match Vg t (way.getD n []) n with
  | some x => x
  | none => Je t way n
def Vs (t : List Nd) (p : List UInt8) : Int × Int := Je t ([p] ++ jz p) ([p] ++ jz p).length
theorem resGo_some {t : List Nd} {way : List (List UInt8)} {i : Nat} {x : Int × Int} : ∀ m, i < m → Vg t (way.getD i []) i = some x → (∀ j, i < j → j < m → Vg t (way.getD j []) j = none) → Je t way m = x := by
 intro m
 induction m with
 | zero => intro h; omega
 | succ m ih =>
  intro h hc hj
  rw [Je]
  by_cases e : i = m
  ·subst e; rw [hc]
  ·rw [hj m (by omega) (by omega)]; exact ih (by omega) hc fun j h1 h2 => hj j h1 (by omega)
def JA (t : List Nd) : List UInt8 → List (List UInt8) → Nd × Int
 | _, [] => (⟨0, [], [], 0⟩, 5)
 | p, x :: l => if QS t (Jk p x) < 0 then (⟨0, [], [], 0⟩, 5) else if l = [] then (gt t (QS t (Jk p x)), 0) else if (gt t (QS t (Jk p x))).kind ≠ 3 then (⟨0, [], [], 0⟩, 13) else JA t (Jk p x) l
def findNd (t : List Nd) (p : List UInt8) : Nd × Int := JA t [] (cut 47 p)
theorem findN_inR {t : List Nd} {p : List UInt8} (h : ¬ QS t p < 0) : inR (QS t p) t.length = true := QU (by omega) (findN_lt t p)
theorem GL (p x : List UInt8) (l : List (List UInt8)) : preL p (x :: l) = (p ++ x) :: l := rfl
theorem Qj {b : UInt8} {l : List UInt8} (h : bn b ≠ 47) : cut 47 (b :: l) = preL [b] (cut 47 l) := by rw [cut, if_neg h]
theorem Qm {b : UInt8} {l : List UInt8} (h : bn b = 47) : cut 47 (b :: l) = [] :: cut 47 l := by rw [cut, if_pos h]
theorem JW : bn (47 : UInt8) = 47 := rfl
def ym : List (List UInt8) → List UInt8
 | [] => []
 | [x] => x
 | x :: y :: l => x ++ 47 :: ym (y :: l)
theorem QD (x : List UInt8) {l : List (List UInt8)} (h : l ≠ []) : ym (x :: l) = x ++ 47 :: ym l := by
 cases l with
 | nil => exact absurd rfl h
 | cons y l => rfl
theorem joinL_preL (p : List UInt8) (l : List (List UInt8)) (h : l ≠ []) : ym (preL p l) = p ++ ym l := by
 cases l with
 | nil => exact absurd rfl h
 | cons x l =>
  rw [GL]
  cases l with
  | nil => rfl
  | cons y l => simp [ym]
theorem Qn (t : List UInt8) : ym (cut 47 t) = t := by
 induction t with
 | nil => rfl
 | cons b l ih =>
  by_cases h : bn b = 47
  ·have hb : b = 47 := by
    apply UInt8.toNat.inj
    show b.toNat = 47
    unfold bn at h; omega
   rw [Qm h, QD _ (jF 47 l), ih, hb]; rfl
  ·rw [Qj h, joinL_preL _ _ (jF 47 l), ih]; rfl
theorem cut_free {x : List UInt8} (h : ∀ b ∈ x, bn b ≠ 47) : cut 47 x = [x] := by
 induction x with
 | nil => rfl
 | cons b l ih =>
  rw [Qj (h b (by simp)), ih (fun c hc => h c (by simp [hc]))]; rfl
theorem cut_app {x t : List UInt8} (h : ∀ b ∈ x, bn b ≠ 47) : cut 47 (x ++ 47 :: t) = x :: cut 47 t := by
 induction x with
 | nil => exact Qm JW
 | cons b l ih =>
  rw [List.cons_append, Qj (h b (by simp)), ih (fun c hc => h c (by simp [hc]))]; rfl
theorem Yc (t : List UInt8) : ∀ x ∈ cut 47 t, ∀ b ∈ x, bn b ≠ 47 := by
 induction t with
 | nil => intro x hx; simp [cut] at hx; subst hx; simp
 | cons b l ih =>
  by_cases h : bn b = 47
  ·rw [Qm h]
   intro x hx
   rcases List.mem_cons.1 hx with rfl | hx
   ·simp
   ·exact ih x hx
  ·rw [Qj h]
   cases hc : cut 47 l with
   | nil => exact absurd hc (jF 47 l)
   | cons y r =>
    rw [hc] at ih
    rw [GL]
    intro x hx
    rcases List.mem_cons.1 hx with rfl | hx
    ·intro c hcx
     rcases List.mem_append.1 hcx with h2 | h2
     ·simp at h2; subst h2; exact h
     ·exact ih y (by simp) c h2
    ·exact ih x (by simp [hx])
theorem YX {l : List (List UInt8)} (hn : l ≠ []) (h : ∀ x ∈ l, ∀ b ∈ x, bn b ≠ 47) : cut 47 (ym l) = l := by
 induction l with
 | nil => exact absurd rfl hn
 | cons x l ih =>
  by_cases hl : l = []
  ·subst hl; exact cut_free (h x (by simp))
  ·rw [QD x hl, cut_app (h x (by simp)), ih hl (fun y hy => h y (by simp [hy]))]
theorem cut_inj {a b : List UInt8} (h : cut 47 a = cut 47 b) : a = b := by rw [← Qn a, ← Qn b, h]
theorem Gx (x t : List UInt8) (ht : ∀ b ∈ t, bn b ≠ 47) : vg (x ++ 47 :: t) = x.length := by
 apply Vw (by simp) (by simp [List.getD_eq_getElem?_getD]; exact JW)
 intro j h1 h2
 obtain ⟨m, rfl⟩ : ∃ m, j = x.length + 1 + m := ⟨j - x.length - 1, by omega⟩
 have h3 : m < t.length := by simp at h2; omega
 have : (x ++ 47 :: t).getD (x.length + 1 + m) 0 = t[m] := by
  have e : x.length + 1 + m - x.length = m + 1 := by omega
  rw [List.getD_eq_getElem?_getD, List.getElem?_append_right (by omega), e, List.getElem?_cons_succ, List.getElem?_eq_getElem h3]; rfl
 rw [this]
 exact ht _ (List.getElem_mem h3)
theorem Vu {l : List (List UInt8)} (x : List UInt8) (h : l ≠ []) : ym (l ++ [x]) = ym l ++ 47 :: x := by
 induction l with
 | nil => exact absurd rfl h
 | cons y l ih =>
  by_cases hl : l = []
  ·subst hl; rfl
  ·rw [List.cons_append, QD y (by simp), ih hl, QD y hl]; simp
theorem Yi {l : List (List UInt8)} {x : List UInt8} (h : ∀ y ∈ l ++ [x], ∀ b ∈ y, bn b ≠ 47) : qb (ym (l ++ [x])) = ym l := by
 by_cases hl : l = []
 ·subst hl
  have : vg x = -1 := VE fun j hj => h x (by simp) _ (by rw [List.getD_eq_getElem?_getD, List.getElem?_eq_getElem hj]; exact List.getElem_mem hj)
  simp [qb, ym, this]
 ·rw [Vu x hl, qb, Gx _ _ (fun b hb => h x (by simp) b hb)]
  simp
theorem X3 (t : List UInt8) : qb t = ym (cut 47 t).dropLast := by
 obtain ⟨l, x, hlx⟩ : ∃ l x, cut 47 t = l ++ [x] := ⟨(cut 47 t).dropLast, (cut 47 t).getLast (jF 47 t), (List.dropLast_concat_getLast (jF 47 t)).symm⟩
 have hp := Yc t
 have := Yi (l := l) (x := x) (by rw [← hlx]; exact hp)
 rw [hlx, List.dropLast_concat, ← this, ← hlx, Qn]
theorem YU {t : List UInt8} (h : qy t = true) : ∀ x ∈ cut 47 t, x ≠ [] := by
 simp only [qy, Bool.and_eq_true, decide_eq_true_eq, List.all_eq_true] at h
 intro x hx he
 have := h.2.2 x hx
 rw [he] at this
 revert this; decide
theorem XB {l : List (List UInt8)} (h : l ≠ []) (hp : ∀ x ∈ l, x ≠ []) : ym l ≠ [] := by
 cases l with
 | nil => exact absurd rfl h
 | cons x l =>
  have := hp x (by simp)
  cases l with
  | nil => simpa [ym] using this
  | cons y l => simp [ym]
theorem X0 {l : List (List UInt8)} (x : List UInt8) (hp : ∀ y ∈ l, y ≠ []) : Jk (ym l) x = ym (l ++ [x]) := by
 by_cases hl : l = []
 ·subst hl; simp [Jk, ym]
 ·rw [Jk, if_neg (XB hl hp), Vu x hl]; simp
theorem ancs_joinL : ∀ (n : Nat) (l : List (List UInt8)), l.length = n → (∀ y ∈ l, ∀ b ∈ y, bn b ≠ 47) → (∀ y ∈ l, y ≠ []) → jz (ym l) = ((List.range (l.length - 1)).map fun k => ym (l.take (k + 1))).reverse := by
 intro n
 induction n with
 | zero => intro l hl _ _; have : l = [] := List.eq_nil_of_length_eq_zero hl; subst this; rfl
 | succ n ih =>
  intro l hl hp hn
  have hne : l ≠ [] := by intro e; subst e; simp at hl
  obtain ⟨m, x, rfl⟩ : ∃ m x, l = m ++ [x] := ⟨l.dropLast, l.getLast hne, (List.dropLast_concat_getLast hne).symm⟩
  rw [jJ, Yi hp]
  have hm : m.length = n := by simpa using hl
  by_cases hm0 : m = []
  ·subst hm0; simp [ym]
  ·have hpm : ∀ y ∈ m, y ≠ [] := fun y hy => hn y (by simp [hy])
   rw [if_neg (XB hm0 hpm), ih m hm (fun y hy => hp y (by simp [hy])) hpm]
   have hml : 0 < m.length := List.length_pos_iff.2 hm0
   have e1 : (m ++ [x]).length - 1 = (m.length - 1) + 1 := by simp; omega
   rw [e1, List.range_succ, List.map_append, List.reverse_append]
   simp only [List.map_cons, List.map_nil, List.reverse_cons, List.reverse_nil, List.nil_append, List.cons_append]
   congr 1
   ·have e2 : m.length - 1 + 1 = m.length := by omega
    rw [e2, List.take_left]
   ·congr 1
    apply List.map_congr_left
    intro k hk
    have := List.mem_range.1 hk
    rw [List.take_append_of_le_length (by omega)]
theorem Xs {t : List UInt8} (h : qy t = true) : jz t = ((List.range ((cut 47 t).length - 1)).map fun k => ym ((cut 47 t).take (k + 1))).reverse := by
 have := ancs_joinL _ (cut 47 t) rfl (Yc t) (YU h)
 rwa [Qn] at this
theorem way_cut {t : List UInt8} (h : qy t = true) : [t] ++ jz t = ((List.range (cut 47 t).length).map fun k => ym ((cut 47 t).take (k + 1))).reverse := by
 have hl : 0 < (cut 47 t).length := List.length_pos_iff.2 (jF 47 t)
 have e : (cut 47 t).length = ((cut 47 t).length - 1) + 1 := by omega
 rw [Xs h]
 conv => rhs; rw [e, List.range_succ, List.map_append, List.reverse_append]
 simp only [List.map_cons, List.map_nil, List.reverse_cons, List.reverse_nil, List.nil_append, List.cons_append]
 congr 1
 have e2 : (cut 47 t).length - 1 + 1 = (cut 47 t).length := by omega
 rw [e2, List.take_length, Qn]
theorem Xf {t : List Nd} {p : List UInt8} (h : qy p = true) : findNd t p = (if (Vs t p).2 = 0 then gt t (Vs t p).1 else ⟨0, [], [], 0⟩, (Vs t p).2) := by
 have hway := way_cut h
 have hparts := YU h
 unfold findNd Vs
 rw [hway]
 have hlen : (((List.range (cut 47 p).length).map fun k => ym ((cut 47 p).take (k + 1))).reverse).length = (cut 47 p).length := by simp
 rw [hlen]
 have key : ∀ (d i : Nat), i + d = (cut 47 p).length → 0 < d ∨ i = 0 → JA t (ym ((cut 47 p).take i)) ((cut 47 p).drop i) =
   (if (Je t (((List.range (cut 47 p).length).map fun k => ym ((cut 47 p).take (k + 1))).reverse) d).2 = 0 then gt t (Je t (((List.range (cut 47 p).length).map fun k => ym ((cut 47 p).take (k + 1))).reverse) d).1 else ⟨0, [], [], 0⟩,
    (Je t (((List.range (cut 47 p).length).map fun k => ym ((cut 47 p).take (k + 1))).reverse) d).2) := by
  intro d
  induction d with
  | zero =>
   intro i hi h0
   exfalso
   have := List.length_pos_iff.2 (jF 47 p)
   omega
  | succ d ih =>
   intro i hi _
   have hlt : i < (cut 47 p).length := by omega
   have hw : (((List.range (cut 47 p).length).map fun k => ym ((cut 47 p).take (k + 1))).reverse).getD d [] = ym ((cut 47 p).take (i + 1)) := by
    have h1 : d < (((List.range (cut 47 p).length).map fun k => ym ((cut 47 p).take (k + 1))).reverse).length := by rw [hlen]; omega
    rw [List.getD_eq_getElem?_getD, List.getElem?_eq_getElem h1]
    simp only [List.getElem_reverse, List.getElem_map, List.getElem_range, List.length_map, List.length_range, Option.getD_some]
    congr 2; omega
   have hj : Jk (ym ((cut 47 p).take i)) (cut 47 p)[i] = ym ((cut 47 p).take (i + 1)) := by
    rw [X0 _ (fun y hy => hparts y (List.mem_of_mem_take hy)), List.take_succ_eq_append_getElem hlt]
   rw [List.drop_eq_getElem_cons hlt, JA, hj, Je, hw]
   obtain ⟨q, hq⟩ : ∃ q, ym ((cut 47 p).take (i + 1)) = q := ⟨_, rfl⟩
   rw [hq]
   unfold Vg
   by_cases h1 : QS t q < 0
   ·simp [h1]
   ·simp only [h1, if_false]
    by_cases hd : d = 0
    ·have hnil : (cut 47 p).drop (i + 1) = [] := List.drop_of_length_le (by omega)
     simp [hd, hnil]
    ·have hnil : ¬ (cut 47 p).drop (i + 1) = [] := by
      intro e
      have := congrArg List.length e
      simp at this; omega
     simp only [hnil, hd, if_false]
     by_cases h3 : (gt t (QS t q)).kind = 3
     ·simp only [h3, ne_eq, not_true_eq_false, if_false]
      rw [← hq]
      exact ih (i + 1) (by omega) (.inl (by omega))
     ·simp [h3]
 have := key (cut 47 p).length 0 (by omega) (.inr rfl)
 simpa [ym] using this
end Go.UL
