import Derived.Test.YtdhmlillkbjjjaaGreatDoorwP9
set_option linter.unusedVariables false
set_option linter.unusedSimpArgs false
namespace Go.UL
open Go.RowKit
def yX (l : List Nd) (p : List UInt8) : Int := jd (fun r => decide (r.path = p)) l
def vH.b1 (a0 : List Nd) (a1 : List Nd) : Int → Option (Step (Bool) (Int) (Unit)) :=
 fun x5_2 => bif (decide (x5_2 < (a0.length : Int))) then (bif inR x5_2 a0.length then (bif inR x5_2 a1.length then (bif (!(decide ((gt a0 x5_2) = (gt a1 x5_2)))) then (some (.ret false)) else (some (.nxt (IntKind.wrap .i64 (x5_2 + 1))))) else none) else none) else (some (.brk ()))
def vH.sh (k : Nat) (a0 : List Nd) (a1 : List Nd) : Option (Bool) :=
  bif (!decide ((a0.length : Int) = (a1.length : Int))) then (some false) else ((qr (vH.b1 a0 a1) k 0).bind fun z => match z with | .inl t => some t | .inr _ => some true)
theorem vH.eq (a0 a1 : List Nd) (h : a0.length ≤ 4611686018427387904) : ∃ k, vH.sh k a0 a1 = some (decide (a0 = a1)) := by
 refine ⟨a0.length + 1, ?_⟩
 unfold vH.sh
 by_cases hl : a0.length = a1.length
 ·rw [eq_run a0 a1 (vH.b1 a0 a1) hl (fun i hi => by
   have hi2 : i < a1.length := by omega
   simp only [vH.b1, yy, hi, decide_true, cond_true, qX hi, qX hi2, yh, vz hi h]
   by_cases he : a0.getD i default = a1.getD i default
   ·simp only [he, decide_true, Bool.not_true, cond_false, if_true]
   ·simp only [he, decide_false, Bool.not_false, cond_true, if_false]) (by simp [vH.b1])]
  have : (a0.length : Int) = (a1.length : Int) := by omega
  by_cases he : a0 = a1 <;> simp [this, he]
 ·have h1 : ¬ (a0.length : Int) = (a1.length : Int) := by omega
  have h2 : a0 ≠ a1 := fun e => hl (by rw [e])
  simp [h1, h2]
def recOf (n : Nd) : Rec := ⟨n.kind, n.path, n.body, n.mode, false⟩
def j0 (r : Rec) : Nd := ⟨r.kind, r.path, r.body, r.mode⟩
def QR (n : Nd) : Bool := decide (qB (recOf n) = 0) && !decide (n.kind = 4)
def isDirN (t : List Nd) (p : List UInt8) : Bool := decide (p = []) || (decide (0 ≤ yX t p) && decide ((gt t (yX t p)).kind = 3))
def Yf (l : List Nd) (i : Nat) : Bool :=
 QR (l.getD i default) && (decide (i = 0) || vo (cut 47 (l.getD (i - 1) default).path) (cut 47 (l.getD i default).path)) && isDirN (l.take i) (qd (l.getD i default).path)
theorem Vl {n : Nd} (h : QR n = true) : qz n.path = true := by
 simp only [QR, Bool.and_eq_true, decide_eq_true_eq] at h
 exact yw h.1
theorem gtake {α : Type} [Inhabited α] (l : List α) (i : Nat) (k : Int) (h0 : 0 ≤ k) (h : k < (l.take i).length) : gt (l.take i) k = gt l k := by
 obtain ⟨n, rfl⟩ : ∃ n : Nat, k = n := ⟨k.toNat, by omega⟩
 have : n < i ∧ n < l.length := by simp at h; omega
 simp only [yh, List.getD_eq_getElem?_getD, List.getElem?_take, this.1, if_true]
theorem findN_lt (l : List Nd) (p : List UInt8) : yX l p < l.length := Yj _ _
theorem JL {α β T : Type} (xs : List α) (g : α → Option β) (b : List β × Int → Option (Step T (List β × Int) (List β)))
  (hb : ∀ (i : Nat) (h : i < xs.length) (acc : List β), acc.length ≤ i → b (acc, (i : Int)) = some (.nxt (acc ++ (g xs[i]).toList, (i : Int) + 1))) (hn : ∀ acc : List β, b (acc, (xs.length : Int)) = some (.brk acc)) :
  qr b (xs.length + 1) ([], 0) = some (.inr (xs.filterMap g)) := by
 have key : ∀ d i k (acc : List β), i + d = xs.length → d < k → acc.length ≤ i → qr b k (acc, (i : Int)) = some (.inr (acc ++ (xs.drop i).filterMap g)) := by
  intro d
  induction d with
  | zero =>
   intro i k acc hi hk _
   obtain ⟨k, rfl⟩ : ∃ j, k = j + 1 := ⟨k - 1, by omega⟩
   have : i = xs.length := by omega
   subst this
   simp [qr, hn]
  | succ d ih =>
   intro i k acc hi hk ha
   obtain ⟨k, rfl⟩ : ∃ j, k = j + 1 := ⟨k - 1, by omega⟩
   have hlt : i < xs.length := by omega
   rw [qr, hb i hlt acc ha]
   simp only [Option.bind_some]
   have hl : (acc ++ (g xs[i]).toList).length ≤ i + 1 := by cases g xs[i] <;> simp <;> omega
   have := ih (i + 1) k (acc ++ (g xs[i]).toList) (by omega) (by omega) hl
   rw [Int.natCast_add, Int.natCast_one] at this
   have e : (xs.drop i).filterMap g = (g xs[i]).toList ++ (xs.drop (i + 1)).filterMap g := by
    rw [List.drop_eq_getElem_cons hlt, List.filterMap_cons]
    cases g xs[i] <;> rfl
   rw [e, ← List.append_assoc]
   exact this
 have := key xs.length 0 (xs.length + 1) [] (by omega) (by omega) (by simp)
 simpa using this
theorem ym {α : Type} [Inhabited α] {l : List α} {i : Nat} (h : i < l.length) : l.getD i default = l[i] := by simp [List.getD_eq_getElem?_getD, List.getElem?_eq_getElem h]
theorem jE {t : List UInt8} (h : t ≠ []) : (qd t).length < t.length := by
 have h1 := Y3 t
 have h2 := Jm t
 have h3 : 0 < t.length := by cases t with | nil => exact absurd rfl h | cons _ _ => simp
 simp [qd]; omega
def Y0 : Nat → List UInt8 → List (List UInt8)
 | 0, _ => []
 | n + 1, t => if qd t = [] then [] else qd t :: Y0 n (qd t)
def vx (t : List UInt8) : List (List UInt8) := Y0 t.length t
theorem y7 : qd [] = [] := rfl
theorem ancsF_succ : ∀ (c : Nat) (v : List UInt8), v.length ≤ c → Y0 c v = Y0 (c + 1) v := by
 intro c
 induction c with
 | zero => intro v hv; have : v = [] := List.eq_nil_of_length_eq_zero (by omega); subst this; simp [Y0, y7]
 | succ c ihc =>
  intro v hv
  rw [Y0, Y0]
  by_cases hpv : qd v = []
  ·simp [hpv]
  ·simp only [hpv, if_false]
   have hvne : v ≠ [] := by intro e; subst e; exact hpv y7
   have := jE hvne
   rw [ihc (qd v) (by omega)]
theorem Jc (d : Nat) (t : List UInt8) : Y0 (t.length + d) t = vx t := by
 induction d with
 | zero => rfl
 | succ d ih => rw [← ih, show t.length + (d + 1) = (t.length + d) + 1 by omega]; exact (ancsF_succ _ _ (by omega)).symm
theorem jp (t : List UInt8) : vx t = if qd t = [] then [] else qd t :: vx (qd t) := by
 have h := Jc 1 t
 rw [← h, Y0]
 by_cases hp : qd t = []
 ·simp [hp]
 ·simp only [hp, if_false]
  have hne : t ≠ [] := by intro e; subst e; exact hp y7
  have := jE hne
  have h2 := Jc (t.length - (qd t).length) (qd t)
  rw [show (qd t).length + (t.length - (qd t).length) = t.length by omega] at h2
  rw [h2]
theorem ancs_bound : ∀ (n : Nat) (t : List UInt8), t.length ≤ n → (vx t).length ≤ t.length ∧ ∀ x ∈ vx t, x.length ≤ t.length ∧ x ≠ [] := by
 intro n
 induction n with
 | zero => intro t h; have : t = [] := List.eq_nil_of_length_eq_zero (by omega); subst this; exact ⟨by decide, by intro x hx; have e : vx [] = [] := rfl; rw [e] at hx; cases hx⟩
 | succ n ih =>
  intro t h
  rw [jp]
  by_cases hp : qd t = []
  ·simp [hp]
  ·have hne : t ≠ [] := by intro e; subst e; exact hp y7
   have hlt := jE hne
   obtain ⟨h1, h2⟩ := ih (qd t) (by omega)
   simp only [hp, if_false, List.length_cons, List.mem_cons]
   refine ⟨by omega, ?_⟩
   rintro x (rfl | hx)
   ·exact ⟨by omega, hp⟩
   ·have := h2 x hx; exact ⟨by omega, this.2⟩
theorem XP (t : List UInt8) : (vx t).length ≤ t.length := (ancs_bound _ t (Nat.le_refl _)).1
theorem anc_run (q : List UInt8 → Bool) (b : List UInt8 → Option (Step Bool (List UInt8) Unit)) (hb : ∀ x : List UInt8, x ≠ [] → x.length ≤ 1048576 → b x = some (if q x then .ret true else .nxt (qd x))) (hn : b [] = some (.brk ())) :
  ∀ (n : Nat) (t : List UInt8) (k : Nat), (qd t).length ≤ n → n < k → (qd t).length ≤ 1048576 → qr b k (qd t) = some (if (vx t).any q then .inl true else .inr ()) := by
 intro n
 induction n with
 | zero =>
  intro t k h hk _
  obtain ⟨k, rfl⟩ : ∃ j, k = j + 1 := ⟨k - 1, by omega⟩
  have hp : qd t = [] := List.eq_nil_of_length_eq_zero (by omega)
  rw [jp, hp, qr, hn]; simp
 | succ n ih =>
  intro t k h hk hl
  obtain ⟨k, rfl⟩ : ∃ j, k = j + 1 := ⟨k - 1, by omega⟩
  by_cases hp : qd t = []
  ·rw [jp, hp, qr, hn]; simp
  ·rw [jp, qr, hb _ hp hl]
   have hlt := jE hp
   simp only [hp, if_false, List.any_cons]
   rcases qw (q (qd t)) with hq | hq
   ·simp [hq]
   ·simp only [hq, Bool.false_eq_true, if_false, Option.bind_some, Bool.false_or]
    exact ih (qd t) k (by omega) (by omega) (by omega)
def yT (r : Rec) : Bool := !decide (r.kind = 3) || r.opq
def vq (l : List Rec) (p : List UInt8) : Bool := (vx p).any fun x => decide (0 ≤ qJ l x) && (gt l (qJ l x)).opq
def Qf (l : List Rec) (p : List UInt8) : Bool := (vx p).any fun x => decide (0 ≤ qJ l x) && yT (gt l (qJ l x))
def VK (l : List Rec) (h : Rec → Option Bool) (p : List UInt8) : Option Bool := (h (gt l (qJ l p))).bind fun z => some (decide (0 ≤ qJ l p) && z)
theorem JB {l : List Rec} {p : List UInt8} (h : 0 ≤ qJ l p) : inR (qJ l p) l.length = true := findR_in (by omega)
def vK.b1 (a0 : List Rec) : List UInt8 → Option (Step (Bool) (List UInt8) (Unit)) :=
 fun x5_4 => bif (!decide (x5_4 = ([] : List UInt8))) then (bif decide (a0.length ≤ 1048576) then (((bif (decide (0 ≤ (qJ a0 x5_4))) then (bif inR (qJ a0 x5_4) a0.length then (some ((gt a0 (qJ a0 x5_4)).opq)) else none) else some false)).bind fun z26 => bif z26 then (some (.ret true)) else (bif decide (x5_4.length ≤ 4611686018427387904) then (some (.nxt (qd x5_4))) else none)) else none) else (some (.brk ()))
def vK.sh (k : Nat) (a0 : List Rec) (a1 : List UInt8) : Option (Bool) :=
  bif decide (a1.length ≤ 4611686018427387904) then ((qr (vK.b1 a0) k (qd a1)).bind fun z => match z with | .inl t => some t | .inr _ => some false) else none
theorem vK.eq (a0 : List Rec) (a1 : List UInt8) (h0 : a0.length ≤ 1048576) (h1 : a1.length ≤ 1048576) : ∃ k, vK.sh k a0 a1 = some (vq a0 a1) := by
 refine ⟨a1.length + 1, ?_⟩
 have hl := V5 a1
 have h2 : a1.length ≤ 4611686018427387904 := by omega
 unfold vK.sh
 rw [anc_run (fun x => decide (0 ≤ qJ a0 x) && (gt a0 (qJ a0 x)).opq) (vK.b1 a0) (fun x hx hx2 => by
  have h3 : x.length ≤ 4611686018427387904 := by omega
  simp only [vK.b1, hx, decide_false, Bool.not_false, cond_true, h0, decide_true, h3]
  by_cases hk : 0 ≤ qJ a0 x
  ·simp only [hk, decide_true, cond_true, JB hk, Bool.true_and, Option.bind_some]
   cases (gt a0 (qJ a0 x)).opq <;> simp
  ·simp [hk]) (by simp [vK.b1]) a1.length a1 (a1.length + 1) hl (by omega) (by omega)]
 simp only [h2, decide_true, cond_true, Option.bind_some]
 unfold vq
 cases (vx a1).any fun x => decide (0 ≤ qJ a0 x) && (gt a0 (qJ a0 x)).opq <;> simp
def vd.b1  : List UInt8 × List (List UInt8) → Option (Step (List (List UInt8)) (List UInt8 × List (List UInt8)) (List (List UInt8))) :=
 fun q => match q with
 | (x0_10, x3_11) => bif (!decide (x0_10 = ([] : List UInt8))) then (bif decide ((x3_11.length + ([x0_10] : List (List UInt8)).length) * 16 ≤ 140737488355328) then (bif decide (x0_10.length ≤ 1048576) then (some (.nxt ((qd x0_10), x3_11 ++ ([x0_10] : List (List UInt8))))) else none) else none) else (some (.brk x3_11))
def vd.sh (k : Nat) (a0 : List UInt8) : Option (List (List UInt8)) :=
  bif decide (a0.length ≤ 1048576) then ((qr (vd.b1) k ((qd a0), ([] : List (List UInt8)))).bind fun z => match z with | .inl t => some t | .inr x3_16 => some x3_16) else none
theorem vd.eq (a0 : List UInt8) (h0 : a0.length ≤ 1048576) : ∃ k, vd.sh k a0 = some (vx a0) := by
 refine ⟨a0.length + 1, ?_⟩
 have key : ∀ (n : Nat) (t : List UInt8) (k : Nat) (acc : List (List UInt8)), (qd t).length ≤ n → n < k → acc.length + (qd t).length ≤ 1048576 → qr vd.b1 k (qd t, acc) = some (.inr (acc ++ vx t)) := by
  intro n
  induction n with
  | zero =>
   intro t k acc h hk _
   obtain ⟨k, rfl⟩ : ∃ j, k = j + 1 := ⟨k - 1, by omega⟩
   have hp : qd t = [] := List.eq_nil_of_length_eq_zero (by omega)
   rw [jp, hp, qr]; simp [vd.b1]
  | succ n ih =>
   intro t k acc h hk hl
   obtain ⟨k, rfl⟩ : ∃ j, k = j + 1 := ⟨k - 1, by omega⟩
   by_cases hp : qd t = []
   ·rw [jp, hp, qr]; simp [vd.b1]
   ·have hlt := jE hp
    have e1 : (acc.length + ([qd t] : List (List UInt8)).length) * 16 ≤ 140737488355328 := by simp; omega
    have e2 : (qd t).length ≤ 1048576 := by omega
    rw [jp t, qr]
    simp only [vd.b1, hp, decide_false, Bool.not_false, cond_true, e1, e2, decide_true, if_false, Option.bind_some]
    have := ih (qd t) k (acc ++ [qd t]) (by omega) (by omega) (by simp; omega)
    rw [show qr vd.b1 k (qd (qd t), acc ++ [qd t]) = _ from this]
    simp
 have hl := V5 a0
 unfold vd.sh
 rw [key a0.length a0 (a0.length + 1) [] hl (by omega) (by simp; omega)]
 simp [h0]
def yO.sh (a0 : List UInt8) (a1 : List Rec) (a2 : Rec → Option Bool) : Option (Bool) :=
 bif decide (a1.length ≤ 1048576) then (bif (!(decide (0 ≤ (qJ a1 a0))) || (inR (qJ a1 a0) a1.length)) then ((a2 (gt a1 (qJ a1 a0))).bind fun z7 => some ((decide (0 ≤ (qJ a1 a0))) && z7)) else none) else none
theorem yO.eq (a0 : List UInt8) (a1 : List Rec) (a2 : Rec → Option Bool) (h0 : a1.length ≤ 1048576) {r : Bool} (H : VK a1 a2 a0 = some r) : yO.sh a0 a1 a2 = some r := by
 unfold yO.sh
 have h1 : (!decide (0 ≤ qJ a1 a0) || inR (qJ a1 a0) a1.length) = true := by
  by_cases hk : 0 ≤ qJ a1 a0
  ·simp [JB hk]
  ·simp [hk]
 rw [h1]
 simp only [h0, decide_true, cond_true]
 exact H
def jv.sh (a0 : List Rec) (a1 : List UInt8) (a2 : Rec → Option Bool) : Option (Bool) :=
 bif decide (a1.length ≤ 1048576) then (bif decide ((vx a1).length ≤ 4611686018427387904) then (((Vz (fun (x0_ : List UInt8) => bif decide (a0.length ≤ 1048576) then (VK a0 a2 x0_) else none) (vx a1))).bind fun z23 => some z23) else none) else none
theorem jv.eq (a0 : List Rec) (a1 : List UInt8) (a2 : Rec → Option Bool) (h0 : a0.length ≤ 1048576) (h1 : a1.length ≤ 1048576) {r : Bool} (H : Vz (VK a0 a2) (vx a1) = some r) : jv.sh a0 a1 a2 = some r := by
 have hl := XP a1
 have h2 : (vx a1).length ≤ 4611686018427387904 := by omega
 unfold jv.sh
 simp only [h0, h1, h2, decide_true, cond_true]
 rw [show (Vz (fun (x0_ : List UInt8) => VK a0 a2 x0_) (vx a1)) = some r from H]; rfl
theorem anyO_above (l : List Rec) (q : Rec → Bool) (p : List UInt8) : Vz (VK l (fun x => some (q x))) (vx p) = some ((vx p).any fun x => decide (0 ≤ qJ l x) && q (gt l (qJ l x))) := anyO_some fun x _ => rfl
def vO.sh (a0 : Rec) : Option (Bool) :=
 some a0.opq
theorem vO.eq (a0 : Rec) : vO.sh a0 = some a0.opq := rfl
def yL.sh (a0 : List Rec) (a1 : List UInt8) : Option (Bool) :=
 bif decide (a0.length ≤ 1048576) then (bif decide (a1.length ≤ 1048576) then (((Vz (VK a0 (fun (x0_ : Rec) => some x0_.opq)) (vx a1))).bind fun z7 => some z7) else none) else none
theorem yL.eq (a0 : List Rec) (a1 : List UInt8) (h0 : a0.length ≤ 1048576) (h1 : a1.length ≤ 1048576) : yL.sh a0 a1 = some (vq a0 a1) := by
 unfold yL.sh
 simp only [h0, h1, decide_true, cond_true, anyO_above a0 (fun x => x.opq) a1, Option.bind_some]; rfl
theorem QZ {p : List UInt8} (h : qz p = true) : p.length ≤ 1048576 := by have := j9 h; omega
theorem j5 {l : List Rec} (h : (qo l).2 = 0) : ∀ i, i < l.length → yx l i = 0 := by
 unfold qo at h
 cases hf : (List.range l.length).findSome? (fun i => if yx l i = 0 then none else some ((i : Int), yx l i)) with
 | none =>
  intro i hi
  have := List.findSome?_eq_none_iff.1 hf i (List.mem_range.2 hi)
  by_cases hc : yx l i = 0
  ·exact hc
  ·simp [hc] at this
 | some x =>
  rw [hf] at h
  obtain ⟨i, _, hi⟩ := List.exists_of_findSome?_eq_some hf
  by_cases hc : yx l i = 0
  ·simp [hc] at hi
  ·simp only [hc, if_false, Option.some.injEq] at hi
   subst hi
   exact absurd h hc
theorem GH {l : List Rec} (h : ∀ i, i < l.length → yx l i = 0) : qo l = (0, 0) := by
 unfold qo
 have : (List.range l.length).findSome? (fun i => if yx l i = 0 then none else some ((i : Int), yx l i)) = none := by
  apply List.findSome?_eq_none_iff.2
  intro i hi
  simp [h i (List.mem_range.1 hi)]
 rw [this]
theorem JM {l : List Rec} (h : (qo l).2 = 0) : ∀ x ∈ l, qB x = 0 := by
 intro x hx
 obtain ⟨i, hi, rfl⟩ := List.getElem_of_mem hx
 have := J1 (j5 h i hi)
 rwa [ym hi] at this
theorem Qp {l : List Rec} (h : (qo l).2 = 0) : ∀ x ∈ l, qz x.path = true := fun x hx => yw (JM h x hx)
theorem jl {l : List Rec} (h : (qo l).2 = 0) : l.length ≤ 16 := by
 by_cases hc : l.length ≤ 16
 ·exact hc
 ·have := j5 h 16 (by omega)
  simp [yx] at this
theorem VJ {p : List UInt8} (h : qz p = true) : (cut 47 p).length ≤ 4 := by
 simp only [qz, Bool.and_eq_true, decide_eq_true_eq] at h
 exact h.2.1
def yE (l : List Rec) (r : Rec) : Option Rec :=
 if vq l r.path then (if r.kind = 4 then none else some ⟨r.kind, r.path, r.body, r.mode, false⟩) else some ⟨r.kind, r.path, r.body, r.mode, r.opq && decide ((cut 47 r.path).length < 4)⟩
def qb (l : List Rec) : List Rec := l.filterMap (yE l)
theorem YE (l : List Rec) : (qb l).length ≤ l.length := List.length_filterMap_le _ _
def vv.b1 (a0 : List Rec) : List Rec × Int → Option (Step (List Rec) (List Rec × Int) (List Rec)) :=
 fun q => match q with
 | (x3_7, x4_9) => bif (decide (x4_9 < (a0.length : Int))) then (bif inR x4_9 a0.length then (bif decide (a0.length ≤ 1048576) then (bif decide (((gt a0 x4_9).path).length ≤ 1048576) then (bif (!(vq a0 ((gt a0 x4_9).path))) then (((bif ((gt a0 x4_9).opq) then (bif decide (((gt a0 x4_9).path).length ≤ 1048576) then (some (decide (((cut 47 ((gt a0 x4_9).path)).length : Int) < 4))) else none) else some false)).bind fun z49 => bif decide ((x3_7.length + ([(⟨(gt a0 x4_9).kind, (gt a0 x4_9).path, (gt a0 x4_9).body, (gt a0 x4_9).mode, z49⟩ : Rec)] : List Rec).length) * 56 ≤ 140737488355328) then (some (.nxt (x3_7 ++ ([(⟨(gt a0 x4_9).kind, (gt a0 x4_9).path, (gt a0 x4_9).body, (gt a0 x4_9).mode, z49⟩ : Rec)] : List Rec), IntKind.wrap .i64 (x4_9 + 1)))) else none) else (bif (!decide (((gt a0 x4_9).kind) = 4)) then (bif decide ((x3_7.length + ([(⟨(gt a0 x4_9).kind, (gt a0 x4_9).path, (gt a0 x4_9).body, (gt a0 x4_9).mode, false⟩ : Rec)] : List Rec).length) * 56 ≤ 140737488355328) then (some (.nxt (x3_7 ++ ([(⟨(gt a0 x4_9).kind, (gt a0 x4_9).path, (gt a0 x4_9).body, (gt a0 x4_9).mode, false⟩ : Rec)] : List Rec), IntKind.wrap .i64 (x4_9 + 1)))) else none) else (some (.nxt (x3_7, IntKind.wrap .i64 (x4_9 + 1)))))) else none) else none) else none) else (some (.brk x3_7))
def vv.sh (k : Nat) (a0 : List Rec) : Option (List Rec) :=
  (qr (vv.b1 a0) k (([] : List Rec), 0)).bind fun z => match z with | .inl t => some t | .inr x3_13 => some x3_13
theorem vv.eq (a0 : List Rec) (h0 : a0.length ≤ 1048576) (h1 : ∀ x ∈ a0, qz x.path = true) : ∃ k, vv.sh k a0 = some (qb a0) := by
 refine ⟨a0.length + 1, ?_⟩
 unfold vv.sh
 rw [JL a0 (yE a0) (vv.b1 a0) (fun i hi acc ha => by
  have hp := QZ (h1 _ (List.getElem_mem hi))
  have e1 : ∀ z : Rec, (acc.length + ([z] : List Rec).length) * 56 ≤ 140737488355328 := fun z => by simp; omega
  have e4 : decide (((cut 47 a0[i].path).length : Int) < 4) = decide ((cut 47 a0[i].path).length < 4) := by rw [decide_eq_decide]; omega
  simp only [vv.b1, yy, hi, decide_true, cond_true, qX hi, yh, ym hi, h0, hp, e1, e4, vz hi (by omega), yE]
  rcases qw (vq a0 a0[i].path) with hu | hu
  ·by_cases hk : a0[i].kind = 4 <;> simp [hu, hk]
  ·rcases qw a0[i].opq with ho | ho <;> simp [hu, ho]) (fun acc => by simp [vv.b1])]
 simp [qb]
def vl.b1 (a0 : List Rec) : List Rec × Int → Option (Step (List Rec) (List Rec × Int) (List Rec)) :=
 fun q => match q with
 | (x3_7, x10_9) => bif (decide (x10_9 < (a0.length : Int))) then (bif inR x10_9 a0.length then (bif decide (a0.length ≤ 1048576) then (bif decide (((gt a0 x10_9).path).length ≤ 1048576) then (bif ((vq a0 ((gt a0 x10_9).path)) && (decide (((gt a0 x10_9).kind) = 4))) then (some (.nxt (x3_7, IntKind.wrap .i64 (x10_9 + 1)))) else (((bif (vq a0 ((gt a0 x10_9).path)) then some true else (bif decide (((gt a0 x10_9).path).length ≤ 1048576) then (some (decide (((cut 47 ((gt a0 x10_9).path)).length : Int) = 4))) else none))).bind fun z55 => bif z55 then (bif decide ((x3_7.length + ([(⟨(gt a0 x10_9).kind, (gt a0 x10_9).path, (gt a0 x10_9).body, (gt a0 x10_9).mode, false⟩ : Rec)] : List Rec).length) * 56 ≤ 140737488355328) then (some (.nxt (x3_7 ++ ([(⟨(gt a0 x10_9).kind, (gt a0 x10_9).path, (gt a0 x10_9).body, (gt a0 x10_9).mode, false⟩ : Rec)] : List Rec), IntKind.wrap .i64 (x10_9 + 1)))) else none) else (bif decide ((x3_7.length + ([(gt a0 x10_9)] : List Rec).length) * 56 ≤ 140737488355328) then (some (.nxt (x3_7 ++ ([(gt a0 x10_9)] : List Rec), IntKind.wrap .i64 (x10_9 + 1)))) else none))) else none) else none) else none) else (some (.brk x3_7))
def vl.sh (k : Nat) (a0 : List Rec) : Option (List Rec) :=
  (qr (vl.b1 a0) k (([] : List Rec), 0)).bind fun z => match z with | .inl t => some t | .inr x3_13 => some x3_13
theorem vl.eq (a0 : List Rec) (h0 : a0.length ≤ 1048576) (h1 : ∀ x ∈ a0, qz x.path = true) : ∃ k, vl.sh k a0 = some (qb a0) := by
 refine ⟨a0.length + 1, ?_⟩
 unfold vl.sh
 rw [JL a0 (yE a0) (vl.b1 a0) (fun i hi acc ha => by
  have hpo := h1 _ (List.getElem_mem hi)
  have hp := QZ hpo
  have hd := VJ hpo
  have e1 : ∀ z : Rec, (acc.length + ([z] : List Rec).length) * 56 ≤ 140737488355328 := fun z => by simp; omega
  have e4 : decide (((cut 47 a0[i].path).length : Int) = 4) = !decide ((cut 47 a0[i].path).length < 4) := by
   by_cases h : (cut 47 a0[i].path).length < 4
   ·have : ¬ ((cut 47 a0[i].path).length : Int) = 4 := by omega
    simp [h, this]
   ·have : ((cut 47 a0[i].path).length : Int) = 4 := by omega
    simp [h, this]
  simp only [vl.b1, yy, hi, decide_true, cond_true, qX hi, yh, ym hi, h0, hp, e1, e4, vz hi (by omega), yE]
  rcases qw (vq a0 a0[i].path) with hu | hu
  ·by_cases hk : a0[i].kind = 4 <;> simp [hu, hk]
  ·by_cases h4 : (cut 47 a0[i].path).length < 4 <;> simp [hu, h4]) (fun acc => by simp [vl.b1])]
 simp [qb]
def je (a b : List Rec) : Int := if decide (4096 < a.length) || decide (4096 < b.length) then 2 else if !decide ((qo a).2 = 0) || !decide ((qo b).2 = 0) then 1 else 0
theorem YD {a b : List Rec} (h : je a b = 0) : (qo a).2 = 0 ∧ (qo b).2 = 0 := by
 unfold je at h
 split at h
 ·cases h
 ·split at h
  ·cases h
  ·rename_i h1
   simpa using h1
def Xc (k : Int) : Nd := ⟨k, yn (k + 1), yn (k + 2), k + 3⟩
def markR (k : Int) : Rec := ⟨k, yn (k + 1), yn (k + 2), k + 3, decide ((k + 4).tmod 3 = 0)⟩
def y5 (n : Nat) (k : Int) : List Nd := (List.range n).map fun (i : Nat) => Xc (k + ((i * 4 : Nat) : Int))
def marksR (n : Nat) (k : Int) : List Rec := (List.range n).map fun (i : Nat) => markR (k + ((i * 5 : Nat) : Int))
def Ve (xs : List Nd) (k : Int) : Int := if xs = y5 xs.length k then k + 4 * (xs.length : Int) else -1
theorem Yx (n : Nat) (k : Int) : (y5 n k).length = n := by simp [y5]
theorem heldN_marks (n : Nat) (k : Int) : Ve (y5 n k) k = k + 4 * (n : Int) := by
 unfold Ve; rw [Yx]; simp
def qI.b1  : Int × Int × List Nd → Option (Step (Int × List Nd) (Int × Int × List Nd) (Int × List Nd)) :=
 fun q => match q with
 | (x1_1, x5_2, y3) => bif (decide (x5_2 < (y3.length : Int))) then (bif inR x5_2 y3.length then (bif decide (((IntKind.wrap .i64 (x1_1 + 1)) : Int) ≤ 4611686018427387904) then (bif decide (((IntKind.wrap .i64 ((IntKind.wrap .i64 (x1_1 + 1)) + 1)) : Int) ≤ 4611686018427387904) then (some (.nxt (IntKind.wrap .i64 ((IntKind.wrap .i64 ((IntKind.wrap .i64 ((IntKind.wrap .i64 (x1_1 + 1)) + 1)) + 1)) + 1), IntKind.wrap .i64 (x5_2 + 1), QB y3 x5_2 (⟨x1_1, (yn (IntKind.wrap .i64 (x1_1 + 1))), (yn (IntKind.wrap .i64 ((IntKind.wrap .i64 (x1_1 + 1)) + 1))), IntKind.wrap .i64 ((IntKind.wrap .i64 ((IntKind.wrap .i64 (x1_1 + 1)) + 1)) + 1)⟩ : Nd)))) else none) else none) else none) else (some (.brk (x1_1, y3)))
def qI.sh (k : Nat) (a0 : List Nd) (a1 : Int) : Option (Int × List Nd) :=
  (qr (qI.b1) k (a1, 0, a0)).bind fun z => match z with | .inl t => some t | .inr (x1_7, y8) => some (x1_7, y8)
theorem qI.eq (a0 : List Nd) (a1 : Int) (h0 : a0.length ≤ 1152921504606846976) (h1 : 0 ≤ a1) (h2 : a1 ≤ 4611686018427387904 - 4 * a0.length) : ∃ k, qI.sh k a0 a1 = some (a1 + 4 * (a0.length : Int), y5 a0.length a1) := by
 refine ⟨a0.length + 1, ?_⟩
 have := mark_run a0 (fun (i : Nat) => Xc (a1 + ((i * 4 : Nat) : Int))) a1 4 qI.b1 (fun i hi y hy => by
  have e2 : a1 + (((i + 1) * 4 : Nat) : Int) = a1 + ((i * 4 : Nat) : Int) + 4 := by omega
  obtain ⟨c, hc⟩ : ∃ c, a1 + ((i * 4 : Nat) : Int) = c := ⟨_, rfl⟩
  have h3 : 0 ≤ c ∧ c + 4 ≤ 4611686018427387904 := by omega
  have h4 : c + 1 ≤ 4611686018427387904 := by omega
  have h5 : c + 1 + 1 ≤ 4611686018427387904 := by omega
  rw [e2, hc]
  simp only [qI.b1, hy, yy, hi, decide_true, cond_true, qX hi, vz hi (by omega)]
  rw [wrap_small (n := c + 1) (by omega) (by omega), wrap_small (n := c + 1 + 1) (by omega) (by omega), wrap_small (n := c + 1 + 1 + 1) (by omega) (by omega), wrap_small (n := c + 1 + 1 + 1 + 1) (by omega) (by omega)]
  simp only [h4, h5, decide_true, cond_true, Xc]
  have : c + 1 + 1 = c + 2 := by omega
  rw [this]
  have : c + 2 + 1 = c + 3 := by omega
  rw [this]
  have : c + 3 + 1 = c + 4 := by omega
  rw [this]) (fun y hy => by simp [qI.b1, hy])
 unfold qI.sh
 rw [this]
 simp only [Option.bind_some, y5]
 congr 2; omega
def qx.b1  : Int × Int × List Rec → Option (Step (Int × List Rec) (Int × Int × List Rec) (Int × List Rec)) :=
 fun q => match q with
 | (x1_1, x5_2, y3) => bif (decide (x5_2 < (y3.length : Int))) then (bif inR x5_2 y3.length then (bif decide (((IntKind.wrap .i64 (x1_1 + 1)) : Int) ≤ 4611686018427387904) then (bif decide (((IntKind.wrap .i64 ((IntKind.wrap .i64 (x1_1 + 1)) + 1)) : Int) ≤ 4611686018427387904) then (some (.nxt (IntKind.wrap .i64 ((IntKind.wrap .i64 ((IntKind.wrap .i64 ((IntKind.wrap .i64 ((IntKind.wrap .i64 (x1_1 + 1)) + 1)) + 1)) + 1)) + 1), IntKind.wrap .i64 (x5_2 + 1), QB y3 x5_2 (⟨x1_1, (yn (IntKind.wrap .i64 (x1_1 + 1))), (yn (IntKind.wrap .i64 ((IntKind.wrap .i64 (x1_1 + 1)) + 1))), IntKind.wrap .i64 ((IntKind.wrap .i64 ((IntKind.wrap .i64 (x1_1 + 1)) + 1)) + 1), (decide (((IntKind.wrap .i64 ((IntKind.wrap .i64 ((IntKind.wrap .i64 ((IntKind.wrap .i64 (x1_1 + 1)) + 1)) + 1)) + 1)).tmod 3) = 0))⟩ : Rec)))) else none) else none) else none) else (some (.brk (x1_1, y3)))
def qx.sh (k : Nat) (a0 : List Rec) (a1 : Int) : Option (Int × List Rec) :=
  (qr (qx.b1) k (a1, 0, a0)).bind fun z => match z with | .inl t => some t | .inr (x1_7, y8) => some (x1_7, y8)
theorem qx.eq (a0 : List Rec) (a1 : Int) (h0 : a0.length ≤ 576460752303423488) (h1 : 0 ≤ a1) (h2 : a1 ≤ 4611686018427387904 - 5 * a0.length) : ∃ k, qx.sh k a0 a1 = some (a1 + 5 * (a0.length : Int), marksR a0.length a1) := by
 refine ⟨a0.length + 1, ?_⟩
 have := mark_run a0 (fun (i : Nat) => markR (a1 + ((i * 5 : Nat) : Int))) a1 5 qx.b1 (fun i hi y hy => by
  have e2 : a1 + (((i + 1) * 5 : Nat) : Int) = a1 + ((i * 5 : Nat) : Int) + 5 := by omega
  obtain ⟨c, hc⟩ : ∃ c, a1 + ((i * 5 : Nat) : Int) = c := ⟨_, rfl⟩
  have h3 : 0 ≤ c ∧ c + 5 ≤ 4611686018427387904 := by omega
  have h4 : c + 1 ≤ 4611686018427387904 := by omega
  have h5 : c + 1 + 1 ≤ 4611686018427387904 := by omega
  rw [e2, hc]
  simp only [qx.b1, hy, yy, hi, decide_true, cond_true, qX hi, vz hi (by omega)]
  rw [wrap_small (n := c + 1) (by omega) (by omega), wrap_small (n := c + 1 + 1) (by omega) (by omega), wrap_small (n := c + 1 + 1 + 1) (by omega) (by omega), wrap_small (n := c + 1 + 1 + 1 + 1) (by omega) (by omega), wrap_small (n := c + 1 + 1 + 1 + 1 + 1) (by omega) (by omega)]
  simp only [h4, h5, decide_true, cond_true, markR]
  have : c + 1 + 1 = c + 2 := by omega
  rw [this]
  have : c + 2 + 1 = c + 3 := by omega
  rw [this]
  have : c + 3 + 1 = c + 4 := by omega
  rw [this]
  have : c + 4 + 1 = c + 5 := by omega
  rw [this]) (fun y hy => by simp [qx.b1, hy])
 unfold qx.sh
 rw [this]
 simp only [Option.bind_some, marksR]
 congr 2; omega
def qK.b1 (a0 : List Nd) : Int × Int → Option (Step (Int) (Int × Int) (Int)) :=
 fun q => match q with
 | (x1_1, x5_2) => bif (decide (x5_2 < (a0.length : Int))) then (bif inR x5_2 a0.length then (bif (!decide (((gt a0 x5_2).kind) = x1_1)) then (some (.ret (-1))) else (bif inR x5_2 a0.length then (bif decide (((IntKind.wrap .i64 (x1_1 + 1)) : Int) ≤ 4611686018427387904) then (bif (!decide (((gt a0 x5_2).path) = (yn (IntKind.wrap .i64 (x1_1 + 1))))) then (some (.ret (-1))) else (bif inR x5_2 a0.length then (bif decide (((IntKind.wrap .i64 ((IntKind.wrap .i64 (x1_1 + 1)) + 1)) : Int) ≤ 4611686018427387904) then (bif (!decide (((gt a0 x5_2).body) = (yn (IntKind.wrap .i64 ((IntKind.wrap .i64 (x1_1 + 1)) + 1))))) then (some (.ret (-1))) else (bif inR x5_2 a0.length then (bif (!decide (((gt a0 x5_2).mode) = (IntKind.wrap .i64 ((IntKind.wrap .i64 ((IntKind.wrap .i64 (x1_1 + 1)) + 1)) + 1)))) then (some (.ret (-1))) else (some (.nxt (IntKind.wrap .i64 ((IntKind.wrap .i64 ((IntKind.wrap .i64 ((IntKind.wrap .i64 (x1_1 + 1)) + 1)) + 1)) + 1), IntKind.wrap .i64 (x5_2 + 1))))) else none)) else none) else none)) else none) else none)) else none) else (some (.brk x1_1))
def qK.sh (k : Nat) (a0 : List Nd) (a1 : Int) : Option (Int) :=
  (qr (qK.b1 a0) k (a1, 0)).bind fun z => match z with | .inl t => some t | .inr x1_6 => some x1_6
theorem qK.eq (a0 : List Nd) (a1 : Int) (h0 : a0.length ≤ 1152921504606846976) (h1 : 0 ≤ a1) (h2 : a1 ≤ 4611686018427387904 - 4 * a0.length) : ∃ k, qK.sh k a0 a1 = some (Ve a0 a1) := by
 refine ⟨a0.length + 1, ?_⟩
 have := held_run a0 (fun (i : Nat) => Xc (a1 + ((i * 4 : Nat) : Int))) a1 4 (qK.b1 a0) (fun i hi => by
  have e2 : a1 + (((i + 1) * 4 : Nat) : Int) = a1 + ((i * 4 : Nat) : Int) + 4 := by omega
  obtain ⟨c, hc⟩ : ∃ c, a1 + ((i * 4 : Nat) : Int) = c := ⟨_, rfl⟩
  have h3 : 0 ≤ c ∧ c + 4 ≤ 4611686018427387904 := by omega
  have h4 : c + 1 ≤ 4611686018427387904 := by omega
  have h5 : c + 2 ≤ 4611686018427387904 := by omega
  rw [e2, hc]
  simp only [qK.b1, yy, hi, decide_true, cond_true, qX hi, yh, vz hi (by omega)]
  obtain ⟨x, hx⟩ : ∃ x, a0.getD i default = x := ⟨_, rfl⟩
  obtain ⟨f1, f2, f3, f4⟩ := x
  simp only [hx, Xc, Nd.mk.injEq]
  rw [wrap_small (n := c + 1) (by omega) (by omega), wrap_small (n := c + 1 + 1) (by omega) (by omega), wrap_small (n := c + 1 + 1 + 1) (by omega) (by omega), wrap_small (n := c + 1 + 1 + 1 + 1) (by omega) (by omega)]
  have : c + 1 + 1 = c + 2 := by omega
  rw [this]
  have : c + 2 + 1 = c + 3 := by omega
  rw [this]
  have : c + 3 + 1 = c + 4 := by omega
  rw [this]
  simp only [h4, h5, decide_true, cond_true]
  by_cases g1 : f1 = c
  ·by_cases g2 : f2 = yn (c + 1)
   ·by_cases g3 : f3 = yn (c + 2)
    ·by_cases g4 : f4 = c + 3
     ·simp [g1, g2, g3, g4]
     ·simp [g1, g2, g3, g4]
    ·simp [g1, g2, g3]
   ·simp [g1, g2]
  ·simp [g1]) (by simp [qK.b1])
 unfold qK.sh
 rw [this]
 unfold Ve y5
 by_cases he : a0 = (List.range a0.length).map fun (i : Nat) => Xc (a1 + ((i * 4 : Nat) : Int))
 ·rw [if_pos he, if_pos he]
  simp only [Option.bind_some]
  congr 1; omega
 ·rw [if_neg he, if_neg he]; simp
def Vi (l : List (List Rec)) : Bool := decide (l.length ≤ 5) && l.all fun x => decide ((qo x).2 = 0)
def Vo (t : List Nd) (p : List UInt8) (i : Nat) : Option (Int × Int) :=
 if yX t p < 0 then some (0, 5) else if i = 0 then some (yX t p, 0) else if (gt t (yX t p)).kind ≠ 3 then some (0, 13) else none
def JG (t : List Nd) (way : List (List UInt8)) : Nat → Int × Int
 | 0 => (0, 5)
 | n + 1 => match Vo t (way.getD n []) n with
  | some x => x
  | none => JG t way n
def VC (t : List Nd) (p : List UInt8) : Int × Int := JG t ([p] ++ vx p) ([p] ++ vx p).length
theorem resGo_some {t : List Nd} {way : List (List UInt8)} {i : Nat} {x : Int × Int} : ∀ m, i < m → Vo t (way.getD i []) i = some x → (∀ j, i < j → j < m → Vo t (way.getD j []) j = none) → JG t way m = x := by
 intro m
 induction m with
 | zero => intro h; omega
 | succ m ih =>
  intro h hc hj
  rw [JG]
  by_cases e : i = m
  ·subst e; rw [hc]
  ·rw [hj m (by omega) (by omega)]; exact ih (by omega) hc fun j h1 h2 => hj j h1 (by omega)
def JZ (t : List Nd) : List UInt8 → List (List UInt8) → Nd × Int
 | _, [] => (⟨0, [], [], 0⟩, 5)
 | p, x :: l => if yX t (jc p x) < 0 then (⟨0, [], [], 0⟩, 5) else if l = [] then (gt t (yX t (jc p x)), 0) else if (gt t (yX t (jc p x))).kind ≠ 3 then (⟨0, [], [], 0⟩, 13) else JZ t (jc p x) l
def findNd (t : List Nd) (p : List UInt8) : Nd × Int := JZ t [] (cut 47 p)
theorem GQ {t : List Nd} {p : List UInt8} (h : ¬ yX t p < 0) : inR (yX t p) t.length = true := Yi (by omega) (findN_lt t p)
theorem G7 (p x : List UInt8) (l : List (List UInt8)) : preL p (x :: l) = (p ++ x) :: l := rfl
theorem Qi {b : UInt8} {l : List UInt8} (h : bn b ≠ 47) : cut 47 (b :: l) = preL [b] (cut 47 l) := by rw [cut, if_neg h]
theorem Qh {b : UInt8} {l : List UInt8} (h : bn b = 47) : cut 47 (b :: l) = [] :: cut 47 l := by rw [cut, if_pos h]
theorem J8 : bn (47 : UInt8) = 47 := rfl
def ye : List (List UInt8) → List UInt8
 | [] => []
 | [x] => x
 | x :: y :: l => x ++ 47 :: ye (y :: l)
theorem QA (x : List UInt8) {l : List (List UInt8)} (h : l ≠ []) : ye (x :: l) = x ++ 47 :: ye l := by
 cases l with
 | nil => exact absurd rfl h
 | cons y l => rfl
theorem joinL_preL (p : List UInt8) (l : List (List UInt8)) (h : l ≠ []) : ye (preL p l) = p ++ ye l := by
 cases l with
 | nil => exact absurd rfl h
 | cons x l =>
  rw [G7]
  cases l with
  | nil => rfl
  | cons y l => simp [ye]
theorem Qu (t : List UInt8) : ye (cut 47 t) = t := by
 induction t with
 | nil => rfl
 | cons b l ih =>
  by_cases h : bn b = 47
  ·have hb : b = 47 := by
    apply UInt8.toNat.inj
    show b.toNat = 47
    unfold bn at h; omega
   rw [Qh h, QA _ (jF 47 l), ih, hb]; rfl
  ·rw [Qi h, joinL_preL _ _ (jF 47 l), ih]; rfl
theorem cut_free {x : List UInt8} (h : ∀ b ∈ x, bn b ≠ 47) : cut 47 x = [x] := by
 induction x with
 | nil => rfl
 | cons b l ih =>
  rw [Qi (h b (by simp)), ih (fun c hc => h c (by simp [hc]))]; rfl
theorem cut_app {x t : List UInt8} (h : ∀ b ∈ x, bn b ≠ 47) : cut 47 (x ++ 47 :: t) = x :: cut 47 t := by
 induction x with
 | nil => exact Qh J8
 | cons b l ih =>
  rw [List.cons_append, Qi (h b (by simp)), ih (fun c hc => h c (by simp [hc]))]; rfl
theorem Yp (t : List UInt8) : ∀ x ∈ cut 47 t, ∀ b ∈ x, bn b ≠ 47 := by
 induction t with
 | nil => intro x hx; simp [cut] at hx; subst hx; simp
 | cons b l ih =>
  by_cases h : bn b = 47
  ·rw [Qh h]
   intro x hx
   rcases List.mem_cons.1 hx with rfl | hx
   ·simp
   ·exact ih x hx
  ·rw [Qi h]
   cases hc : cut 47 l with
   | nil => exact absurd hc (jF 47 l)
   | cons y r =>
    rw [hc] at ih
    rw [G7]
    intro x hx
    rcases List.mem_cons.1 hx with rfl | hx
    ·intro c hcx
     rcases List.mem_append.1 hcx with h2 | h2
     ·simp at h2; subst h2; exact h
     ·exact ih y (by simp) c h2
    ·exact ih x (by simp [hx])
theorem Jp {l : List (List UInt8)} (hn : l ≠ []) (h : ∀ x ∈ l, ∀ b ∈ x, bn b ≠ 47) : cut 47 (ye l) = l := by
 induction l with
 | nil => exact absurd rfl hn
 | cons x l ih =>
  by_cases hl : l = []
  ·subst hl; exact cut_free (h x (by simp))
  ·rw [QA x hl, cut_app (h x (by simp)), ih hl (fun y hy => h y (by simp [hy]))]
theorem cut_inj {a b : List UInt8} (h : cut 47 a = cut 47 b) : a = b := by rw [← Qu a, ← Qu b, h]
theorem GJ (x t : List UInt8) (ht : ∀ b ∈ t, bn b ≠ 47) : va (x ++ 47 :: t) = x.length := by
 apply VH (by simp) (by simp [List.getD_eq_getElem?_getD]; exact J8)
 intro j h1 h2
 obtain ⟨m, rfl⟩ : ∃ m, j = x.length + 1 + m := ⟨j - x.length - 1, by omega⟩
 have h3 : m < t.length := by simp at h2; omega
 have : (x ++ 47 :: t).getD (x.length + 1 + m) 0 = t[m] := by
  have e : x.length + 1 + m - x.length = m + 1 := by omega
  rw [List.getD_eq_getElem?_getD, List.getElem?_append_right (by omega), e, List.getElem?_cons_succ, List.getElem?_eq_getElem h3]; rfl
 rw [this]
 exact ht _ (List.getElem_mem h3)
theorem Jh {l : List (List UInt8)} (x : List UInt8) (h : l ≠ []) : ye (l ++ [x]) = ye l ++ 47 :: x := by
 induction l with
 | nil => exact absurd rfl h
 | cons y l ih =>
  by_cases hl : l = []
  ·subst hl; rfl
  ·rw [List.cons_append, QA y (by simp), ih hl, QA y hl]; simp
theorem Yy {l : List (List UInt8)} {x : List UInt8} (h : ∀ y ∈ l ++ [x], ∀ b ∈ y, bn b ≠ 47) : qd (ye (l ++ [x])) = ye l := by
 by_cases hl : l = []
 ·subst hl
  have : va x = -1 := VT fun j hj => h x (by simp) _ (by rw [List.getD_eq_getElem?_getD, List.getElem?_eq_getElem hj]; exact List.getElem_mem hj)
  simp [qd, ye, this]
 ·rw [Jh x hl, qd, GJ _ _ (fun b hb => h x (by simp) b hb)]
  simp
theorem parentP_cut (t : List UInt8) : qd t = ye (cut 47 t).dropLast := by
 obtain ⟨l, x, hlx⟩ : ∃ l x, cut 47 t = l ++ [x] := ⟨(cut 47 t).dropLast, (cut 47 t).getLast (jF 47 t), (List.dropLast_concat_getLast (jF 47 t)).symm⟩
 have hp := Yp t
 have := Yy (l := l) (x := x) (by rw [← hlx]; exact hp)
 rw [hlx, List.dropLast_concat, ← this, ← hlx, Qu]
theorem YZ {t : List UInt8} (h : qz t = true) : ∀ x ∈ cut 47 t, x ≠ [] := by
 simp only [qz, Bool.and_eq_true, decide_eq_true_eq, List.all_eq_true] at h
 intro x hx he
 have := h.2.2 x hx
 rw [he] at this
 revert this; decide
theorem XT {l : List (List UInt8)} (h : l ≠ []) (hp : ∀ x ∈ l, x ≠ []) : ye l ≠ [] := by
 cases l with
 | nil => exact absurd rfl h
 | cons x l =>
  have := hp x (by simp)
  cases l with
  | nil => simpa [ye] using this
  | cons y l => simp [ye]
theorem joinP_joinL {l : List (List UInt8)} (x : List UInt8) (hp : ∀ y ∈ l, y ≠ []) : jc (ye l) x = ye (l ++ [x]) := by
 by_cases hl : l = []
 ·subst hl; simp [jc, ye]
 ·rw [jc, if_neg (XT hl hp), Jh x hl]; simp
theorem ancs_joinL : ∀ (n : Nat) (l : List (List UInt8)), l.length = n → (∀ y ∈ l, ∀ b ∈ y, bn b ≠ 47) → (∀ y ∈ l, y ≠ []) → vx (ye l) = ((List.range (l.length - 1)).map fun k => ye (l.take (k + 1))).reverse := by
 intro n
 induction n with
 | zero => intro l hl _ _; have : l = [] := List.eq_nil_of_length_eq_zero hl; subst this; rfl
 | succ n ih =>
  intro l hl hp hn
  have hne : l ≠ [] := by intro e; subst e; simp at hl
  obtain ⟨m, x, rfl⟩ : ∃ m x, l = m ++ [x] := ⟨l.dropLast, l.getLast hne, (List.dropLast_concat_getLast hne).symm⟩
  rw [jp, Yy hp]
  have hm : m.length = n := by simpa using hl
  by_cases hm0 : m = []
  ·subst hm0; simp [ye]
  ·have hpm : ∀ y ∈ m, y ≠ [] := fun y hy => hn y (by simp [hy])
   rw [if_neg (XT hm0 hpm), ih m hm (fun y hy => hp y (by simp [hy])) hpm]
   have hml : 0 < m.length := List.length_pos_iff.2 hm0
   have e1 : (m ++ [x]).length - 1 = (m.length - 1) + 1 := by simp; omega
   rw [e1, List.range_succ, List.map_append, List.reverse_append]
   simp only [List.map_cons, List.map_nil, List.reverse_cons, List.reverse_nil, List.nil_append, List.cons_append]
   congr 1
   ·have e2 : m.length - 1 + 1 = m.length := by omega
    rw [e2, List.take_left]
   ·congr 1
    apply List.map_congr_left
    intro k hk
    have := List.mem_range.1 hk
    rw [List.take_append_of_le_length (by omega)]
theorem Gc {t : List UInt8} (h : qz t = true) : vx t = ((List.range ((cut 47 t).length - 1)).map fun k => ye ((cut 47 t).take (k + 1))).reverse := by
 have := ancs_joinL _ (cut 47 t) rfl (Yp t) (YZ h)
 rwa [Qu] at this
theorem way_cut {t : List UInt8} (h : qz t = true) : [t] ++ vx t = ((List.range (cut 47 t).length).map fun k => ye ((cut 47 t).take (k + 1))).reverse := by
 have hl : 0 < (cut 47 t).length := List.length_pos_iff.2 (jF 47 t)
 have e : (cut 47 t).length = ((cut 47 t).length - 1) + 1 := by omega
 rw [Gc h]
 conv => rhs; rw [e, List.range_succ, List.map_append, List.reverse_append]
 simp only [List.map_cons, List.map_nil, List.reverse_cons, List.reverse_nil, List.nil_append, List.cons_append]
 congr 1
 have e2 : (cut 47 t).length - 1 + 1 = (cut 47 t).length := by omega
 rw [e2, List.take_length, Qu]
theorem Xp {t : List Nd} {p : List UInt8} (h : qz p = true) : findNd t p = (if (VC t p).2 = 0 then gt t (VC t p).1 else ⟨0, [], [], 0⟩, (VC t p).2) := by
 have hway := way_cut h
 have hparts := YZ h
 unfold findNd VC
 rw [hway]
 have hlen : (((List.range (cut 47 p).length).map fun k => ye ((cut 47 p).take (k + 1))).reverse).length = (cut 47 p).length := by simp
 rw [hlen]
 have key : ∀ (d i : Nat), i + d = (cut 47 p).length → 0 < d ∨ i = 0 → JZ t (ye ((cut 47 p).take i)) ((cut 47 p).drop i) =
   (if (JG t (((List.range (cut 47 p).length).map fun k => ye ((cut 47 p).take (k + 1))).reverse) d).2 = 0 then gt t (JG t (((List.range (cut 47 p).length).map fun k => ye ((cut 47 p).take (k + 1))).reverse) d).1 else ⟨0, [], [], 0⟩,
    (JG t (((List.range (cut 47 p).length).map fun k => ye ((cut 47 p).take (k + 1))).reverse) d).2) := by
  intro d
  induction d with
  | zero =>
   intro i hi h0
   exfalso
   have := List.length_pos_iff.2 (jF 47 p)
   omega
  | succ d ih =>
   intro i hi _
   have hlt : i < (cut 47 p).length := by omega
   have hw : (((List.range (cut 47 p).length).map fun k => ye ((cut 47 p).take (k + 1))).reverse).getD d [] = ye ((cut 47 p).take (i + 1)) := by
    have h1 : d < (((List.range (cut 47 p).length).map fun k => ye ((cut 47 p).take (k + 1))).reverse).length := by rw [hlen]; omega
    rw [List.getD_eq_getElem?_getD, List.getElem?_eq_getElem h1]
    simp only [List.getElem_reverse, List.getElem_map, List.getElem_range, List.length_map, List.length_range, Option.getD_some]
    congr 2; omega
   have hj : jc (ye ((cut 47 p).take i)) (cut 47 p)[i] = ye ((cut 47 p).take (i + 1)) := by
    rw [joinP_joinL _ (fun y hy => hparts y (List.mem_of_mem_take hy)), List.take_succ_eq_append_getElem hlt]
   rw [List.drop_eq_getElem_cons hlt, JZ, hj, JG, hw]
   obtain ⟨q, hq⟩ : ∃ q, ye ((cut 47 p).take (i + 1)) = q := ⟨_, rfl⟩
   rw [hq]
   unfold Vo
   by_cases h1 : yX t q < 0
   ·simp [h1]
   ·simp only [h1, if_false]
    by_cases hd : d = 0
    ·have hnil : (cut 47 p).drop (i + 1) = [] := List.drop_of_length_le (by omega)
     simp [hd, hnil]
    ·have hnil : ¬ (cut 47 p).drop (i + 1) = [] := by
      intro e
      have := congrArg List.length e
      simp at this; omega
     simp only [hnil, hd, if_false]
     by_cases h3 : (gt t (yX t q)).kind = 3
     ·simp only [h3, ne_eq, not_true_eq_false, if_false]
      rw [← hq]
      exact ih (i + 1) (by omega) (.inl (by omega))
     ·simp [h3]
 have := key (cut 47 p).length 0 (by omega) (.inr rfl)
 simpa [ye] using this
end Go.UL
