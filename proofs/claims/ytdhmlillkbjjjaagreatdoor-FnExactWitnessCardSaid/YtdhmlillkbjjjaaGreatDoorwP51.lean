import Derived.Test.YtdhmlillkbjjjaaGreatDoorwP45
set_option linter.unusedVariables false
set_option linter.unusedSimpArgs false
namespace Go.UL
open Go.RowKit
def jZ (x y : List Rec) : Option (List UInt8) := (vC [x, y]).find? fun p => !decide (qL x p = qL y p)
def qS (x y : List Rec) : Rec × Rec × Bool := match jZ x y with
 | none => (QN, QN, false)
 | some p => (qL x p, qL y p, true)
def VY (a b : List Rec) : List Nd × Bool := match jZ (qb a) (qb b) with
 | none => ([], false)
 | some p => (V6 (qb a) (qb b) p, true)
def qt (a b : List Rec) : List Nd × Int := if je a b = 0 then (match jZ (qb a) (qb b) with
  | none => ([], 18)
  | some p => (V6 (qb a) (qb b) p, 0)) else ([], je a b)
theorem VI {l : List Rec} {p : List UInt8} {r : Rec} (h : qG l p = some r) : qL l p = r := by rw [yK, h]; rfl
theorem YU {l : List Rec} {p : List UInt8} (h : qG l p = none) : qL l p = QN := by rw [yK, h]; rfl
theorem Vf {l : List Rec} (hl : Sheet l) {p : List UInt8} : (qL l p).kind = 0 ↔ qG l p = none := by
 rw [yK]
 cases h : qG l p with
 | none => exact ⟨fun _ => rfl, fun _ => rfl⟩
 | some r =>
  have := YR (hl.fault h)
  refine ⟨fun h2 => ?_, fun h2 => by cases h2⟩
  have h2 : r.kind = 0 := h2
  omega
theorem GU {x y : List Rec} (hx : Sheet x) (hy : Sheet y) {p : List UInt8} (h : qL x p = qL y p) : qG x p = qG y p := by
 cases h1 : qG x p with
 | none =>
  have h3 := (Vf hx).2 h1
  rw [h] at h3
  exact ((Vf hy).1 h3).symm
 | some r =>
  cases h2 : qG y p with
  | none =>
   have h3 := (Vf hy).2 h2
   rw [← h] at h3
   rw [(Vf hx).1 h3] at h1; cases h1
  | some s => rw [VI h1, VI h2] at h; rw [h]
theorem YJ {x y : List Rec} {p : List UInt8} : p ∈ vC [x, y] ↔ qG x p ≠ none ∨ qG y p ≠ none := by
 rw [GX, QI, QI]
 constructor
 ·rintro ⟨l, hl, r, hr, e⟩
  simp at hl
  rcases hl with rfl | rfl
  ·exact .inl (List.mem_map.2 ⟨r, hr, e⟩)
  ·exact .inr (List.mem_map.2 ⟨r, hr, e⟩)
 ·rintro (h | h)
  ·obtain ⟨r, hr, e⟩ := List.mem_map.1 h
   exact ⟨x, by simp, r, hr, e⟩
  ·obtain ⟨r, hr, e⟩ := List.mem_map.1 h
   exact ⟨y, by simp, r, hr, e⟩
theorem Xg {l : List (List UInt8)} (h : vV l) {f : List UInt8 → Bool} {p : List UInt8} (hp : p ∈ l) (hf : f p = true) (hlt : ∀ q ∈ l, ltP q p = true → f q = false) : l.find? f = some p := by
 induction l with
 | nil => cases hp
 | cons a l ih =>
  obtain ⟨h1, h2⟩ := List.pairwise_cons.1 h
  rcases List.mem_cons.1 hp with rfl | hp
  ·rw [List.find?_cons_of_pos hf]
  ·rw [List.find?_cons_of_neg (by rw [hlt a (by simp) (h1 p hp)]; simp)]
   exact ih h2 hp fun q hq => hlt q (by simp [hq])
theorem Xv {l : List (List UInt8)} (h : vV l) {f : List UInt8 → Bool} {p : List UInt8} (hf : l.find? f = some p) : ∀ q ∈ l, ltP q p = true → f q = false := by
 induction l with
 | nil => cases hf
 | cons a l ih =>
  obtain ⟨h1, h2⟩ := List.pairwise_cons.1 h
  intro q hq hlt
  cases ha : f a with
  | true =>
   rw [List.find?_cons_of_pos ha] at hf
   obtain rfl := Option.some.inj hf
   rcases List.mem_cons.1 hq with rfl | hq
   ·rw [ju] at hlt; cases hlt
   ·rw [Qe (h1 q hq)] at hlt; cases hlt
  | false =>
   rw [List.find?_cons_of_neg (by rw [ha]; simp)] at hf
   rcases List.mem_cons.1 hq with rfl | hq
   ·exact ha
   ·exact ih h2 hf q hq hlt
theorem XM {x y : List Rec} (hx : Sheet x) (hy : Sheet y) {p : List UInt8} (h : jZ x y = some p) : (∀ q, ltP q p = true → qG x q = qG y q) ∧ qG x p ≠ qG y p := by
 have hr : vV (vC [x, y]) := Vq _
 refine ⟨fun q hq => ?_, fun e => ?_⟩
 ·by_cases hm : q ∈ vC [x, y]
  ·have := Xv hr h q hm hq
   exact GU hx hy (by simpa using this)
  ·rw [YJ, not_or] at hm
   have h1 := Classical.not_not.1 hm.1
   have h2 := Classical.not_not.1 hm.2
   rw [h1, h2]
 ·have := List.find?_some h
  simp only [Bool.not_eq_true', decide_eq_false_iff_not] at this
  exact this (by rw [yK, yK, e])
theorem firstP_none {x y : List Rec} (hx : Sheet x) (hy : Sheet y) : jZ x y = none ↔ x = y := by
 constructor
 ·intro h
  refine YS (fun r : Rec => r.path) hx.rise hy.rise fun p => ?_
  by_cases hm : p ∈ vC [x, y]
  ·have := List.find?_eq_none.1 h p hm
   exact GU hx hy (by simpa using this)
  ·rw [YJ, not_or] at hm
   have h1 := Classical.not_not.1 hm.1
   have h2 := Classical.not_not.1 hm.2
   exact h1.trans h2.symm
 ·rintro rfl
  unfold jZ
  rw [List.find?_eq_none]
  simp
theorem Yr (c x : List Rec) (p : List UInt8) : qG (c ++ x) p = (qG c p).or (qG x p) := by
 unfold qG yr
 rw [List.find?_append]
theorem Jr {l : List Rec} {p : List UInt8} (h : ∀ r ∈ l, r.path ≠ p) : qG l p = none := by
 cases h1 : qG l p with
 | none => rfl
 | some r => exact absurd (vw h1).2 (h r (vw h1).1)
theorem VD {c x y : List Rec} (hx : Sheet (c ++ x)) (hy : Sheet (c ++ y)) {p : List UInt8} (h1 : ∀ r ∈ x, r.path = p ∨ ltP p r.path = true) (h2 : ∀ r ∈ y, r.path = p ∨ ltP p r.path = true) (hc : ∀ r ∈ c, ltP r.path p = true) (hne : qL x p ≠ qL y p) :
  qS (c ++ x) (c ++ y) = (qL x p, qL y p, true) := by
 have hcp : qG c p = none := Jr fun r hr e => Qr (hc r hr) e
 have e1 : qL (c ++ x) p = qL x p := by rw [yK, yK, Yr, hcp]; rfl
 have e2 : qL (c ++ y) p = qL y p := by rw [yK, yK, Yr, hcp]; rfl
 have hlow : ∀ {z : List Rec}, (∀ r ∈ z, r.path = p ∨ ltP p r.path = true) → ∀ q, ltP q p = true → qG z q = none := fun {z} hz q hq => Jr fun r hr e => by
  rcases hz r hr with h | h
  ·rw [← h, ← e, ju] at hq; cases hq
  ·rw [e, Qe hq] at h; cases h
 have hf : jZ (c ++ x) (c ++ y) = some p := by
  refine Xg (l := vC [c ++ x, c ++ y]) (Vq _) ?_ (by rw [e1, e2]; simpa using hne) fun q _ hq => ?_
  ·rw [YJ]
   refine Classical.byContradiction fun hn => ?_
   rw [not_or] at hn
   have a1 := Classical.not_not.1 hn.1
   have a2 := Classical.not_not.1 hn.2
   rw [← e1, ← e2, YU a1, YU a2] at hne
   exact hne rfl
  ·have : qL (c ++ x) q = qL (c ++ y) q := by rw [yK, yK, Yr, Yr, hlow h1 q hq, hlow h2 q hq]
   simpa using this
 unfold qS
 rw [hf]
 show (qL (c ++ x) p, qL (c ++ y) p, true) = _
 rw [e1, e2]
theorem jU {c t : List Rec} {r : Rec} (h : Sheet (c ++ r :: t)) : (∀ z ∈ c, ltP z.path r.path = true) ∧ (∀ z ∈ r :: t, z.path = r.path ∨ ltP r.path z.path = true) ∧ qL (r :: t) r.path = r ∧ r ≠ QN := by
 have hr := h.rise
 rw [List.map_append, List.map_cons] at hr
 obtain ⟨_, h2, h3⟩ := List.pairwise_append.1 hr
 obtain ⟨h4, _⟩ := List.pairwise_cons.1 h2
 refine ⟨fun z hz => h3 _ (List.mem_map_of_mem hz) _ (by simp), fun z hz => ?_, ?_, fun e => ?_⟩
 ·rcases List.mem_cons.1 hz with rfl | hz
  ·exact .inl rfl
  ·exact .inr (h4 _ (List.mem_map_of_mem hz))
 ·refine VI ?_
  show yr (fun r : Rec => r.path) (r :: t) r.path = some r
  rw [yV, if_pos rfl]
 ·have hk := YR (h.ok r (by simp))
  rw [e] at hk
  have hz : QN.kind = 0 := rfl
  omega
theorem GB {t : List Rec} {r : Rec} {p : List UInt8} (h : ∀ z ∈ r :: t, z.path = r.path ∨ ltP r.path z.path = true) (hp : ltP p r.path = true) : (∀ z ∈ r :: t, z.path = p ∨ ltP p z.path = true) ∧ qL (r :: t) p = QN := by
 have h2 : ∀ z ∈ r :: t, ltP p z.path = true := fun z hz => by
  rcases h z hz with e | e
  ·rw [e]; exact hp
  ·exact jz hp e
 exact ⟨fun z hz => .inr (h2 z hz), YU (Jr fun z hz e => by have := h2 z hz; rw [e, ju] at this; cases this)⟩
theorem first_left {c t : List Rec} {r : Rec} (hx : Sheet (c ++ r :: t)) (hy : Sheet c) : qS (c ++ r :: t) c = (r, QN, true) := by
 obtain ⟨h1, h2, h3, h4⟩ := jU hx
 have := VD (c := c) (x := r :: t) (y := []) hx (by rw [List.append_nil]; exact hy) (p := r.path) h2 (fun r hr => by cases hr) h1 (by rw [h3]; exact h4)
 rw [List.append_nil, h3] at this
 exact this
theorem XW {c t : List Rec} {r : Rec} (hx : Sheet c) (hy : Sheet (c ++ r :: t)) : qS c (c ++ r :: t) = (QN, r, true) := by
 obtain ⟨h1, h2, h3, h4⟩ := jU hy
 have := VD (c := c) (x := []) (y := r :: t) (by rw [List.append_nil]; exact hx) hy (p := r.path) (fun r hr => by cases hr) h2 h1 (by rw [h3]; exact fun e => h4 e.symm)
 rw [List.append_nil, h3] at this
 exact this
theorem first_lt {c t u : List Rec} {r s : Rec} (hx : Sheet (c ++ r :: t)) (hy : Sheet (c ++ s :: u)) (h : ltP r.path s.path = true) : qS (c ++ r :: t) (c ++ s :: u) = (r, QN, true) := by
 obtain ⟨h1, h2, h3, h4⟩ := jU hx
 obtain ⟨_, g2, _, _⟩ := jU hy
 obtain ⟨k1, k2⟩ := GB g2 h
 have := VD hx hy (p := r.path) h2 k1 h1 (by rw [h3, k2]; exact h4)
 rw [h3, k2] at this
 exact this
theorem first_gt {c t u : List Rec} {r s : Rec} (hx : Sheet (c ++ r :: t)) (hy : Sheet (c ++ s :: u)) (h : ltP s.path r.path = true) : qS (c ++ r :: t) (c ++ s :: u) = (QN, s, true) := by
 obtain ⟨h1, h2, h3, h4⟩ := jU hy
 obtain ⟨_, g2, _, _⟩ := jU hx
 obtain ⟨k1, k2⟩ := GB g2 h
 have := VD hx hy (p := s.path) k1 h2 h1 (by rw [h3, k2]; exact fun e => h4 e.symm)
 rw [h3, k2] at this
 exact this
theorem first_eq {c t u : List Rec} {r s : Rec} (hx : Sheet (c ++ r :: t)) (hy : Sheet (c ++ s :: u)) (h : r.path = s.path) (hne : r ≠ s) : qS (c ++ r :: t) (c ++ s :: u) = (r, s, true) := by
 obtain ⟨h1, h2, h3, h4⟩ := jU hx
 obtain ⟨_, g2, g3, _⟩ := jU hy
 rw [← h] at g2 g3
 have := VD hx hy (p := r.path) h2 g2 h1 (by rw [h3, g3]; exact hne)
 rw [h3, g3] at this
 exact this
def qF.b1 (a0 : List Rec) (a1 : List Rec) : Int → Option (Step (Rec × Rec × Bool) (Int) (Int)) :=
 fun x7_13 => bif (!((decide (x7_13 < (a0.length : Int))) && (decide (x7_13 < (a1.length : Int)))) || (inR x7_13 a0.length)) then (bif (!((decide (x7_13 < (a0.length : Int))) && (decide (x7_13 < (a1.length : Int)))) || (inR x7_13 a1.length)) then (bif (((decide (x7_13 < (a0.length : Int))) && (decide (x7_13 < (a1.length : Int)))) && (decide ((gt a0 x7_13) = (gt a1 x7_13)))) then (some (.nxt (IntKind.wrap .i64 (x7_13 + 1)))) else (some (.brk x7_13))) else none) else none
def qF.sh (k : Nat) (a0 : List Rec) (a1 : List Rec) : Option (Rec × Rec × Bool) :=
  (qr (qF.b1 a0 a1) k 0).bind fun z => match z with | .inl t => some t | .inr x7_17 => bif ((decide (x7_17 = (a0.length : Int))) && (decide (x7_17 = (a1.length : Int)))) then (some ((⟨0, ([] : List UInt8), ([] : List UInt8), 0, false⟩ : Rec), (⟨0, ([] : List UInt8), ([] : List UInt8), 0, false⟩ : Rec), false)) else (bif (decide (x7_17 = (a0.length : Int))) then (bif inR x7_17 a1.length then (some ((⟨0, ([] : List UInt8), ([] : List UInt8), 0, false⟩ : Rec), (gt a1 x7_17), true)) else none) else (bif (!(!(decide (x7_17 = (a1.length : Int)))) || (inR x7_17 a0.length)) then (bif (!(!(decide (x7_17 = (a1.length : Int)))) || (inR x7_17 a1.length)) then (bif (!(!(decide (x7_17 = (a1.length : Int)))) || (decide (((gt a0 x7_17).path).length ≤ 1048576))) then (bif (!(!(decide (x7_17 = (a1.length : Int)))) || (decide (((gt a1 x7_17).path).length ≤ 1048576))) then (bif ((decide (x7_17 = (a1.length : Int))) || (vo (cut 47 ((gt a0 x7_17).path)) (cut 47 ((gt a1 x7_17).path)))) then (bif inR x7_17 a0.length then (some ((gt a0 x7_17), (⟨0, ([] : List UInt8), ([] : List UInt8), 0, false⟩ : Rec), true)) else none) else (bif inR x7_17 a1.length then (bif inR x7_17 a0.length then (bif decide (((gt a1 x7_17).path).length ≤ 1048576) then (bif decide (((gt a0 x7_17).path).length ≤ 1048576) then (bif (vo (cut 47 ((gt a1 x7_17).path)) (cut 47 ((gt a0 x7_17).path))) then (bif inR x7_17 a1.length then (some ((⟨0, ([] : List UInt8), ([] : List UInt8), 0, false⟩ : Rec), (gt a1 x7_17), true)) else none) else (bif inR x7_17 a0.length then (bif inR x7_17 a1.length then (some ((gt a0 x7_17), (gt a1 x7_17), true)) else none) else none)) else none) else none) else none) else none)) else none) else none) else none) else none))
theorem first_loop (x y : List Rec) (hn : x.length ≤ 1048576) : ∀ (m i k : Nat), i + m = x.length → m < k → i ≤ y.length → ∃ n, i ≤ n ∧ n ≤ x.length ∧ n ≤ y.length ∧ (∀ j, i ≤ j → j < n → gt x (j : Int) = gt y (j : Int)) ∧ ¬ (n < x.length ∧ n < y.length ∧ gt x (n : Int) = gt y (n : Int)) ∧ qr (qF.b1 x y) k (i : Int) = some (.inr (n : Int)) := by
 intro m
 induction m with
 | zero =>
  intro i k hi hk hy
  obtain ⟨k, rfl⟩ : ∃ j, k = j + 1 := ⟨k - 1, by omega⟩
  refine ⟨i, Nat.le_refl _, by omega, hy, fun j h1 h2 => by omega, fun h => by omega, ?_⟩
  have h1 : ¬ i < x.length := by omega
  rw [qr]
  simp [qF.b1, h1]
 | succ m ih =>
  intro i k hi hk hy
  obtain ⟨k, rfl⟩ : ∃ j, k = j + 1 := ⟨k - 1, by omega⟩
  have h1 : i < x.length := by omega
  by_cases h2 : i < y.length
  ·by_cases he : gt x (i : Int) = gt y (i : Int)
   ·obtain ⟨n, a1, a2, a3, a4, a5, a6⟩ := ih (i + 1) k (by omega) (by omega) (by omega)
    refine ⟨n, by omega, a2, a3, fun j b1 b2 => ?_, a5, ?_⟩
    ·by_cases e : j = i
     ·subst e; exact he
     ·exact a4 j (by omega) b2
    ·rw [qr]
     have hw : IntKind.wrap .i64 ((i : Int) + 1) = ((i + 1 : Nat) : Int) := by rw [vz h1 (by omega)]; omega
     simp only [qF.b1, yy, h1, h2, decide_true, Bool.and_self, Bool.not_true, Bool.false_or, qX h1, qX h2, cond_true, he, hw]
     exact a6
   ·refine ⟨i, Nat.le_refl _, by omega, by omega, fun j b1 b2 => by omega, fun h => he h.2.2, ?_⟩
    rw [qr]
    simp only [qF.b1, yy, h1, h2, decide_true, Bool.and_self, Bool.not_true, Bool.false_or, qX h1, qX h2, cond_true, decide_eq_false he, Bool.and_false, cond_false]
    rfl
  ·refine ⟨i, Nat.le_refl _, by omega, hy, fun j b1 b2 => by omega, fun h => h2 h.2.1, ?_⟩
   rw [qr]
   simp [qF.b1, h1, h2]
theorem dropg {α : Type} [Inhabited α] {l : List α} {n : Nat} (h : n < l.length) : ∃ t, l = l.take n ++ gt l (n : Int) :: t := ⟨l.drop (n + 1), by
 rw [yh, ym h]
 conv => lhs; rw [← List.take_append_drop n l, List.drop_eq_getElem_cons h]⟩
theorem take_same {α : Type} [Inhabited α] {x y : List α} {n : Nat} (hx : n ≤ x.length) (hy : n ≤ y.length) (h : ∀ j, j < n → gt x (j : Int) = gt y (j : Int)) : x.take n = y.take n := by
 apply List.ext_getElem
 ·simp; omega
 ·intro i h1 h2
  have hi : i < n := by simp at h1; omega
  have := h i hi
  rw [yh, yh, ym (by omega), ym (by omega)] at this
  simpa using this
theorem qF.eq (a0 a1 : List Rec) (h0 : (qo a0).2 = 0) (h1 : (qo a1).2 = 0) : ∃ k, qF.sh k a0 a1 = some ((qS a0 a1).1, (qS a0 a1).2.1, (qS a0 a1).2.2) := by
 have hx := Vm h0
 have hy := Vm h1
 have l0 := jl h0
 have l1 := jl h1
 obtain ⟨n, _, hnx, hny, hc, hstop, hl⟩ := first_loop a0 a1 (by omega) a0.length 0 (a0.length + 1) (by omega) (by omega) (by omega)
 refine ⟨a0.length + 1, ?_⟩
 unfold qF.sh
 have hl2 : qr (qF.b1 a0 a1) (a0.length + 1) 0 = some (.inr (n : Int)) := hl
 rw [hl2]
 have hct := take_same hnx hny fun j hj => hc j (by omega) hj
 have dI : ∀ m : Nat, decide ((n : Int) = (m : Int)) = decide (n = m) := fun m => by rw [decide_eq_decide]; omega
 simp only [Option.bind_some, dI]
 have pl : ∀ {l : List Rec} {i : Nat}, Sheet l → i < l.length → (gt l (i : Int)).path.length ≤ 1048576 := fun {l i} hs hi => QZ (yw (hs.ok _ (gt_mem (qX hi))))
 by_cases ex : n = a0.length
 ·by_cases ey : n = a1.length
  ·have t0 : a0.take n = a0 := by rw [ex, List.take_length]
   have t1 : a1.take n = a1 := by rw [ey, List.take_length]
   have : a0 = a1 := by rw [← t0, hct, t1]
   have hf : qS a0 a1 = (QN, QN, false) := by unfold qS; rw [(firstP_none hx hy).2 this]
   rw [hf, decide_eq_true ex, decide_eq_true ey]
   rfl
  ·have h2 : n < a1.length := by omega
   obtain ⟨t, ht⟩ := dropg h2
   have t0 : a0.take n = a0 := by rw [ex, List.take_length]
   have hc0 : a0 = a1.take n := by rw [← hct]; exact t0.symm
   have hf : qS a0 a1 = (QN, gt a1 (n : Int), true) := by
    have := XW (c := a1.take n) (t := t) (r := gt a1 (n : Int)) (by rw [← hc0]; exact hx) (by rw [← ht]; exact hy)
    rw [← ht, ← hc0] at this
    exact this
   rw [hf, decide_eq_true ex, decide_eq_false ey]
   simp only [Bool.and_false, cond_false, cond_true, qX h2]
   rfl
 ·have h1' : n < a0.length := by omega
  obtain ⟨t, ht⟩ := dropg h1'
  rw [decide_eq_false ex]
  by_cases ey : n = a1.length
  ·have t1 : a1.take n = a1 := by rw [ey, List.take_length]
   have hc1 : a1 = a0.take n := by rw [hct]; exact t1.symm
   have hf : qS a0 a1 = (gt a0 (n : Int), QN, true) := by
    have := first_left (c := a0.take n) (t := t) (r := gt a0 (n : Int)) (by rw [← ht]; exact hx) (by rw [← hc1]; exact hy)
    rw [← ht, ← hc1] at this
    exact this
   rw [hf, decide_eq_true ey]
   simp only [Bool.false_and, cond_false, Bool.not_true, Bool.not_false, Bool.true_or, cond_true, qX h1']
   rfl
  ·have h2 : n < a1.length := by omega
   obtain ⟨u, hu⟩ := dropg h2
   rw [decide_eq_false ey]
   have p1 := pl hx h1'
   have p2 := pl hy h2
   have hne : gt a0 (n : Int) ≠ gt a1 (n : Int) := fun e => hstop ⟨h1', h2, e⟩
   rw [← hct] at hu
   have hx2 : Sheet (a0.take n ++ gt a0 (n : Int) :: t) := by rw [← ht]; exact hx
   have hy2 : Sheet (a0.take n ++ gt a1 (n : Int) :: u) := by rw [← hu]; exact hy
   simp only [Bool.false_and, cond_false, Bool.not_false, Bool.not_true, Bool.false_or, qX h1', qX h2, cond_true, decide_eq_true p1, decide_eq_true p2]
   rcases qw (ltP (gt a0 (n : Int)).path (gt a1 (n : Int)).path) with g1 | g1
   ·have hf := first_lt hx2 hy2 g1
    rw [← ht, ← hu] at hf
    have g1' : vo (cut 47 (gt a0 (n : Int)).path) (cut 47 (gt a1 (n : Int)).path) = true := g1
    rw [hf, g1']; rfl
   ·have g1' : vo (cut 47 (gt a0 (n : Int)).path) (cut 47 (gt a1 (n : Int)).path) = false := g1
    rcases qw (ltP (gt a1 (n : Int)).path (gt a0 (n : Int)).path) with g2 | g2
    ·have hf := first_gt hx2 hy2 g2
     rw [← ht, ← hu] at hf
     have g2' : vo (cut 47 (gt a1 (n : Int)).path) (cut 47 (gt a0 (n : Int)).path) = true := g2
     rw [hf, g1', g2']; rfl
    ·have hf := first_eq hx2 hy2 (VO g1 g2) hne
     rw [← ht, ← hu] at hf
     have g2' : vo (cut 47 (gt a1 (n : Int)).path) (cut 47 (gt a0 (n : Int)).path) = false := g2
     rw [hf, g1', g2']; rfl
def vi.b1  : List Nd × List UInt8 → Option (Step (List Nd) (List Nd × List UInt8) (List Nd)) :=
 fun q => match q with
 | (x3_10, x4_12) => bif (!decide (x4_12 = ([] : List UInt8))) then (bif decide ((([(⟨3, x4_12, ([] : List UInt8), 0⟩ : Nd)] : List Nd).length + x3_10.length) * 48 ≤ 140737488355328) then (bif decide (x4_12.length ≤ 4611686018427387904) then (some (.nxt (([(⟨3, x4_12, ([] : List UInt8), 0⟩ : Nd)] : List Nd) ++ x3_10, (qd x4_12)))) else none) else none) else (some (.brk x3_10))
def vi.sh (k : Nat) (a0 : List UInt8) : Option (List Nd) :=
  bif decide (a0.length ≤ 4611686018427387904) then ((qr (vi.b1) k (([(⟨1, a0, ([] : List UInt8), 0⟩ : Nd)] : List Nd), (qd a0))).bind fun z => match z with | .inl t => some t | .inr x3_16 => some x3_16) else none
theorem vi.eq (a0 : List UInt8) (h0 : qz a0 = true) : ∃ k, vi.sh k a0 = some (jI a0) := by
 have hl := j9 h0
 refine ⟨a0.length + 1, ?_⟩
 unfold vi.sh
 have key : ∀ (n : Nat) (q : List UInt8) (k : Nat) (acc : List Nd), (qd q).length ≤ n → n < k → acc.length + n ≤ 1000 → qr vi.b1 k (acc, qd q) = some (.inr (((vx q).reverse.map fun z => (⟨3, z, [], 0⟩ : Nd)) ++ acc)) := by
  intro n
  induction n with
  | zero =>
   intro q k acc hq hk ha
   obtain ⟨k, rfl⟩ : ∃ j, k = j + 1 := ⟨k - 1, by omega⟩
   have hp : qd q = [] := List.eq_nil_of_length_eq_zero (by omega)
   rw [qr]
   simp [vi.b1, hp, Ys hp]
  | succ n ih =>
   intro q k acc hq hk ha
   obtain ⟨k, rfl⟩ : ∃ j, k = j + 1 := ⟨k - 1, by omega⟩
   by_cases hp : qd q = []
   ·rw [qr]
    simp [vi.b1, hp, Ys hp]
   ·have hlt := jE hp
    have hI := ih (qd q) k ([(⟨3, qd q, [], 0⟩ : Nd)] ++ acc) (by omega) (by omega) (by simp; omega)
    have d1 : decide (([(⟨3, qd q, [], 0⟩ : Nd)].length + acc.length) * 48 ≤ 140737488355328) = true := decide_eq_true (by simp; omega)
    have d2 : decide ((qd q).length ≤ 4611686018427387904) = true := decide_eq_true (by omega)
    rw [qr]
    simp only [vi.b1, decide_eq_false hp, Bool.not_false, cond_true, d1, d2]
    rw [Qt hp, List.reverse_cons, List.map_append, List.append_assoc]
    exact hI
 have hk := key a0.length a0 (a0.length + 1) [(⟨1, a0, [], 0⟩ : Nd)] (V5 a0) (by omega) (by simp; omega)
 have d0 : decide (a0.length ≤ 4611686018427387904) = true := decide_eq_true (by omega)
 rw [d0, hk]
 rfl
theorem J5 {T E : Type} {b : Int → Option (Step T Int E)} {q : Nat → Bool} {f : Nat → T} {i0 : Nat} (hlt : ∀ i, i < i0 → q i = false) (h0 : q i0 = true) (hb : ∀ i, i ≤ i0 → b (i : Int) = if q i = true then some (.ret (f i)) else some (.nxt ((i : Int) + 1))) (k : Nat) (hk : i0 < k) : qr b k 0 = some (.inl (f i0)) := by
 have key : ∀ m i k, i + m = i0 → m < k → qr b k (i : Int) = some (.inl (f i0)) := by
  intro m
  induction m with
  | zero =>
   intro i k hi hk
   obtain ⟨k, rfl⟩ : ∃ j, k = j + 1 := ⟨k - 1, by omega⟩
   obtain rfl : i = i0 := by omega
   rw [qr, hb i (Nat.le_refl _), if_pos h0]; rfl
  | succ m ih =>
   intro i k hi hk
   obtain ⟨k, rfl⟩ : ∃ j, k = j + 1 := ⟨k - 1, by omega⟩
   rw [qr, hb i (by omega), if_neg (by rw [hlt i (by omega)]; simp)]
   have := ih (i + 1) k (by omega) (by omega)
   rw [Int.natCast_add] at this
   exact this
 exact key i0 0 k (by omega) hk
theorem GI {q : Nat → Bool} {n i : Nat} (h : (List.range n).find? q = some i) : i < n ∧ q i = true ∧ ∀ j, j < i → q j = false := by
 rw [List.find?_range_eq_some] at h
 obtain ⟨h1, h2, h3⟩ := h
 exact ⟨List.mem_range.1 h2, h1, fun j hj => by simpa using h3 j hj⟩
theorem Gp {x y : List Rec} (hlen : x.length + y.length < 100) {p : List UInt8} (hp : p ≠ []) : Vj x y p < 100 ∧ Qz x y p (Vj x y p) = true ∧ ∀ j, j < Vj x y p → Qz x y p j = false := by
 obtain ⟨i, _, hi, _⟩ := G3 hlen (x := x) (y := y) hp
 have hf : Vj x y p = i := by unfold Vj; rw [hi]; rfl
 rw [hf]
 exact GI hi
theorem nm_form (p : List UInt8) (i : Nat) : jc p (([122] : List UInt8) ++ yQ i) = nmP p i := rfl
theorem digs_len (i : Nat) : (yQ i).length ≤ 2 := by unfold yQ; split <;> simp
def ya.b1 (a0 : List Rec) (a1 : List Rec) (a2 : List UInt8) : Int → Option (Step (List UInt8) (Int) (List UInt8)) :=
 fun x7_1 => bif decide ((0 : Int) ≤ x7_1) then (bif decide ((x7_1 : Int) < 100) then (bif decide (([122] : List UInt8).length + (yQ x7_1.toNat).length ≤ 9223372036854775807) then (bif decide (a2.length ≤ 1048576) then (bif decide ((([122] : List UInt8) ++ (yQ x7_1.toNat)).length ≤ 1048576) then (bif decide (a0.length ≤ 1048576) then (((bif (decide ((qJ a0 (jc a2 (([122] : List UInt8) ++ (yQ x7_1.toNat)))) < 0)) then (bif decide (a1.length ≤ 1048576) then (some (decide ((qJ a1 (jc a2 (([122] : List UInt8) ++ (yQ x7_1.toNat)))) < 0))) else none) else some false)).bind fun z32 => bif z32 then (some (.ret (jc a2 (([122] : List UInt8) ++ (yQ x7_1.toNat))))) else (some (.nxt (IntKind.wrap .i64 (x7_1 + 1))))) else none) else none) else none) else none) else none) else none
def ya.sh (k : Nat) (a0 : List Rec) (a1 : List Rec) (a2 : List UInt8) : Option (List UInt8) :=
  (qr (ya.b1 a0 a1 a2) k 0).bind fun z => match z with | .inl t => some t | .inr x6_5 => some x6_5
theorem ya.eq (a0 a1 : List Rec) (a2 : List UInt8) (h0 : a0.length ≤ 16) (h1 : a1.length ≤ 16) (h2 : qz a2 = true) : ∃ k, ya.sh k a0 a1 a2 = some (nmP a2 (Vj a0 a1 a2)) := by
 have hl := j9 h2
 obtain ⟨f1, f2, f3⟩ := Gp (x := a0) (y := a1) (by omega) (Q3 h2)
 refine ⟨101, ?_⟩
 unfold ya.sh
 rw [J5 (T := List UInt8) (q := Qz a0 a1 a2) (f := nmP a2) f3 f2 (fun i hi => ?_) 101 (by omega)]
 ·rfl
 ·have hd := digs_len i
  have d1 : decide ((0 : Int) ≤ (i : Int)) = true := decide_eq_true (by omega)
  have d2 : decide ((i : Int) < 100) = true := decide_eq_true (by omega)
  have d3 : decide (([122] : List UInt8).length + (yQ i).length ≤ 9223372036854775807) = true := decide_eq_true (by simp; omega)
  have d4 : decide (a2.length ≤ 1048576) = true := decide_eq_true (by omega)
  have d5 : decide ((([122] : List UInt8) ++ yQ i).length ≤ 1048576) = true := decide_eq_true (by simp; omega)
  have d6 : decide (a0.length ≤ 1048576) = true := decide_eq_true (by omega)
  have d7 : decide (a1.length ≤ 1048576) = true := decide_eq_true (by omega)
  have hw : IntKind.wrap .i64 ((i : Int) + 1) = (i : Int) + 1 := wrap_small (by omega) (by omega)
  simp only [ya.b1, Int.toNat_natCast, d1, d2, d3, d4, d5, d6, d7, cond_true, nm_form, hw]
  unfold Qz
  by_cases c1 : qJ a0 (nmP a2 i) < 0 <;> by_cases c2 : qJ a1 (nmP a2 i) < 0 <;> simp [c1, c2]
theorem fileT_inv {p : List UInt8} (h : Wood (jI p)) : qz p = true := Vl (h.ok ⟨1, p, [], 0⟩ (List.mem_append_right _ (List.mem_singleton.2 rfl)))
theorem Vh {a b : List Rec} (ha : (qo a).2 = 0) (hb : (qo b).2 = 0) :
  Sheet (qb a) ∧ Sheet (qb b) ∧ (qb a).length ≤ 16 ∧ (qb b).length ≤ 16 ∧ (qo (qb a)).2 = 0 ∧ (qo (qb b)).2 = 0 ∧
  ∀ p, jZ (qb a) (qb b) = some p → qz p = true ∧ (V6 (qb a) (qb b) p).length ≤ 4 ∧ Wood (V6 (qb a) (qb b) p) ∧ yz (qb a) (V6 (qb a) (qb b) p) ≠ yz (qb b) (V6 (qb a) (qb b) p) ∧
   ((qL (qb a) p).kind = 3 ∧ (qL (qb b) p).kind = 3 ∧ (qL (qb a) p).mode = (qL (qb b) p).mode → qz (nmP p (Vj (qb a) (qb b) p)) = true) ∧
   ((qL (qb a) p).kind ≠ 0 → (qL (qb a) p).path = p) ∧ ((qL (qb b) p).kind ≠ 0 → (qL (qb b) p).path = p) := by
 have sa := Vm ha
 have sb := Vm hb
 have la := jl ha
 have lb := jl hb
 have ca := Ye sa
 have cb := Ye sb
 have ka := YE a
 have kb := YE b
 have ia := Gv sa (by omega)
 have ib := Gv sb (by omega)
 refine ⟨ca, cb, by omega, by omega, Yh ca (by omega), Yh cb (by omega), fun p hp => ?_⟩
 obtain ⟨h1, h2⟩ := XM ca cb hp
 obtain ⟨w1, w2, w3⟩ := wit_differs ca cb ia ib (by omega) h1 h2
 have path : ∀ {l : List Rec}, Sheet l → (qL l p).kind ≠ 0 → (qL l p).path = p := fun {l} hl hk => by
  cases h : qG l p with
  | none => exact absurd ((Vf hl).2 h) hk
  | some r => rw [VI h]; exact (vw h).2
 refine ⟨?_, w2, w1, w3, fun hd => ?_, path ca, path cb⟩
 ·cases q1 : qG (qb a) p with
  | some r => exact ca.path q1
  | none =>
   cases q2 : qG (qb b) p with
   | some r => exact cb.path q2
   | none => rw [q1, q2] at h2; exact absurd rfl h2
 ·unfold V6 at w1
  obtain ⟨k1, k2, k3⟩ := hd
  rw [if_neg (by rw [k1, k2]; omega), if_pos ⟨k1, k2, k3⟩] at w1
  exact fileT_inv w1
def yc.sh (a0 : List Rec) (a1 : List Rec) : Option (List Nd × Bool) :=
 bif decide (a0.length ≤ 1048576) then (bif decide (∀ x ∈ a0, qz x.path = true) then (bif decide (a1.length ≤ 1048576) then (bif decide (∀ x ∈ a1, qz x.path = true) then (bif decide ((qo (qb a0)).2 = 0) then (bif decide ((qo (qb a1)).2 = 0) then (bif (!((qS (qb a0) (qb a1)).2.2)) then (some (([] : List Nd), false)) else (bif ((decide ((((qS (qb a0) (qb a1)).1).kind) = 4)) && (decide ((((qS (qb a0) (qb a1)).2.1).kind) = 0))) then (bif decide (qz (((qS (qb a0) (qb a1)).1).path) = true) then (some ((jI (((qS (qb a0) (qb a1)).1).path)), true)) else none) else (bif ((decide ((((qS (qb a0) (qb a1)).2.1).kind) = 4)) && (decide ((((qS (qb a0) (qb a1)).1).kind) = 0))) then (bif decide (qz (((qS (qb a0) (qb a1)).2.1).path) = true) then (some ((jI (((qS (qb a0) (qb a1)).2.1).path)), true)) else none) else (bif (((decide ((((qS (qb a0) (qb a1)).1).kind) = 3)) && (decide ((((qS (qb a0) (qb a1)).2.1).kind) = 3))) && (decide ((((qS (qb a0) (qb a1)).1).mode) = (((qS (qb a0) (qb a1)).2.1).mode)))) then (bif decide ((qb a0).length ≤ 16) then (bif decide ((qb a1).length ≤ 16) then (bif decide (qz (((qS (qb a0) (qb a1)).1).path) = true) then ((some (nmP (((qS (qb a0) (qb a1)).1).path) (Vj (qb a0) (qb a1) (((qS (qb a0) (qb a1)).1).path)))).bind fun z84 => bif decide (qz z84 = true) then (some ((jI z84), true)) else none) else none) else none) else none) else (some (([] : List Nd), true)))))) else none) else none) else none) else none) else none) else none
theorem yc.eq (a0 a1 : List Rec) (h0 : (qo a0).2 = 0) (h1 : (qo a1).2 = 0) : yc.sh a0 a1 = some ((VY a0 a1).1, (VY a0 a1).2) := by
 obtain ⟨ca, cb, la, lb, fa, fb, hf⟩ := Vh h0 h1
 have l0 := jl h0
 have l1 := jl h1
 have g1 : decide (a0.length ≤ 1048576) = true := decide_eq_true (by omega)
 have g2 : decide (a1.length ≤ 1048576) = true := decide_eq_true (by omega)
 have g3 : decide (∀ x ∈ a0, qz x.path = true) = true := decide_eq_true (Qp h0)
 have g4 : decide (∀ x ∈ a1, qz x.path = true) = true := decide_eq_true (Qp h1)
 have g5 : decide ((qb a0).length ≤ 16) = true := decide_eq_true la
 have g6 : decide ((qb a1).length ≤ 16) = true := decide_eq_true lb
 unfold yc.sh VY qS
 simp only [g1, g2, g3, g4, g5, g6, fa, fb, decide_true, cond_true]
 cases hp : jZ (qb a0) (qb a1) with
 | none => rfl
 | some p =>
  obtain ⟨q1, q2, q3, q4, q5, q6, q7⟩ := hf p hp
  simp only [Bool.not_true, cond_false]
  unfold V6
  by_cases c1 : (qL (qb a0) p).kind = 4 ∧ (qL (qb a1) p).kind = 0
  ·rw [if_pos (.inl c1), decide_eq_true c1.1, decide_eq_true c1.2]
   rw [q6 (by rw [c1.1]; omega), decide_eq_true q1]; rfl
  ·have e1 : (decide ((qL (qb a0) p).kind = 4) && decide ((qL (qb a1) p).kind = 0)) = false := by rw [← Bool.decide_and]; exact decide_eq_false c1
   rw [e1]
   by_cases c2 : (qL (qb a1) p).kind = 4 ∧ (qL (qb a0) p).kind = 0
   ·rw [if_pos (.inr ⟨c2.2, c2.1⟩), decide_eq_true c2.1, decide_eq_true c2.2]
    rw [q7 (by rw [c2.1]; omega), decide_eq_true q1]; rfl
   ·have e2 : (decide ((qL (qb a1) p).kind = 4) && decide ((qL (qb a0) p).kind = 0)) = false := by rw [← Bool.decide_and]; exact decide_eq_false c2
    rw [e2, if_neg (by rintro (h | h); exact c1 h; exact c2 ⟨h.2, h.1⟩)]
    by_cases c3 : (qL (qb a0) p).kind = 3 ∧ (qL (qb a1) p).kind = 3 ∧ (qL (qb a0) p).mode = (qL (qb a1) p).mode
    ·rw [if_pos c3, decide_eq_true c3.1, decide_eq_true c3.2.1, decide_eq_true c3.2.2]
     rw [q6 (by rw [c3.1]; omega), decide_eq_true q1]
     simp only [Bool.and_self, cond_false, cond_true, Option.bind_some, decide_eq_true (q5 c3)]
    ·have e3 : ((decide ((qL (qb a0) p).kind = 3) && decide ((qL (qb a1) p).kind = 3)) && decide ((qL (qb a0) p).mode = (qL (qb a1) p).mode)) = false := by rw [← Bool.decide_and, ← Bool.decide_and]; exact decide_eq_false fun h => c3 ⟨h.1.1, h.1.2, h.2⟩
     rw [if_neg c3, e3]; rfl
def yP.sh (a0 : List Rec) (a1 : List Rec) : Option (List Nd × Int) :=
 bif ((decide (4096 < (a0.length : Int))) || (decide (4096 < (a1.length : Int)))) then (some (([] : List Nd), 2)) else (bif decide (a0.length ≤ 1048576) then (bif decide (∀ x ∈ a0, x.path.length ≤ 1048576) then (((bif (!(decide ((qo a0).2 = 0))) then some true else (bif decide (a1.length ≤ 1048576) then (bif decide (∀ x ∈ a1, x.path.length ≤ 1048576) then (some (!(decide ((qo a1).2 = 0)))) else none) else none))).bind fun z19 => bif z19 then (some (([] : List Nd), 1)) else (bif decide ((qo a0).2 = 0) then (bif decide ((qo a1).2 = 0) then (bif (!((VY a0 a1).2)) then (some (([] : List Nd), 18)) else (some ((VY a0 a1).1, 0))) else none) else none)) else none) else none)
theorem yP.eq (a0 a1 : List Rec) (h0 : a0.length ≤ 1048576) (h1 : a1.length ≤ 1048576) (h2 : ∀ x ∈ a0, x.path.length ≤ 1048576) (h3 : ∀ x ∈ a1, x.path.length ≤ 1048576) : yP.sh a0 a1 = some ((qt a0 a1).1, (qt a0 a1).2) := by
 unfold yP.sh qt
 rw [XI]
 by_cases h : (decide (4096 < a0.length) || decide (4096 < a1.length)) = true
 ·have : je a0 a1 = 2 := by simp only [je, h, if_true]
  simp only [h, cond_true, this]; rfl
 ·have hf : (decide (4096 < a0.length) || decide (4096 < a1.length)) = false := by simpa using h
  simp only [hf, cond_false, decide_eq_true h0, decide_eq_true h1, decide_eq_true h2, decide_eq_true h3, cond_true]
  by_cases c1 : (qo a0).2 = 0
  ·by_cases c2 : (qo a1).2 = 0
   ·have hc : je a0 a1 = 0 := by simp only [je, h, if_false, c1, c2]; rfl
    simp only [c1, c2, hc, decide_true, Bool.not_true, cond_false, cond_true, Option.bind_some, if_true]
    unfold VY
    cases jZ (qb a0) (qb a1) <;> rfl
   ·have hc : je a0 a1 = 1 := by simp only [je, h, if_false, c1, c2]; rfl
    simp only [c1, c2, hc, decide_true, decide_false, Bool.not_true, Bool.not_false, cond_false, cond_true, Option.bind_some]; rfl
  ·have hc : je a0 a1 = 1 := by simp only [je, h, if_false, c1]; simp
   simp only [c1, hc, decide_false, Bool.not_false, cond_true, Option.bind_some]; rfl
theorem find_loop {α T : Type} [Inhabited α] (q : α → Bool) (g : α → T) (l : List α) {b : Int → Option (Step T Int Unit)} (hb : ∀ i : Nat, i < l.length → (∀ j : Nat, j < i → q (gt l (j : Int)) = false) → b (i : Int) = bif q (gt l (i : Int)) then some (.ret (g (gt l (i : Int)))) else some (.nxt ((i : Int) + 1))) (hn : b (l.length : Int) = some (.brk ())) :
    ∀ (m i k : Nat), i + m = l.length → m < k → (∀ j : Nat, j < i → q (gt l (j : Int)) = false) → qr b k (i : Int) = some (match (l.drop i).find? q with | some x => .inl (g x) | none => .inr ()) := by
  intro m
  induction m with
  | zero =>
    intro i k hi hk hj
    obtain ⟨k, rfl⟩ : ∃ j, k = j + 1 := ⟨k - 1, by omega⟩
    obtain rfl : i = l.length := by omega
    rw [qr, hn, List.drop_length]; rfl
  | succ m ih =>
    intro i k hi hk hj
    obtain ⟨k, rfl⟩ : ∃ j, k = j + 1 := ⟨k - 1, by omega⟩
    have hlt : i < l.length := by omega
    rw [qr, hb i hlt hj, List.drop_eq_getElem_cons hlt]
    have e : gt l (i : Int) = l[i] := by rw [yh, ym hlt]
    rcases qw (q (gt l (i : Int))) with h | h
    · rw [h, List.find?_cons_of_pos (by rw [← e]; exact h), ← e]; rfl
    · rw [h, List.find?_cons_of_neg (by rw [← e, h]; simp)]
      have := ih (i + 1) k (by omega) (by omega) fun j hj2 => by
        by_cases c : j = i
        · subst c; exact h
        · exact hj j (by omega)
      rw [Int.natCast_add] at this
      exact this
def qN.b2 (a0 : List Rec) (a1 : List Rec) (x49_59 : Int) : Int → Option (Step (Step (List Nd × Int) (Int) (Unit)) (Int) (Unit)) :=
 fun x15_174 => bif decide ((0 : Int) ≤ x15_174) then (bif decide ((x15_174 : Int) < 100) then (bif decide (([122] : List UInt8).length + (yQ x15_174.toNat).length ≤ 9223372036854775807) then (bif decide ((gt (vC ([(qb a0), (qb a1)] : List (List Rec))) x49_59).length ≤ 1048576) then (bif decide ((([122] : List UInt8) ++ (yQ x15_174.toNat)).length ≤ 1048576) then ((some (jc (gt (vC ([(qb a0), (qb a1)] : List (List Rec))) x49_59) (([122] : List UInt8) ++ (yQ x15_174.toNat)))).bind fun z200 => bif decide ((qb a0).length ≤ 1048576) then (((bif (decide ((qJ (qb a0) z200) < 0)) then (bif decide ((qb a1).length ≤ 1048576) then (some (decide ((qJ (qb a1) z200) < 0))) else none) else some false)).bind fun z206 => bif z206 then (bif decide (qz z200 = true) then (some (.ret (.ret ((jI z200), 0)))) else none) else (some (.nxt (IntKind.wrap .i64 (x15_174 + 1))))) else none) else none) else none) else none) else none) else none
def qN.b1 (k : Nat) (a0 : List Rec) (a1 : List Rec) : Int → Option (Step (List Nd × Int) (Int) (Unit)) :=
  fun x49_59 => bif (decide (x49_59 < ((vC ([(qb a0), (qb a1)] : List (List Rec))).length : Int))) then (bif inR x49_59 (vC ([(qb a0), (qb a1)] : List (List Rec))).length then (bif decide ((qb a0).length ≤ 1048576) then ((bif (decide (0 ≤ (qJ (qb a0) (gt (vC ([(qb a0), (qb a1)] : List (List Rec))) x49_59)))) then (bif inR (qJ (qb a0) (gt (vC ([(qb a0), (qb a1)] : List (List Rec))) x49_59)) (qb a0).length then (some (.inr (gt (qb a0) (qJ (qb a0) (gt (vC ([(qb a0), (qb a1)] : List (List Rec))) x49_59))))) else none) else (some (.inr (⟨0, ([] : List UInt8), ([] : List UInt8), 0, false⟩ : Rec))) : Option ((Step (List Nd × Int) (Int) (Unit)) ⊕ (Rec))).bind fun z => match z with | .inl t => some t | .inr y104 => bif decide ((qb a1).length ≤ 1048576) then ((bif (decide (0 ≤ (qJ (qb a1) (gt (vC ([(qb a0), (qb a1)] : List (List Rec))) x49_59)))) then (bif inR (qJ (qb a1) (gt (vC ([(qb a0), (qb a1)] : List (List Rec))) x49_59)) (qb a1).length then (some (.inr (gt (qb a1) (qJ (qb a1) (gt (vC ([(qb a0), (qb a1)] : List (List Rec))) x49_59))))) else none) else (some (.inr (⟨0, ([] : List UInt8), ([] : List UInt8), 0, false⟩ : Rec))) : Option ((Step (List Nd × Int) (Int) (Unit)) ⊕ (Rec))).bind fun z => match z with | .inl t => some t | .inr y125 => bif (decide (y104 = y125)) then (some (.nxt (IntKind.wrap .i64 (x49_59 + 1)))) else (bif (((decide (y104.kind = 4)) && (decide (y125.kind = 0))) || ((decide (y104.kind = 0)) && (decide (y125.kind = 4)))) then (bif decide (qz (gt (vC ([(qb a0), (qb a1)] : List (List Rec))) x49_59) = true) then (some (.ret ((jI (gt (vC ([(qb a0), (qb a1)] : List (List Rec))) x49_59)), 0))) else none) else (bif (((decide (y104.kind = 3)) && (decide (y125.kind = 3))) && (decide (y104.mode = y125.mode))) then ((qr (qN.b2 a0 a1 x49_59) k 0).bind fun z => match z with | .inl t => some t | .inr _ => some (.ret ([], 0))) else (some (.ret ([], 0)))))) else none) else none) else none) else (some (.brk ()))
def qN.sh (k : Nat) (a0 : List Rec) (a1 : List Rec) : Option (List Nd × Int) :=
  bif decide (a0.length ≤ 1048576) then (bif decide (∀ x ∈ a0, x.path.length ≤ 1048576) then (((bif (!(decide ((vn a0).2 = 0))) then some true else (bif decide (a1.length ≤ 1048576) then (bif decide (∀ x ∈ a1, x.path.length ≤ 1048576) then (some (!(decide ((vn a1).2 = 0)))) else none) else none))).bind fun z14 => bif decide (([.inl ((decide (4096 < a0.length)) || (decide (4096 < a1.length))), .inr 2, .inl z14, .inr 1] : List (Bool ⊕ Int)).length ≤ 4611686018427387904) then ((some (vA ([.inl ((decide (4096 < a0.length)) || (decide (4096 < a1.length))), .inr 2, .inl z14, .inr 1] : List (Bool ⊕ Int)))).bind fun z31 => bif (!decide (z31 = 0)) then (some ([], z31)) else (bif decide (a0.length ≤ 1048576) then (bif decide (∀ x ∈ a0, qz x.path = true) then (bif decide (a1.length ≤ 1048576) then (bif decide (∀ x ∈ a1, qz x.path = true) then (bif decide (([(qb a0), (qb a1)] : List (List Rec)).length ≤ 5) then (bif decide (∀ l ∈ ([(qb a0), (qb a1)] : List (List Rec)), l.length ≤ 1048576) then (bif decide (∀ l ∈ ([(qb a0), (qb a1)] : List (List Rec)), ∀ x ∈ l, x.path.length ≤ 1048576) then ((qr (qN.b1 k a0 a1) k 0).bind fun z => match z with | .inl t => some t | .inr _ => some ([], 18)) else none) else none) else none) else none) else none) else none) else none)) else none) else none) else none
theorem Y5 {a b : List Rec} (ca : Sheet (qb a)) (cb : Sheet (qb b)) (la : (qb a).length ≤ 16) (lb : (qb b).length ≤ 16) : Vi [qb a, qb b] = true := XO (fun l hl => by
 simp at hl
 rcases hl with rfl | rfl
 ·exact ⟨ca, la⟩
 ·exact ⟨cb, lb⟩) (by simp)
theorem recAt_sh {T : Type} (l : List Rec) (p : List UInt8) : ((bif (decide (0 ≤ qJ l p)) then (bif inR (qJ l p) l.length then (some (.inr (gt l (qJ l p)))) else none) else (some (.inr (⟨0, ([] : List UInt8), ([] : List UInt8), 0, false⟩ : Rec))) : Option (T ⊕ Rec))) = some (.inr (qL l p)) := by
 unfold qL
 by_cases h : 0 ≤ qJ l p
 ·rw [decide_eq_true h, JB h, if_pos h]; rfl
 ·rw [decide_eq_false h, if_neg h]; rfl
theorem qN.step {a0 a1 : List Rec} (c1 : (qo a0).2 = 0) (c2 : (qo a1).2 = 0) {i : Nat} (hi : i < (vC [qb a0, qb a1]).length) (hj : ∀ j : Nat, j < i → (!decide (qL (qb a0) (gt (vC [qb a0, qb a1]) (j : Int)) = qL (qb a1) (gt (vC [qb a0, qb a1]) (j : Int)))) = false) :
  qN.b1 200 a0 a1 (i : Int) = bif (!decide (qL (qb a0) (gt (vC [qb a0, qb a1]) (i : Int)) = qL (qb a1) (gt (vC [qb a0, qb a1]) (i : Int)))) then some (.ret (V6 (qb a0) (qb a1) (gt (vC [qb a0, qb a1]) (i : Int)), 0)) else some (.nxt ((i : Int) + 1)) := by
 obtain ⟨ca, cb, la, lb, fa, fb, hf⟩ := Vh c1 c2
 have hst := Y5 ca cb la lb
 have hpl := G0 hst
 have hw : IntKind.wrap .i64 ((i : Int) + 1) = (i : Int) + 1 := vz hi (by omega)
 obtain ⟨L, hL⟩ : ∃ L, vC [qb a0, qb a1] = L := ⟨_, rfl⟩
 have hmem : gt L (i : Int) ∈ L := by rw [← hL]; exact gt_mem (qX hi)
 have hpo := paths_ok hst (gt L (i : Int)) (by rw [hL]; exact hmem)
 have hr : vV L := by rw [← hL]; exact Vq _
 have d1 : decide ((qb a0).length ≤ 1048576) = true := decide_eq_true (by omega)
 have d2 : decide ((qb a1).length ≤ 1048576) = true := decide_eq_true (by omega)
 rw [hL] at hi hj ⊢
 simp only [qN.b1, hL, yy, hi, decide_true, cond_true, qX hi, d1, d2, recAt_sh, Option.bind_some, hw]
 by_cases he : qL (qb a0) (gt L (i : Int)) = qL (qb a1) (gt L (i : Int))
 ·rw [decide_eq_true he]; rfl
 ·have hfp : jZ (qb a0) (qb a1) = some (gt L (i : Int)) := by
   unfold jZ
   rw [hL]
   refine Xg hr hmem (by simpa using he) fun q hq hlt => ?_
   obtain ⟨j, hj2, rfl⟩ := List.getElem_of_mem hq
   have e : gt L (j : Int) = L[j] := by rw [yh, ym hj2]
   rw [← e]
   rcases Nat.lt_or_ge j i with hji | hji
   ·exact hj j hji
   ·rw [← e] at hlt
    by_cases c : j = i
    ·subst c; rw [ju] at hlt; cases hlt
    ·have := List.pairwise_iff_getElem.1 hr i j hi hj2 (by omega)
     have ei : gt L (i : Int) = L[i] := by rw [yh, ym hi]
     rw [← e, ← ei, Qe hlt] at this; cases this
  obtain ⟨q1, q2, q3, q4, q5, q6, q7⟩ := hf _ hfp
  generalize hgp : gt L (i : Int) = p at *
  rw [decide_eq_false he]
  simp only [cond_false, Bool.not_false, cond_true]
  unfold V6
  by_cases k1 : (qL (qb a0) p).kind = 4 ∧ (qL (qb a1) p).kind = 0 ∨ (qL (qb a0) p).kind = 0 ∧ (qL (qb a1) p).kind = 4
  ·have e1 : ((decide ((qL (qb a0) p).kind = 4) && decide ((qL (qb a1) p).kind = 0)) || (decide ((qL (qb a0) p).kind = 0) && decide ((qL (qb a1) p).kind = 4))) = true := by
    rw [← Bool.decide_and, ← Bool.decide_and, ← Bool.decide_or]; exact decide_eq_true k1
   rw [if_pos k1, e1, decide_eq_true q1]; rfl
  ·have e1 : ((decide ((qL (qb a0) p).kind = 4) && decide ((qL (qb a1) p).kind = 0)) || (decide ((qL (qb a0) p).kind = 0) && decide ((qL (qb a1) p).kind = 4))) = false := by
    rw [← Bool.decide_and, ← Bool.decide_and, ← Bool.decide_or]; exact decide_eq_false k1
   rw [if_neg k1, e1]
   by_cases k2 : (qL (qb a0) p).kind = 3 ∧ (qL (qb a1) p).kind = 3 ∧ (qL (qb a0) p).mode = (qL (qb a1) p).mode
   ·rw [if_pos k2, decide_eq_true k2.1, decide_eq_true k2.2.1, decide_eq_true k2.2.2]
    obtain ⟨f1, f2, f3⟩ := Gp (x := qb a0) (y := qb a1) (by omega) (Q3 q1)
    have hpl2 := j9 q1
    have hq5 := q5 k2
    rw [J5 (T := Step (List Nd × Int) Int Unit) (q := Qz (qb a0) (qb a1) p) (f := fun j => .ret (jI (nmP p j), 0)) f3 f2 (fun j hj => ?_) 200 (by omega)]
    ·rfl
    ·have hd := digs_len j
     have b1 : decide ((0 : Int) ≤ (j : Int)) = true := decide_eq_true (by omega)
     have b2 : decide ((j : Int) < 100) = true := decide_eq_true (by omega)
     have b3 : decide (([122] : List UInt8).length + (yQ j).length ≤ 9223372036854775807) = true := decide_eq_true (by simp; omega)
     have b4 : decide (p.length ≤ 1048576) = true := decide_eq_true (by omega)
     have b5 : decide ((([122] : List UInt8) ++ yQ j).length ≤ 1048576) = true := decide_eq_true (by simp; omega)
     have hw2 : IntKind.wrap .i64 ((j : Int) + 1) = (j : Int) + 1 := wrap_small (by omega) (by omega)
     have hgi : gt (vC ([qb a0, qb a1] : List (List Rec))) (i : Int) = p := by rw [hL]; exact hgp
     simp only [qN.b2, hgi, Int.toNat_natCast, b1, b2, b3, b4, b5, d1, d2, cond_true, nm_form, hw2, Option.bind_some]
     unfold Qz at f2 f3 ⊢
     by_cases x1 : qJ (qb a0) (nmP p j) < 0
     ·by_cases x2 : qJ (qb a1) (nmP p j) < 0
      ·have hjj : j = Vj (qb a0) (qb a1) p := by
        refine Classical.byContradiction fun hne => ?_
        have := f3 j (by omega)
        simp [x1, x2] at this
       have hq6 : qz (nmP p j) = true := by rw [hjj]; exact hq5
       simp [x1, x2, hq6]
      ·simp [x1, x2]
     ·simp [x1]
   ·have e3 : ((decide ((qL (qb a0) p).kind = 3) && decide ((qL (qb a1) p).kind = 3)) && decide ((qL (qb a0) p).mode = (qL (qb a1) p).mode)) = false := by rw [← Bool.decide_and, ← Bool.decide_and]; exact decide_eq_false fun h => k2 ⟨h.1.1, h.1.2, h.2⟩
    rw [if_neg k2, e3]; rfl
theorem qN.eq (a0 a1 : List Rec) (h0 : a0.length ≤ 1048576) (h1 : a1.length ≤ 1048576) (h2 : ∀ x ∈ a0, x.path.length ≤ 1048576) (h3 : ∀ x ∈ a1, x.path.length ≤ 1048576) : ∃ k, qN.sh k a0 a1 = some ((qt a0 a1).1, (qt a0 a1).2) := by
  refine ⟨200, ?_⟩
  unfold qN.sh qt vn
  simp only [h0, h1, decide_true, cond_true, decide_eq_true h2, decide_eq_true h3, GS, List.length_cons, List.length_nil, vA, GF, XA]
  by_cases hp : je a0 a1 = 0
  · obtain ⟨c1, c2⟩ := YD hp
    obtain ⟨ca, cb, la, lb, fa, fb, hf⟩ := Vh c1 c2
    have l0 := jl c1
    have l1 := jl c2
    have hst := Y5 ca cb la lb
    have hpl := G0 hst
    have n1 : ¬ 4096 < a0.length := by omega
    have n2 : ¬ 4096 < a1.length := by omega
    have g3 : decide (∀ x ∈ a0, qz x.path = true) = true := decide_eq_true (Qp c1)
    have g4 : decide (∀ x ∈ a1, qz x.path = true) = true := decide_eq_true (Qp c2)
    have hL2 : ∀ l ∈ [qb a0, qb a1], Sheet l ∧ l.length ≤ 16 := fun l hl => by
      simp at hl
      rcases hl with rfl | rfl
      · exact ⟨ca, la⟩
      · exact ⟨cb, lb⟩
    have g5 : decide (∀ l ∈ ([qb a0, qb a1] : List (List Rec)), l.length ≤ 1048576) = true := decide_eq_true fun l hl => by have := (hL2 l hl).2; omega
    have g6 : decide (∀ l ∈ ([qb a0, qb a1] : List (List Rec)), ∀ x ∈ l, x.path.length ≤ 1048576) = true := decide_eq_true fun l hl => small_paths (hL2 l hl).1
    have hlo := find_loop (fun p => !decide (qL (qb a0) p = qL (qb a1) p)) (fun p => (V6 (qb a0) (qb a1) p, (0 : Int))) (vC [qb a0, qb a1]) (b := qN.b1 200 a0 a1) (fun i hi hj => qN.step c1 c2 hi hj) (by simp [qN.b1]) (vC [qb a0, qb a1]).length 0 200 (by omega) (by omega) (fun j hj => by omega)
    rw [List.drop_zero] at hlo
    have hlo2 : qr (qN.b1 200 a0 a1) 200 0 = some (match jZ (qb a0) (qb a1) with | some x => .inl (V6 (qb a0) (qb a1) x, 0) | none => .inr ()) := by
      have h9 := hlo
      unfold jZ
      generalize List.find? (fun p => !decide (qL (qb a0) p = qL (qb a1) p)) (vC [qb a0, qb a1]) = z at h9 ⊢
      cases z <;> exact h9
    simp only [n1, n2, c1, c2, hp, decide_true, decide_false, Bool.not_true, Bool.or_self, cond_true, cond_false, Option.bind_some, g3, g4, g5, g6, hlo2, Nat.reduceAdd, Nat.reduceLeDiff, Bool.false_eq_true, if_true, if_false]
    cases jZ (qb a0) (qb a1) <;> rfl
  · have : je a0 a1 ≠ 0 := hp
    unfold je at this ⊢
    by_cases h : 4096 < a0.length
    · by_cases hf : (qo a0).2 = 0 <;> by_cases hg : (qo a1).2 = 0 <;> simp [h, hf, hg]
    · by_cases h' : 4096 < a1.length
      · by_cases hf : (qo a0).2 = 0 <;> by_cases hg : (qo a1).2 = 0 <;> simp [h, h', hf, hg]
      · by_cases hf : (qo a0).2 = 0
        · by_cases hg : (qo a1).2 = 0
          · simp [h, h', hf, hg] at this
          · simp [h, h', hf, hg]
        · simp [h, h', hf]
theorem XY (a b : List Rec) : (qt a b).1.length ≤ 4 := by
 unfold qt
 split
 ·rename_i hp
  obtain ⟨c1, c2⟩ := YD hp
  obtain ⟨_, _, _, _, _, _, hf⟩ := Vh c1 c2
  cases hc : jZ (qb a) (qb b) with
  | none => simp
  | some p => exact (hf p hc).2.1
 ·simp
def law_Witness.sh (a0 : List Rec) (a1 : List Rec) : Option (Bool) :=
 bif decide ((0 : Int) ≤ 1048576) then (bif decide ((1048576 : Int) ≤ 1048576) then (bif decide (a0.length ≤ 9223372036854775807) then (bif decide (∀ x ∈ a0, VW x) then (bif (decide ((yG a0 1048576) < 0)) then (some true) else (bif decide ((0 : Int) ≤ (yG a0 1048576)) then (bif decide (((yG a0 1048576) : Int) ≤ 1048576) then (bif decide (a1.length ≤ 9223372036854775807) then (bif decide (∀ x ∈ a1, VW x) then (bif (decide ((yG a1 (yG a0 1048576)) < 0)) then (some true) else (bif decide (a0.length ≤ 1048576) then (bif decide (a1.length ≤ 1048576) then (bif decide (a0.length ≤ 1048576) then (bif decide (a1.length ≤ 1048576) then (bif decide (∀ x ∈ a0, x.path.length ≤ 1048576) then (bif decide (∀ x ∈ a1, x.path.length ≤ 1048576) then (bif decide (a0.length ≤ 1048576) then (bif decide (a1.length ≤ 1048576) then (bif decide (a0.length ≤ 1048576) then (bif decide (a1.length ≤ 1048576) then (bif decide (∀ x ∈ a0, x.path.length ≤ 1048576) then (bif decide (∀ x ∈ a1, x.path.length ≤ 1048576) then (bif decide (((qt a0 a1).1).length ≤ 4611686018427387904) then (bif ((!(decide (((qt a0 a1).1) = ((qt a0 a1).1)))) || (!decide (((qt a0 a1).2) = ((qt a0 a1).2)))) then (some false) else (bif decide (a0.length ≤ 1048576) then (bif decide (a0.length ≤ 4611686018427387904) then (bif (!(decide (a0 = a0))) then (some false) else (bif decide (a1.length ≤ 1048576) then (bif decide (a1.length ≤ 4611686018427387904) then (bif (!(decide (a1 = a1))) then (some false) else (bif decide (a0.length ≤ 576460752303423488) then (bif decide ((0 : Int) ≤ 1) then (bif decide ((1 : Int) ≤ 4611686018427387904 - 5 * (a0.length : Int)) then (bif decide (a1.length ≤ 576460752303423488) then (bif decide ((0 : Int) ≤ (1 + 5 * (a0.length : Int))) then (bif decide (((1 + 5 * (a0.length : Int)) : Int) ≤ 4611686018427387904 - 5 * (a1.length : Int)) then (((bif (decide (((1 + 5 * (a0.length : Int)) + 5 * (a1.length : Int)) < 0)) then some true else (bif decide (((qt a0 a1).1).length ≤ 4611686018427387904) then (some (!(decide (((qt a0 a1).1) = ((qt a0 a1).1))))) else none))).bind fun z92 => bif (z92 || (!decide (((qt a0 a1).2) = ((qt a0 a1).2)))) then (some false) else (bif decide (((qt a0 a1).1).length ≤ 1152921504606846976) then (bif decide ((0 : Int) ≤ 1) then (bif decide ((1 : Int) ≤ 4611686018427387904 - 4 * (((qt a0 a1).1).length : Int)) then (bif decide ((y5 ((qt a0 a1).1).length 1).length ≤ 1152921504606846976) then (bif decide ((0 : Int) ≤ 1) then (bif decide ((1 : Int) ≤ 4611686018427387904 - 4 * ((y5 ((qt a0 a1).1).length 1).length : Int)) then (bif (decide ((Ve (y5 ((qt a0 a1).1).length 1) 1) < 0)) then (some false) else (bif (!decide ((Ve (y5 ((qt a0 a1).1).length 1) 1) = (1 + 4 * (((qt a0 a1).1).length : Int)))) then (some false) else (bif decide (a0.length ≤ 1048576) then (bif decide (a1.length ≤ 1048576) then (bif decide (a0.length ≤ 1048576) then (bif decide (a1.length ≤ 1048576) then (bif decide (∀ x ∈ a0, x.path.length ≤ 1048576) then (bif decide (∀ x ∈ a1, x.path.length ≤ 1048576) then (bif decide (((qt a0 a1).1).length ≤ 4611686018427387904) then (bif ((!(decide (((qt a0 a1).1) = ((qt a0 a1).1)))) || (!decide (((qt a0 a1).2) = ((qt a0 a1).2)))) then (some false) else (bif decide ((y5 ((qt a0 a1).1).length 1).length ≤ 1152921504606846976) then (bif decide ((0 : Int) ≤ 1) then (bif decide ((1 : Int) ≤ 4611686018427387904 - 4 * ((y5 ((qt a0 a1).1).length 1).length : Int)) then (bif (decide ((Ve (y5 ((qt a0 a1).1).length 1) 1) < 0)) then (some false) else (bif (!decide ((Ve (y5 ((qt a0 a1).1).length 1) 1) = (1 + 4 * (((qt a0 a1).1).length : Int)))) then (some false) else (some true))) else none) else none) else none)) else none) else none) else none) else none) else none) else none) else none))) else none) else none) else none) else none) else none) else none)) else none) else none) else none) else none) else none) else none)) else none) else none)) else none) else none)) else none) else none) else none) else none) else none) else none) else none) else none) else none) else none) else none) else none) else none)) else none) else none) else none) else none)) else none) else none) else none) else none
theorem law_Witness.eq (a0 a1 : List Rec) (h2 : ∀ x ∈ a0, VW x) (h3 : a0.length ≤ 9223372036854775807) (h4 : ∀ x ∈ a1, VW x) (h5 : a1.length ≤ 9223372036854775807) : law_Witness.sh a0 a1 = some true := by
 unfold law_Witness.sh
 by_cases hs : yG a0 1048576 < 0
 ·simp [h3, decide_eq_true h2, hs]
 ·obtain ⟨k1, k2, _, k4, k5⟩ := sz_of hs (by omega) (by omega)
  by_cases ht : yG a1 (yG a0 1048576) < 0
  ·simp [h3, h5, decide_eq_true h2, decide_eq_true h4, hs, ht, k4, k5]
  ·obtain ⟨m1, m2, _, m4, m5⟩ := sz_of ht k4 k5
   have hl := XY a0 a1
   have b1 : a0.length ≤ 4611686018427387904 := by omega
   have b1' : a1.length ≤ 4611686018427387904 := by omega
   have b2 : (qt a0 a1).1.length ≤ 4611686018427387904 := by omega
   have b2' : (qt a0 a1).1.length ≤ 1152921504606846976 := by omega
   have b3 : a0.length ≤ 576460752303423488 := by omega
   have b3' : a1.length ≤ 576460752303423488 := by omega
   have b4 : (1 : Int) ≤ 4611686018427387904 - 5 * (a0.length : Int) := by omega
   have b5 : (0 : Int) ≤ 1 + 5 * (a0.length : Int) := by omega
   have b6 : (1 + 5 * (a0.length : Int)) ≤ 4611686018427387904 - 5 * (a1.length : Int) := by omega
   have b7 : ¬ (1 + 5 * (a0.length : Int) + 5 * (a1.length : Int)) < 0 := by omega
   have b8 : (1 : Int) ≤ 4611686018427387904 - 4 * ((qt a0 a1).1.length : Int) := by omega
   have b9 : ¬ (1 + 4 * ((qt a0 a1).1.length : Int)) < 0 := by omega
   simp [h3, h5, decide_eq_true h2, decide_eq_true h4, hs, ht, k1, k4, k5, m1, decide_eq_true k2, decide_eq_true m2, Yx, heldN_marks, b1, b1', b2, b2', b3, b3', b4, b5, b6, b7, b8, b9]
def qW.sh (a0 : Int) : Option (List UInt8) :=
 bif (decide (a0 = (-9223372036854775808))) then (some ([45, 57, 50, 50, 51, 51, 55, 50, 48, 51, 54, 56, 53, 52, 55, 55, 53, 56, 48, 56] : List UInt8)) else (bif (decide (a0 < 0)) then (bif decide (False) then (bif decide (([45] : List UInt8).length + ([] : List UInt8).length ≤ 9223372036854775807) then (some (([45] : List UInt8) ++ ([] : List UInt8))) else none) else none) else (bif (decide (a0 < 10)) then (some (yA ([IntKind.wrap .u8 (IntKind.wrap .i64 (48 + a0))] : List Int))) else (bif decide (False) then (bif decide (([] : List UInt8).length + (yA ([IntKind.wrap .u8 (IntKind.wrap .i64 (48 + (a0.tmod 10)))] : List Int)).length ≤ 9223372036854775807) then (some (([] : List UInt8) ++ (yA ([IntKind.wrap .u8 (IntKind.wrap .i64 (48 + (a0.tmod 10)))] : List Int)))) else none) else none)))
theorem digits1_all : (List.range 10).all (fun i => decide (qW.sh (i : Int) = some (yQ i))) = true := by decide +kernel
theorem qW.eq (a0 : Int) (h0 : (0 : Int) ≤ a0) (h1 : (a0 : Int) < 10) : qW.sh a0 = some (yQ a0.toNat) := by
 obtain ⟨i, rfl⟩ := Int.eq_ofNat_of_zero_le h0
 have := List.all_eq_true.1 digits1_all i (List.mem_range.2 (by omega))
 exact of_decide_eq_true this
def vc.sh (a0 : Int) : Option (List UInt8) :=
 bif (decide (a0 = (-9223372036854775808))) then (some ([45, 57, 50, 50, 51, 51, 55, 50, 48, 51, 54, 56, 53, 52, 55, 55, 53, 56, 48, 56] : List UInt8)) else (bif (decide (a0 < 0)) then (bif decide ((0 : Int) ≤ (IntKind.wrap .i64 (0 - a0))) then (bif decide (((IntKind.wrap .i64 (0 - a0)) : Int) < 10) then (bif decide (([45] : List UInt8).length + (yQ (IntKind.wrap .i64 (0 - a0)).toNat).length ≤ 9223372036854775807) then (some (([45] : List UInt8) ++ (yQ (IntKind.wrap .i64 (0 - a0)).toNat))) else none) else none) else none) else (bif (decide (a0 < 10)) then (some (yA ([IntKind.wrap .u8 (IntKind.wrap .i64 (48 + a0))] : List Int))) else (bif decide ((0 : Int) ≤ (IntKind.wrap .i64 (a0.tdiv 10))) then (bif decide (((IntKind.wrap .i64 (a0.tdiv 10)) : Int) < 10) then (bif decide ((yQ (IntKind.wrap .i64 (a0.tdiv 10)).toNat).length + (yA ([IntKind.wrap .u8 (IntKind.wrap .i64 (48 + (a0.tmod 10)))] : List Int)).length ≤ 9223372036854775807) then (some ((yQ (IntKind.wrap .i64 (a0.tdiv 10)).toNat) ++ (yA ([IntKind.wrap .u8 (IntKind.wrap .i64 (48 + (a0.tmod 10)))] : List Int)))) else none) else none) else none)))
theorem digits_all : (List.range 100).all (fun i => decide (vc.sh (i : Int) = some (yQ i))) = true := by decide +kernel
theorem vc.eq (a0 : Int) (h0 : (0 : Int) ≤ a0) (h1 : (a0 : Int) < 100) : vc.sh a0 = some (yQ a0.toNat) := by
 obtain ⟨i, rfl⟩ := Int.eq_ofNat_of_zero_le h0
 have := List.all_eq_true.1 digits_all i (List.mem_range.2 (by omega))
 exact of_decide_eq_true this
end Go.UL
