import Derived.Test.YtdhmlillkbjjjaaGreatDoorpP23
set_option linter.unusedVariables false
set_option linter.unusedSimpArgs false
namespace Go.UL
open Go.RowKit
theorem JO : ∀ (p t : List UInt8), cut 47 (p ++ 47 :: t) = cut 47 p ++ cut 47 t := by
 intro p t
 induction p with
 | nil => rw [List.nil_append, j0 Jq]; rfl
 | cons b p ih =>
  rw [List.cons_append]
  by_cases h : bn b = 47
  ·rw [j0 h, j0 h, ih]; rfl
  ·rw [j6 h, j6 h, ih]
   cases hc : cut 47 p with
   | nil => exact absurd hc (ju _ _)
   | cons x l => rfl
theorem jX (q p : List UInt8) : jK q p = true ↔ ∃ r, r ≠ [] ∧ cut 47 q = cut 47 p ++ r := by
 unfold jK
 rw [List.isPrefixOf_iff_prefix]
 constructor
 ·rintro ⟨t, rfl⟩
  refine ⟨cut 47 t, ju _ _, ?_⟩
  rw [List.append_assoc, List.singleton_append, JO]
 ·rintro ⟨r, hr, h⟩
  refine ⟨yj r, ?_⟩
  have hf : ∀ x ∈ cut 47 p ++ r, ∀ b ∈ x, bn b ≠ 47 := by rw [← h]; exact VU q
  apply XW
  rw [List.append_assoc, List.singleton_append, JO, h, YQ hr fun x hx => hf x (List.mem_append_right _ hx)]
theorem X8 : ∀ (a r : List (List UInt8)), r ≠ [] → vC a (a ++ r) = true := by
 intro a r hr
 induction a with
 | nil => cases r with
  | nil => exact absurd rfl hr
  | cons x r => rfl
 | cons x a ih => simp [vC, ih]
theorem ltP_below {q p : List UInt8} (h : jK q p = true) : ltP p q = true := by
 obtain ⟨r, hr, e⟩ := (jX q p).1 h
 unfold ltP; rw [e]; exact X8 _ _ hr
theorem Xf {a b c : List UInt8} (h1 : jK a b = true) (h2 : jK b c = true) : jK a c = true := by
 obtain ⟨r, hr, e⟩ := (jX a b).1 h1
 obtain ⟨s, hs, f⟩ := (jX b c).1 h2
 refine (jX a c).2 ⟨s ++ r, by simp [hr], ?_⟩
 rw [e, f, List.append_assoc]
theorem JA {t : List UInt8} (h : ql t ≠ []) : cut 47 (ql t) = (cut 47 t).dropLast := by
 rw [Xd] at h ⊢
 refine YQ (fun e => h (by rw [e]; rfl)) fun x hx => VU t x (List.dropLast_subset _ hx)
theorem Vp {t : List UInt8} (h : ql t ≠ []) : jK t (ql t) = true := by
 refine (jX _ _).2 ⟨[(cut 47 t).getLast (ju _ _)], by simp, ?_⟩
 rw [JA h, List.dropLast_concat_getLast]
theorem Jl {t : List UInt8} (h : ql t ≠ []) : ltP (ql t) t = true := ltP_below (Vp h)
theorem mem_ancs : ∀ (n : Nat) (t x : List UInt8), t.length ≤ n → (x ∈ jp t → x ≠ [] ∧ jK t x = true) := by
 intro n
 induction n with
 | zero =>
  intro t x hn hx
  have : t = [] := List.eq_nil_of_length_eq_zero (by omega)
  subst this
  rw [jv, if_pos yV] at hx; cases hx
 | succ n ih =>
  intro t x hn hx
  rw [jv] at hx
  by_cases hp : ql t = []
  ·rw [if_pos hp] at hx; cases hx
  ·rw [if_neg hp] at hx
   have ht : t ≠ [] := fun e => by subst e; exact hp yV
   rcases List.mem_cons.1 hx with rfl | hx
   ·exact ⟨hp, Vp hp⟩
   ·obtain ⟨h1, h2⟩ := ih (ql t) x (by have := jI ht; omega) hx
    exact ⟨h1, Xf (Vp hp) h2⟩
theorem Jm {t x : List UInt8} (h : x ∈ jp t) : jK t x = true := (mem_ancs _ t x (Nat.le_refl _) h).2
theorem Yh {t x : List UInt8} (ht : qK t = true) (h : jK t x = true) : x ∈ jp t := by
 obtain ⟨r, hr, e⟩ := (jX t x).1 h
 rw [GT ht, List.mem_reverse, List.mem_map]
 have hl : 0 < (cut 47 x).length := List.length_pos_iff.2 (ju _ _)
 have hrl : 0 < r.length := List.length_pos_iff.2 hr
 refine ⟨(cut 47 x).length - 1, List.mem_range.2 ?_, ?_⟩
 ·rw [e, List.length_append]; omega
 ·rw [e, show (cut 47 x).length - 1 + 1 = (cut 47 x).length by omega, List.take_left, Qi]
theorem Y8 {t x : List UInt8} (ht : qK t = true) (h : jK t x = true) : ql t ≠ [] ∧ (ql t = x ∨ jK (ql t) x = true) := by
 have hm := Yh ht h
 rw [jv] at hm
 by_cases hp : ql t = []
 ·rw [if_pos hp] at hm; cases hm
 ·rw [if_neg hp] at hm
  refine ⟨hp, ?_⟩
  rcases List.mem_cons.1 hm with e | hm
  ·exact .inl e.symm
  ·exact .inr (Jm hm)
theorem G8 {t x : List UInt8} (h : jK t x = true) : (cut 47 x).length < (cut 47 t).length := by
 obtain ⟨r, hr, e⟩ := (jX t x).1 h
 have hrl : 0 < r.length := List.length_pos_iff.2 hr
 rw [e, List.length_append]; omega
structure Wood (t : List Nd) : Prop where
 rise : yO (t.map (·.path))
 ok : ∀ n ∈ t, Xx n = true
 par : ∀ n ∈ t, ql n.path ≠ [] → ∃ m ∈ t, m.path = ql n.path ∧ m.kind = 3
structure Sheet (l : List Rec) : Prop where
 rise : yO (l.map (·.path))
 ok : ∀ r ∈ l, qH r = 0
 par : ∀ r ∈ l, ql r.path ≠ [] → ∃ q ∈ l, q.path = ql r.path ∧ q.kind = 3
abbrev V7 (t : List Nd) (p : List UInt8) : Option Nd := vS (fun n : Nd => n.path) t p
abbrev Ve (l : List Rec) (p : List UInt8) : Option Rec := vS (fun r : Rec => r.path) l p
theorem lookT_mem {t : List Nd} (h : yO (t.map (·.path))) {n : Nd} (hn : n ∈ t) : V7 t n.path = some n := Vm (fun n : Nd => n.path) h n hn
theorem X4 {l : List Rec} (h : yO (l.map (·.path))) {r : Rec} (hr : r ∈ l) : Ve l r.path = some r := Vm (fun r : Rec => r.path) h r hr
theorem look_some {t : List Nd} {p : List UInt8} {n : Nd} (h : V7 t p = some n) : n ∈ t ∧ n.path = p := Qh _ h
theorem XQ {l : List Rec} {p : List UInt8} {r : Rec} (h : Ve l p = some r) : r ∈ l ∧ r.path = p := Qh _ h
theorem QR (t : List Nd) (p : List UInt8) : (0 ≤ QA t p ↔ V7 t p ≠ none) ∧ ∀ x, V7 t p = some x → gt t (QA t p) = x := Qf (fun n : Nd => n.path) t p
theorem Jy (l : List Rec) (p : List UInt8) : (0 ≤ qz l p ↔ Ve l p ≠ none) ∧ ∀ x, Ve l p = some x → gt l (qz l p) = x := Qf (fun r : Rec => r.path) l p
theorem J1 {α : Type} [Inhabited α] (f : α → List UInt8) {l : List α} (h : yO (l.map f)) {i j : Nat} (hij : i < j) (hj : j < l.length) : ltP (f (l.getD i default)) (f (l.getD j default)) = true := by
 rw [ya (by omega), ya hj]
 have := List.pairwise_iff_getElem.1 (List.pairwise_map.1 h) i j (by omega) hj hij
 exact this
theorem idx_lt {α : Type} [Inhabited α] (f : α → List UInt8) {l : List α} (h : yO (l.map f)) {i : Nat} (hi : i < l.length) {m : α} (hm : m ∈ l) (hlt : ltP (f m) (f (l.getD i default)) = true) : m ∈ l.take i := by
 obtain ⟨j, hj, rfl⟩ := List.getElem_of_mem hm
 by_cases hji : j < i
 ·rw [List.mem_take_iff_getElem]
  exact ⟨j, by omega, rfl⟩
 ·exfalso
  have e : l[j] = l.getD j default := (ya hj).symm
  rw [e] at hlt
  by_cases he : i = j
  ·subst he; rw [Vj] at hlt; cases hlt
  ·have := J1 f h (show i < j by omega) hj
   rw [YU this] at hlt; cases hlt
theorem Gh {α : Type} (f : α → List UInt8) {l : List α} (h : yO (l.map f)) (i : Nat) : yO ((l.take i).map f) := by
 rw [List.map_take]; exact List.Pairwise.sublist (List.take_sublist _ _) h
theorem Xg {l : List Rec} (h : Sheet l) (hn : l.length ≤ 16) : (qA l).2 = 0 := by
 rw [JR fun i hi => ?_]
 have hm : l.getD i default ∈ l := by rw [ya hi]; exact List.getElem_mem hi
 unfold yD
 rw [if_neg (by omega), if_neg (by rw [h.ok _ hm]; simp)]
 have hlt : 0 < i → ltP (l.getD (i - 1) default).path (l.getD i default).path = true := fun h0 => J1 (fun r : Rec => r.path) h.rise (show i - 1 < i by omega) hi
 rw [if_neg (fun ⟨h0, e⟩ => QT (hlt h0) e.symm), if_neg (fun ⟨h0, e⟩ => by have := hlt h0; unfold ltP at this; rw [e] at this; cases this)]
 by_cases hp : ql (l.getD i default).path = []
 ·rw [if_pos hp]
 ·obtain ⟨m, hmt, he, hk⟩ := h.par _ hm hp
  have hmi : m ∈ l.take i := idx_lt (fun r : Rec => r.path) h.rise hi hmt (by
   show ltP m.path (l.getD i default).path = true
   rw [he]; exact Jl hp)
  have hl := X4 (Gh (fun r : Rec => r.path) h.rise i) hmi
  rw [he] at hl
  have h1 := (Jy (l.take i) (ql (l.getD i default).path)).1.2 (by rw [hl]; simp)
  have h2 := (Jy (l.take i) (ql (l.getD i default).path)).2 m hl
  rw [gtake l i _ h1 (YG _ _)] at h2
  rw [if_neg hp, if_neg (by omega), if_neg (by rw [h2]; simp [hk])]
theorem Wood.up {t : List Nd} (h : Wood t) : ∀ (k : Nat) (n : Nd), n ∈ t → n.path.length ≤ k → ∀ p ∈ jp n.path, ∃ m ∈ t, m.path = p ∧ m.kind = 3 := by
 intro k
 induction k with
 | zero =>
  intro n hn hk p hp
  have : n.path = [] := List.eq_nil_of_length_eq_zero (by omega)
  rw [this, jv, if_pos yV] at hp; cases hp
 | succ k ih =>
  intro n hn hk p hp
  rw [jv] at hp
  by_cases hpp : ql n.path = []
  ·rw [if_pos hpp] at hp; cases hp
  ·rw [if_neg hpp] at hp
   obtain ⟨m, hm, he, hk3⟩ := h.par n hn hpp
   have hne : n.path ≠ [] := fun e => by rw [e] at hpp; exact hpp yV
   rcases List.mem_cons.1 hp with rfl | hp
   ·exact ⟨m, hm, he, hk3⟩
   ·exact ih m hm (by rw [he]; have := jI hne; omega) p (by rw [he]; exact hp)
theorem Wood.above {t : List Nd} (h : Wood t) {n : Nd} (hn : n ∈ t) {p : List UInt8} (hb : jK n.path p = true) : ∃ m ∈ t, m.path = p ∧ m.kind = 3 :=
 h.up _ n hn (Nat.le_refl _) p (Yh (G9 (h.ok n hn)) hb)
theorem Sheet.up {t : List Rec} (h : Sheet t) : ∀ (k : Nat) (n : Rec), n ∈ t → n.path.length ≤ k → ∀ p ∈ jp n.path, ∃ m ∈ t, m.path = p ∧ m.kind = 3 := by
 intro k
 induction k with
 | zero =>
  intro n hn hk p hp
  have : n.path = [] := List.eq_nil_of_length_eq_zero (by omega)
  rw [this, jv, if_pos yV] at hp; cases hp
 | succ k ih =>
  intro n hn hk p hp
  rw [jv] at hp
  by_cases hpp : ql n.path = []
  ·rw [if_pos hpp] at hp; cases hp
  ·rw [if_neg hpp] at hp
   obtain ⟨m, hm, he, hk3⟩ := h.par n hn hpp
   have hne : n.path ≠ [] := fun e => by rw [e] at hpp; exact hpp yV
   rcases List.mem_cons.1 hp with rfl | hp
   ·exact ⟨m, hm, he, hk3⟩
   ·exact ih m hm (by rw [he]; have := jI hne; omega) p (by rw [he]; exact hp)
theorem Sheet.above {t : List Rec} (h : Sheet t) {n : Rec} (hn : n ∈ t) {p : List UInt8} (hb : jK n.path p = true) : ∃ m ∈ t, m.path = p ∧ m.kind = 3 :=
 h.up _ n hn (Nat.le_refl _) p (Yh (jh (h.ok n hn)) hb)
def showR (r : Rec) : Option Nd := if r.kind = 4 then none else some (ndOf r)
theorem YY {l : List Rec} {p : List UInt8} : Ve l p ≠ none ↔ p ∈ l.map (·.path) := (jJ (fun r : Rec => r.path)).symm
theorem Sheet.take {l : List Rec} (h : Sheet l) (i : Nat) : Sheet (l.take i) := by
 refine ⟨Gh (fun r : Rec => r.path) h.rise i, fun r hr => h.ok r (List.mem_of_mem_take hr), fun r hr hp => ?_⟩
 obtain ⟨q, hq, e, hk⟩ := h.par r (List.mem_of_mem_take hr) hp
 obtain ⟨j, hj, rfl⟩ := List.mem_take_iff_getElem.1 hr
 have hjl : j < l.length := by omega
 have hlt : ltP q.path (l.getD j default).path = true := by rw [e, ya hjl]; exact Jl hp
 have hq2 := idx_lt (fun r : Rec => r.path) h.rise hjl hq hlt
 refine ⟨q, ?_, e, hk⟩
 have : l.take j = (l.take i).take j := by rw [List.take_take, Nat.min_eq_left (by omega)]
 rw [this] at hq2
 exact List.mem_of_mem_take hq2
theorem GX {t : List Nd} {p : List UInt8} {i : Nat} {m : Nd} (h : V7 t p = some m) (hk : m.kind = 3) (hi : i ≠ 0) : QY t p i = none := by
 unfold QY
 have h1 := (QR t p).1.2 (by rw [h]; simp)
 rw [if_neg (by omega), if_neg hi, (QR t p).2 m h]
 simp [hk]
theorem way_above {t : List Nd} {p x : List UInt8} (ht : Wood t) (hp : qK p = true) {m : Nd} (hm : V7 t x = some m) (hx : x = p ∨ x ∈ jp p) :
  ∀ y ∈ jp x, ∃ q, V7 t y = some q ∧ q.kind = 3 := by
 intro y hy
 obtain ⟨hmt, he⟩ := look_some hm
 obtain ⟨q, hq, e, hk⟩ := ht.above hmt (p := y) (by rw [he]; exact Jm hy)
 exact ⟨q, by rw [← e]; exact lookT_mem ht.rise hq, hk⟩
theorem JU {t : List Nd} {p : List UInt8} (ht : Wood t) (hp : qK p = true) {m : Nd} (hm : V7 t p = some m) : Vc t p = (QA t p, 0) := by
 unfold Vc
 refine XH _ (i := 0) (by simp) ?_ fun j h0 hj => ?_
 ·have h1 := (QR t p).1.2 (by rw [hm]; simp)
  show QY t p 0 = _
  unfold QY
  rw [if_neg (by omega), if_pos rfl]
 ·have hja : j - 1 < (jp p).length := by simp at hj; omega
  have he : ([p] ++ jp p).getD j [] = (jp p)[j - 1] := by
   rw [List.getD_eq_getElem?_getD, List.getElem?_append_right (by simp; omega)]
   simp [List.getElem?_eq_getElem hja]
  rw [he]
  obtain ⟨q, hq, hk⟩ := way_above ht hp hm (.inl rfl) _ (List.getElem_mem hja)
  exact GX hq hk (by omega)
def jq (xs : List (List Rec)) : Nat := (xs.map List.length).sum
theorem Vf (l : List Rec) (xs : List (List Rec)) : jq (l :: xs) = l.length + jq xs := by simp [jq]
theorem totL_le {xs : List (List Rec)} {B : Nat} (h : ∀ l ∈ xs, l.length ≤ B) : jq xs ≤ xs.length * B := by
 induction xs with
 | nil => simp [jq]
 | cons l xs ih =>
  have h1 := h l (by simp)
  have h2 := ih fun y hy => h y (by simp [hy])
  rw [Vf, List.length_cons, Nat.add_mul, Nat.one_mul]; omega
def vQ : List (List Rec) → Int → List (List Rec)
 | [], _ => []
 | l :: t, k => Qm l.length k :: vQ t (k + 5 * (l.length : Int))
theorem Jr : ∀ (xs : List (List Rec)) (k : Int), (vQ xs k).length = xs.length := by
 intro xs
 induction xs with
 | nil => intro k; rfl
 | cons l t ih => intro k; simp [vQ, ih]
theorem Gz : ∀ (xs : List (List Rec)) (k : Int) (B : Nat), (∀ l ∈ xs, l.length ≤ B) → ∀ l ∈ vQ xs k, l.length ≤ B := by
 intro xs
 induction xs with
 | nil => intro k B _ l hl; cases hl
 | cons x t ih =>
  intro k B h l hl
  rw [vQ] at hl
  rcases List.mem_cons.1 hl with rfl | hl
  ·rw [Q8]; exact h x (by simp)
  ·exact ih _ B (fun y hy => h y (by simp [hy])) l hl
theorem XM : ∀ (xs : List (List Rec)) (k : Int), jq (vQ xs k) = jq xs := by
 intro xs
 induction xs with
 | nil => intro k; rfl
 | cons l t ih => intro k; rw [vQ, Vf, Vf, ih, Q8]
def jf : List (List Rec) → Int → Int
 | [], k => k
 | l :: t, k => if Qy l k < 0 then -1 else jf t (Qy l k)
theorem GK : ∀ (xs : List (List Rec)) (k : Int), 0 ≤ k → jf (vQ xs k) k = k + 5 * (jq xs : Int) := by
 intro xs
 induction xs with
 | nil => intro k _; simp [vQ, jf, jq]
 | cons l t ih =>
  intro k hk
  rw [vQ, jf, GR, if_neg (by omega), ih _ (by omega), Vf]
  omega
def qV.b1 (a0 : List (List Rec)) : Int × Int → Option (Step (Int) (Int × Int) (Int)) :=
 fun q => match q with
 | (x1_1, x5_2) => bif (decide (x5_2 < (a0.length : Int))) then (bif inR x5_2 a0.length then (bif decide ((gt a0 x5_2).length ≤ 576460752303423488) then (bif decide ((0 : Int) ≤ x1_1) then (bif decide ((x1_1 : Int) ≤ 4611686018427387904 - 5 * ((gt a0 x5_2).length : Int)) then (bif (decide ((Qy (gt a0 x5_2) x1_1) < 0)) then (some (.ret (-1))) else (some (.nxt ((Qy (gt a0 x5_2) x1_1), IntKind.wrap .i64 (x5_2 + 1))))) else none) else none) else none) else none) else (some (.brk x1_1))
def qV.sh (k : Nat) (a0 : List (List Rec)) (a1 : Int) : Option (Int) :=
  (qp (qV.b1 a0) k (a1, 0)).bind fun z => match z with | .inl t => some t | .inr x1_6 => some x1_6
theorem qV.eq (a0 : List (List Rec)) (a1 : Int) (h0 : a0.length ≤ 1048576) (h1 : ∀ l ∈ a0, l.length ≤ 1048576) (h2 : 0 ≤ a1) (h3 : a1 ≤ 4611686018427387904 - 5 * (jq a0 : Int)) : ∃ k, qV.sh k a0 a1 = some (jf a0 a1) := by
  refine ⟨a0.length + 1, ?_⟩
  unfold qV.sh
  have key : ∀ (d i : Nat) (a : Int) (k : Nat), i + d = a0.length → d < k → 0 ≤ a → a + 5 * (jq (a0.drop i) : Int) ≤ 4611686018427387904 → ∃ z, qp (qV.b1 a0) k (a, (i : Int)) = some z ∧ (match z with | .inl t => some t | .inr x => some x) = some (jf (a0.drop i) a) := by
    intro d
    induction d with
    | zero =>
      intro i a k hi hk _ _
      obtain ⟨k, rfl⟩ : ∃ j, k = j + 1 := ⟨k - 1, by omega⟩
      have : i = a0.length := by omega
      subst this
      exact ⟨.inr a, by simp [qp, qV.b1], by simp [jf]⟩
    | succ d ih =>
      intro i a k hi hk ha0 ha1
      obtain ⟨k, rfl⟩ : ∃ j, k = j + 1 := ⟨k - 1, by omega⟩
      have hlt : i < a0.length := by omega
      have hg : a0.getD i default = a0[i] := ya hlt
      have e3 := h1 a0[i] (List.getElem_mem hlt)
      rw [List.drop_eq_getElem_cons hlt, Vf] at ha1
      have e4 : a0[i].length ≤ 576460752303423488 := by omega
      have e5 : a ≤ 4611686018427387904 - 5 * (a0[i].length : Int) := by omega
      rw [List.drop_eq_getElem_cons hlt, qp]
      simp only [qV.b1, yn, hlt, decide_true, cond_true, qR hlt, vI, hg, ha0, e4, e5, vd hlt (by omega)]
      by_cases hx : Qy a0[i] a < 0
      · exact ⟨.inl (-1), by simp [hx], by simp [jf, hx]⟩
      · have he : Qy a0[i] a = a + 5 * (a0[i].length : Int) := by
          unfold Qy at hx ⊢
          split
          · rfl
          · rename_i hq; rw [if_neg hq] at hx; omega
        obtain ⟨z, hz, hP⟩ := ih (i + 1) (Qy a0[i] a) k (by omega) (by omega) (by omega) (by omega)
        rw [Int.natCast_add, Int.natCast_one] at hz
        exact ⟨z, by simp only [hx, decide_false, cond_false, Option.bind_some]; exact hz, by simp only [jf, hx, if_false]; exact hP⟩
  obtain ⟨z, hz, hP⟩ := key a0.length 0 a1 (a0.length + 1) (by omega) (by omega) (by omega) (by simp only [List.drop_zero]; omega)
  simp only [Int.natCast_zero] at hz
  rw [hz]
  simpa using hP
theorem jH {xs : List (List Rec)} (h : vr xs = true) : xs.length ≤ 5 ∧ ∀ l ∈ xs, (qA l).2 = 0 := by
 unfold vr at h
 rw [Bool.and_eq_true, List.all_eq_true] at h
 exact ⟨of_decide_eq_true h.1, fun l hl => of_decide_eq_true (h.2 l hl)⟩
theorem VH {a : List (List Rec)} (h : stackCode a = 0) : vr a = true := by
 unfold stackCode at h
 split at h
 ·omega
 ·split at h
  ·omega
  ·rename_i h2; simpa using h2
theorem J7 {a : List (List Rec)} (h : a.length ≤ 1048576) (k : ∀ y ∈ a, y.length ≤ 1048576) : jq a ≤ 1099511627776 := by
 have h1 := totL_le k
 have : a.length * 1048576 ≤ 1048576 * 1048576 := Nat.mul_le_mul_right _ h
 omega
theorem Jj {α β ρ : Type} [Inhabited α] (l : List α) (f : β → α → β) (Inv : Nat → β → Prop) (b : β × Int → Option (Step ρ (β × Int) β)) (K : Nat) (hK : l.length < K)
  (h1 : ∀ (i : Nat) (s : β), i < l.length → Inv i s → b (s, (i : Int)) = some (.nxt (f s (gt l (i : Int)), ((i + 1 : Nat) : Int))) ∧ Inv (i + 1) (f s (gt l (i : Int))))
  (h2 : ∀ s : β, b (s, (l.length : Int)) = some (.brk s)) (s0 : β) (h0 : Inv 0 s0) : qp b K (s0, 0) = some (.inr (l.foldl f s0)) ∧ Inv l.length (l.foldl f s0) := by
 have key : ∀ (d i k : Nat) (s : β), i + d = l.length → d < k → Inv i s → qp b k (s, (i : Int)) = some (.inr ((l.drop i).foldl f s)) ∧ Inv l.length ((l.drop i).foldl f s) := by
  intro d
  induction d with
  | zero =>
   intro i k s hi hk hs
   obtain ⟨k, rfl⟩ : ∃ m, k = m + 1 := ⟨k - 1, by omega⟩
   have : i = l.length := by omega
   subst this
   rw [qp, h2 s, List.drop_length]; exact ⟨rfl, hs⟩
  | succ d ih =>
   intro i k s hi hk hs
   obtain ⟨k, rfl⟩ : ∃ m, k = m + 1 := ⟨k - 1, by omega⟩
   have hlt : i < l.length := by omega
   obtain ⟨e1, e2⟩ := h1 i s hlt hs
   rw [qp, e1, Qp hlt]
   exact ih (i + 1) k _ (by omega) (by omega) e2
 have := key l.length 0 K s0 (by omega) (by omega) h0
 simpa using this
theorem Xo {l : List Rec} {r x : Rec} (h : VE l r = some x) : x.path = r.path := by
 unfold VE at h
 split at h
 ·split at h
  ·cases h
  ·rw [← Option.some.inj h]
 ·rw [← Option.some.inj h]
theorem Jn {f : Rec → Option Rec} (hf : ∀ r x, f r = some x → x.path = r.path) : ∀ {l : List Rec}, yO (l.map (·.path)) → yO ((l.filterMap f).map (·.path)) ∧ ∀ q ∈ (l.filterMap f).map (·.path), q ∈ l.map (·.path) := by
 intro l
 induction l with
 | nil => intro _; exact ⟨List.Pairwise.nil, by simp⟩
 | cons r l ih =>
  intro h
  obtain ⟨i1, i2⟩ := ih (VI h)
  have hlt := VJ h
  cases hr : f r with
  | none => rw [List.filterMap_cons_none hr]; exact ⟨i1, fun q hq => List.mem_cons_of_mem _ (i2 q hq)⟩
  | some x =>
   rw [List.filterMap_cons_some hr, List.map_cons, hf r x hr]
   exact ⟨List.pairwise_cons.2 ⟨fun q hq => hlt q (i2 q hq), i1⟩, fun q hq => by
    rcases List.mem_cons.1 hq with rfl | hq
    ·exact List.mem_cons_self
    ·exact List.mem_cons_of_mem _ (i2 q hq)⟩
theorem Gs {l : List Rec} (h : yr l = true) : yr (jV l) = true := by
 obtain ⟨h1, h2⟩ := Jn (f := VE l) (fun r x => Xo) (Qu h)
 refine VT (fun x hx => ?_) h1
 obtain ⟨r, hr, e⟩ := List.mem_map.1 (h2 _ (List.mem_map_of_mem hx))
 rw [← e]; exact jd h r hr
theorem Ya {a b : List Rec} (ha : yr a = true) (hb : yr b = true) : yr (jw a b) = true := Gs (Yc ha hb)
def qB (xs : List (List Rec)) : List Rec := xs.foldl jw []
theorem JD : yr [] = true := rfl
def yl.b1 (a0 : List (List Rec)) : List Rec × Int → Option (Step (List Rec) (List Rec × Int) (List Rec)) :=
 fun q => match q with
 | (x3_7, x4_9) => bif (decide (x4_9 < (a0.length : Int))) then (bif inR x4_9 a0.length then (bif decide (x3_7.length ≤ 500000) then (bif decide ((gt a0 x4_9).length ≤ 500000) then (bif decide (yr x3_7 = true) then (bif decide (yr (gt a0 x4_9) = true) then (some (.nxt ((jw x3_7 (gt a0 x4_9)), IntKind.wrap .i64 (x4_9 + 1)))) else none) else none) else none) else none) else none) else (some (.brk x3_7))
def yl.sh (k : Nat) (a0 : List (List Rec)) : Option (List Rec) :=
  (qp (yl.b1 a0) k (([] : List Rec), 0)).bind fun z => match z with | .inl t => some t | .inr x3_13 => some x3_13
theorem yl.eq (a0 : List (List Rec)) (h0 : vr a0 = true) : ∃ k, yl.sh k a0 = some (qB a0) := by
 obtain ⟨h5, hL⟩ := jH h0
 refine ⟨a0.length + 1, ?_⟩
 unfold yl.sh
 have hk := Jj a0 jw (fun i s => yr s = true ∧ s.length ≤ 16 * i) (yl.b1 a0) (a0.length + 1) (by omega) (fun i s hi hI => by
  have hl := hL (gt a0 (i : Int)) (by rw [vI, ya hi]; exact List.getElem_mem hi)
  have h16 := Q5 hl
  have hq := Y3 s (gt a0 (i : Int))
  have d1 : decide ((i : Int) < (a0.length : Int)) = true := decide_eq_true (by omega)
  have d2 : decide (s.length ≤ 500000) = true := decide_eq_true (by have := hI.2; omega)
  have d3 : decide ((gt a0 (i : Int)).length ≤ 500000) = true := decide_eq_true (by omega)
  have e1 : IntKind.wrap .i64 ((i : Int) + 1) = ((i + 1 : Nat) : Int) := by rw [wrap_small (by omega) (by omega)]; omega
  refine ⟨?_, Ya hI.1 (Qq hl), by have := hI.2; omega⟩
  simp only [yl.b1, d1, d2, d3, qR hi, cond_true, e1, hI.1, Qq hl, decide_true]) (fun s => by simp [yl.b1]) [] ⟨JD, by simp⟩
 rw [hk.1]
 simp only [Option.bind_some, qB]
def vD.b1 (a0 : List (List Rec)) : List Rec × Int → Option (Step (List Rec) (List Rec × Int) (List Rec)) :=
 fun q => match q with
 | (x3_7, x9_9) => bif (decide (x9_9 < (a0.length : Int))) then (bif inR x9_9 a0.length then (bif decide (x3_7.length ≤ 500000) then (bif decide ((gt a0 x9_9).length ≤ 500000) then (bif decide (yr x3_7 = true) then (bif decide (yr (gt a0 x9_9) = true) then (some (.nxt ((jw x3_7 (gt a0 x9_9)), IntKind.wrap .i64 (x9_9 + 1)))) else none) else none) else none) else none) else none) else (some (.brk x3_7))
def vD.sh (k : Nat) (a0 : List (List Rec)) : Option (List Rec) :=
  (qp (vD.b1 a0) k (([] : List Rec), 0)).bind fun z => match z with | .inl t => some t | .inr x3_13 => some x3_13
theorem vD.eq (a0 : List (List Rec)) (h0 : vr a0 = true) : ∃ k, vD.sh k a0 = some (qB a0) := by
 obtain ⟨h5, hL⟩ := jH h0
 refine ⟨a0.length + 1, ?_⟩
 unfold vD.sh
 have hk := Jj a0 jw (fun i s => yr s = true ∧ s.length ≤ 16 * i) (vD.b1 a0) (a0.length + 1) (by omega) (fun i s hi hI => by
  have hl := hL (gt a0 (i : Int)) (by rw [vI, ya hi]; exact List.getElem_mem hi)
  have h16 := Q5 hl
  have hq := Y3 s (gt a0 (i : Int))
  have d1 : decide ((i : Int) < (a0.length : Int)) = true := decide_eq_true (by omega)
  have d2 : decide (s.length ≤ 500000) = true := decide_eq_true (by have := hI.2; omega)
  have d3 : decide ((gt a0 (i : Int)).length ≤ 500000) = true := decide_eq_true (by omega)
  have e1 : IntKind.wrap .i64 ((i : Int) + 1) = ((i + 1 : Nat) : Int) := by rw [wrap_small (by omega) (by omega)]; omega
  refine ⟨?_, Ya hI.1 (Qq hl), by have := hI.2; omega⟩
  simp only [vD.b1, d1, d2, d3, qR hi, cond_true, e1, hI.1, Qq hl, decide_true]) (fun s => by simp [vD.b1]) [] ⟨JD, by simp⟩
 rw [hk.1]
 simp only [Option.bind_some, qB]
end Go.UL
