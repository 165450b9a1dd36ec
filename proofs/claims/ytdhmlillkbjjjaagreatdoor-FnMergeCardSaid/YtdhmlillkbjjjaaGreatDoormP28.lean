import Derived.Test.YtdhmlillkbjjjaaGreatDoormP22
set_option linter.unusedVariables false
set_option linter.unusedSimpArgs false
namespace Go.UL
open Go.RowKit
theorem Gc : ∀ (p t : List UInt8), cut 47 (p ++ 47 :: t) = cut 47 p ++ cut 47 t := by
 intro p t
 induction p with
 | nil => rw [List.nil_append, Qm JW]; rfl
 | cons b p ih =>
  rw [List.cons_append]
  by_cases h : bn b = 47
  ·rw [Qm h, Qm h, ih]; rfl
  ·rw [Qj h, Qj h, ih]
   cases hc : cut 47 p with
   | nil => exact absurd hc (jF _ _)
   | cons x l => rfl
theorem jW (q p : List UInt8) : yj q p = true ↔ ∃ r, r ≠ [] ∧ cut 47 q = cut 47 p ++ r := by
 unfold yj
 rw [List.isPrefixOf_iff_prefix]
 constructor
 ·rintro ⟨t, rfl⟩
  refine ⟨cut 47 t, jF _ _, ?_⟩
  rw [List.append_assoc, List.singleton_append, Gc]
 ·rintro ⟨r, hr, h⟩
  refine ⟨ym r, ?_⟩
  have hf : ∀ x ∈ cut 47 p ++ r, ∀ b ∈ x, bn b ≠ 47 := by rw [← h]; exact Yc q
  apply cut_inj
  rw [List.append_assoc, List.singleton_append, Gc, h, YX hr fun x hx => hf x (List.mem_append_right _ hx)]
theorem lessL_app : ∀ (a r : List (List UInt8)), r ≠ [] → vP a (a ++ r) = true := by
 intro a r hr
 induction a with
 | nil => cases r with
  | nil => exact absurd rfl hr
  | cons x r => rfl
 | cons x a ih => simp [vP, ih]
theorem GO {q p : List UInt8} (h : yj q p = true) : ltP p q = true := by
 obtain ⟨r, hr, e⟩ := (jW q p).1 h
 unfold ltP; rw [e]; exact lessL_app _ _ hr
theorem X5 {q p : List UInt8} (h : yj q p = true) : q ≠ p := fun e => Y2 (GO h) e.symm
theorem GX (p : List UInt8) : yj p p = false := by
 rcases qw (yj p p) with h | h
 ·exact absurd rfl (X5 h)
 ·exact h
theorem VZ {a b c : List UInt8} (h1 : yj a b = true) (h2 : yj b c = true) : yj a c = true := by
 obtain ⟨r, hr, e⟩ := (jW a b).1 h1
 obtain ⟨s, hs, f⟩ := (jW b c).1 h2
 refine (jW a c).2 ⟨s ++ r, by simp [hr], ?_⟩
 rw [e, f, List.append_assoc]
theorem Xt {a b : List UInt8} (h : yj a b = true) : yj b a = false := by
 rcases qw (yj b a) with h1 | h1
 ·exact absurd (VZ h h1) (by rw [GX]; simp)
 ·exact h1
theorem Ge {t : List UInt8} (h : qb t ≠ []) : cut 47 (qb t) = (cut 47 t).dropLast := by
 rw [X3] at h ⊢
 refine YX (fun e => h (by rw [e]; rfl)) fun x hx => Yc t x (List.dropLast_subset _ hx)
theorem yN {t : List UInt8} (h : qb t ≠ []) : yj t (qb t) = true := by
 refine (jW _ _).2 ⟨[(cut 47 t).getLast (jF _ _)], by simp, ?_⟩
 rw [Ge h, List.dropLast_concat_getLast]
theorem Gk {t : List UInt8} (h : qb t ≠ []) : ltP (qb t) t = true := GO (yN h)
theorem mem_ancs : ∀ (n : Nat) (t x : List UInt8), t.length ≤ n → (x ∈ jz t → x ≠ [] ∧ yj t x = true) := by
 intro n
 induction n with
 | zero =>
  intro t x hn hx
  have : t = [] := List.eq_nil_of_length_eq_zero (by omega)
  subst this
  rw [jJ, if_pos y9] at hx; cases hx
 | succ n ih =>
  intro t x hn hx
  rw [jJ] at hx
  by_cases hp : qb t = []
  ·rw [if_pos hp] at hx; cases hx
  ·rw [if_neg hp] at hx
   have ht : t ≠ [] := fun e => by subst e; exact hp y9
   rcases List.mem_cons.1 hx with rfl | hx
   ·exact ⟨hp, yN hp⟩
   ·obtain ⟨h1, h2⟩ := ih (qb t) x (by have := jV ht; omega) hx
    exact ⟨h1, VZ (yN hp) h2⟩
theorem J9 {t x : List UInt8} (h : x ∈ jz t) : yj t x = true := (mem_ancs _ t x (Nat.le_refl _) h).2
theorem Yp {t x : List UInt8} (ht : qy t = true) (h : yj t x = true) : x ∈ jz t := by
 obtain ⟨r, hr, e⟩ := (jW t x).1 h
 rw [Xs ht, List.mem_reverse, List.mem_map]
 have hl : 0 < (cut 47 x).length := List.length_pos_iff.2 (jF _ _)
 have hrl : 0 < r.length := List.length_pos_iff.2 hr
 refine ⟨(cut 47 x).length - 1, List.mem_range.2 ?_, ?_⟩
 ·rw [e, List.length_append]; omega
 ·rw [e, show (cut 47 x).length - 1 + 1 = (cut 47 x).length by omega, List.take_left, Qn]
theorem Xn {t x : List UInt8} (ht : qy t = true) (h : yj t x = true) : qy x = true := by
 obtain ⟨r, hr, e⟩ := (jW t x).1 h
 have hrl : 0 < r.length := List.length_pos_iff.2 hr
 simp only [qy, Bool.and_eq_true, decide_eq_true_eq, e, List.all_append, List.length_append] at ht ⊢
 refine ⟨?_, by omega, ht.2.2.1⟩
 unfold yj at h
 rw [List.isPrefixOf_iff_prefix] at h
 have := h.length_le
 simp at this; omega
theorem Vo {t : List UInt8} (ht : qy t = true) (h : qb t ≠ []) : qy (qb t) = true := Xn ht (yN h)
theorem Jr {t x : List UInt8} (ht : qy t = true) (h : yj t x = true) : qb t ≠ [] ∧ (qb t = x ∨ yj (qb t) x = true) := by
 have hm := Yp ht h
 rw [jJ] at hm
 by_cases hp : qb t = []
 ·rw [if_pos hp] at hm; cases hm
 ·rw [if_neg hp] at hm
  refine ⟨hp, ?_⟩
  rcases List.mem_cons.1 hm with e | hm
  ·exact .inl e.symm
  ·exact .inr (J9 hm)
theorem QO {t x : List UInt8} (h : yj t x = true) : (cut 47 x).length < (cut 47 t).length := by
 obtain ⟨r, hr, e⟩ := (jW t x).1 h
 have hrl : 0 < r.length := List.length_pos_iff.2 hr
 rw [e, List.length_append]; omega
structure Wood (t : List Nd) : Prop where
 rise : jk (t.map (·.path))
 ok : ∀ n ∈ t, nodeOK n = true
 par : ∀ n ∈ t, qb n.path ≠ [] → ∃ m ∈ t, m.path = qb n.path ∧ m.kind = 3
structure Sheet (l : List Rec) : Prop where
 rise : jk (l.map (·.path))
 ok : ∀ r ∈ l, qz r = 0
 par : ∀ r ∈ l, qb r.path ≠ [] → ∃ q ∈ l, q.path = qb r.path ∧ q.kind = 3
abbrev Yk (t : List Nd) (p : List UInt8) : Option Nd := QA (fun n : Nd => n.path) t p
abbrev jx (l : List Rec) (p : List UInt8) : Option Rec := QA (fun r : Rec => r.path) l p
theorem lookT_mem {t : List Nd} (h : jk (t.map (·.path))) {n : Nd} (hn : n ∈ t) : Yk t n.path = some n := YD (fun n : Nd => n.path) h n hn
theorem lookR_mem {l : List Rec} (h : jk (l.map (·.path))) {r : Rec} (hr : r ∈ l) : jx l r.path = some r := YD (fun r : Rec => r.path) h r hr
theorem look_some {t : List Nd} {p : List UInt8} {n : Nd} (h : Yk t p = some n) : n ∈ t ∧ n.path = p := JY _ h
theorem JP {l : List Rec} {p : List UInt8} {r : Rec} (h : jx l p = some r) : r ∈ l ∧ r.path = p := JY _ h
theorem Q3 (t : List Nd) (p : List UInt8) : (0 ≤ QS t p ↔ Yk t p ≠ none) ∧ ∀ x, Yk t p = some x → gt t (QS t p) = x := Gg (fun n : Nd => n.path) t p
theorem jd (l : List Rec) (p : List UInt8) : (0 ≤ qt l p ↔ jx l p ≠ none) ∧ ∀ x, jx l p = some x → gt l (qt l p) = x := Gg (fun r : Rec => r.path) l p
theorem GK {α : Type} [Inhabited α] (f : α → List UInt8) {l : List α} (h : jk (l.map f)) {i j : Nat} (hij : i < j) (hj : j < l.length) : ltP (f (l.getD i default)) (f (l.getD j default)) = true := by
 rw [vY (by omega), vY hj]
 have := List.pairwise_iff_getElem.1 (List.pairwise_map.1 h) i j (by omega) hj hij
 exact this
theorem idx_lt {α : Type} [Inhabited α] (f : α → List UInt8) {l : List α} (h : jk (l.map f)) {i : Nat} (hi : i < l.length) {m : α} (hm : m ∈ l) (hlt : ltP (f m) (f (l.getD i default)) = true) : m ∈ l.take i := by
 obtain ⟨j, hj, rfl⟩ := List.getElem_of_mem hm
 by_cases hji : j < i
 ·rw [List.mem_take_iff_getElem]
  exact ⟨j, by omega, rfl⟩
 ·exfalso
  have e : l[j] = l.getD j default := (vY hj).symm
  rw [e] at hlt
  by_cases he : i = j
  ·subst he; rw [Q4] at hlt; cases hlt
  ·have := GK f h (show i < j by omega) hj
   rw [QJ this] at hlt; cases hlt
theorem GD {α : Type} (f : α → List UInt8) {l : List α} (h : jk (l.map f)) (i : Nat) : jk ((l.take i).map f) := by
 rw [List.map_take]; exact List.Pairwise.sublist (List.take_sublist _ _) h
theorem Ji {l : List Rec} (h : Sheet l) (hn : l.length ≤ 16) : (qC l).2 = 0 := by
 rw [GC fun i hi => ?_]
 have hm : l.getD i default ∈ l := by rw [vY hi]; exact List.getElem_mem hi
 unfold y2
 rw [if_neg (by omega), if_neg (by rw [h.ok _ hm]; simp)]
 have hlt : 0 < i → ltP (l.getD (i - 1) default).path (l.getD i default).path = true := fun h0 => GK (fun r : Rec => r.path) h.rise (show i - 1 < i by omega) hi
 rw [if_neg (fun ⟨h0, e⟩ => Y2 (hlt h0) e.symm), if_neg (fun ⟨h0, e⟩ => by have := hlt h0; unfold ltP at this; rw [e] at this; cases this)]
 by_cases hp : qb (l.getD i default).path = []
 ·rw [if_pos hp]
 ·obtain ⟨m, hmt, he, hk⟩ := h.par _ hm hp
  have hmi : m ∈ l.take i := idx_lt (fun r : Rec => r.path) h.rise hi hmt (by
   show ltP m.path (l.getD i default).path = true
   rw [he]; exact Gk hp)
  have hl := lookR_mem (GD (fun r : Rec => r.path) h.rise i) hmi
  rw [he] at hl
  have h1 := (jd (l.take i) (qb (l.getD i default).path)).1.2 (by rw [hl]; simp)
  have h2 := (jd (l.take i) (qb (l.getD i default).path)).2 m hl
  rw [gtake l i _ h1 (YT _ _)] at h2
  rw [if_neg hp, if_neg (by omega), if_neg (by rw [h2]; simp [hk])]
theorem Wood.up {t : List Nd} (h : Wood t) : ∀ (k : Nat) (n : Nd), n ∈ t → n.path.length ≤ k → ∀ p ∈ jz n.path, ∃ m ∈ t, m.path = p ∧ m.kind = 3 := by
 intro k
 induction k with
 | zero =>
  intro n hn hk p hp
  have : n.path = [] := List.eq_nil_of_length_eq_zero (by omega)
  rw [this, jJ, if_pos y9] at hp; cases hp
 | succ k ih =>
  intro n hn hk p hp
  rw [jJ] at hp
  by_cases hpp : qb n.path = []
  ·rw [if_pos hpp] at hp; cases hp
  ·rw [if_neg hpp] at hp
   obtain ⟨m, hm, he, hk3⟩ := h.par n hn hpp
   have hne : n.path ≠ [] := fun e => by rw [e] at hpp; exact hpp y9
   rcases List.mem_cons.1 hp with rfl | hp
   ·exact ⟨m, hm, he, hk3⟩
   ·exact ih m hm (by rw [he]; have := jV hne; omega) p (by rw [he]; exact hp)
theorem Wood.above {t : List Nd} (h : Wood t) {n : Nd} (hn : n ∈ t) {p : List UInt8} (hb : yj n.path p = true) : ∃ m ∈ t, m.path = p ∧ m.kind = 3 :=
 h.up _ n hn (Nat.le_refl _) p (Yp (XV (h.ok n hn)) hb)
theorem Sheet.up {t : List Rec} (h : Sheet t) : ∀ (k : Nat) (n : Rec), n ∈ t → n.path.length ≤ k → ∀ p ∈ jz n.path, ∃ m ∈ t, m.path = p ∧ m.kind = 3 := by
 intro k
 induction k with
 | zero =>
  intro n hn hk p hp
  have : n.path = [] := List.eq_nil_of_length_eq_zero (by omega)
  rw [this, jJ, if_pos y9] at hp; cases hp
 | succ k ih =>
  intro n hn hk p hp
  rw [jJ] at hp
  by_cases hpp : qb n.path = []
  ·rw [if_pos hpp] at hp; cases hp
  ·rw [if_neg hpp] at hp
   obtain ⟨m, hm, he, hk3⟩ := h.par n hn hpp
   have hne : n.path ≠ [] := fun e => by rw [e] at hpp; exact hpp y9
   rcases List.mem_cons.1 hp with rfl | hp
   ·exact ⟨m, hm, he, hk3⟩
   ·exact ih m hm (by rw [he]; have := jV hne; omega) p (by rw [he]; exact hp)
theorem Sheet.above {t : List Rec} (h : Sheet t) {n : Rec} (hn : n ∈ t) {p : List UInt8} (hb : yj n.path p = true) : ∃ m ∈ t, m.path = p ∧ m.kind = 3 :=
 h.up _ n hn (Nat.le_refl _) p (Yp (yA (h.ok n hn)) hb)
theorem XK {α : Type} (f : α → List UInt8) (q : α → Bool) {l : List α} (h : jk (l.map f)) : jk ((l.filter q).map f) :=
 List.Pairwise.sublist (List.Sublist.map f List.filter_sublist) h
def showR (r : Rec) : Option Nd := if r.kind = 4 then none else some (ndOf r)
theorem VR (r : Rec) : qz r = 0 ↔ within r.kind 1 4 = true ∧ qy r.path = true ∧ (decide (20 < r.body.length) || (decide (r.kind = 2) && decide (r.body = []))) = false ∧
  (((decide (r.kind = 3) || decide (r.kind = 4)) && !decide (r.body = [])) || (!decide (r.kind = 3) && r.opq)) = false ∧ (!within r.mode 0 511 || ((decide (r.kind = 2) || decide (r.kind = 4)) && !decide (r.mode = 0))) = false := by
 unfold qz
 generalize (!within r.mode 0 511 || ((decide (r.kind = 2) || decide (r.kind = 4)) && !decide (r.mode = 0))) = c5
 generalize (((decide (r.kind = 3) || decide (r.kind = 4)) && !decide (r.body = [])) || (!decide (r.kind = 3) && r.opq)) = c4
 generalize (decide (20 < r.body.length) || (decide (r.kind = 2) && decide (r.body = []))) = c3
 cases within r.kind 1 4 <;> cases qy r.path <;> cases c3 <;> cases c4 <;> cases c5 <;> simp
theorem Jo {l : List Rec} {p : List UInt8} : jx l p ≠ none ↔ p ∈ l.map (·.path) := (Xx (fun r : Rec => r.path)).symm
theorem Sheet.take {l : List Rec} (h : Sheet l) (i : Nat) : Sheet (l.take i) := by
 refine ⟨GD (fun r : Rec => r.path) h.rise i, fun r hr => h.ok r (List.mem_of_mem_take hr), fun r hr hp => ?_⟩
 obtain ⟨q, hq, e, hk⟩ := h.par r (List.mem_of_mem_take hr) hp
 obtain ⟨j, hj, rfl⟩ := List.mem_take_iff_getElem.1 hr
 have hjl : j < l.length := by omega
 have hlt : ltP q.path (l.getD j default).path = true := by rw [e, vY hjl]; exact Gk hp
 have hq2 := idx_lt (fun r : Rec => r.path) h.rise hjl hq hlt
 refine ⟨q, ?_, e, hk⟩
 have : l.take j = (l.take i).take j := by rw [List.take_take, Nat.min_eq_left (by omega)]
 rw [this] at hq2
 exact List.mem_of_mem_take hq2
theorem Xp {t : List Nd} {p : List UInt8} {i : Nat} {m : Nd} (h : Yk t p = some m) (hk : m.kind = 3) (hi : i ≠ 0) : Vg t p i = none := by
 unfold Vg
 have h1 := (Q3 t p).1.2 (by rw [h]; simp)
 rw [if_neg (by omega), if_neg hi, (Q3 t p).2 m h]
 simp [hk]
theorem way_above {t : List Nd} {p x : List UInt8} (ht : Wood t) (hp : qy p = true) {m : Nd} (hm : Yk t x = some m) (hx : x = p ∨ x ∈ jz p) :
  ∀ y ∈ jz x, ∃ q, Yk t y = some q ∧ q.kind = 3 := by
 intro y hy
 obtain ⟨hmt, he⟩ := look_some hm
 obtain ⟨q, hq, e, hk⟩ := ht.above hmt (p := y) (by rw [he]; exact J9 hy)
 exact ⟨q, by rw [← e]; exact lookT_mem ht.rise hq, hk⟩
theorem Gw {t : List Nd} {p : List UInt8} (ht : Wood t) (hp : qy p = true) {m : Nd} (hm : Yk t p = some m) : Vs t p = (QS t p, 0) := by
 unfold Vs
 refine resGo_some _ (i := 0) (by simp) ?_ fun j h0 hj => ?_
 ·have h1 := (Q3 t p).1.2 (by rw [hm]; simp)
  show Vg t p 0 = _
  unfold Vg
  rw [if_neg (by omega), if_pos rfl]
 ·have hja : j - 1 < (jz p).length := by simp at hj; omega
  have he : ([p] ++ jz p).getD j [] = (jz p)[j - 1] := by
   rw [List.getD_eq_getElem?_getD, List.getElem?_append_right (by simp; omega)]
   simp [List.getElem?_eq_getElem hja]
  rw [he]
  obtain ⟨q, hq, hk⟩ := way_above ht hp hm (.inl rfl) _ (List.getElem_mem hja)
  exact Xp hq hk (by omega)
theorem QK {xs : List (List Rec)} (h : qO xs = true) : xs.length ≤ 5 ∧ ∀ l ∈ xs, (qC l).2 = 0 := by
 unfold qO at h
 rw [Bool.and_eq_true, List.all_eq_true] at h
 exact ⟨of_decide_eq_true h.1, fun l hl => of_decide_eq_true (h.2 l hl)⟩
theorem V0 {a : List (List Rec)} (h : stackCode a = 0) : qO a = true := by
 unfold stackCode at h
 split at h
 ·omega
 ·split at h
  ·omega
  ·rename_i h2; simpa using h2
end Go.UL
