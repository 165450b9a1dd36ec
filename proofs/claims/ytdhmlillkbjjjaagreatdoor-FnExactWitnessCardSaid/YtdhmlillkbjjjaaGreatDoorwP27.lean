import Derived.Test.YtdhmlillkbjjjaaGreatDoorwP21
set_option linter.unusedVariables false
set_option linter.unusedSimpArgs false
namespace Go.UL
open Go.RowKit
def sheetB (l : List Rec) : Bool := l.all (fun r => qz r.path) && decide (l.Pairwise fun a b => ltP a.path b.path = true)
theorem sheetB_mk {l : List Rec} (h1 : ∀ x ∈ l, qz x.path = true) (h2 : vV (l.map (·.path))) : sheetB l = true := by
 simp only [sheetB, Bool.and_eq_true]
 exact ⟨List.all_eq_true.2 h1, decide_eq_true (List.pairwise_map.1 h2)⟩
theorem XN {l : List Rec} {i : Nat} (h : yx l i = 0) (h0 : 0 < i) : ltP (l.getD (i - 1) default).path (l.getD i default).path = true := by
 unfold yx at h
 split at h
 ·omega
 ·split at h
  ·exact absurd h ‹_›
  ·split at h
   ·omega
   ·split at h
    ·omega
    ·rename_i h3
     rcases qw (vo (cut 47 (l.getD (i - 1) default).path) (cut 47 (l.getD i default).path)) with h4 | h4
     ·exact h4
     ·exact absurd ⟨h0, h4⟩ h3
theorem XC {l : List Rec} (h : (qo l).2 = 0) : vV (l.map (·.path)) :=
 Y1 _ fun i h0 hi => XN (j5 h i hi) h0
theorem mrgF_nil {α : Type} (f : α → List UInt8) (hl hu : α → Option α) (hb : α → α → Option α) (a : List α) : YP f hl hu hb a [] = a.filterMap hl := by
 cases a with
 | nil => rw [YP]; rfl
 | cons x a => rw [YP]
theorem XI (a b : List Rec) : (decide ((4096 : Int) < (a.length : Int)) || decide ((4096 : Int) < (b.length : Int))) = (decide (4096 < a.length) || decide (4096 < b.length)) := by
 have h : ∀ n : Nat, decide ((4096 : Int) < (n : Int)) = decide (4096 < n) := fun n => by rw [decide_eq_decide]; omega
 rw [h, h]
def QQ (t : List Nd) (n : Nd) : List Nd := t.filter (fun x => ltP x.path n.path) ++ n :: t.filter (fun x => !ltP x.path n.path)
theorem notless_all {x : Nd} {t : List Nd} {p : List UInt8} (hr : vV ((x :: t).map (·.path))) (hx : ltP x.path p = false) : ∀ y ∈ t, ltP y.path p = false := by
 intro y hy
 have h1 : ltP x.path y.path = true := Vr hr y.path (List.mem_map_of_mem hy)
 rcases qw (ltP y.path p) with h | h
 ·rw [jz h1 h] at hx; cases hx
 ·exact h
theorem Gh : ∀ (p t : List UInt8), cut 47 (p ++ 47 :: t) = cut 47 p ++ cut 47 t := by
 intro p t
 induction p with
 | nil => rw [List.nil_append, Qh J8]; rfl
 | cons b p ih =>
  rw [List.cons_append]
  by_cases h : bn b = 47
  ·rw [Qh h, Qh h, ih]; rfl
  ·rw [Qi h, Qi h, ih]
   cases hc : cut 47 p with
   | nil => exact absurd hc (jF _ _)
   | cons x l => rfl
theorem jY (q p : List UInt8) : yl q p = true ↔ ∃ r, r ≠ [] ∧ cut 47 q = cut 47 p ++ r := by
 unfold yl
 rw [List.isPrefixOf_iff_prefix]
 constructor
 ·rintro ⟨t, rfl⟩
  refine ⟨cut 47 t, jF _ _, ?_⟩
  rw [List.append_assoc, List.singleton_append, Gh]
 ·rintro ⟨r, hr, h⟩
  refine ⟨ye r, ?_⟩
  have hf : ∀ x ∈ cut 47 p ++ r, ∀ b ∈ x, bn b ≠ 47 := by rw [← h]; exact Yp q
  apply cut_inj
  rw [List.append_assoc, List.singleton_append, Gh, h, Jp hr fun x hx => hf x (List.mem_append_right _ hx)]
theorem lessL_app : ∀ (a r : List (List UInt8)), r ≠ [] → vo a (a ++ r) = true := by
 intro a r hr
 induction a with
 | nil => cases r with
  | nil => exact absurd rfl hr
  | cons x r => rfl
 | cons x a ih => simp [vo, ih]
theorem VA {q p : List UInt8} (h : yl q p = true) : ltP p q = true := by
 obtain ⟨r, hr, e⟩ := (jY q p).1 h
 unfold ltP; rw [e]; exact lessL_app _ _ hr
theorem below_ne {q p : List UInt8} (h : yl q p = true) : q ≠ p := fun e => Qr (VA h) e.symm
theorem Xk (p : List UInt8) : yl p p = false := by
 rcases qw (yl p p) with h | h
 ·exact absurd rfl (below_ne h)
 ·exact h
theorem QG {a b c : List UInt8} (h1 : yl a b = true) (h2 : yl b c = true) : yl a c = true := by
 obtain ⟨r, hr, e⟩ := (jY a b).1 h1
 obtain ⟨s, hs, f⟩ := (jY b c).1 h2
 refine (jY a c).2 ⟨s ++ r, by simp [hr], ?_⟩
 rw [e, f, List.append_assoc]
theorem below_asymm {a b : List UInt8} (h : yl a b = true) : yl b a = false := by
 rcases qw (yl b a) with h1 | h1
 ·exact absurd (QG h h1) (by rw [Xk]; simp)
 ·exact h1
theorem Gi {t : List UInt8} (h : qd t ≠ []) : cut 47 (qd t) = (cut 47 t).dropLast := by
 rw [parentP_cut] at h ⊢
 refine Jp (fun e => h (by rw [e]; rfl)) fun x hx => Yp t x (List.dropLast_subset _ hx)
theorem jD {t : List UInt8} (h : qd t ≠ []) : yl t (qd t) = true := by
 refine (jY _ _).2 ⟨[(cut 47 t).getLast (jF _ _)], by simp, ?_⟩
 rw [Gi h, List.dropLast_concat_getLast]
theorem Q8 {t : List UInt8} (h : qd t ≠ []) : ltP (qd t) t = true := VA (jD h)
theorem mem_ancs : ∀ (n : Nat) (t x : List UInt8), t.length ≤ n → (x ∈ vx t → x ≠ [] ∧ yl t x = true) := by
 intro n
 induction n with
 | zero =>
  intro t x hn hx
  have : t = [] := List.eq_nil_of_length_eq_zero (by omega)
  subst this
  rw [jp, if_pos y7] at hx; cases hx
 | succ n ih =>
  intro t x hn hx
  rw [jp] at hx
  by_cases hp : qd t = []
  ·rw [if_pos hp] at hx; cases hx
  ·rw [if_neg hp] at hx
   have ht : t ≠ [] := fun e => by subst e; exact hp y7
   rcases List.mem_cons.1 hx with rfl | hx
   ·exact ⟨hp, jD hp⟩
   ·obtain ⟨h1, h2⟩ := ih (qd t) x (by have := jE ht; omega) hx
    exact ⟨h1, QG (jD hp) h2⟩
theorem yH {t x : List UInt8} (h : x ∈ vx t) : yl t x = true := (mem_ancs _ t x (Nat.le_refl _) h).2
theorem Vc {t x : List UInt8} (ht : qz t = true) (h : yl t x = true) : x ∈ vx t := by
 obtain ⟨r, hr, e⟩ := (jY t x).1 h
 rw [Gc ht, List.mem_reverse, List.mem_map]
 have hl : 0 < (cut 47 x).length := List.length_pos_iff.2 (jF _ _)
 have hrl : 0 < r.length := List.length_pos_iff.2 hr
 refine ⟨(cut 47 x).length - 1, List.mem_range.2 ?_, ?_⟩
 ·rw [e, List.length_append]; omega
 ·rw [e, show (cut 47 x).length - 1 + 1 = (cut 47 x).length by omega, List.take_left, Qu]
theorem Xi {t x : List UInt8} (ht : qz t = true) (h : yl t x = true) : qz x = true := by
 obtain ⟨r, hr, e⟩ := (jY t x).1 h
 have hrl : 0 < r.length := List.length_pos_iff.2 hr
 simp only [qz, Bool.and_eq_true, decide_eq_true_eq, e, List.all_append, List.length_append] at ht ⊢
 refine ⟨?_, by omega, ht.2.2.1⟩
 unfold yl at h
 rw [List.isPrefixOf_iff_prefix] at h
 have := h.length_le
 simp at this; omega
theorem JU {t x : List UInt8} (ht : qz t = true) (h : yl t x = true) : qd t ≠ [] ∧ (qd t = x ∨ yl (qd t) x = true) := by
 have hm := Vc ht h
 rw [jp] at hm
 by_cases hp : qd t = []
 ·rw [if_pos hp] at hm; cases hm
 ·rw [if_neg hp] at hm
  refine ⟨hp, ?_⟩
  rcases List.mem_cons.1 hm with e | hm
  ·exact .inl e.symm
  ·exact .inr (yH hm)
theorem Qa {t x : List UInt8} (h : yl t x = true) : (cut 47 x).length < (cut 47 t).length := by
 obtain ⟨r, hr, e⟩ := (jY t x).1 h
 have hrl : 0 < r.length := List.length_pos_iff.2 hr
 rw [e, List.length_append]; omega
structure Wood (t : List Nd) : Prop where
 rise : vV (t.map (·.path))
 ok : ∀ n ∈ t, QR n = true
 par : ∀ n ∈ t, qd n.path ≠ [] → ∃ m ∈ t, m.path = qd n.path ∧ m.kind = 3
structure Sheet (l : List Rec) : Prop where
 rise : vV (l.map (·.path))
 ok : ∀ r ∈ l, qB r = 0
 par : ∀ r ∈ l, qd r.path ≠ [] → ∃ q ∈ l, q.path = qd r.path ∧ q.kind = 3
abbrev vr (t : List Nd) (p : List UInt8) : Option Nd := yr (fun n : Nd => n.path) t p
abbrev qG (l : List Rec) (p : List UInt8) : Option Rec := yr (fun r : Rec => r.path) l p
theorem yS {t : List Nd} (h : vV (t.map (·.path))) {n : Nd} (hn : n ∈ t) : vr t n.path = some n := VG (fun n : Nd => n.path) h n hn
theorem Yt {l : List Rec} (h : vV (l.map (·.path))) {r : Rec} (hr : r ∈ l) : qG l r.path = some r := VG (fun r : Rec => r.path) h r hr
theorem yI {t : List Nd} {p : List UInt8} {n : Nd} (h : vr t p = some n) : n ∈ t ∧ n.path = p := Gw _ h
theorem vw {l : List Rec} {p : List UInt8} {r : Rec} (h : qG l p = some r) : r ∈ l ∧ r.path = p := Gw _ h
theorem yU (t : List Nd) (p : List UInt8) : (0 ≤ yX t p ↔ vr t p ≠ none) ∧ ∀ x, vr t p = some x → gt t (yX t p) = x := Gg (fun n : Nd => n.path) t p
theorem yf (l : List Rec) (p : List UInt8) : (0 ≤ qJ l p ↔ qG l p ≠ none) ∧ ∀ x, qG l p = some x → gt l (qJ l p) = x := Gg (fun r : Rec => r.path) l p
theorem G6 {α : Type} [Inhabited α] (f : α → List UInt8) {l : List α} (h : vV (l.map f)) {i j : Nat} (hij : i < j) (hj : j < l.length) : ltP (f (l.getD i default)) (f (l.getD j default)) = true := by
 rw [ym (by omega), ym hj]
 have := List.pairwise_iff_getElem.1 (List.pairwise_map.1 h) i j (by omega) hj hij
 exact this
theorem idx_lt {α : Type} [Inhabited α] (f : α → List UInt8) {l : List α} (h : vV (l.map f)) {i : Nat} (hi : i < l.length) {m : α} (hm : m ∈ l) (hlt : ltP (f m) (f (l.getD i default)) = true) : m ∈ l.take i := by
 obtain ⟨j, hj, rfl⟩ := List.getElem_of_mem hm
 by_cases hji : j < i
 ·rw [List.mem_take_iff_getElem]
  exact ⟨j, by omega, rfl⟩
 ·exfalso
  have e : l[j] = l.getD j default := (ym hj).symm
  rw [e] at hlt
  by_cases he : i = j
  ·subst he; rw [ju] at hlt; cases hlt
  ·have := G6 f h (show i < j by omega) hj
   rw [Qe this] at hlt; cases hlt
theorem G9 {α : Type} (f : α → List UInt8) {l : List α} (h : vV (l.map f)) (i : Nat) : vV ((l.take i).map f) := by
 rw [List.map_take]; exact List.Pairwise.sublist (List.take_sublist _ _) h
def woodOK (t : List Nd) : Bool := (List.range t.length).all (Yf t)
theorem wood_of {t : List Nd} (h : woodOK t = true) : Wood t := by
 have hat : ∀ i, i < t.length → Yf t i = true := fun i hi => List.all_eq_true.1 h i (List.mem_range.2 hi)
 have hr : vV (t.map (·.path)) := Y1 _ fun i h0 hi => by
  have := hat i hi
  have h9 : ¬ i = 0 := by omega
  simp only [Yf, Bool.and_eq_true, h9, decide_false, Bool.false_or] at this
  exact this.1.2
 refine ⟨hr, fun n hn => ?_, fun n hn hp => ?_⟩
 ·obtain ⟨i, hi, rfl⟩ := List.getElem_of_mem hn
  have := hat i hi
  simp only [Yf, Bool.and_eq_true, ym hi] at this
  exact this.1.1
 ·obtain ⟨i, hi, rfl⟩ := List.getElem_of_mem hn
  have := hat i hi
  simp only [Yf, Bool.and_eq_true, ym hi] at this
  have h2 := this.2
  unfold isDirN at h2
  simp only [hp, decide_false, Bool.false_or, Bool.and_eq_true, decide_eq_true_eq] at h2
  cases hl : vr (t.take i) (qd t[i].path) with
  | none => exact absurd hl ((yU _ _).1.1 h2.1)
  | some m =>
   obtain ⟨hm, he⟩ := yI hl
   rw [(yU _ _).2 m hl] at h2
   exact ⟨m, List.mem_of_mem_take hm, he, h2.2⟩
theorem codeAt_par {l : List Rec} {i : Nat} (h : yx l i = 0) (hp : qd (l.getD i default).path ≠ []) : 0 ≤ qJ (l.take i) (qd (l.getD i default).path) ∧ (gt l (qJ (l.take i) (qd (l.getD i default).path))).kind = 3 := by
 unfold yx at h
 split at h
 ·omega
 ·split at h
  ·exact absurd h ‹_›
  ·split at h
   ·omega
   ·split at h
    ·omega
    ·split at h
     ·omega
     ·split at h
      ·omega
      ·rename_i h1 h2
       exact ⟨by omega, by
        by_cases e : (gt l (qJ (l.take i) (qd (l.getD i default).path))).kind = 3
        ·exact e
        ·exact absurd e h2⟩
theorem Vm {l : List Rec} (h : (qo l).2 = 0) : Sheet l := by
 refine ⟨XC h, JM h, fun r hr hp => ?_⟩
 obtain ⟨i, hi, rfl⟩ := List.getElem_of_mem hr
 have e : l[i] = l.getD i default := (ym hi).symm
 rw [e] at hp ⊢
 obtain ⟨h1, h2⟩ := codeAt_par (j5 h i hi) hp
 cases hl : qG (l.take i) (qd (l.getD i default).path) with
 | none => exact absurd hl ((yf _ _).1.1 h1)
 | some m =>
  obtain ⟨hm, he⟩ := vw hl
  refine ⟨m, List.mem_of_mem_take hm, he, ?_⟩
  have h3 := (yf (l.take i) (qd (l.getD i default).path)).2 m hl
  rw [gtake l i _ h1 (Yj _ _)] at h3
  rw [← h3]; exact h2
theorem Yh {l : List Rec} (h : Sheet l) (hn : l.length ≤ 16) : (qo l).2 = 0 := by
 rw [GH fun i hi => ?_]
 have hm : l.getD i default ∈ l := by rw [ym hi]; exact List.getElem_mem hi
 unfold yx
 rw [if_neg (by omega), if_neg (by rw [h.ok _ hm]; simp)]
 have hlt : 0 < i → ltP (l.getD (i - 1) default).path (l.getD i default).path = true := fun h0 => G6 (fun r : Rec => r.path) h.rise (show i - 1 < i by omega) hi
 rw [if_neg (fun ⟨h0, e⟩ => Qr (hlt h0) e.symm), if_neg (fun ⟨h0, e⟩ => by have := hlt h0; unfold ltP at this; rw [e] at this; cases this)]
 by_cases hp : qd (l.getD i default).path = []
 ·rw [if_pos hp]
 ·obtain ⟨m, hmt, he, hk⟩ := h.par _ hm hp
  have hmi : m ∈ l.take i := idx_lt (fun r : Rec => r.path) h.rise hi hmt (by
   show ltP m.path (l.getD i default).path = true
   rw [he]; exact Q8 hp)
  have hl := Yt (G9 (fun r : Rec => r.path) h.rise i) hmi
  rw [he] at hl
  have h1 := (yf (l.take i) (qd (l.getD i default).path)).1.2 (by rw [hl]; simp)
  have h2 := (yf (l.take i) (qd (l.getD i default).path)).2 m hl
  rw [gtake l i _ h1 (Yj _ _)] at h2
  rw [if_neg hp, if_neg (by omega), if_neg (by rw [h2]; simp [hk])]
theorem Wood.up {t : List Nd} (h : Wood t) : ∀ (k : Nat) (n : Nd), n ∈ t → n.path.length ≤ k → ∀ p ∈ vx n.path, ∃ m ∈ t, m.path = p ∧ m.kind = 3 := by
 intro k
 induction k with
 | zero =>
  intro n hn hk p hp
  have : n.path = [] := List.eq_nil_of_length_eq_zero (by omega)
  rw [this, jp, if_pos y7] at hp; cases hp
 | succ k ih =>
  intro n hn hk p hp
  rw [jp] at hp
  by_cases hpp : qd n.path = []
  ·rw [if_pos hpp] at hp; cases hp
  ·rw [if_neg hpp] at hp
   obtain ⟨m, hm, he, hk3⟩ := h.par n hn hpp
   have hne : n.path ≠ [] := fun e => by rw [e] at hpp; exact hpp y7
   rcases List.mem_cons.1 hp with rfl | hp
   ·exact ⟨m, hm, he, hk3⟩
   ·exact ih m hm (by rw [he]; have := jE hne; omega) p (by rw [he]; exact hp)
theorem Xm {n : Nd} (h : QR n = true) : qB (recOf n) = 0 ∧ n.kind ≠ 4 := by
 simp only [QR, Bool.and_eq_true, decide_eq_true_eq, Bool.not_eq_true', decide_eq_false_iff_not] at h
 exact h
theorem Wood.above {t : List Nd} (h : Wood t) {n : Nd} (hn : n ∈ t) {p : List UInt8} (hb : yl n.path p = true) : ∃ m ∈ t, m.path = p ∧ m.kind = 3 :=
 h.up _ n hn (Nat.le_refl _) p (Vc (Vl (h.ok n hn)) hb)
theorem Sheet.up {t : List Rec} (h : Sheet t) : ∀ (k : Nat) (n : Rec), n ∈ t → n.path.length ≤ k → ∀ p ∈ vx n.path, ∃ m ∈ t, m.path = p ∧ m.kind = 3 := by
 intro k
 induction k with
 | zero =>
  intro n hn hk p hp
  have : n.path = [] := List.eq_nil_of_length_eq_zero (by omega)
  rw [this, jp, if_pos y7] at hp; cases hp
 | succ k ih =>
  intro n hn hk p hp
  rw [jp] at hp
  by_cases hpp : qd n.path = []
  ·rw [if_pos hpp] at hp; cases hp
  ·rw [if_neg hpp] at hp
   obtain ⟨m, hm, he, hk3⟩ := h.par n hn hpp
   have hne : n.path ≠ [] := fun e => by rw [e] at hpp; exact hpp y7
   rcases List.mem_cons.1 hp with rfl | hp
   ·exact ⟨m, hm, he, hk3⟩
   ·exact ih m hm (by rw [he]; have := jE hne; omega) p (by rw [he]; exact hp)
theorem Sheet.above {t : List Rec} (h : Sheet t) {n : Rec} (hn : n ∈ t) {p : List UInt8} (hb : yl n.path p = true) : ∃ m ∈ t, m.path = p ∧ m.kind = 3 :=
 h.up _ n hn (Nat.le_refl _) p (Vc (yw (h.ok n hn)) hb)
theorem X3 {α : Type} (f : α → List UInt8) (q : α → Bool) {l : List α} (h : vV (l.map f)) (p : List UInt8) : yr f (l.filter q) p = (yr f l p).filter q := by
 induction l with
 | nil => rfl
 | cons x l ih =>
  have ih := ih (VR h)
  rw [yV]
  by_cases hx : q x = true
  ·rw [List.filter_cons_of_pos hx, yV, ih]
   by_cases e : f x = p
   ·rw [if_pos e, if_pos e, Option.filter_some, if_pos hx]
   ·rw [if_neg e, if_neg e]
  ·rw [List.filter_cons_of_neg hx, ih]
   by_cases e : f x = p
   ·have : yr f l p = none := (jB f).2 fun hm => Qr (Vr h p hm) e
    rw [if_pos e, this, Option.filter_some, if_neg hx]; rfl
   ·rw [if_neg e]
theorem QF {α : Type} (f : α → List UInt8) (q : α → Bool) {l : List α} (h : vV (l.map f)) : vV ((l.filter q).map f) :=
 List.Pairwise.sublist (List.Sublist.map f List.filter_sublist) h
theorem Jj {t : List Nd} (h : vV (t.map (·.path))) (q : Nd → Bool) (p : List UInt8) : vr (t.filter q) p = (vr t p).filter q := X3 (fun n : Nd => n.path) q h p
theorem GA {t : List Nd} {n : Nd} (h : vV (t.map (·.path))) (hn : n.path ∉ t.map (·.path)) : vV ((QQ t n).map (·.path)) ∧ ∀ p, vr (QQ t n) p = if p = n.path then some n else vr t p := by
 have hr : vV ((QQ t n).map (·.path)) := by
  unfold QQ vV
  rw [List.map_append, List.map_cons, List.pairwise_append, List.pairwise_cons]
  have hgt : ∀ y ∈ (t.filter fun x => !ltP x.path n.path).map (fun x : Nd => x.path), ltP n.path y = true := by
   intro y hy
   obtain ⟨x, hx, rfl⟩ := List.mem_map.1 hy
   obtain ⟨hx1, hx2⟩ := List.mem_filter.1 hx
   rcases qw (ltP n.path x.path) with h1 | h1
   ·exact h1
   ·have h2 : ltP x.path n.path = false := by simpa using hx2
    exact absurd (List.mem_map_of_mem (f := fun x : Nd => x.path) hx1) (by rw [show x.path = n.path from VO h2 h1]; exact hn)
  refine ⟨QF _ _ h, ⟨hgt, QF _ _ h⟩, fun a ha b hb => ?_⟩
  obtain ⟨x, hx, rfl⟩ := List.mem_map.1 ha
  have h1 := (List.mem_filter.1 hx).2
  rcases List.mem_cons.1 hb with rfl | hb
  ·exact h1
  ·exact jz h1 (hgt b hb)
 refine ⟨hr, fun p => ?_⟩
 by_cases e : p = n.path
 ·subst e
  rw [if_pos rfl]
  exact yS hr (by unfold QQ; simp)
 ·rw [if_neg e]
  have key : ∀ x, vr (QQ t n) p = some x ↔ vr t p = some x := by
   intro x
   constructor
   ·intro hx
    obtain ⟨h1, h2⟩ := yI hx
    unfold QQ at h1
    rw [List.mem_append, List.mem_cons] at h1
    rcases h1 with h1 | h1 | h1
    ·rw [← h2]; exact yS h (List.mem_filter.1 h1).1
    ·exact absurd (by rw [← h2, h1]) e
    ·rw [← h2]; exact yS h (List.mem_filter.1 h1).1
   ·intro hx
    obtain ⟨h1, h2⟩ := yI hx
    rw [← h2]
    refine yS hr ?_
    unfold QQ
    rw [List.mem_append, List.mem_cons]
    rcases qw (ltP x.path n.path) with h3 | h3
    ·exact .inl (List.mem_filter.2 ⟨h1, h3⟩)
    ·exact .inr (.inr (List.mem_filter.2 ⟨h1, by rw [h3]; rfl⟩))
  cases hl : vr t p with
  | none =>
   cases hl2 : vr (QQ t n) p with
   | none => rfl
   | some x => rw [(key x).1 hl2] at hl; cases hl
  | some x => exact (key x).2 hl
def X0 (t : List Nd) (n : Nd) : List Nd := t.takeWhile (fun x => ltP x.path n.path) ++ n :: (match t.dropWhile (fun x => ltP x.path n.path) with | [] => [] | y :: r => if y.path = n.path then r else y :: r)
theorem rise_while {t : List Nd} {p : List UInt8} (h : vV (t.map (·.path))) : t.takeWhile (fun x => ltP x.path p) = t.filter (fun x => ltP x.path p) ∧ t.dropWhile (fun x => ltP x.path p) = t.filter (fun x => !ltP x.path p) := by
 induction t with
 | nil => exact ⟨rfl, rfl⟩
 | cons x t ih =>
  obtain ⟨i1, i2⟩ := ih (VR h)
  rcases qw (ltP x.path p) with hx | hx
  ·simp only [List.takeWhile_cons, List.dropWhile_cons, List.filter_cons, hx, if_true, i1, i2]
   simp
  ·have hall := notless_all h hx
   have h1 : t.filter (fun x => ltP x.path p) = [] := List.filter_eq_nil_iff.2 fun y hy => by rw [hall y hy]; simp
   have h2 : t.filter (fun x => !ltP x.path p) = t := List.filter_eq_self.2 fun y hy => by rw [hall y hy]; rfl
   simp [List.takeWhile_cons, List.dropWhile_cons, List.filter_cons, hx, h1, h2]
theorem putN_place {t : List Nd} {n : Nd} (h : vV (t.map (·.path))) : X0 t n = QQ (t.filter fun x => !decide (x.path = n.path)) n := by
 obtain ⟨h1, h2⟩ := rise_while (p := n.path) h
 unfold X0 QQ
 rw [h1, h2, List.filter_filter, List.filter_filter]
 have e1 : t.filter (fun x => ltP x.path n.path && !decide (x.path = n.path)) = t.filter (fun x => ltP x.path n.path) := by
  refine List.filter_congr fun x _ => ?_
  rcases qw (ltP x.path n.path) with h3 | h3
  ·rw [h3, decide_eq_false (Qr h3)]; rfl
  ·rw [h3]; rfl
 rw [e1]
 congr 2
 have hr := QF (fun x : Nd => x.path) (fun x => !ltP x.path n.path) h
 have hnl : ∀ x ∈ t.filter (fun x => !ltP x.path n.path), ltP x.path n.path = false := fun x hx => by simpa using (List.mem_filter.1 hx).2
 have e2 : t.filter (fun x => (!ltP x.path n.path) && !decide (x.path = n.path)) = (t.filter (fun x => !ltP x.path n.path)).filter fun x => !decide (x.path = n.path) := by
  rw [List.filter_filter]
  exact List.filter_congr fun x _ => Bool.and_comm _ _
 rw [e2]
 cases hd : t.filter (fun x => !ltP x.path n.path) with
 | nil => rfl
 | cons y r =>
  rw [hd] at hr hnl
  have hrest : ∀ x ∈ r, x.path ≠ n.path := by
   intro x hx e
   have h3 : ltP y.path x.path = true := Vr hr x.path (List.mem_map_of_mem hx)
   rw [e, hnl y (List.mem_cons_self ..)] at h3; cases h3
  have hfr : r.filter (fun x => !decide (x.path = n.path)) = r := List.filter_eq_self.2 fun x hx => by rw [decide_eq_false (hrest x hx)]; rfl
  by_cases e : y.path = n.path
  ·simp [e, hfr]
  ·simp [e, hfr]
def doS (t : List Nd) (r : Rec) : List Nd :=
 if r.kind = 4 then Qq t r.path true
 else if r.kind ≠ 3 ∨ r.opq = true ∨ (0 ≤ yX t r.path ∧ (gt t (yX t r.path)).kind ≠ 3) then X0 (Qq t r.path false) (j0 r) else X0 t (j0 r)
def doI (t : List Nd) (r : Rec) : List Nd :=
 if (r.kind = 3 ∧ r.opq = false) ∧ 0 ≤ yX t r.path ∧ (gt t (yX t r.path)).kind = 3 then QB t (yX t r.path) ⟨(gt t (yX t r.path)).kind, (gt t (yX t r.path)).path, (gt t (yX t r.path)).body, r.mode⟩
 else if r.kind = 4 then Qq t r.path true else QQ (Qq t r.path true) (j0 r)
def jP (r : Rec) : Option Nd := if r.kind = 4 then none else some (j0 r)
def Va (t : List Nd) (r : Rec) (p : List UInt8) : Option Nd := if p = r.path then jP r else if yT r && yl p r.path then none else vr t p
theorem Y7 {r : Rec} (h : qB r = 0) (hk : r.kind = 3) : r.body = [] := by
 unfold qB at h
 split at h
 ·omega
 ·split at h
  ·omega
  ·split at h
   ·omega
   ·split at h
    ·omega
    ·rename_i h4
     by_cases e : r.body = []
     ·exact e
     ·exact absurd (by simp [hk, e]) h4
theorem Qs {t : List Nd} (h : vV (t.map (·.path))) {p : List UInt8} (hp : p ≠ []) (b : Bool) (q : List UInt8) : vr (Qq t p b) q = if yl q p || (b && decide (q = p)) then none else vr t q := by
 unfold Qq
 rw [Jj h]
 cases hl : vr t q with
 | none => rw [ite_self]; rfl
 | some x =>
  have e := (yI hl).2
  subst e
  simp only [hp, decide_false, Bool.false_and, Bool.false_or, Option.filter_some]
  cases yl x.path p <;> cases b <;> cases hd : decide (x.path = p) <;> simp
theorem QW {t : List Nd} (h : vV (t.map (·.path))) (p : List UInt8) (b : Bool) : vV ((Qq t p b).map (·.path)) := QF _ _ h
theorem Gu {t : List Nd} (h : Wood t) {p q : List UInt8} (hb : yl q p = true) (hd : ∀ m ∈ t, m.path = p → m.kind ≠ 3) : vr t q = none := by
 cases hl : vr t q with
 | none => rfl
 | some n =>
  obtain ⟨hn, e⟩ := yI hl
  subst e
  obtain ⟨m, hm, h1, h2⟩ := h.above hn hb
  exact absurd h2 (hd m hm h1)
theorem G2 {t : List Nd} (h : vV (t.map (·.path))) (n : Nd) : vV ((X0 t n).map (·.path)) ∧ ∀ p, vr (X0 t n) p = if p = n.path then some n else vr t p := by
 rw [putN_place h]
 have hr := QF (fun x : Nd => x.path) (fun x => !decide (x.path = n.path)) h
 have hn : n.path ∉ (t.filter fun x => !decide (x.path = n.path)).map (fun x : Nd => x.path) := by
  intro hm
  obtain ⟨x, hx, e⟩ := List.mem_map.1 hm
  have := (List.mem_filter.1 hx).2
  simp [e] at this
 obtain ⟨h1, h2⟩ := GA hr hn
 refine ⟨h1, fun p => ?_⟩
 rw [h2]
 by_cases e : p = n.path
 ·simp [e]
 ·simp only [if_neg e]
  rw [Jj h]
  cases hl : vr t p with
  | none => rfl
  | some x =>
   have e2 := (yI hl).2
   subst e2
   rw [Option.filter_some, decide_eq_false e]; rfl
theorem JI {r : Rec} (h : qB r = 0) : r.path ≠ [] := Q3 (yw h)
theorem Gm {t : List Nd} {r : Rec} (h : Wood t) (hr : qB r = 0) : vV ((doS t r).map (·.path)) ∧ ∀ p, vr (doS t r) p = Va t r p := by
 have hne := JI hr
 unfold doS Va jP
 by_cases h4 : r.kind = 4
 ·have hst : yT r = true := by simp [yT, h4]
  rw [if_pos h4]
  refine ⟨QW h.rise _ _, fun p => ?_⟩
  rw [Qs h.rise hne]
  by_cases e : p = r.path
  ·simp [e, h4]
  ·simp [e, hst]
 ·rw [if_neg h4]
  by_cases hc : r.kind ≠ 3 ∨ r.opq = true ∨ (0 ≤ yX t r.path ∧ (gt t (yX t r.path)).kind ≠ 3)
  ·rw [if_pos hc]
   obtain ⟨h1, h2⟩ := G2 (QW h.rise r.path false) (j0 r)
   refine ⟨h1, fun p => ?_⟩
   rw [h2]
   have hpath : (j0 r).path = r.path := rfl
   by_cases e : p = r.path
   ·rw [if_pos (by rw [e]; rfl), if_pos e, if_neg h4]
   ·rw [if_neg (by rw [hpath]; exact e), if_neg e, Qs h.rise hne]
    simp only [Bool.false_and, Bool.or_false]
    rcases qw (yT r) with hs | hs
    ·rw [hs]; rfl
    ·rw [hs]
     simp only [Bool.false_and, Bool.false_eq_true, if_false]
     rcases qw (yl p r.path) with hb | hb
     ·rw [hb, if_pos rfl]
      have hs2 : r.kind = 3 ∧ r.opq = false := by simpa [yT] using hs
      rcases hc with hc | hc | hc
      ·exact absurd hs2.1 hc
      ·rw [hs2.2] at hc; cases hc
      ·refine (Gu h hb fun m hm e2 => ?_).symm
       have hl := yS h.rise hm
       rw [e2] at hl
       rw [(yU t r.path).2 m hl] at hc
       exact hc.2
     ·rw [hb]; rfl
  ·rw [if_neg hc]
   obtain ⟨h1, h2⟩ := G2 h.rise (j0 r)
   refine ⟨h1, fun p => ?_⟩
   rw [h2]
   have hpath : (j0 r).path = r.path := rfl
   have hs : yT r = false := by
    simp only [not_or, ne_eq, Decidable.not_not] at hc
    simp only [yT, hc.1, decide_true, Bool.not_true, Bool.false_or]
    cases ho : r.opq with
    | false => rfl
    | true => exact absurd ho hc.2.1
   by_cases e : p = r.path
   ·rw [if_pos (by rw [e]; rfl), if_pos e, if_neg h4]
   ·rw [if_neg (by rw [hpath]; exact e), if_neg e, hs]; rfl
theorem set_look {t : List Nd} {n : Nd} (h : vV (t.map (·.path))) {k : Nat} (hk : k < t.length) (hp : n.path = (t.getD k default).path) : vV ((t.set k n).map (·.path)) ∧ ∀ p, vr (t.set k n) p = if p = n.path then some n else vr t p := by
 have hm : (t.set k n).map (fun x : Nd => x.path) = t.map (fun x : Nd => x.path) := by
  rw [List.map_set, hp, ym hk]
  apply List.ext_getElem
  ·simp
  ·intro i h1 h2
   rw [List.getElem_set]
   split
   ·rename_i e; subst e; simp
   ·rfl
 have hr : vV ((t.set k n).map (fun x : Nd => x.path)) := by rw [hm]; exact h
 refine ⟨hr, fun p => ?_⟩
 by_cases e : p = n.path
 ·subst e; rw [if_pos rfl]
  exact yS hr (List.mem_set hk n)
 ·rw [if_neg e]
  have key : ∀ x, vr (t.set k n) p = some x ↔ vr t p = some x := by
   intro x
   constructor
   ·intro hx
    obtain ⟨h1, h2⟩ := yI hx
    rw [← h2]
    rcases List.mem_or_eq_of_mem_set h1 with h1 | h1
    ·exact yS h h1
    ·exact absurd (by rw [← h2, h1]) e
   ·intro hx
    obtain ⟨h1, h2⟩ := yI hx
    rw [← h2]
    refine yS hr ?_
    obtain ⟨j, hj, rfl⟩ := List.getElem_of_mem h1
    have hjk : k ≠ j := fun e2 => e (by subst e2; rw [← h2, hp, ym hk])
    rw [List.mem_iff_getElem]
    exact ⟨j, by simpa using hj, by rw [List.getElem_set_ne hjk]⟩
  cases hl : vr t p with
  | none =>
   cases hl2 : vr (t.set k n) p with
   | none => rfl
   | some x => rw [(key x).1 hl2] at hl; cases hl
  | some x => exact (key x).2 hl
theorem doI_spec {t : List Nd} {r : Rec} (h : Wood t) (hr : qB r = 0) : vV ((doI t r).map (·.path)) ∧ ∀ p, vr (doI t r) p = Va t r p := by
 have hne := JI hr
 unfold doI Va jP
 by_cases hc : (r.kind = 3 ∧ r.opq = false) ∧ 0 ≤ yX t r.path ∧ (gt t (yX t r.path)).kind = 3
 ·rw [if_pos hc]
  obtain ⟨⟨h3, ho⟩, hf, hk⟩ := hc
  have hs : yT r = false := by simp [yT, h3, ho]
  obtain ⟨m, hm⟩ : ∃ m, vr t r.path = some m := by
   cases hl : vr t r.path with
   | none => exact absurd hl ((yU t r.path).1.1 hf)
   | some m => exact ⟨m, rfl⟩
  have hg := (yU t r.path).2 m hm
  obtain ⟨hmt, hmp⟩ := yI hm
  rw [hg] at hk ⊢
  have hin := GQ (t := t) (p := r.path) (by omega)
  have hlt : (yX t r.path).toNat < t.length := by have := jC hin; omega
  have hgd : t.getD (yX t r.path).toNat default = m := hg
  have hb1 : m.body = [] := Y7 (r := recOf m) (Xm (h.ok m hmt)).1 hk
  have hb2 : r.body = [] := Y7 hr h3
  have hnd : (⟨m.kind, m.path, m.body, r.mode⟩ : Nd) = j0 r := by unfold j0; rw [hk, hmp, hb1, h3, hb2]
  rw [hnd]
  obtain ⟨h1, h2⟩ := set_look (n := j0 r) h.rise hlt (by rw [hgd]; exact hmp.symm)
  refine ⟨h1, fun p => ?_⟩
  have := h2 p
  unfold QB
  rw [this]
  have h4 : r.kind ≠ 4 := by omega
  by_cases e : p = r.path
  ·rw [if_pos (by rw [e]; rfl), if_pos e, if_neg h4]
  ·rw [if_neg (show ¬ p = (j0 r).path from e), if_neg e, hs]; rfl
 ·rw [if_neg hc]
  by_cases h4 : r.kind = 4
  ·have hst : yT r = true := by simp [yT, h4]
   rw [if_pos h4]
   refine ⟨QW h.rise _ _, fun p => ?_⟩
   rw [Qs h.rise hne]
   by_cases e : p = r.path
   ·simp [e, h4]
   ·simp [e, hst]
  ·rw [if_neg h4]
   have hn : (j0 r).path ∉ (Qq t r.path true).map (fun x : Nd => x.path) := by
    intro hm
    have := (QJ (fun n : Nd => n.path)).1 hm
    exact this (by show vr (Qq t r.path true) r.path = none; rw [Qs h.rise hne]; simp)
   obtain ⟨h1, h2⟩ := GA (QW h.rise r.path true) hn
   refine ⟨h1, fun p => ?_⟩
   rw [h2]
   by_cases e : p = r.path
   ·rw [if_pos (by rw [e]; rfl), if_pos e, if_neg h4]
   ·rw [if_neg (show ¬ p = (j0 r).path from e), if_neg e, Qs h.rise hne]
    simp only [e, decide_false, Bool.and_false, Bool.or_false]
    rcases qw (yT r) with hs | hs
    ·rw [hs]; rfl
    ·rw [hs]
     simp only [Bool.false_and, Bool.false_eq_true, if_false]
     rcases qw (yl p r.path) with hb | hb
     ·rw [hb, if_pos rfl]
      have hs2 : r.kind = 3 ∧ r.opq = false := by simpa [yT] using hs
      refine (Gu h hb fun m hm e2 hk => hc ?_).symm
      have hl := yS h.rise hm
      rw [e2] at hl
      refine ⟨hs2, (yU t r.path).1.2 (by rw [hl]; simp), ?_⟩
      rw [(yU t r.path).2 m hl]; exact hk
     ·rw [hb]; rfl
theorem doI_doS {t : List Nd} {r : Rec} (h : Wood t) (hr : qB r = 0) : doI t r = doS t r := by
 obtain ⟨a1, a2⟩ := doI_spec h hr
 obtain ⟨b1, b2⟩ := Gm h hr
 exact YS (fun n : Nd => n.path) a1 b1 fun p => (a2 p).trans (b2 p).symm
theorem jA (r : Rec) : qB r = 0 ↔ within r.kind 1 4 = true ∧ qz r.path = true ∧ (decide (20 < r.body.length) || (decide (r.kind = 2) && decide (r.body = []))) = false ∧
  (((decide (r.kind = 3) || decide (r.kind = 4)) && !decide (r.body = [])) || (!decide (r.kind = 3) && r.opq)) = false ∧ (!within r.mode 0 511 || ((decide (r.kind = 2) || decide (r.kind = 4)) && !decide (r.mode = 0))) = false := by
 unfold qB
 generalize (!within r.mode 0 511 || ((decide (r.kind = 2) || decide (r.kind = 4)) && !decide (r.mode = 0))) = c5
 generalize (((decide (r.kind = 3) || decide (r.kind = 4)) && !decide (r.body = [])) || (!decide (r.kind = 3) && r.opq)) = c4
 generalize (decide (20 < r.body.length) || (decide (r.kind = 2) && decide (r.body = []))) = c3
 cases within r.kind 1 4 <;> cases qz r.path <;> cases c3 <;> cases c4 <;> cases c5 <;> simp
theorem Yz {r : Rec} (h : qB r = 0) (b : Bool) (hb : b = true → r.kind = 3) : qB ⟨r.kind, r.path, r.body, r.mode, b⟩ = 0 := by
 obtain ⟨h1, h2, h3, h4, h5⟩ := (jA r).1 h
 refine (jA _).2 ⟨h1, h2, h3, ?_, h5⟩
 rw [Bool.or_eq_false_iff] at h4 ⊢
 refine ⟨h4.1, ?_⟩
 cases b with
 | false => simp
 | true => simp [hb rfl]
theorem nodeOK_ndOf {r : Rec} (hr : qB r = 0) (h4 : r.kind ≠ 4) : QR (j0 r) = true := by
 simp only [QR, Bool.and_eq_true, decide_eq_true_eq, Bool.not_eq_true', decide_eq_false_iff_not]
 exact ⟨Yz hr false (fun h => by cases h), h4⟩
theorem doS_wood {t : List Nd} {r : Rec} (h : Wood t) (hr : qB r = 0) (hp : qd r.path ≠ [] → ∃ m ∈ t, m.path = qd r.path ∧ m.kind = 3) : Wood (doS t r) := by
 obtain ⟨b1, b2⟩ := Gm h hr
 have hmem : ∀ n ∈ doS t r, Va t r n.path = some n := fun n hn => by rw [← b2]; exact yS b1 hn
 have hback : ∀ p x, Va t r p = some x → x ∈ doS t r ∧ x.path = p := fun p x hx => by rw [← b2] at hx; exact yI hx
 refine ⟨b1, fun n hn => ?_, fun n hn hpp => ?_⟩
 ·have := hmem n hn
  unfold Va at this
  split at this
  ·unfold jP at this
   split at this
   ·cases this
   ·rename_i h4; rw [← Option.some.inj this]; exact nodeOK_ndOf hr h4
  ·split at this
   ·cases this
   ·exact h.ok n (yI this).1
 ·have hs := hmem n hn
  unfold Va at hs
  by_cases e : n.path = r.path
  ·rw [e] at hpp
   obtain ⟨m, hm, h1, h2⟩ := hp hpp
   have hb := jD hpp
   have hx : Va t r (qd r.path) = some m := by
    unfold Va
    rw [if_neg (fun e2 => below_ne hb e2.symm), below_asymm hb, Bool.and_false, ← h1]
    exact yS h.rise hm
   obtain ⟨g1, g2⟩ := hback _ _ hx
   exact ⟨m, g1, by rw [g2, e], h2⟩
  ·rw [if_neg e] at hs
   split at hs
   ·cases hs
   ·rename_i hns
    have hnt := (yI hs).1
    have hnok := Vl (h.ok n hnt)
    obtain ⟨m, hm, h1, h2⟩ := h.par n hnt hpp
    have hb := jD hpp
    by_cases e2 : qd n.path = r.path
    ·
     rw [e2] at hb
     have hst : yT r = false := by
      rcases qw (yT r) with h3 | h3
      ·exact absurd (by rw [h3, hb]; rfl) hns
      ·exact h3
     have h3 : r.kind = 3 := by
      have : r.kind = 3 ∧ r.opq = false := by simpa [yT] using hst
      exact this.1
     have hx : Va t r (qd n.path) = some (j0 r) := by
      unfold Va jP
      rw [if_pos e2, if_neg (by omega)]
     obtain ⟨g1, g2⟩ := hback _ _ hx
     exact ⟨_, g1, g2, h3⟩
    ·have hx : Va t r (qd n.path) = some m := by
      unfold Va
      rw [if_neg e2]
      rw [if_neg (fun h3 => hns ?_), ← h1]
      ·exact yS h.rise hm
      ·rw [Bool.and_eq_true] at h3
       rw [h3.1, QG hb h3.2]; rfl
     obtain ⟨g1, g2⟩ := hback _ _ hx
     exact ⟨m, g1, g2, h2⟩
def yz (l : List Rec) (t : List Nd) : List Nd := l.foldl doS t
theorem X4 (l : List Rec) (r : Rec) (t : List Nd) : yz (l ++ [r]) t = doS (yz l t) r := by simp [yz]
def GR (l : List Rec) (t : List Nd) (p : List UInt8) : Option Nd := match qG l p with
 | some r => jP r
 | none => if Qf l p then none else vr t p
theorem jM (l : List Rec) (p : List UInt8) : Qf l p = true ↔ ∃ x ∈ vx p, ∃ r, qG l x = some r ∧ yT r = true := by
 unfold Qf
 rw [List.any_eq_true]
 constructor
 ·rintro ⟨x, hx, h⟩
  rw [Bool.and_eq_true, decide_eq_true_eq] at h
  cases hl : qG l x with
  | none => exact absurd hl ((yf l x).1.1 h.1)
  | some r =>
   rw [(yf l x).2 r hl] at h
   exact ⟨x, hx, r, hl, h.2⟩
 ·rintro ⟨x, hx, r, hl, h⟩
  refine ⟨x, hx, ?_⟩
  rw [Bool.and_eq_true, decide_eq_true_eq, (yf l x).2 r hl]
  exact ⟨(yf l x).1.2 (by rw [hl]; simp), h⟩
theorem yB (l : List Rec) (p : List UInt8) : vq l p = true ↔ ∃ x ∈ vx p, ∃ r, qG l x = some r ∧ r.opq = true := by
 unfold vq
 rw [List.any_eq_true]
 constructor
 ·rintro ⟨x, hx, h⟩
  rw [Bool.and_eq_true, decide_eq_true_eq] at h
  cases hl : qG l x with
  | none => exact absurd hl ((yf l x).1.1 h.1)
  | some r =>
   rw [(yf l x).2 r hl] at h
   exact ⟨x, hx, r, hl, h.2⟩
 ·rintro ⟨x, hx, r, hl, h⟩
  refine ⟨x, hx, ?_⟩
  rw [Bool.and_eq_true, decide_eq_true_eq, (yf l x).2 r hl]
  exact ⟨(yf l x).1.2 (by rw [hl]; simp), h⟩
theorem YG {l : List Rec} {r : Rec} (h : vV ((l ++ [r]).map (·.path))) (p : List UInt8) : qG (l ++ [r]) p = if p = r.path then some r else qG l p := by
 have hl : vV (l.map (fun r : Rec => r.path)) := by
  rw [List.map_append] at h
  exact (List.pairwise_append.1 h).1
 by_cases e : p = r.path
 ·subst e; rw [if_pos rfl]; exact Yt h (by simp)
 ·rw [if_neg e]
  unfold qG yr
  rw [List.find?_append]
  have : List.find? (fun x : Rec => decide (x.path = p)) [r] = none := by simp [Ne.symm e]
  rw [this]; simp
theorem QI {l : List Rec} {p : List UInt8} : qG l p ≠ none ↔ p ∈ l.map (·.path) := (QJ (fun r : Rec => r.path)).symm
theorem Sheet.init {l : List Rec} {r : Rec} (h : Sheet (l ++ [r])) : Sheet l ∧ (∀ x ∈ l, ltP x.path r.path = true) ∧ qB r = 0 ∧ (qd r.path ≠ [] → ∃ q ∈ l, q.path = qd r.path ∧ q.kind = 3) := by
 have hr := h.rise
 rw [List.map_append] at hr
 obtain ⟨h1, _, h3⟩ := List.pairwise_append.1 hr
 have hlt : ∀ x ∈ l, ltP x.path r.path = true := fun x hx => h3 x.path (List.mem_map_of_mem hx) r.path (by simp)
 refine ⟨⟨h1, fun x hx => h.ok x (List.mem_append_left _ hx), fun x hx hp => ?_⟩, hlt, h.ok r (by simp), fun hp => ?_⟩
 ·obtain ⟨q, hq, e, hk⟩ := h.par x (List.mem_append_left _ hx) hp
  rcases List.mem_append.1 hq with hq | hq
  ·exact ⟨q, hq, e, hk⟩
  ·rw [List.mem_singleton.1 hq] at e
   have h4 := Q8 hp
   rw [← e, Qe (hlt x hx)] at h4; cases h4
 ·obtain ⟨q, hq, e, hk⟩ := h.par r (by simp) hp
  rcases List.mem_append.1 hq with hq | hq
  ·exact ⟨q, hq, e, hk⟩
  ·rw [List.mem_singleton.1 hq] at e
   have h4 := Q8 hp
   rw [← e, ju] at h4; cases h4
theorem list_snoc {α : Type} : ∀ (n : Nat) (l : List α), l.length = n + 1 → ∃ m x, l = m ++ [x] ∧ m.length = n := by
 intro n l h
 have hne : l ≠ [] := fun e => by rw [e] at h; cases h
 exact ⟨l.dropLast, l.getLast hne, (List.dropLast_concat_getLast hne).symm, by simp; omega⟩
theorem XS (t : List Nd) (ht : Wood t) : ∀ (n : Nat) (l : List Rec), l.length = n → Sheet l → Wood (yz l t) ∧ (∀ p, vr (yz l t) p = GR l t p) ∧ (yz l t).length ≤ t.length + n ∧ l.foldl doI t = yz l t := by
 intro n
 induction n with
 | zero =>
  intro l hn _
  have : l = [] := List.eq_nil_of_length_eq_zero hn
  subst this
  refine ⟨ht, fun p => ?_, by simp [yz], rfl⟩
  have : Qf [] p = false := by
   rcases qw (Qf [] p) with h | h
   ·obtain ⟨x, _, r, hl, _⟩ := (jM [] p).1 h; cases hl
   ·exact h
  show vr t p = if Qf [] p then none else vr t p
  rw [this]; rfl
 | succ n ih =>
  intro l hn hl
  obtain ⟨m, r, rfl, hm⟩ := list_snoc n l hn
  obtain ⟨hs, hlt, hr, hpar⟩ := hl.init
  obtain ⟨i1, i2, i3, i4⟩ := ih m hm hs
  have hpw : qd r.path ≠ [] → ∃ q ∈ yz m t, q.path = qd r.path ∧ q.kind = 3 := by
   intro hp
   obtain ⟨q, hq, e, hk⟩ := hpar hp
   have hlook : vr (yz m t) (qd r.path) = some (j0 q) := by
    rw [i2]
    unfold GR
    rw [← e, Yt hs.rise hq]
    show jP q = _
    unfold jP; rw [if_neg (by omega)]
   obtain ⟨g1, g2⟩ := yI hlook
   exact ⟨j0 q, g1, g2, hk⟩
  rw [X4]
  obtain ⟨b1, b2⟩ := Gm i1 hr
  have hw := doS_wood i1 hr hpw
  refine ⟨hw, fun p => ?_, ?_, by rw [List.foldl_append, i4]; exact doI_doS i1 hr⟩
  ·rw [b2]
   unfold Va GR
   rw [YG hl.rise]
   by_cases e : p = r.path
   ·rw [if_pos e, if_pos e]
   ·rw [if_neg e, if_neg e]
    have hcut : ∀ x ∈ vx p, qG (m ++ [r]) x = if x = r.path then some r else qG m x := fun x _ => YG hl.rise x
    by_cases hsb : (yT r && yl p r.path) = true
    ·rw [if_pos hsb]
     rw [Bool.and_eq_true] at hsb
     have hno : qG m p = none := by
      cases hlm : qG m p with
      | none => rfl
      | some q =>
       obtain ⟨h1, h2⟩ := vw hlm
       have h3 := hlt q h1
       rw [h2, Qe (VA hsb.2)] at h3; cases h3
     rw [hno]
     by_cases hpo : r.path ∈ vx p
     ·have : Qf (m ++ [r]) p = true := (jM _ _).2 ⟨r.path, hpo, r, by rw [YG hl.rise, if_pos rfl], hsb.1⟩
      simp only [this, if_true]
     ·
      have hc : vr t p = none := by
       cases hlt2 : vr t p with
       | none => rfl
       | some q =>
        obtain ⟨h1, h2⟩ := yI hlt2
        exact absurd (Vc (by rw [← h2]; exact Vl (ht.ok q h1)) hsb.2) hpo
      simp only [hc, ite_self]
    ·rw [if_neg hsb, i2]
     unfold GR
     cases hlm : qG m p with
     | some q => rfl
     | none =>
      have : Qf (m ++ [r]) p = Qf m p := by
       rw [Bool.eq_iff_iff, jM, jM]
       constructor
       ·rintro ⟨x, hx, q, hq, hst⟩
        rw [hcut x hx] at hq
        by_cases e2 : x = r.path
        ·rw [if_pos e2] at hq
         have : r = q := Option.some.inj hq
         subst this
         exact absurd (by rw [hst, ← e2, yH hx]; rfl) hsb
        ·rw [if_neg e2] at hq
         exact ⟨x, hx, q, hq, hst⟩
       ·rintro ⟨x, hx, q, hq, hst⟩
        refine ⟨x, hx, q, ?_, hst⟩
        rw [hcut x hx, if_neg (fun e2 => ?_)]
        ·exact hq
        ·have h3 := hlt q (vw hq).1
         rw [(vw hq).2, e2, ju] at h3; cases h3
      simp only [this]
  ·refine Nat.le_trans ?_ (show (yz m t).length + 1 ≤ t.length + (n + 1) by omega)
   have hput : ∀ (s : List Nd) (x : Nd), (X0 s x).length ≤ s.length + 1 := by
    intro s x
    unfold X0
    have hl2 : (s.takeWhile fun y => ltP y.path x.path).length + (s.dropWhile fun y => ltP y.path x.path).length = s.length := by
     rw [← List.length_append, List.takeWhile_append_dropWhile]
    cases hd : s.dropWhile (fun y => ltP y.path x.path) with
    | nil => simp; rw [hd] at hl2; simp at hl2; omega
    | cons y q =>
     rw [hd] at hl2
     simp only [List.length_append, List.length_cons] at hl2 ⊢
     split
     ·omega
     ·simp only [List.length_cons]; omega
   unfold doS
   split
   ·have := JN (yz m t) r.path true; omega
   ·split
    ·have h1 := JN (yz m t) r.path false
     have h2 := hput (Qq (yz m t) r.path false) (j0 r)
     omega
    ·exact hput _ _
theorem Sheet.take {l : List Rec} (h : Sheet l) (i : Nat) : Sheet (l.take i) := by
 refine ⟨G9 (fun r : Rec => r.path) h.rise i, fun r hr => h.ok r (List.mem_of_mem_take hr), fun r hr hp => ?_⟩
 obtain ⟨q, hq, e, hk⟩ := h.par r (List.mem_of_mem_take hr) hp
 obtain ⟨j, hj, rfl⟩ := List.mem_take_iff_getElem.1 hr
 have hjl : j < l.length := by omega
 have hlt : ltP q.path (l.getD j default).path = true := by rw [e, ym hjl]; exact Q8 hp
 have hq2 := idx_lt (fun r : Rec => r.path) h.rise hjl hq hlt
 refine ⟨q, ?_, e, hk⟩
 have : l.take j = (l.take i).take j := by rw [List.take_take, Nat.min_eq_left (by omega)]
 rw [this] at hq2
 exact List.mem_of_mem_take hq2
theorem resStep_dir {t : List Nd} {p : List UInt8} {i : Nat} {m : Nd} (h : vr t p = some m) (hk : m.kind = 3) (hi : i ≠ 0) : Vo t p i = none := by
 unfold Vo
 have h1 := (yU t p).1.2 (by rw [h]; simp)
 rw [if_neg (by omega), if_neg hi, (yU t p).2 m h]
 simp [hk]
theorem way_above {t : List Nd} {p x : List UInt8} (ht : Wood t) (hp : qz p = true) {m : Nd} (hm : vr t x = some m) (hx : x = p ∨ x ∈ vx p) :
  ∀ y ∈ vx x, ∃ q, vr t y = some q ∧ q.kind = 3 := by
 intro y hy
 obtain ⟨hmt, he⟩ := yI hm
 obtain ⟨q, hq, e, hk⟩ := ht.above hmt (p := y) (by rw [he]; exact yH hy)
 exact ⟨q, by rw [← e]; exact yS ht.rise hq, hk⟩
theorem GK {t : List Nd} {p : List UInt8} (ht : Wood t) (hp : qz p = true) {m : Nd} (hm : vr t p = some m) : VC t p = (yX t p, 0) := by
 unfold VC
 refine resGo_some _ (i := 0) (by simp) ?_ fun j h0 hj => ?_
 ·have h1 := (yU t p).1.2 (by rw [hm]; simp)
  show Vo t p 0 = _
  unfold Vo
  rw [if_neg (by omega), if_pos rfl]
 ·have hja : j - 1 < (vx p).length := by simp at hj; omega
  have he : ([p] ++ vx p).getD j [] = (vx p)[j - 1] := by
   rw [List.getD_eq_getElem?_getD, List.getElem?_append_right (by simp; omega)]
   simp [List.getElem?_eq_getElem hja]
  rw [he]
  obtain ⟨q, hq, hk⟩ := way_above ht hp hm (.inl rfl) _ (List.getElem_mem hja)
  exact resStep_dir hq hk (by omega)
end Go.UL
