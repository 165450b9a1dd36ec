import Derived.Test.YtdhmlillkbjjjaaGreatDoorqP24
set_option linter.unusedVariables false
set_option linter.unusedSimpArgs false
namespace Go.UL
open Go.RowKit
structure Wood (t : List Nd) : Prop where
 rise : yi (t.map (·.path))
 ok : ∀ n ∈ t, Y1 n = true
 par : ∀ n ∈ t, qe n.path ≠ [] → ∃ m ∈ t, m.path = qe n.path ∧ m.kind = 3
structure Sheet (l : List Rec) : Prop where
 rise : yi (l.map (·.path))
 ok : ∀ r ∈ l, qz r = 0
 par : ∀ r ∈ l, qe r.path ≠ [] → ∃ q ∈ l, q.path = qe r.path ∧ q.kind = 3
abbrev yb (t : List Nd) (p : List UInt8) : Option Nd := yj (fun n : Nd => n.path) t p
abbrev vD (l : List Rec) (p : List UInt8) : Option Rec := yj (fun r : Rec => r.path) l p
theorem jC {t : List Nd} (h : yi (t.map (·.path))) {n : Nd} (hn : n ∈ t) : yb t n.path = some n := YF (fun n : Nd => n.path) h n hn
theorem Yw {l : List Rec} (h : yi (l.map (·.path))) {r : Rec} (hr : r ∈ l) : vD l r.path = some r := YF (fun r : Rec => r.path) h r hr
theorem jl {t : List Nd} {p : List UInt8} {n : Nd} (h : yb t p = some n) : n ∈ t ∧ n.path = p := Vr _ h
theorem js {l : List Rec} {p : List UInt8} {r : Rec} (h : vD l p = some r) : r ∈ l ∧ r.path = p := Vr _ h
theorem jh (t : List Nd) (p : List UInt8) : (0 ≤ vm t p ↔ yb t p ≠ none) ∧ ∀ x, yb t p = some x → gt t (vm t p) = x := Vu (fun n : Nd => n.path) t p
theorem yX (l : List Rec) (p : List UInt8) : (0 ≤ qB l p ↔ vD l p ≠ none) ∧ ∀ x, vD l p = some x → gt l (qB l p) = x := Vu (fun r : Rec => r.path) l p
theorem Gu {α : Type} [Inhabited α] (f : α → List UInt8) {l : List α} (h : yi (l.map f)) {i j : Nat} (hij : i < j) (hj : j < l.length) : ltP (f (l.getD i default)) (f (l.getD j default)) = true := by
 rw [vr (by omega), vr hj]
 have := List.pairwise_iff_getElem.1 (List.pairwise_map.1 h) i j (by omega) hj hij
 exact this
theorem idx_lt {α : Type} [Inhabited α] (f : α → List UInt8) {l : List α} (h : yi (l.map f)) {i : Nat} (hi : i < l.length) {m : α} (hm : m ∈ l) (hlt : ltP (f m) (f (l.getD i default)) = true) : m ∈ l.take i := by
 obtain ⟨j, hj, rfl⟩ := List.getElem_of_mem hm
 by_cases hji : j < i
 ·rw [List.mem_take_iff_getElem]
  exact ⟨j, by omega, rfl⟩
 ·exfalso
  have e : l[j] = l.getD j default := (vr hj).symm
  rw [e] at hlt
  by_cases he : i = j
  ·subst he; rw [Vx] at hlt; cases hlt
  ·have := Gu f h (show i < j by omega) hj
   rw [Vw this] at hlt; cases hlt
theorem Gf {α : Type} (f : α → List UInt8) {l : List α} (h : yi (l.map f)) (i : Nat) : yi ((l.take i).map f) := by
 rw [List.map_take]; exact List.Pairwise.sublist (List.take_sublist _ _) h
def woodOK (t : List Nd) : Bool := (List.range t.length).all (Yy t)
theorem wood_of {t : List Nd} (h : woodOK t = true) : Wood t := by
 have hat : ∀ i, i < t.length → Yy t i = true := fun i hi => List.all_eq_true.1 h i (List.mem_range.2 hi)
 have hr : yi (t.map (·.path)) := JW _ fun i h0 hi => by
  have := hat i hi
  have h9 : ¬ i = 0 := by omega
  simp only [Yy, Bool.and_eq_true, h9, decide_false, Bool.false_or] at this
  exact this.1.2
 refine ⟨hr, fun n hn => ?_, fun n hn hp => ?_⟩
 ·obtain ⟨i, hi, rfl⟩ := List.getElem_of_mem hn
  have := hat i hi
  simp only [Yy, Bool.and_eq_true, vr hi] at this
  exact this.1.1
 ·obtain ⟨i, hi, rfl⟩ := List.getElem_of_mem hn
  have := hat i hi
  simp only [Yy, Bool.and_eq_true, vr hi] at this
  have h2 := this.2
  unfold isDirN at h2
  simp only [hp, decide_false, Bool.false_or, Bool.and_eq_true, decide_eq_true_eq] at h2
  cases hl : yb (t.take i) (qe t[i].path) with
  | none => exact absurd hl ((jh _ _).1.1 h2.1)
  | some m =>
   obtain ⟨hm, he⟩ := jl hl
   rw [(jh _ _).2 m hl] at h2
   exact ⟨m, List.mem_of_mem_take hm, he, h2.2⟩
theorem wood_ok {t : List Nd} (h : Wood t) : woodOK t = true := by
 refine List.all_eq_true.2 fun i hi => ?_
 have hi := List.mem_range.1 hi
 have hm : t.getD i default ∈ t := by rw [vr hi]; exact List.getElem_mem hi
 simp only [Yy, Bool.and_eq_true, h.ok _ hm, true_and]
 refine ⟨?_, ?_⟩
 ·by_cases h0 : i = 0
  ·simp [h0]
  ·have := Gu (fun n : Nd => n.path) h.rise (show i - 1 < i by omega) hi
   have h9 : vA (cut 47 (t.getD (i - 1) default).path) (cut 47 (t.getD i default).path) = true := this
   rw [h9]; simp
 ·unfold isDirN
  by_cases hp : qe (t.getD i default).path = []
  ·rw [decide_eq_true hp]; rfl
  ·obtain ⟨m, hmt, he, hk⟩ := h.par _ hm hp
   have hmi : m ∈ t.take i := idx_lt (fun n : Nd => n.path) h.rise hi hmt (by
    show ltP m.path (t.getD i default).path = true
    rw [he]; exact V4 hp)
   have hl := jC (Gf (fun n : Nd => n.path) h.rise i) hmi
   rw [he] at hl
   have h1 := (jh (t.take i) (qe (t.getD i default).path)).1.2 (by rw [hl]; simp)
   have h2 := (jh (t.take i) (qe (t.getD i default).path)).2 m hl
   have hz : vm (t.take i) (qe (t.getD i default).path) < (t.take i).length := findN_lt _ _
   simp only [hp, decide_false, Bool.false_or, Bool.and_eq_true, decide_eq_true_eq]
   exact ⟨h1, by rw [h2]; exact hk⟩
theorem codeAt_par {l : List Rec} {i : Nat} (h : ji l i = 0) (hp : qe (l.getD i default).path ≠ []) : 0 ≤ qB (l.take i) (qe (l.getD i default).path) ∧ (gt l (qB (l.take i) (qe (l.getD i default).path))).kind = 3 := by
 unfold ji at h
 split at h
 ·omega
 ·split at h
  ·exact absurd h ‹_›
  ·split at h
   ·omega
   ·split at h
    ·omega
    ·split at h
     ·omega
     ·split at h
      ·omega
      ·rename_i h1 h2
       exact ⟨by omega, by
        by_cases e : (gt l (qB (l.take i) (qe (l.getD i default).path))).kind = 3
        ·exact e
        ·exact absurd e h2⟩
theorem Ja {l : List Rec} (h : (qC l).2 = 0) : Sheet l := by
 refine ⟨JT h, GK h, fun r hr hp => ?_⟩
 obtain ⟨i, hi, rfl⟩ := List.getElem_of_mem hr
 have e : l[i] = l.getD i default := (vr hi).symm
 rw [e] at hp ⊢
 obtain ⟨h1, h2⟩ := codeAt_par (QT h i hi) hp
 cases hl : vD (l.take i) (qe (l.getD i default).path) with
 | none => exact absurd hl ((yX _ _).1.1 h1)
 | some m =>
  obtain ⟨hm, he⟩ := js hl
  refine ⟨m, List.mem_of_mem_take hm, he, ?_⟩
  have h3 := (yX (l.take i) (qe (l.getD i default).path)).2 m hl
  rw [gtake l i _ h1 (Je _ _)] at h3
  rw [← h3]; exact h2
theorem sheet_layer {l : List Rec} (h : Sheet l) (hn : l.length ≤ 16) : (qC l).2 = 0 := by
 rw [layerFault_of fun i hi => ?_]
 have hm : l.getD i default ∈ l := by rw [vr hi]; exact List.getElem_mem hi
 unfold ji
 rw [if_neg (by omega), if_neg (by rw [h.ok _ hm]; simp)]
 have hlt : 0 < i → ltP (l.getD (i - 1) default).path (l.getD i default).path = true := fun h0 => Gu (fun r : Rec => r.path) h.rise (show i - 1 < i by omega) hi
 rw [if_neg (fun ⟨h0, e⟩ => Q8 (hlt h0) e.symm), if_neg (fun ⟨h0, e⟩ => by have := hlt h0; unfold ltP at this; rw [e] at this; cases this)]
 by_cases hp : qe (l.getD i default).path = []
 ·rw [if_pos hp]
 ·obtain ⟨m, hmt, he, hk⟩ := h.par _ hm hp
  have hmi : m ∈ l.take i := idx_lt (fun r : Rec => r.path) h.rise hi hmt (by
   show ltP m.path (l.getD i default).path = true
   rw [he]; exact V4 hp)
  have hl := Yw (Gf (fun r : Rec => r.path) h.rise i) hmi
  rw [he] at hl
  have h1 := (yX (l.take i) (qe (l.getD i default).path)).1.2 (by rw [hl]; simp)
  have h2 := (yX (l.take i) (qe (l.getD i default).path)).2 m hl
  rw [gtake l i _ h1 (Je _ _)] at h2
  rw [if_neg hp, if_neg (by omega), if_neg (by rw [h2]; simp [hk])]
theorem Wood.up {t : List Nd} (h : Wood t) : ∀ (k : Nat) (n : Nd), n ∈ t → n.path.length ≤ k → ∀ p ∈ jo n.path, ∃ m ∈ t, m.path = p ∧ m.kind = 3 := by
 intro k
 induction k with
 | zero =>
  intro n hn hk p hp
  have : n.path = [] := List.eq_nil_of_length_eq_zero (by omega)
  rw [this, Qj, if_pos jR] at hp; cases hp
 | succ k ih =>
  intro n hn hk p hp
  rw [Qj] at hp
  by_cases hpp : qe n.path = []
  ·rw [if_pos hpp] at hp; cases hp
  ·rw [if_neg hpp] at hp
   obtain ⟨m, hm, he, hk3⟩ := h.par n hn hpp
   have hne : n.path ≠ [] := fun e => by rw [e] at hpp; exact hpp jR
   rcases List.mem_cons.1 hp with rfl | hp
   ·exact ⟨m, hm, he, hk3⟩
   ·exact ih m hm (by rw [he]; have := QJ hne; omega) p (by rw [he]; exact hp)
theorem nodeOK_fault {n : Nd} (h : Y1 n = true) : qz (recOf n) = 0 ∧ n.kind ≠ 4 := by
 simp only [Y1, Bool.and_eq_true, decide_eq_true_eq, Bool.not_eq_true', decide_eq_false_iff_not] at h
 exact h
theorem Wood.above {t : List Nd} (h : Wood t) {n : Nd} (hn : n ∈ t) {p : List UInt8} (hb : ve n.path p = true) : ∃ m ∈ t, m.path = p ∧ m.kind = 3 :=
 h.up _ n hn (Nat.le_refl _) p (V6 (VJ (h.ok n hn)) hb)
theorem Sheet.up {t : List Rec} (h : Sheet t) : ∀ (k : Nat) (n : Rec), n ∈ t → n.path.length ≤ k → ∀ p ∈ jo n.path, ∃ m ∈ t, m.path = p ∧ m.kind = 3 := by
 intro k
 induction k with
 | zero =>
  intro n hn hk p hp
  have : n.path = [] := List.eq_nil_of_length_eq_zero (by omega)
  rw [this, Qj, if_pos jR] at hp; cases hp
 | succ k ih =>
  intro n hn hk p hp
  rw [Qj] at hp
  by_cases hpp : qe n.path = []
  ·rw [if_pos hpp] at hp; cases hp
  ·rw [if_neg hpp] at hp
   obtain ⟨m, hm, he, hk3⟩ := h.par n hn hpp
   have hne : n.path ≠ [] := fun e => by rw [e] at hpp; exact hpp jR
   rcases List.mem_cons.1 hp with rfl | hp
   ·exact ⟨m, hm, he, hk3⟩
   ·exact ih m hm (by rw [he]; have := QJ hne; omega) p (by rw [he]; exact hp)
theorem Sheet.above {t : List Rec} (h : Sheet t) {n : Rec} (hn : n ∈ t) {p : List UInt8} (hb : ve n.path p = true) : ∃ m ∈ t, m.path = p ∧ m.kind = 3 :=
 h.up _ n hn (Nat.le_refl _) p (V6 (yr (h.ok n hn)) hb)
theorem look_filter {α : Type} (f : α → List UInt8) (q : α → Bool) {l : List α} (h : yi (l.map f)) (p : List UInt8) : yj f (l.filter q) p = (yj f l p).filter q := by
 induction l with
 | nil => rfl
 | cons x l ih =>
  have ih := ih (Q9 h)
  rw [jH]
  by_cases hx : q x = true
  ·rw [List.filter_cons_of_pos hx, jH, ih]
   by_cases e : f x = p
   ·rw [if_pos e, if_pos e, Option.filter_some, if_pos hx]
   ·rw [if_neg e, if_neg e]
  ·rw [List.filter_cons_of_neg hx, ih]
   by_cases e : f x = p
   ·have : yj f l p = none := (jt f).2 fun hm => Q8 (VB h p hm) e
    rw [if_pos e, this, Option.filter_some, if_neg hx]; rfl
   ·rw [if_neg e]
theorem Q5 {α : Type} (f : α → List UInt8) (q : α → Bool) {l : List α} (h : yi (l.map f)) : yi ((l.filter q).map f) :=
 List.Pairwise.sublist (List.Sublist.map f List.filter_sublist) h
theorem J7 {t : List Nd} (h : yi (t.map (·.path))) (q : Nd → Bool) (p : List UInt8) : yb (t.filter q) p = (yb t p).filter q := look_filter (fun n : Nd => n.path) q h p
theorem X4 {t : List Nd} {n : Nd} (h : yi (t.map (·.path))) (hn : n.path ∉ t.map (·.path)) : yi ((j8 t n).map (·.path)) ∧ ∀ p, yb (j8 t n) p = if p = n.path then some n else yb t p := by
 have hr : yi ((j8 t n).map (·.path)) := by
  unfold j8 yi
  rw [List.map_append, List.map_cons, List.pairwise_append, List.pairwise_cons]
  have hgt : ∀ y ∈ (t.filter fun x => !ltP x.path n.path).map (fun x : Nd => x.path), ltP n.path y = true := by
   intro y hy
   obtain ⟨x, hx, rfl⟩ := List.mem_map.1 hy
   obtain ⟨hx1, hx2⟩ := List.mem_filter.1 hx
   rcases ql (ltP n.path x.path) with h1 | h1
   ·exact h1
   ·have h2 : ltP x.path n.path = false := by simpa using hx2
    exact absurd (List.mem_map_of_mem (f := fun x : Nd => x.path) hx1) (by rw [show x.path = n.path from Yk h2 h1]; exact hn)
  refine ⟨Q5 _ _ h, ⟨hgt, Q5 _ _ h⟩, fun a ha b hb => ?_⟩
  obtain ⟨x, hx, rfl⟩ := List.mem_map.1 ha
  have h1 := (List.mem_filter.1 hx).2
  rcases List.mem_cons.1 hb with rfl | hb
  ·exact h1
  ·exact j0 h1 (hgt b hb)
 refine ⟨hr, fun p => ?_⟩
 by_cases e : p = n.path
 ·subst e
  rw [if_pos rfl]
  exact jC hr (by unfold j8; simp)
 ·rw [if_neg e]
  have key : ∀ x, yb (j8 t n) p = some x ↔ yb t p = some x := by
   intro x
   constructor
   ·intro hx
    obtain ⟨h1, h2⟩ := jl hx
    unfold j8 at h1
    rw [List.mem_append, List.mem_cons] at h1
    rcases h1 with h1 | h1 | h1
    ·rw [← h2]; exact jC h (List.mem_filter.1 h1).1
    ·exact absurd (by rw [← h2, h1]) e
    ·rw [← h2]; exact jC h (List.mem_filter.1 h1).1
   ·intro hx
    obtain ⟨h1, h2⟩ := jl hx
    rw [← h2]
    refine jC hr ?_
    unfold j8
    rw [List.mem_append, List.mem_cons]
    rcases ql (ltP x.path n.path) with h3 | h3
    ·exact .inl (List.mem_filter.2 ⟨h1, h3⟩)
    ·exact .inr (.inr (List.mem_filter.2 ⟨h1, by rw [h3]; rfl⟩))
  cases hl : yb t p with
  | none =>
   cases hl2 : yb (j8 t n) p with
   | none => rfl
   | some x => rw [(key x).1 hl2] at hl; cases hl
  | some x => exact (key x).2 hl
def JK (t : List Nd) (n : Nd) : List Nd := t.takeWhile (fun x => ltP x.path n.path) ++ n :: (match t.dropWhile (fun x => ltP x.path n.path) with | [] => [] | y :: r => if y.path = n.path then r else y :: r)
theorem rise_while {t : List Nd} {p : List UInt8} (h : yi (t.map (·.path))) : t.takeWhile (fun x => ltP x.path p) = t.filter (fun x => ltP x.path p) ∧ t.dropWhile (fun x => ltP x.path p) = t.filter (fun x => !ltP x.path p) := by
 induction t with
 | nil => exact ⟨rfl, rfl⟩
 | cons x t ih =>
  obtain ⟨i1, i2⟩ := ih (Q9 h)
  rcases ql (ltP x.path p) with hx | hx
  ·simp only [List.takeWhile_cons, List.dropWhile_cons, List.filter_cons, hx, if_true, i1, i2]
   simp
  ·have hall := Jf h hx
   have h1 : t.filter (fun x => ltP x.path p) = [] := List.filter_eq_nil_iff.2 fun y hy => by rw [hall y hy]; simp
   have h2 : t.filter (fun x => !ltP x.path p) = t := List.filter_eq_self.2 fun y hy => by rw [hall y hy]; rfl
   simp [List.takeWhile_cons, List.dropWhile_cons, List.filter_cons, hx, h1, h2]
theorem putN_place {t : List Nd} {n : Nd} (h : yi (t.map (·.path))) : JK t n = j8 (t.filter fun x => !decide (x.path = n.path)) n := by
 obtain ⟨h1, h2⟩ := rise_while (p := n.path) h
 unfold JK j8
 rw [h1, h2, List.filter_filter, List.filter_filter]
 have e1 : t.filter (fun x => ltP x.path n.path && !decide (x.path = n.path)) = t.filter (fun x => ltP x.path n.path) := by
  refine List.filter_congr fun x _ => ?_
  rcases ql (ltP x.path n.path) with h3 | h3
  ·rw [h3, decide_eq_false (Q8 h3)]; rfl
  ·rw [h3]; rfl
 rw [e1]
 congr 2
 have hr := Q5 (fun x : Nd => x.path) (fun x => !ltP x.path n.path) h
 have hnl : ∀ x ∈ t.filter (fun x => !ltP x.path n.path), ltP x.path n.path = false := fun x hx => by simpa using (List.mem_filter.1 hx).2
 have e2 : t.filter (fun x => (!ltP x.path n.path) && !decide (x.path = n.path)) = (t.filter (fun x => !ltP x.path n.path)).filter fun x => !decide (x.path = n.path) := by
  rw [List.filter_filter]
  exact List.filter_congr fun x _ => Bool.and_comm _ _
 rw [e2]
 cases hd : t.filter (fun x => !ltP x.path n.path) with
 | nil => rfl
 | cons y r =>
  rw [hd] at hr hnl
  have hrest : ∀ x ∈ r, x.path ≠ n.path := by
   intro x hx e
   have h3 : ltP y.path x.path = true := VB hr x.path (List.mem_map_of_mem hx)
   rw [e, hnl y (List.mem_cons_self ..)] at h3; cases h3
  have hfr : r.filter (fun x => !decide (x.path = n.path)) = r := List.filter_eq_self.2 fun x hx => by rw [decide_eq_false (hrest x hx)]; rfl
  by_cases e : y.path = n.path
  ·simp [e, hfr]
  ·simp [e, hfr]
def doS (t : List Nd) (r : Rec) : List Nd :=
 if r.kind = 4 then vT t r.path true
 else if r.kind ≠ 3 ∨ r.opq = true ∨ (0 ≤ vm t r.path ∧ (gt t (vm t r.path)).kind ≠ 3) then JK (vT t r.path false) (Qy r) else JK t (Qy r)
def doI (t : List Nd) (r : Rec) : List Nd :=
 if (r.kind = 3 ∧ r.opq = false) ∧ 0 ≤ vm t r.path ∧ (gt t (vm t r.path)).kind = 3 then GQ t (vm t r.path) ⟨(gt t (vm t r.path)).kind, (gt t (vm t r.path)).path, (gt t (vm t r.path)).body, r.mode⟩
 else if r.kind = 4 then vT t r.path true else j8 (vT t r.path true) (Qy r)
def Yv (r : Rec) : Option Nd := if r.kind = 4 then none else some (Qy r)
def V5 (t : List Nd) (r : Rec) (p : List UInt8) : Option Nd := if p = r.path then Yv r else if vB r && ve p r.path then none else yb t p
theorem dir_body {r : Rec} (h : qz r = 0) (hk : r.kind = 3) : r.body = [] := by
 unfold qz at h
 split at h
 ·omega
 ·split at h
  ·omega
  ·split at h
   ·omega
   ·split at h
    ·omega
    ·rename_i h4
     by_cases e : r.body = []
     ·exact e
     ·exact absurd (by simp [hk, e]) h4
theorem Va {t : List Nd} (h : yi (t.map (·.path))) {p : List UInt8} (hp : p ≠ []) (b : Bool) (q : List UInt8) : yb (vT t p b) q = if ve q p || (b && decide (q = p)) then none else yb t q := by
 unfold vT
 rw [J7 h]
 cases hl : yb t q with
 | none => rw [ite_self]; rfl
 | some x =>
  have e := (jl hl).2
  subst e
  simp only [hp, decide_false, Bool.false_and, Bool.false_or, Option.filter_some]
  cases ve x.path p <;> cases b <;> cases hd : decide (x.path = p) <;> simp
theorem Vj {t : List Nd} (h : yi (t.map (·.path))) (p : List UInt8) (b : Bool) : yi ((vT t p b).map (·.path)) := Q5 _ _ h
theorem XA {t : List Nd} (h : Wood t) {p q : List UInt8} (hb : ve q p = true) (hd : ∀ m ∈ t, m.path = p → m.kind ≠ 3) : yb t q = none := by
 cases hl : yb t q with
 | none => rfl
 | some n =>
  obtain ⟨hn, e⟩ := jl hl
  subst e
  obtain ⟨m, hm, h1, h2⟩ := h.above hn hb
  exact absurd h2 (hd m hm h1)
theorem putN_look {t : List Nd} (h : yi (t.map (·.path))) (n : Nd) : yi ((JK t n).map (·.path)) ∧ ∀ p, yb (JK t n) p = if p = n.path then some n else yb t p := by
 rw [putN_place h]
 have hr := Q5 (fun x : Nd => x.path) (fun x => !decide (x.path = n.path)) h
 have hn : n.path ∉ (t.filter fun x => !decide (x.path = n.path)).map (fun x : Nd => x.path) := by
  intro hm
  obtain ⟨x, hx, e⟩ := List.mem_map.1 hm
  have := (List.mem_filter.1 hx).2
  simp [e] at this
 obtain ⟨h1, h2⟩ := X4 hr hn
 refine ⟨h1, fun p => ?_⟩
 rw [h2]
 by_cases e : p = n.path
 ·simp [e]
 ·simp only [if_neg e]
  rw [J7 h]
  cases hl : yb t p with
  | none => rfl
  | some x =>
   have e2 := (jl hl).2
   subst e2
   rw [Option.filter_some, decide_eq_false e]; rfl
theorem GD {r : Rec} (h : qz r = 0) : r.path ≠ [] := pathOK_ne (yr h)
theorem XQ {t : List Nd} {r : Rec} (h : Wood t) (hr : qz r = 0) : yi ((doS t r).map (·.path)) ∧ ∀ p, yb (doS t r) p = V5 t r p := by
 have hne := GD hr
 unfold doS V5 Yv
 by_cases h4 : r.kind = 4
 ·have hst : vB r = true := by simp [vB, h4]
  rw [if_pos h4]
  refine ⟨Vj h.rise _ _, fun p => ?_⟩
  rw [Va h.rise hne]
  by_cases e : p = r.path
  ·simp [e, h4]
  ·simp [e, hst]
 ·rw [if_neg h4]
  by_cases hc : r.kind ≠ 3 ∨ r.opq = true ∨ (0 ≤ vm t r.path ∧ (gt t (vm t r.path)).kind ≠ 3)
  ·rw [if_pos hc]
   obtain ⟨h1, h2⟩ := putN_look (Vj h.rise r.path false) (Qy r)
   refine ⟨h1, fun p => ?_⟩
   rw [h2]
   have hpath : (Qy r).path = r.path := rfl
   by_cases e : p = r.path
   ·rw [if_pos (by rw [e]; rfl), if_pos e, if_neg h4]
   ·rw [if_neg (by rw [hpath]; exact e), if_neg e, Va h.rise hne]
    simp only [Bool.false_and, Bool.or_false]
    rcases ql (vB r) with hs | hs
    ·rw [hs]; rfl
    ·rw [hs]
     simp only [Bool.false_and, Bool.false_eq_true, if_false]
     rcases ql (ve p r.path) with hb | hb
     ·rw [hb, if_pos rfl]
      have hs2 : r.kind = 3 ∧ r.opq = false := by simpa [vB] using hs
      rcases hc with hc | hc | hc
      ·exact absurd hs2.1 hc
      ·rw [hs2.2] at hc; cases hc
      ·refine (XA h hb fun m hm e2 => ?_).symm
       have hl := jC h.rise hm
       rw [e2] at hl
       rw [(jh t r.path).2 m hl] at hc
       exact hc.2
     ·rw [hb]; rfl
  ·rw [if_neg hc]
   obtain ⟨h1, h2⟩ := putN_look h.rise (Qy r)
   refine ⟨h1, fun p => ?_⟩
   rw [h2]
   have hpath : (Qy r).path = r.path := rfl
   have hs : vB r = false := by
    simp only [not_or, ne_eq, Decidable.not_not] at hc
    simp only [vB, hc.1, decide_true, Bool.not_true, Bool.false_or]
    cases ho : r.opq with
    | false => rfl
    | true => exact absurd ho hc.2.1
   by_cases e : p = r.path
   ·rw [if_pos (by rw [e]; rfl), if_pos e, if_neg h4]
   ·rw [if_neg (by rw [hpath]; exact e), if_neg e, hs]; rfl
theorem set_look {t : List Nd} {n : Nd} (h : yi (t.map (·.path))) {k : Nat} (hk : k < t.length) (hp : n.path = (t.getD k default).path) : yi ((t.set k n).map (·.path)) ∧ ∀ p, yb (t.set k n) p = if p = n.path then some n else yb t p := by
 have hm : (t.set k n).map (fun x : Nd => x.path) = t.map (fun x : Nd => x.path) := by
  rw [List.map_set, hp, vr hk]
  apply List.ext_getElem
  ·simp
  ·intro i h1 h2
   rw [List.getElem_set]
   split
   ·rename_i e; subst e; simp
   ·rfl
 have hr : yi ((t.set k n).map (fun x : Nd => x.path)) := by rw [hm]; exact h
 refine ⟨hr, fun p => ?_⟩
 by_cases e : p = n.path
 ·subst e; rw [if_pos rfl]
  exact jC hr (List.mem_set hk n)
 ·rw [if_neg e]
  have key : ∀ x, yb (t.set k n) p = some x ↔ yb t p = some x := by
   intro x
   constructor
   ·intro hx
    obtain ⟨h1, h2⟩ := jl hx
    rw [← h2]
    rcases List.mem_or_eq_of_mem_set h1 with h1 | h1
    ·exact jC h h1
    ·exact absurd (by rw [← h2, h1]) e
   ·intro hx
    obtain ⟨h1, h2⟩ := jl hx
    rw [← h2]
    refine jC hr ?_
    obtain ⟨j, hj, rfl⟩ := List.getElem_of_mem h1
    have hjk : k ≠ j := fun e2 => e (by subst e2; rw [← h2, hp, vr hk])
    rw [List.mem_iff_getElem]
    exact ⟨j, by simpa using hj, by rw [List.getElem_set_ne hjk]⟩
  cases hl : yb t p with
  | none =>
   cases hl2 : yb (t.set k n) p with
   | none => rfl
   | some x => rw [(key x).1 hl2] at hl; cases hl
  | some x => exact (key x).2 hl
theorem doI_spec {t : List Nd} {r : Rec} (h : Wood t) (hr : qz r = 0) : yi ((doI t r).map (·.path)) ∧ ∀ p, yb (doI t r) p = V5 t r p := by
 have hne := GD hr
 unfold doI V5 Yv
 by_cases hc : (r.kind = 3 ∧ r.opq = false) ∧ 0 ≤ vm t r.path ∧ (gt t (vm t r.path)).kind = 3
 ·rw [if_pos hc]
  obtain ⟨⟨h3, ho⟩, hf, hk⟩ := hc
  have hs : vB r = false := by simp [vB, h3, ho]
  obtain ⟨m, hm⟩ : ∃ m, yb t r.path = some m := by
   cases hl : yb t r.path with
   | none => exact absurd hl ((jh t r.path).1.1 hf)
   | some m => exact ⟨m, rfl⟩
  have hg := (jh t r.path).2 m hm
  obtain ⟨hmt, hmp⟩ := jl hm
  rw [hg] at hk ⊢
  have hin := Jp (t := t) (p := r.path) (by omega)
  have hlt : (vm t r.path).toNat < t.length := by have := Qb hin; omega
  have hgd : t.getD (vm t r.path).toNat default = m := hg
  have hb1 : m.body = [] := dir_body (r := recOf m) (nodeOK_fault (h.ok m hmt)).1 hk
  have hb2 : r.body = [] := dir_body hr h3
  have hnd : (⟨m.kind, m.path, m.body, r.mode⟩ : Nd) = Qy r := by unfold Qy; rw [hk, hmp, hb1, h3, hb2]
  rw [hnd]
  obtain ⟨h1, h2⟩ := set_look (n := Qy r) h.rise hlt (by rw [hgd]; exact hmp.symm)
  refine ⟨h1, fun p => ?_⟩
  have := h2 p
  unfold GQ
  rw [this]
  have h4 : r.kind ≠ 4 := by omega
  by_cases e : p = r.path
  ·rw [if_pos (by rw [e]; rfl), if_pos e, if_neg h4]
  ·rw [if_neg (show ¬ p = (Qy r).path from e), if_neg e, hs]; rfl
 ·rw [if_neg hc]
  by_cases h4 : r.kind = 4
  ·have hst : vB r = true := by simp [vB, h4]
   rw [if_pos h4]
   refine ⟨Vj h.rise _ _, fun p => ?_⟩
   rw [Va h.rise hne]
   by_cases e : p = r.path
   ·simp [e, h4]
   ·simp [e, hst]
  ·rw [if_neg h4]
   have hn : (Qy r).path ∉ (vT t r.path true).map (fun x : Nd => x.path) := by
    intro hm
    have := (QC (fun n : Nd => n.path)).1 hm
    exact this (by show yb (vT t r.path true) r.path = none; rw [Va h.rise hne]; simp)
   obtain ⟨h1, h2⟩ := X4 (Vj h.rise r.path true) hn
   refine ⟨h1, fun p => ?_⟩
   rw [h2]
   by_cases e : p = r.path
   ·rw [if_pos (by rw [e]; rfl), if_pos e, if_neg h4]
   ·rw [if_neg (show ¬ p = (Qy r).path from e), if_neg e, Va h.rise hne]
    simp only [e, decide_false, Bool.and_false, Bool.or_false]
    rcases ql (vB r) with hs | hs
    ·rw [hs]; rfl
    ·rw [hs]
     simp only [Bool.false_and, Bool.false_eq_true, if_false]
     rcases ql (ve p r.path) with hb | hb
     ·rw [hb, if_pos rfl]
      have hs2 : r.kind = 3 ∧ r.opq = false := by simpa [vB] using hs
      refine (XA h hb fun m hm e2 hk => hc ?_).symm
      have hl := jC h.rise hm
      rw [e2] at hl
      refine ⟨hs2, (jh t r.path).1.2 (by rw [hl]; simp), ?_⟩
      rw [(jh t r.path).2 m hl]; exact hk
     ·rw [hb]; rfl
theorem doI_doS {t : List Nd} {r : Rec} (h : Wood t) (hr : qz r = 0) : doI t r = doS t r := by
 obtain ⟨a1, a2⟩ := doI_spec h hr
 obtain ⟨b1, b2⟩ := XQ h hr
 exact Jy (fun n : Nd => n.path) a1 b1 fun p => (a2 p).trans (b2 p).symm
theorem Vd (r : Rec) : qz r = 0 ↔ within r.kind 1 4 = true ∧ qE r.path = true ∧ (decide (20 < r.body.length) || (decide (r.kind = 2) && decide (r.body = []))) = false ∧
  (((decide (r.kind = 3) || decide (r.kind = 4)) && !decide (r.body = [])) || (!decide (r.kind = 3) && r.opq)) = false ∧ (!within r.mode 0 511 || ((decide (r.kind = 2) || decide (r.kind = 4)) && !decide (r.mode = 0))) = false := by
 unfold qz
 generalize (!within r.mode 0 511 || ((decide (r.kind = 2) || decide (r.kind = 4)) && !decide (r.mode = 0))) = c5
 generalize (((decide (r.kind = 3) || decide (r.kind = 4)) && !decide (r.body = [])) || (!decide (r.kind = 3) && r.opq)) = c4
 generalize (decide (20 < r.body.length) || (decide (r.kind = 2) && decide (r.body = []))) = c3
 cases within r.kind 1 4 <;> cases qE r.path <;> cases c3 <;> cases c4 <;> cases c5 <;> simp
theorem Yp {r : Rec} (h : qz r = 0) (b : Bool) (hb : b = true → r.kind = 3) : qz ⟨r.kind, r.path, r.body, r.mode, b⟩ = 0 := by
 obtain ⟨h1, h2, h3, h4, h5⟩ := (Vd r).1 h
 refine (Vd _).2 ⟨h1, h2, h3, ?_, h5⟩
 rw [Bool.or_eq_false_iff] at h4 ⊢
 refine ⟨h4.1, ?_⟩
 cases b with
 | false => simp
 | true => simp [hb rfl]
theorem nodeOK_ndOf {r : Rec} (hr : qz r = 0) (h4 : r.kind ≠ 4) : Y1 (Qy r) = true := by
 simp only [Y1, Bool.and_eq_true, decide_eq_true_eq, Bool.not_eq_true', decide_eq_false_iff_not]
 exact ⟨Yp hr false (fun h => by cases h), h4⟩
theorem doS_wood {t : List Nd} {r : Rec} (h : Wood t) (hr : qz r = 0) (hp : qe r.path ≠ [] → ∃ m ∈ t, m.path = qe r.path ∧ m.kind = 3) : Wood (doS t r) := by
 obtain ⟨b1, b2⟩ := XQ h hr
 have hmem : ∀ n ∈ doS t r, V5 t r n.path = some n := fun n hn => by rw [← b2]; exact jC b1 hn
 have hback : ∀ p x, V5 t r p = some x → x ∈ doS t r ∧ x.path = p := fun p x hx => by rw [← b2] at hx; exact jl hx
 refine ⟨b1, fun n hn => ?_, fun n hn hpp => ?_⟩
 ·have := hmem n hn
  unfold V5 at this
  split at this
  ·unfold Yv at this
   split at this
   ·cases this
   ·rename_i h4; rw [← Option.some.inj this]; exact nodeOK_ndOf hr h4
  ·split at this
   ·cases this
   ·exact h.ok n (jl this).1
 ·have hs := hmem n hn
  unfold V5 at hs
  by_cases e : n.path = r.path
  ·rw [e] at hpp
   obtain ⟨m, hm, h1, h2⟩ := hp hpp
   have hb := yV hpp
   have hx : V5 t r (qe r.path) = some m := by
    unfold V5
    rw [if_neg (fun e2 => Xi hb e2.symm), GC hb, Bool.and_false, ← h1]
    exact jC h.rise hm
   obtain ⟨g1, g2⟩ := hback _ _ hx
   exact ⟨m, g1, by rw [g2, e], h2⟩
  ·rw [if_neg e] at hs
   split at hs
   ·cases hs
   ·rename_i hns
    have hnt := (jl hs).1
    have hnok := VJ (h.ok n hnt)
    obtain ⟨m, hm, h1, h2⟩ := h.par n hnt hpp
    have hb := yV hpp
    by_cases e2 : qe n.path = r.path
    ·
     rw [e2] at hb
     have hst : vB r = false := by
      rcases ql (vB r) with h3 | h3
      ·exact absurd (by rw [h3, hb]; rfl) hns
      ·exact h3
     have h3 : r.kind = 3 := by
      have : r.kind = 3 ∧ r.opq = false := by simpa [vB] using hst
      exact this.1
     have hx : V5 t r (qe n.path) = some (Qy r) := by
      unfold V5 Yv
      rw [if_pos e2, if_neg (by omega)]
     obtain ⟨g1, g2⟩ := hback _ _ hx
     exact ⟨_, g1, g2, h3⟩
    ·have hx : V5 t r (qe n.path) = some m := by
      unfold V5
      rw [if_neg e2]
      rw [if_neg (fun h3 => hns ?_), ← h1]
      ·exact jC h.rise hm
      ·rw [Bool.and_eq_true] at h3
       rw [h3.1, VK hb h3.2]; rfl
     obtain ⟨g1, g2⟩ := hback _ _ hx
     exact ⟨m, g1, g2, h2⟩
def vS (l : List Rec) (t : List Nd) : List Nd := l.foldl doS t
theorem GG (l : List Rec) (r : Rec) (t : List Nd) : vS (l ++ [r]) t = doS (vS l t) r := by simp [vS]
def seenL (l : List Rec) (t : List Nd) (p : List UInt8) : Option Nd := match vD l p with
 | some r => Yv r
 | none => if yc l p then none else yb t p
theorem yh (l : List Rec) (p : List UInt8) : yc l p = true ↔ ∃ x ∈ jo p, ∃ r, vD l x = some r ∧ vB r = true := by
 unfold yc
 rw [List.any_eq_true]
 constructor
 ·rintro ⟨x, hx, h⟩
  rw [Bool.and_eq_true, decide_eq_true_eq] at h
  cases hl : vD l x with
  | none => exact absurd hl ((yX l x).1.1 h.1)
  | some r =>
   rw [(yX l x).2 r hl] at h
   exact ⟨x, hx, r, hl, h.2⟩
 ·rintro ⟨x, hx, r, hl, h⟩
  refine ⟨x, hx, ?_⟩
  rw [Bool.and_eq_true, decide_eq_true_eq, (yX l x).2 r hl]
  exact ⟨(yX l x).1.2 (by rw [hl]; simp), h⟩
theorem Qv (l : List Rec) (p : List UInt8) : jg l p = true ↔ ∃ x ∈ jo p, ∃ r, vD l x = some r ∧ r.opq = true := by
 unfold jg
 rw [List.any_eq_true]
 constructor
 ·rintro ⟨x, hx, h⟩
  rw [Bool.and_eq_true, decide_eq_true_eq] at h
  cases hl : vD l x with
  | none => exact absurd hl ((yX l x).1.1 h.1)
  | some r =>
   rw [(yX l x).2 r hl] at h
   exact ⟨x, hx, r, hl, h.2⟩
 ·rintro ⟨x, hx, r, hl, h⟩
  refine ⟨x, hx, ?_⟩
  rw [Bool.and_eq_true, decide_eq_true_eq, (yX l x).2 r hl]
  exact ⟨(yX l x).1.2 (by rw [hl]; simp), h⟩
theorem JH {l : List Rec} {r : Rec} (h : yi ((l ++ [r]).map (·.path))) (p : List UInt8) : vD (l ++ [r]) p = if p = r.path then some r else vD l p := by
 have hl : yi (l.map (fun r : Rec => r.path)) := by
  rw [List.map_append] at h
  exact (List.pairwise_append.1 h).1
 by_cases e : p = r.path
 ·subst e; rw [if_pos rfl]; exact Yw h (by simp)
 ·rw [if_neg e]
  unfold vD yj
  rw [List.find?_append]
  have : List.find? (fun x : Rec => decide (x.path = p)) [r] = none := by simp [Ne.symm e]
  rw [this]; simp
theorem GJ {l : List Rec} {p : List UInt8} : vD l p ≠ none ↔ p ∈ l.map (·.path) := (QC (fun r : Rec => r.path)).symm
theorem Sheet.init {l : List Rec} {r : Rec} (h : Sheet (l ++ [r])) : Sheet l ∧ (∀ x ∈ l, ltP x.path r.path = true) ∧ qz r = 0 ∧ (qe r.path ≠ [] → ∃ q ∈ l, q.path = qe r.path ∧ q.kind = 3) := by
 have hr := h.rise
 rw [List.map_append] at hr
 obtain ⟨h1, _, h3⟩ := List.pairwise_append.1 hr
 have hlt : ∀ x ∈ l, ltP x.path r.path = true := fun x hx => h3 x.path (List.mem_map_of_mem hx) r.path (by simp)
 refine ⟨⟨h1, fun x hx => h.ok x (List.mem_append_left _ hx), fun x hx hp => ?_⟩, hlt, h.ok r (by simp), fun hp => ?_⟩
 ·obtain ⟨q, hq, e, hk⟩ := h.par x (List.mem_append_left _ hx) hp
  rcases List.mem_append.1 hq with hq | hq
  ·exact ⟨q, hq, e, hk⟩
  ·rw [List.mem_singleton.1 hq] at e
   have h4 := V4 hp
   rw [← e, Vw (hlt x hx)] at h4; cases h4
 ·obtain ⟨q, hq, e, hk⟩ := h.par r (by simp) hp
  rcases List.mem_append.1 hq with hq | hq
  ·exact ⟨q, hq, e, hk⟩
  ·rw [List.mem_singleton.1 hq] at e
   have h4 := V4 hp
   rw [← e, Vx] at h4; cases h4
theorem Gn {α : Type} : ∀ (n : Nat) (l : List α), l.length = n + 1 → ∃ m x, l = m ++ [x] ∧ m.length = n := by
 intro n l h
 have hne : l ≠ [] := fun e => by rw [e] at h; cases h
 exact ⟨l.dropLast, l.getLast hne, (List.dropLast_concat_getLast hne).symm, by simp; omega⟩
theorem Yj (t : List Nd) (ht : Wood t) : ∀ (n : Nat) (l : List Rec), l.length = n → Sheet l → Wood (vS l t) ∧ (∀ p, yb (vS l t) p = seenL l t p) ∧ (vS l t).length ≤ t.length + n ∧ l.foldl doI t = vS l t := by
 intro n
 induction n with
 | zero =>
  intro l hn _
  have : l = [] := List.eq_nil_of_length_eq_zero hn
  subst this
  refine ⟨ht, fun p => ?_, by simp [vS], rfl⟩
  have : yc [] p = false := by
   rcases ql (yc [] p) with h | h
   ·obtain ⟨x, _, r, hl, _⟩ := (yh [] p).1 h; cases hl
   ·exact h
  show yb t p = if yc [] p then none else yb t p
  rw [this]; rfl
 | succ n ih =>
  intro l hn hl
  obtain ⟨m, r, rfl, hm⟩ := Gn n l hn
  obtain ⟨hs, hlt, hr, hpar⟩ := hl.init
  obtain ⟨i1, i2, i3, i4⟩ := ih m hm hs
  have hpw : qe r.path ≠ [] → ∃ q ∈ vS m t, q.path = qe r.path ∧ q.kind = 3 := by
   intro hp
   obtain ⟨q, hq, e, hk⟩ := hpar hp
   have hlook : yb (vS m t) (qe r.path) = some (Qy q) := by
    rw [i2]
    unfold seenL
    rw [← e, Yw hs.rise hq]
    show Yv q = _
    unfold Yv; rw [if_neg (by omega)]
   obtain ⟨g1, g2⟩ := jl hlook
   exact ⟨Qy q, g1, g2, hk⟩
  rw [GG]
  obtain ⟨b1, b2⟩ := XQ i1 hr
  have hw := doS_wood i1 hr hpw
  refine ⟨hw, fun p => ?_, ?_, by rw [List.foldl_append, i4]; exact doI_doS i1 hr⟩
  ·rw [b2]
   unfold V5 seenL
   rw [JH hl.rise]
   by_cases e : p = r.path
   ·rw [if_pos e, if_pos e]
   ·rw [if_neg e, if_neg e]
    have hcut : ∀ x ∈ jo p, vD (m ++ [r]) x = if x = r.path then some r else vD m x := fun x _ => JH hl.rise x
    by_cases hsb : (vB r && ve p r.path) = true
    ·rw [if_pos hsb]
     rw [Bool.and_eq_true] at hsb
     have hno : vD m p = none := by
      cases hlm : vD m p with
      | none => rfl
      | some q =>
       obtain ⟨h1, h2⟩ := js hlm
       have h3 := hlt q h1
       rw [h2, Vw (Gg hsb.2)] at h3; cases h3
     rw [hno]
     by_cases hpo : r.path ∈ jo p
     ·have : yc (m ++ [r]) p = true := (yh _ _).2 ⟨r.path, hpo, r, by rw [JH hl.rise, if_pos rfl], hsb.1⟩
      simp only [this, if_true]
     ·
      have hc : yb t p = none := by
       cases hlt2 : yb t p with
       | none => rfl
       | some q =>
        obtain ⟨h1, h2⟩ := jl hlt2
        exact absurd (V6 (by rw [← h2]; exact VJ (ht.ok q h1)) hsb.2) hpo
      simp only [hc, ite_self]
    ·rw [if_neg hsb, i2]
     unfold seenL
     cases hlm : vD m p with
     | some q => rfl
     | none =>
      have : yc (m ++ [r]) p = yc m p := by
       rw [Bool.eq_iff_iff, yh, yh]
       constructor
       ·rintro ⟨x, hx, q, hq, hst⟩
        rw [hcut x hx] at hq
        by_cases e2 : x = r.path
        ·rw [if_pos e2] at hq
         have : r = q := Option.some.inj hq
         subst this
         exact absurd (by rw [hst, ← e2, Qa hx]; rfl) hsb
        ·rw [if_neg e2] at hq
         exact ⟨x, hx, q, hq, hst⟩
       ·rintro ⟨x, hx, q, hq, hst⟩
        refine ⟨x, hx, q, ?_, hst⟩
        rw [hcut x hx, if_neg (fun e2 => ?_)]
        ·exact hq
        ·have h3 := hlt q (js hq).1
         rw [(js hq).2, e2, Vx] at h3; cases h3
      simp only [this]
  ·refine Nat.le_trans ?_ (show (vS m t).length + 1 ≤ t.length + (n + 1) by omega)
   have hput : ∀ (s : List Nd) (x : Nd), (JK s x).length ≤ s.length + 1 := by
    intro s x
    unfold JK
    have hl2 : (s.takeWhile fun y => ltP y.path x.path).length + (s.dropWhile fun y => ltP y.path x.path).length = s.length := by
     rw [← List.length_append, List.takeWhile_append_dropWhile]
    cases hd : s.dropWhile (fun y => ltP y.path x.path) with
    | nil => simp; rw [hd] at hl2; simp at hl2; omega
    | cons y q =>
     rw [hd] at hl2
     simp only [List.length_append, List.length_cons] at hl2 ⊢
     split
     ·omega
     ·simp only [List.length_cons]; omega
   unfold doS
   split
   ·have := Ye (vS m t) r.path true; omega
   ·split
    ·have h1 := Ye (vS m t) r.path false
     have h2 := hput (vT (vS m t) r.path false) (Qy r)
     omega
    ·exact hput _ _
theorem Sheet.take {l : List Rec} (h : Sheet l) (i : Nat) : Sheet (l.take i) := by
 refine ⟨Gf (fun r : Rec => r.path) h.rise i, fun r hr => h.ok r (List.mem_of_mem_take hr), fun r hr hp => ?_⟩
 obtain ⟨q, hq, e, hk⟩ := h.par r (List.mem_of_mem_take hr) hp
 obtain ⟨j, hj, rfl⟩ := List.mem_take_iff_getElem.1 hr
 have hjl : j < l.length := by omega
 have hlt : ltP q.path (l.getD j default).path = true := by rw [e, vr hjl]; exact V4 hp
 have hq2 := idx_lt (fun r : Rec => r.path) h.rise hjl hq hlt
 refine ⟨q, ?_, e, hk⟩
 have : l.take j = (l.take i).take j := by rw [List.take_take, Nat.min_eq_left (by omega)]
 rw [this] at hq2
 exact List.mem_of_mem_take hq2
def okT (l : List Rec) (t : List Nd) : Bool := decide ((qC l).2 = 0) && woodOK t
theorem okT_of {l : List Rec} {t : List Nd} (h : okT l t = true) : Sheet l ∧ Wood t := by
 rw [okT, Bool.and_eq_true, decide_eq_true_eq] at h
 exact ⟨Ja h.1, wood_of h.2⟩
theorem okT_mk {l : List Rec} {t : List Nd} (h : (qC l).2 = 0) (k : Wood t) : okT l t = true := by rw [okT, decide_eq_true h, wood_ok k]; rfl
theorem Xb {t : List Nd} (h : Wood t) : ∀ x ∈ t, x.path.length ≤ 1048576 := fun x hx => yG (VJ (h.ok x hx))
def qR.b1 (a0 : List Nd) (a1 : Nd) : Int → Option (Step (List Nd) (Int) (Int)) :=
 fun x5_7 => bif (!(decide (x5_7 < (a0.length : Int))) || (inR x5_7 a0.length)) then (bif (!(decide (x5_7 < (a0.length : Int))) || (decide (((gt a0 x5_7).path).length ≤ 1048576))) then (bif (!(decide (x5_7 < (a0.length : Int))) || (decide (a1.path.length ≤ 1048576))) then (bif ((decide (x5_7 < (a0.length : Int))) && (vA (cut 47 ((gt a0 x5_7).path)) (cut 47 a1.path))) then (some (.nxt (IntKind.wrap .i64 (x5_7 + 1)))) else (some (.brk x5_7))) else none) else none) else none
def qR.sh (k : Nat) (a0 : List Nd) (a1 : Nd) : Option (List Nd) :=
  (qn (qR.b1 a0 a1) k 0).bind fun z => match z with | .inl t => some t | .inr x5_11 => bif inS x5_11 (a0.length : Int) (a0.length : Int) then (bif (!(decide (x5_11 < (a0.length : Int))) || (inR x5_11 a0.length)) then (bif ((decide (x5_11 < (a0.length : Int))) && (decide (((gt a0 x5_11).path) = a1.path))) then (bif inS (IntKind.wrap .i64 (x5_11 + 1)) (a0.length : Int) (a0.length : Int) then (bif inS 0 x5_11 (a0.length : Int) then (bif decide ((([] : List Nd).length + (sub a0 0 x5_11).length) * 48 ≤ 140737488355328) then (bif decide (((([] : List Nd) ++ (sub a0 0 x5_11)).length + ([a1] : List Nd).length) * 48 ≤ 140737488355328) then (bif decide ((((([] : List Nd) ++ (sub a0 0 x5_11)) ++ ([a1] : List Nd)).length + (sub a0 (IntKind.wrap .i64 (x5_11 + 1)) (a0.length : Int)).length) * 48 ≤ 140737488355328) then (some (((([] : List Nd) ++ (sub a0 0 x5_11)) ++ ([a1] : List Nd)) ++ (sub a0 (IntKind.wrap .i64 (x5_11 + 1)) (a0.length : Int)))) else none) else none) else none) else none) else none) else (bif inS 0 x5_11 (a0.length : Int) then (bif decide ((([] : List Nd).length + (sub a0 0 x5_11).length) * 48 ≤ 140737488355328) then (bif decide (((([] : List Nd) ++ (sub a0 0 x5_11)).length + ([a1] : List Nd).length) * 48 ≤ 140737488355328) then (bif decide ((((([] : List Nd) ++ (sub a0 0 x5_11)) ++ ([a1] : List Nd)).length + (sub a0 x5_11 (a0.length : Int)).length) * 48 ≤ 140737488355328) then (some (((([] : List Nd) ++ (sub a0 0 x5_11)) ++ ([a1] : List Nd)) ++ (sub a0 x5_11 (a0.length : Int)))) else none) else none) else none) else none)) else none) else none
theorem while_run {t : List Nd} {n : Nd} (h0 : t.length ≤ 1000000) (h1 : ∀ x ∈ t, x.path.length ≤ 1048576) (h2 : n.path.length ≤ 1048576) :
  qn (qR.b1 t n) (t.length + 1) 0 = some (.inr ((t.takeWhile fun x => ltP x.path n.path).length : Int)) := by
 have key : ∀ (d i k : Nat), i + d = t.length → d < k → qn (qR.b1 t n) k (i : Int) = some (.inr ((i + ((t.drop i).takeWhile fun x => ltP x.path n.path).length : Nat) : Int)) := by
  intro d
  induction d with
  | zero =>
   intro i k hi hk
   obtain ⟨k, rfl⟩ : ∃ m, k = m + 1 := ⟨k - 1, by omega⟩
   have d1 : decide ((i : Int) < (t.length : Int)) = false := decide_eq_false (by omega)
   have hd : t.drop i = [] := List.drop_eq_nil_of_le (by omega)
   rw [qn, hd]
   simp only [qR.b1, d1, Bool.not_false, Bool.true_or, Bool.false_and, cond_true, cond_false, List.takeWhile_nil, List.length_nil, Nat.add_zero]; rfl
  | succ d ih =>
   intro i k hi hk
   obtain ⟨k, rfl⟩ : ∃ m, k = m + 1 := ⟨k - 1, by omega⟩
   have hlt : i < t.length := by omega
   have d1 : decide ((i : Int) < (t.length : Int)) = true := decide_eq_true (by omega)
   have p1 : decide ((gt t (i : Int)).path.length ≤ 1048576) = true := decide_eq_true (by rw [vK, vr hlt]; exact h1 _ (List.getElem_mem hlt))
   have w1 : IntKind.wrap .i64 ((i : Int) + 1) = ((i + 1 : Nat) : Int) := by rw [wrap_small (by omega) (by omega)]; omega
   rw [qn, Qr hlt]
   simp only [qR.b1, d1, qP hlt, p1, decide_eq_true h2, Bool.not_true, Bool.false_or, Bool.true_and, cond_true, w1]
   rcases ql (vA (cut 47 (gt t (i : Int)).path) (cut 47 n.path)) with hl | hl
   ·have hl' : ltP (gt t (i : Int)).path n.path = true := hl
    rw [hl]
    simp only [cond_true, List.takeWhile_cons, hl', if_true, List.length_cons]
    refine (ih (i + 1) k (by omega) (by omega)).trans ?_
    congr 2; omega
   ·have hl' : ltP (gt t (i : Int)).path n.path = false := hl
    rw [hl]
    simp only [cond_false, List.takeWhile_cons, hl', Bool.false_eq_true, if_false, List.length_nil, Nat.add_zero]; rfl
 have := key t.length 0 (t.length + 1) (by omega) (by omega)
 rw [List.drop_zero, Nat.zero_add] at this
 exact this
theorem XR {α : Type} (q : α → Bool) (t : List α) : t.take (t.takeWhile q).length = t.takeWhile q ∧ t.drop (t.takeWhile q).length = t.dropWhile q := by
 have h : t = t.takeWhile q ++ t.dropWhile q := List.takeWhile_append_dropWhile.symm
 constructor
 ·conv => lhs; rw [h]
  rw [List.take_append_of_le_length (by simp)]; simp
 ·conv => lhs; rw [h]
  have : (t.takeWhile q ++ t.dropWhile q).takeWhile q = t.takeWhile q := by rw [← h]
  rw [this, List.drop_left]
theorem qR.eq (a0 : List Nd) (a1 : Nd) (h0 : a0.length ≤ 1000000) (h1 : ∀ x ∈ a0, x.path.length ≤ 1048576) (h2 : a1.path.length ≤ 1048576) : ∃ k, qR.sh k a0 a1 = some (JK a0 a1) := by
 refine ⟨a0.length + 1, ?_⟩
 unfold qR.sh
 rw [while_run h0 h1 h2]
 obtain ⟨c, hc⟩ : ∃ c, c = (a0.takeWhile fun x => ltP x.path a1.path).length := ⟨_, rfl⟩
 obtain ⟨t1, t2⟩ := XR (fun x : Nd => ltP x.path a1.path) a0
 rw [← hc] at t1 t2 ⊢
 have hle : c ≤ a0.length := by rw [hc]; exact (List.takeWhile_prefix _).length_le
 have s1 : inS (c : Int) (a0.length : Int) (a0.length : Int) = true := QP (by omega) (by omega) (by omega)
 have s2 : inS 0 (c : Int) (a0.length : Int) = true := QP (by omega) (by omega) (by omega)
 have e1 : sub a0 0 (c : Int) = a0.take c := by show sub a0 ((0 : Nat) : Int) (c : Int) = _; rw [J2]; rfl
 have e2 : sub a0 (c : Int) (a0.length : Int) = a0.drop c := by rw [J2, List.take_length]
 have l1 : (a0.take c).length ≤ 1000000 := by simp; omega
 have l2 : (a0.drop c).length ≤ 1000000 := by simp; omega
 have g1 : decide ((([] : List Nd).length + (a0.take c).length) * 48 ≤ 140737488355328) = true := decide_eq_true (by simp only [List.length_nil]; omega)
 have g2 : decide (((([] : List Nd) ++ a0.take c).length + ([a1] : List Nd).length) * 48 ≤ 140737488355328) = true := decide_eq_true (by simp only [List.nil_append, List.length_cons, List.length_nil]; omega)
 have g3 : decide ((((([] : List Nd) ++ a0.take c) ++ ([a1] : List Nd)).length + (a0.drop c).length) * 48 ≤ 140737488355328) = true := decide_eq_true (by simp only [List.nil_append, List.length_append, List.length_cons, List.length_nil]; omega)
 simp only [Option.bind_some, s1, s2, e1, e2, g1, g2, g3, cond_true]
 by_cases hlt : c < a0.length
 ·have d1 : decide ((c : Int) < (a0.length : Int)) = true := decide_eq_true (by omega)
  have w1 : IntKind.wrap .i64 ((c : Int) + 1) = ((c + 1 : Nat) : Int) := by rw [wrap_small (by omega) (by omega)]; omega
  have s3 : inS ((c + 1 : Nat) : Int) (a0.length : Int) (a0.length : Int) = true := QP (by omega) (by omega) (by omega)
  have e3 : sub a0 ((c + 1 : Nat) : Int) (a0.length : Int) = a0.drop (c + 1) := by rw [J2, List.take_length]
  have l3 : (a0.drop (c + 1)).length ≤ 1000000 := by simp; omega
  have g4 : decide ((((([] : List Nd) ++ a0.take c) ++ ([a1] : List Nd)).length + (a0.drop (c + 1)).length) * 48 ≤ 140737488355328) = true := decide_eq_true (by simp only [List.nil_append, List.length_append, List.length_cons, List.length_nil]; omega)
  rw [Qr hlt] at t2
  simp only [d1, qP hlt, w1, s3, e3, g4, Bool.not_true, Bool.false_or, Bool.true_and, cond_true]
  unfold JK
  rw [← t1, ← t2]
  by_cases he : (gt a0 (c : Int)).path = a1.path
  ·simp [he]
  ·simp [he, Qr hlt]
 ·have d1 : decide ((c : Int) < (a0.length : Int)) = false := decide_eq_false (by omega)
  have hn : a0.drop c = [] := List.drop_eq_nil_of_le (by omega)
  simp only [d1, Bool.not_false, Bool.true_or, Bool.false_and, cond_true, cond_false]
  unfold JK
  rw [← t1, ← t2, hn]; simp
def Qw.sh (a0 : Rec) : Option (Nd) :=
 some (⟨a0.kind, a0.path, a0.body, a0.mode⟩ : Nd)
theorem Qw.eq (a0 : Rec) : Qw.sh a0 = some (Qy a0) := rfl
def jS.sh (a0 : Rec) : Option (Nd) :=
 some (⟨a0.kind, a0.path, a0.body, a0.mode⟩ : Nd)
theorem jS.eq (a0 : Rec) : jS.sh a0 = some (Qy a0) := rfl
def QY.sh (a0 : List Nd) (a1 : Rec) : Option (List Nd) :=
 bif decide (a0.length ≤ 1048576) then (bif (decide (a1.kind = 4)) then (bif decide (a0.length ≤ 1048576) then (some (vT a0 a1.path true)) else none) else (((bif ((!decide (a1.kind = 3)) || a1.opq) then some true else (((bif (decide (0 ≤ (vm a0 a1.path))) then (bif inR (vm a0 a1.path) a0.length then (some (!decide (((gt a0 (vm a0 a1.path)).kind) = 3))) else none) else some false)).bind fun z24 => some z24))).bind fun z23 => bif z23 then (bif decide (a0.length ≤ 1048576) then (bif decide ((vT a0 a1.path false).length ≤ 1000000) then (bif decide (∀ x ∈ (vT a0 a1.path false), x.path.length ≤ 1048576) then (bif decide ((Qy a1).path.length ≤ 1048576) then (some (JK (vT a0 a1.path false) (Qy a1))) else none) else none) else none) else none) else (bif decide (a0.length ≤ 1000000) then (bif decide (∀ x ∈ a0, x.path.length ≤ 1048576) then (bif decide ((Qy a1).path.length ≤ 1048576) then (some (JK a0 (Qy a1))) else none) else none) else none))) else none
theorem QY.eq (a0 : List Nd) (a1 : Rec) (h0 : a0.length ≤ 1000000) (h1 : ∀ x ∈ a0, x.path.length ≤ 1048576) (h2 : a1.path.length ≤ 1048576) : QY.sh a0 a1 = some (doS a0 a1) := by
 unfold QY.sh doS
 have b1 : decide (a0.length ≤ 1048576) = true := decide_eq_true (by omega)
 have b2 : decide (a0.length ≤ 1000000) = true := decide_eq_true h0
 have b3 : decide ((vT a0 a1.path false).length ≤ 1000000) = true := decide_eq_true (Nat.le_trans (Ye _ _ _) h0)
 have b4 : ∀ x ∈ vT a0 a1.path false, x.path.length ≤ 1048576 := fun x hx => h1 x (List.mem_filter.1 hx).1
 have b5 : decide ((Qy a1).path.length ≤ 1048576) = true := decide_eq_true h2
 simp only [b1, b2, b3, b5, decide_eq_true h1, decide_eq_true b4, cond_true]
 by_cases h4 : a1.kind = 4
 ·simp [h4]
 ·simp only [h4, decide_false, cond_false, if_false]
  by_cases h3 : a1.kind = 3
  ·rcases ql a1.opq with ho | ho
   ·simp [h3, ho]
   ·by_cases hf : 0 ≤ vm a0 a1.path
    ·by_cases hk : (gt a0 (vm a0 a1.path)).kind = 3 <;> simp [h3, ho, hf, Jp (t := a0) (p := a1.path) (by omega), hk]
    ·simp [h3, ho, hf]
  ·simp [h3]
theorem apply_at {l : List Rec} {t : List Nd} (hs : Sheet l) (ht : Wood t) {i : Nat} (hi : i ≤ l.length) : Wood (vS (l.take i) t) ∧ (vS (l.take i) t).length ≤ t.length + i ∧ (l.take i).foldl doI t = vS (l.take i) t := by
 obtain ⟨h1, _, h3, h4⟩ := Yj t ht i (l.take i) (by simp; omega) (hs.take i)
 exact ⟨h1, h3, h4⟩
theorem XM {l : List Rec} {t : List Nd} {i : Nat} (hi : i < l.length) : vS (l.take (i + 1)) t = doS (vS (l.take i) t) (gt l (i : Int)) := by
 rw [List.take_succ_eq_append_getElem hi, GG, vK, vr hi]
def yf.b1 (a0 : List Rec) : List Nd × Int → Option (Step (List Nd) (List Nd × Int) (List Nd)) :=
 fun q => match q with
 | (x1_13, x5_15) => bif (decide (x5_15 < (a0.length : Int))) then (bif inR x5_15 a0.length then (bif decide (x1_13.length ≤ 1000000) then (bif decide (∀ x ∈ x1_13, x.path.length ≤ 1048576) then (bif decide ((gt a0 x5_15).path.length ≤ 1048576) then (some (.nxt ((doS x1_13 (gt a0 x5_15)), IntKind.wrap .i64 (x5_15 + 1)))) else none) else none) else none) else none) else (some (.brk x1_13))
def yf.sh (k : Nat) (a0 : List Rec) (a1 : List Nd) : Option (List Nd) :=
  bif decide ((([] : List Nd).length + a1.length) * 48 ≤ 140737488355328) then ((qn (yf.b1 a0) k (([] : List Nd) ++ a1, 0)).bind fun z => match z with | .inl t => some t | .inr x1_19 => some x1_19) else none
theorem yf.eq (a0 : List Rec) (a1 : List Nd) (h0 : a0.length ≤ 16) (h1 : a1.length ≤ 1000) (h2 : okT a0 a1 = true) : ∃ k, yf.sh k a0 a1 = some (vS a0 a1) := by
 obtain ⟨hs, ht⟩ := okT_of h2
 refine ⟨a0.length + 1, ?_⟩
 unfold yf.sh
 have key : ∀ (d i k : Nat), i + d = a0.length → d < k → qn (yf.b1 a0) k (vS (a0.take i) a1, (i : Int)) = some (.inr (vS a0 a1)) := by
  intro d
  induction d with
  | zero =>
   intro i k hi hk
   obtain ⟨k, rfl⟩ : ∃ m, k = m + 1 := ⟨k - 1, by omega⟩
   have d1 : decide ((i : Int) < (a0.length : Int)) = false := decide_eq_false (by omega)
   rw [qn, List.take_of_length_le (by omega)]
   simp only [yf.b1, d1, cond_false]; rfl
  | succ d ih =>
   intro i k hi hk
   obtain ⟨k, rfl⟩ : ∃ m, k = m + 1 := ⟨k - 1, by omega⟩
   have hlt : i < a0.length := by omega
   obtain ⟨w1, w2, _⟩ := apply_at hs ht (show i ≤ a0.length by omega)
   have d1 : decide ((i : Int) < (a0.length : Int)) = true := decide_eq_true (by omega)
   have d2 : decide ((vS (a0.take i) a1).length ≤ 1000000) = true := decide_eq_true (by omega)
   have d3 : decide ((gt a0 (i : Int)).path.length ≤ 1048576) = true := decide_eq_true (by
    rw [vK, vr hlt]; exact yG (yr (hs.ok _ (List.getElem_mem hlt))))
   have e1 : IntKind.wrap .i64 ((i : Int) + 1) = ((i + 1 : Nat) : Int) := by rw [wrap_small (by omega) (by omega)]; omega
   rw [qn]
   simp only [yf.b1, d1, d2, d3, decide_eq_true (Xb w1), qP hlt, cond_true, e1]
   rw [← XM hlt]
   exact ih (i + 1) k (by omega) (by omega)
 have g1 : decide ((([] : List Nd).length + a1.length) * 48 ≤ 140737488355328) = true := decide_eq_true (by simp only [List.length_nil]; omega)
 have hk := key a0.length 0 (a0.length + 1) (by omega) (by omega)
 rw [List.take_zero] at hk
 have hk2 : qn (yf.b1 a0) (a0.length + 1) (([] : List Nd) ++ a1, 0) = some (.inr (vS a0 a1)) := hk
 rw [hk2]
 simp only [g1, cond_true, Option.bind_some]
def y8.b1 (a0 : List Rec) : List Nd × Int → Option (Step (List Nd) (List Nd × Int) (List Nd)) :=
 fun q => match q with
 | (x5_6, x13_8) => bif (decide (x13_8 < (a0.length : Int))) then (bif inR x13_8 a0.length then (bif decide (x5_6.length ≤ 1048576) then (((bif (((decide (((gt a0 x13_8).kind) = 3)) && (!((gt a0 x13_8).opq))) && (decide (0 ≤ (vm x5_6 ((gt a0 x13_8).path))))) then (bif inR (vm x5_6 ((gt a0 x13_8).path)) x5_6.length then (some (decide (((gt x5_6 (vm x5_6 ((gt a0 x13_8).path))).kind) = 3))) else none) else some false)).bind fun z58 => bif z58 then (bif inR (vm x5_6 ((gt a0 x13_8).path)) x5_6.length then (some (.nxt (GQ x5_6 (vm x5_6 ((gt a0 x13_8).path)) (⟨(gt x5_6 (vm x5_6 ((gt a0 x13_8).path))).kind, (gt x5_6 (vm x5_6 ((gt a0 x13_8).path))).path, (gt x5_6 (vm x5_6 ((gt a0 x13_8).path))).body, (gt a0 x13_8).mode⟩ : Nd), IntKind.wrap .i64 (x13_8 + 1)))) else none) else (bif decide (x5_6.length ≤ 1048576) then (bif decide (((gt a0 x13_8).path).length ≤ 1048576) then (bif (!decide (((gt a0 x13_8).kind) = 4)) then (bif decide ((vT x5_6 ((gt a0 x13_8).path) true).length ≤ 1048575) then (bif decide (X0 (vT x5_6 ((gt a0 x13_8).path) true) = true) then (bif decide (∀ x ∈ (vT x5_6 ((gt a0 x13_8).path) true), x.path.length ≤ 1048576) then (bif decide ((Qy (gt a0 x13_8)).path.length ≤ 1048576) then (some (.nxt ((j8 (vT x5_6 ((gt a0 x13_8).path) true) (Qy (gt a0 x13_8))), IntKind.wrap .i64 (x13_8 + 1)))) else none) else none) else none) else none) else (some (.nxt ((vT x5_6 ((gt a0 x13_8).path) true), IntKind.wrap .i64 (x13_8 + 1))))) else none) else none)) else none) else none) else (some (.brk x5_6))
def y8.sh (k : Nat) (a0 : List Rec) (a1 : List Nd) : Option (List Nd) :=
  bif decide (a1.length ≤ 1048576) then ((qn (y8.b1 a0) k (a1, 0)).bind fun z => match z with | .inl t => some t | .inr x5_12 => some x5_12) else none
theorem y8.eq (a0 : List Rec) (a1 : List Nd) (h0 : a0.length ≤ 16) (h1 : a1.length ≤ 1000) (h2 : okT a0 a1 = true) : ∃ k, y8.sh k a0 a1 = some (vS a0 a1) := by
 obtain ⟨hs, ht⟩ := okT_of h2
 refine ⟨a0.length + 1, ?_⟩
 unfold y8.sh
 have key : ∀ (d i k : Nat), i + d = a0.length → d < k → qn (y8.b1 a0) k (vS (a0.take i) a1, (i : Int)) = some (.inr (vS a0 a1)) := by
  intro d
  induction d with
  | zero =>
   intro i k hi hk
   obtain ⟨k, rfl⟩ : ∃ m, k = m + 1 := ⟨k - 1, by omega⟩
   have d1 : decide ((i : Int) < (a0.length : Int)) = false := decide_eq_false (by omega)
   rw [qn, List.take_of_length_le (by omega)]
   simp only [y8.b1, d1, cond_false]; rfl
  | succ d ih =>
   intro i k hi hk
   obtain ⟨k, rfl⟩ : ∃ m, k = m + 1 := ⟨k - 1, by omega⟩
   have hlt : i < a0.length := by omega
   obtain ⟨w1, w2, _⟩ := apply_at hs ht (show i ≤ a0.length by omega)
   have hr0 : qz (gt a0 (i : Int)) = 0 := by rw [vK, vr hlt]; exact hs.ok _ (List.getElem_mem hlt)
   have hn := XM (t := a1) hlt
   rw [← doI_doS w1 hr0] at hn
   have hI := ih (i + 1) k (by omega) (by omega)
   rw [hn] at hI
   obtain ⟨x, hx⟩ : ∃ x, vS (a0.take i) a1 = x := ⟨_, rfl⟩
   obtain ⟨r, hr⟩ : ∃ r, gt a0 (i : Int) = r := ⟨_, rfl⟩
   rw [hx] at w1 w2 hI ⊢
   rw [hr] at hr0 hI
   have hp := yG (yr hr0)
   have d1 : decide ((i : Int) < (a0.length : Int)) = true := decide_eq_true (by omega)
   have d2 : decide (x.length ≤ 1048576) = true := decide_eq_true (by omega)
   have d3 : decide (r.path.length ≤ 1048576) = true := decide_eq_true hp
   have d4 : decide ((vT x r.path true).length ≤ 1048575) = true := decide_eq_true (by have := Ye x r.path true; omega)
   have d5 : X0 (vT x r.path true) = true := riseN_mk (Vj w1.rise _ _)
   have d6 : ∀ y ∈ vT x r.path true, y.path.length ≤ 1048576 := fun y hy => Xb w1 y (List.mem_filter.1 hy).1
   have d7 : decide ((Qy r).path.length ≤ 1048576) = true := decide_eq_true hp
   have e1 : IntKind.wrap .i64 ((i : Int) + 1) = ((i + 1 : Nat) : Int) := by rw [wrap_small (by omega) (by omega)]; omega
   rw [qn]
   simp only [y8.b1, d1, d2, qP hlt, cond_true, e1, hr, d3, d4, d5, d7, decide_eq_true d6, decide_true]
   unfold doI at hI
   by_cases c1 : r.kind = 3 ∧ r.opq = false
   ·obtain ⟨c3, co⟩ := c1
    by_cases cf : 0 ≤ vm x r.path
    ·have hin := Jp (t := x) (p := r.path) (by omega)
     by_cases ck : (gt x (vm x r.path)).kind = 3
     ·rw [if_pos ⟨⟨c3, co⟩, cf, ck⟩] at hI
      simp only [c3, co, cf, ck, hin, decide_true, Bool.not_false, Bool.and_true, Bool.and_self, cond_true, Option.bind_some]
      rw [ck] at hI
      exact hI
     ·rw [if_neg (fun h => ck h.2.2), if_neg (by omega)] at hI
      simp only [c3, co, cf, ck, hin, decide_true, decide_false, Bool.not_false, Bool.and_true, Bool.and_self, cond_true, cond_false, Option.bind_some, show ¬ (3 : Int) = 4 by decide]
      exact hI
    ·rw [if_neg (fun h => cf h.2.1), if_neg (by omega)] at hI
     simp only [c3, co, cf, decide_true, decide_false, Bool.not_false, Bool.and_true, Bool.and_false, cond_true, cond_false, Option.bind_some, show ¬ (3 : Int) = 4 by decide]
     exact hI
   ·rw [if_neg (fun h => c1 h.1)] at hI
    have c2 : (decide (r.kind = 3) && !r.opq) = false := by
     rcases ql r.opq with co | co
     ·simp [co]
     ·by_cases c3 : r.kind = 3
      ·exact absurd ⟨c3, co⟩ c1
      ·simp [c3]
    simp only [c2, Bool.false_and, cond_false, Option.bind_some]
    by_cases c4 : r.kind = 4
    ·rw [if_pos c4] at hI
     simp only [c4, decide_true, Bool.not_true, cond_false]
     exact hI
    ·rw [if_neg c4] at hI
     simp only [c4, decide_false, Bool.not_false, cond_true]
     exact hI
 have g1 : decide (a1.length ≤ 1048576) = true := decide_eq_true (by omega)
 have hk := key a0.length 0 (a0.length + 1) (by omega) (by omega)
 rw [List.take_zero] at hk
 have hk2 : qn (y8.b1 a0) (a0.length + 1) (a1, 0) = some (.inr (vS a0 a1)) := hk
 rw [hk2]
 simp only [g1, cond_true, Option.bind_some]
theorem resStep_dir {t : List Nd} {p : List UInt8} {i : Nat} {m : Nd} (h : yb t p = some m) (hk : m.kind = 3) (hi : i ≠ 0) : Yn t p i = none := by
 unfold Yn
 have h1 := (jh t p).1.2 (by rw [h]; simp)
 rw [if_neg (by omega), if_neg hi, (jh t p).2 m h]
 simp [hk]
theorem way_above {t : List Nd} {p x : List UInt8} (ht : Wood t) (hp : qE p = true) {m : Nd} (hm : yb t x = some m) (hx : x = p ∨ x ∈ jo p) :
  ∀ y ∈ jo x, ∃ q, yb t y = some q ∧ q.kind = 3 := by
 intro y hy
 obtain ⟨hmt, he⟩ := jl hm
 obtain ⟨q, hq, e, hk⟩ := ht.above hmt (p := y) (by rw [he]; exact Qa hy)
 exact ⟨q, by rw [← e]; exact jC ht.rise hq, hk⟩
theorem resolve_there {t : List Nd} {p : List UInt8} (ht : Wood t) (hp : qE p = true) {m : Nd} (hm : yb t p = some m) : YD t p = (vm t p, 0) := by
 unfold YD
 refine resGo_some _ (i := 0) (by simp) ?_ fun j h0 hj => ?_
 ·have h1 := (jh t p).1.2 (by rw [hm]; simp)
  show Yn t p 0 = _
  unfold Yn
  rw [if_neg (by omega), if_pos rfl]
 ·have hja : j - 1 < (jo p).length := by simp at hj; omega
  have he : ([p] ++ jo p).getD j [] = (jo p)[j - 1] := by
   rw [List.getD_eq_getElem?_getD, List.getElem?_append_right (by simp; omega)]
   simp [List.getElem?_eq_getElem hja]
  rw [he]
  obtain ⟨q, hq, hk⟩ := way_above ht hp hm (.inl rfl) _ (List.getElem_mem hja)
  exact resStep_dir hq hk (by omega)
theorem foldI_run {α β ρ : Type} [Inhabited α] (l : List α) (f : β → α → β) (Inv : Nat → β → Prop) (b : β × Int → Option (Step ρ (β × Int) β))
  (h1 : ∀ (i : Nat) (s : β), i < l.length → Inv i s → b (s, (i : Int)) = some (.nxt (f s (gt l (i : Int)), ((i + 1 : Nat) : Int))) ∧ Inv (i + 1) (f s (gt l (i : Int))))
  (h2 : ∀ s : β, b (s, (l.length : Int)) = some (.brk s)) (s0 : β) (h0 : Inv 0 s0) : qn b (l.length + 1) (s0, 0) = some (.inr (l.foldl f s0)) := by
 have key : ∀ (d i k : Nat) (s : β), i + d = l.length → d < k → Inv i s → qn b k (s, (i : Int)) = some (.inr ((l.drop i).foldl f s)) := by
  intro d
  induction d with
  | zero =>
   intro i k s hi hk hs
   obtain ⟨k, rfl⟩ : ∃ m, k = m + 1 := ⟨k - 1, by omega⟩
   have : i = l.length := by omega
   subst this
   rw [qn, h2 s, List.drop_length]; rfl
  | succ d ih =>
   intro i k s hi hk hs
   obtain ⟨k, rfl⟩ : ∃ m, k = m + 1 := ⟨k - 1, by omega⟩
   have hlt : i < l.length := by omega
   obtain ⟨e1, e2⟩ := h1 i s hlt hs
   rw [qn, e1, Qr hlt]
   exact ih (i + 1) k _ (by omega) (by omega) e2
 exact key l.length 0 (l.length + 1) s0 (by omega) (by omega) h0
def okA (xs : List (List Rec)) (t : List Nd) : Bool := (xs.all fun l => decide ((qC l).2 = 0)) && woodOK t
theorem okA_of {xs : List (List Rec)} {t : List Nd} (h : okA xs t = true) : (∀ l ∈ xs, (qC l).2 = 0) ∧ Wood t := by
 unfold okA at h
 rw [Bool.and_eq_true, List.all_eq_true] at h
 exact ⟨fun l hl => of_decide_eq_true (h.1 l hl), wood_of h.2⟩
theorem okA_mk {xs : List (List Rec)} {t : List Nd} (h : ∀ l ∈ xs, (qC l).2 = 0) (k : Wood t) : okA xs t = true := by
 unfold okA
 rw [Bool.and_eq_true, List.all_eq_true]
 exact ⟨fun l hl => decide_eq_true (h l hl), wood_ok k⟩
theorem jU {xs : List (List Rec)} (h : vi xs = true) : xs.length ≤ 5 ∧ ∀ l ∈ xs, (qC l).2 = 0 := by
 unfold vi at h
 rw [Bool.and_eq_true, List.all_eq_true] at h
 exact ⟨of_decide_eq_true h.1, fun l hl => of_decide_eq_true (h.2 l hl)⟩
theorem Xj : Wood [] := wood_of rfl
def yx (xs : List (List Rec)) (t : List Nd) : List Nd := xs.foldl (fun t l => vS l t) t
theorem Yr {l : List Rec} {s : List Nd} (h : (qC l).2 = 0) (hs : Wood s) : Wood (vS l s) ∧ (vS l s).length ≤ s.length + 16 := by
 have h1 := Yj s hs _ l rfl (Ja h)
 have := QH h
 exact ⟨h1.1, by have := h1.2.2.1; omega⟩
theorem X9 : ∀ (xs : List (List Rec)) (t : List Nd), (∀ l ∈ xs, (qC l).2 = 0) → Wood t → Wood (yx xs t) ∧ (yx xs t).length ≤ t.length + xs.length * 16 := by
 intro xs
 induction xs with
 | nil => intro t _ ht; exact ⟨ht, by simp [yx]⟩
 | cons l xs ih =>
  intro t h ht
  obtain ⟨h1, h2⟩ := Yr (h l (by simp)) ht
  obtain ⟨h3, h4⟩ := ih (vS l t) (fun y hy => h y (by simp [hy])) h1
  exact ⟨h3, by show (yx xs (vS l t)).length ≤ _; simp only [List.length_cons]; omega⟩
def yP.b1 (a0 : List (List Rec)) : List Nd × Int → Option (Step (List Nd) (List Nd × Int) (List Nd)) :=
 fun q => match q with
 | (x1_13, x5_15) => bif (decide (x5_15 < (a0.length : Int))) then (bif inR x5_15 a0.length then (bif decide ((gt a0 x5_15).length ≤ 16) then (bif decide (x1_13.length ≤ 1000) then (bif decide (okT (gt a0 x5_15) x1_13 = true) then (some (.nxt ((vS (gt a0 x5_15) x1_13), IntKind.wrap .i64 (x5_15 + 1)))) else none) else none) else none) else none) else (some (.brk x1_13))
def yP.sh (k : Nat) (a0 : List (List Rec)) (a1 : List Nd) : Option (List Nd) :=
  bif decide ((([] : List Nd).length + a1.length) * 48 ≤ 140737488355328) then ((qn (yP.b1 a0) k (([] : List Nd) ++ a1, 0)).bind fun z => match z with | .inl t => some t | .inr x1_19 => some x1_19) else none
theorem yP.eq (a0 : List (List Rec)) (a1 : List Nd) (h0 : a0.length ≤ 5) (h1 : a1.length ≤ 24) (h2 : okA a0 a1 = true) : ∃ k, yP.sh k a0 a1 = some (yx a0 a1) := by
 obtain ⟨hs, ht⟩ := okA_of h2
 refine ⟨a0.length + 1, ?_⟩
 unfold yP.sh
 have hk := foldI_run a0 (fun t l => vS l t) (fun i s => Wood s ∧ s.length ≤ 24 + 16 * i) (yP.b1 a0) (fun i s hi hI => by
  have hl := hs (gt a0 (i : Int)) (by rw [vK, vr hi]; exact List.getElem_mem hi)
  obtain ⟨w1, w2⟩ := Yr hl hI.1
  have d1 : decide ((i : Int) < (a0.length : Int)) = true := decide_eq_true (by omega)
  have d2 : decide (s.length ≤ 1000) = true := decide_eq_true (by have := hI.2; omega)
  have e1 : IntKind.wrap .i64 ((i : Int) + 1) = ((i + 1 : Nat) : Int) := by rw [wrap_small (by omega) (by omega)]; omega
  refine ⟨?_, w1, by have := hI.2; omega⟩
  simp only [yP.b1, d1, d2, qP hi, cond_true, e1, decide_eq_true (QH hl), okT_mk hl hI.1, decide_true]) (fun s => by simp [yP.b1]) a1 ⟨ht, by omega⟩
 have g1 : decide ((([] : List Nd).length + a1.length) * 48 ≤ 140737488355328) = true := decide_eq_true (by simp only [List.length_nil]; omega)
 have hk2 : qn (yP.b1 a0) (a0.length + 1) (([] : List Nd) ++ a1, 0) = some (.inr (yx a0 a1)) := hk
 rw [hk2]
 simp only [g1, cond_true, Option.bind_some]
def yv.b1 (a0 : List (List Rec)) : List Nd × Int → Option (Step (List Nd) (List Nd × Int) (List Nd)) :=
 fun q => match q with
 | (x5_6, x12_8) => bif (decide (x12_8 < (a0.length : Int))) then (bif inR x12_8 a0.length then (bif decide ((gt a0 x12_8).length ≤ 16) then (bif decide (x5_6.length ≤ 1000) then (bif decide (okT (gt a0 x12_8) x5_6 = true) then (some (.nxt ((vS (gt a0 x12_8) x5_6), IntKind.wrap .i64 (x12_8 + 1)))) else none) else none) else none) else none) else (some (.brk x5_6))
def yv.sh (k : Nat) (a0 : List (List Rec)) (a1 : List Nd) : Option (List Nd) :=
  bif decide (a1.length ≤ 1048576) then ((qn (yv.b1 a0) k (a1, 0)).bind fun z => match z with | .inl t => some t | .inr x5_12 => some x5_12) else none
theorem yv.eq (a0 : List (List Rec)) (a1 : List Nd) (h0 : a0.length ≤ 5) (h1 : a1.length ≤ 24) (h2 : okA a0 a1 = true) : ∃ k, yv.sh k a0 a1 = some (yx a0 a1) := by
 obtain ⟨hs, ht⟩ := okA_of h2
 refine ⟨a0.length + 1, ?_⟩
 unfold yv.sh
 have hk := foldI_run a0 (fun t l => vS l t) (fun i s => Wood s ∧ s.length ≤ 24 + 16 * i) (yv.b1 a0) (fun i s hi hI => by
  have hl := hs (gt a0 (i : Int)) (by rw [vK, vr hi]; exact List.getElem_mem hi)
  obtain ⟨w1, w2⟩ := Yr hl hI.1
  have d1 : decide ((i : Int) < (a0.length : Int)) = true := decide_eq_true (by omega)
  have d2 : decide (s.length ≤ 1000) = true := decide_eq_true (by have := hI.2; omega)
  have e1 : IntKind.wrap .i64 ((i : Int) + 1) = ((i + 1 : Nat) : Int) := by rw [wrap_small (by omega) (by omega)]; omega
  refine ⟨?_, w1, by have := hI.2; omega⟩
  simp only [yv.b1, d1, d2, qP hi, cond_true, e1, decide_eq_true (QH hl), okT_mk hl hI.1, decide_true]) (fun s => by simp [yv.b1]) a1 ⟨ht, by omega⟩
 have g1 : decide (a1.length ≤ 1048576) = true := decide_eq_true (by omega)
 rw [hk]
 simp only [g1, cond_true, Option.bind_some, yx]
def yy (l : List (List Rec)) : List Nd × Int := if stackCode l = 0 then (yx l [], 0) else ([], stackCode l)
theorem V1 {a : List (List Rec)} (h : stackCode a = 0) : vi a = true := by
 unfold stackCode at h
 split at h
 ·omega
 ·split at h
  ·omega
  ·rename_i h2; simpa using h2
def jP.sh (a0 : List (List Rec)) : Option (List Nd × Int) :=
 bif (decide (4096 < (a0.length : Int))) then (some (([] : List Nd), 2)) else (bif decide (a0.length ≤ 1048576) then (bif decide (∀ l ∈ a0, l.length ≤ 1048576) then (bif decide (∀ l ∈ a0, ∀ x ∈ l, x.path.length ≤ 1048576) then (bif (!(vi a0)) then (some (([] : List Nd), 1)) else (bif decide (a0.length ≤ 5) then (bif decide (([] : List Nd).length ≤ 24) then (bif decide (okA a0 ([] : List Nd) = true) then (some ((yx a0 ([] : List Nd)), 0)) else none) else none) else none)) else none) else none) else none)
theorem jP.eq (a0 : List (List Rec)) (h0 : a0.length ≤ 1048576) (h1 : ∀ l ∈ a0, l.length ≤ 1048576) (h2 : ∀ l ∈ a0, ∀ x ∈ l, x.path.length ≤ 1048576) : jP.sh a0 = some ((yy a0).1, (yy a0).2) := by
 unfold jP.sh yy stackCode
 rw [Gx]
 by_cases h : 4096 < a0.length
 ·simp [h]
 ·rcases ql (vi a0) with c1 | c1
  ·have l1 := jU c1
   simp [h, h0, decide_eq_true h1, decide_eq_true h2, c1, l1.1, okA_mk l1.2 Xj]
  ·simp [h, h0, decide_eq_true h1, decide_eq_true h2, c1]
def jy.sh (a0 : List (List Rec)) : Option (List Nd × Int) :=
 bif decide (a0.length ≤ 1048576) then (bif decide (∀ l ∈ a0, l.length ≤ 1048576) then (bif decide (∀ l ∈ a0, ∀ x ∈ l, x.path.length ≤ 1048576) then (bif (!decide ((stackCode a0) = 0)) then (some ([], (stackCode a0))) else (bif decide (a0.length ≤ 5) then (bif decide (([] : List Nd).length ≤ 24) then (bif decide (okA a0 ([] : List Nd) = true) then (some ((yx a0 ([] : List Nd)), 0)) else none) else none) else none)) else none) else none) else none
theorem jy.eq (a0 : List (List Rec)) (h0 : a0.length ≤ 1048576) (h1 : ∀ l ∈ a0, l.length ≤ 1048576) (h2 : ∀ l ∈ a0, ∀ x ∈ l, x.path.length ≤ 1048576) : jy.sh a0 = some ((yy a0).1, (yy a0).2) := by
 unfold jy.sh yy
 by_cases h : stackCode a0 = 0
 ·have l1 := jU (V1 h)
  simp [h0, decide_eq_true h1, decide_eq_true h2, h, l1.1, okA_mk l1.2 Xj]
 ·simp [h0, decide_eq_true h1, decide_eq_true h2, h]
theorem viewOf_len (l : List (List Rec)) : (yy l).1.length ≤ 80 := by
 unfold yy
 split
 ·rename_i h
  have l1 := jU (V1 h)
  have := (X9 l [] l1.2 Xj).2
  simp only [List.length_nil] at this ⊢
  have := l1.1; omega
 ·simp
theorem XV {α β ρ : Type} [Inhabited α] (l : List α) (f : β → α → β) (Inv : Nat → β → Prop) (b : β × Int → Option (Step ρ (β × Int) β)) (K : Nat) (hK : l.length < K)
  (h1 : ∀ (i : Nat) (s : β), i < l.length → Inv i s → b (s, (i : Int)) = some (.nxt (f s (gt l (i : Int)), ((i + 1 : Nat) : Int))) ∧ Inv (i + 1) (f s (gt l (i : Int))))
  (h2 : ∀ s : β, b (s, (l.length : Int)) = some (.brk s)) (s0 : β) (h0 : Inv 0 s0) : qn b K (s0, 0) = some (.inr (l.foldl f s0)) ∧ Inv l.length (l.foldl f s0) := by
 have key : ∀ (d i k : Nat) (s : β), i + d = l.length → d < k → Inv i s → qn b k (s, (i : Int)) = some (.inr ((l.drop i).foldl f s)) ∧ Inv l.length ((l.drop i).foldl f s) := by
  intro d
  induction d with
  | zero =>
   intro i k s hi hk hs
   obtain ⟨k, rfl⟩ : ∃ m, k = m + 1 := ⟨k - 1, by omega⟩
   have : i = l.length := by omega
   subst this
   rw [qn, h2 s, List.drop_length]; exact ⟨rfl, hs⟩
  | succ d ih =>
   intro i k s hi hk hs
   obtain ⟨k, rfl⟩ : ∃ m, k = m + 1 := ⟨k - 1, by omega⟩
   have hlt : i < l.length := by omega
   obtain ⟨e1, e2⟩ := h1 i s hlt hs
   rw [qn, e1, Qr hlt]
   exact ih (i + 1) k _ (by omega) (by omega) e2
 have := key l.length 0 K s0 (by omega) (by omega) h0
 simpa using this
theorem Yh {l : List Rec} {r x : Rec} (h : jZ l r = some x) : x.path = r.path := by
 unfold jZ at h
 split at h
 ·split at h
  ·cases h
  ·rw [← Option.some.inj h]
 ·rw [← Option.some.inj h]
theorem Y8 {f : Rec → Option Rec} (hf : ∀ r x, f r = some x → x.path = r.path) : ∀ {l : List Rec}, yi (l.map (·.path)) → yi ((l.filterMap f).map (·.path)) ∧ ∀ q ∈ (l.filterMap f).map (·.path), q ∈ l.map (·.path) := by
 intro l
 induction l with
 | nil => intro _; exact ⟨List.Pairwise.nil, by simp⟩
 | cons r l ih =>
  intro h
  obtain ⟨i1, i2⟩ := ih (Q9 h)
  have hlt := VB h
  cases hr : f r with
  | none => rw [List.filterMap_cons_none hr]; exact ⟨i1, fun q hq => List.mem_cons_of_mem _ (i2 q hq)⟩
  | some x =>
   rw [List.filterMap_cons_some hr, List.map_cons, hf r x hr]
   exact ⟨List.pairwise_cons.2 ⟨fun q hq => hlt q (i2 q hq), i1⟩, fun q hq => by
    rcases List.mem_cons.1 hq with rfl | hq
    ·exact List.mem_cons_self
    ·exact List.mem_cons_of_mem _ (i2 q hq)⟩
theorem canonL_sheet {l : List Rec} (h : yA l = true) : yA (jY l) = true := by
 obtain ⟨h1, h2⟩ := Y8 (f := jZ l) (fun r x => Yh) (QI h)
 refine YB (fun x hx => ?_) h1
 obtain ⟨r, hr, e⟩ := List.mem_map.1 (h2 _ (List.mem_map_of_mem hx))
 rw [← e]; exact jA h r hr
theorem Jt {a b : List Rec} (ha : yA a = true) (hb : yA b = true) : yA (jF a b) = true := canonL_sheet (JI ha hb)
def qD (xs : List (List Rec)) : List Rec := xs.foldl jF []
theorem XC : yA [] = true := rfl
def y2.b1 (a0 : List (List Rec)) : List Rec × Int → Option (Step (List Rec) (List Rec × Int) (List Rec)) :=
 fun q => match q with
 | (x3_7, x4_9) => bif (decide (x4_9 < (a0.length : Int))) then (bif inR x4_9 a0.length then (bif decide (x3_7.length ≤ 500000) then (bif decide ((gt a0 x4_9).length ≤ 500000) then (bif decide (yA x3_7 = true) then (bif decide (yA (gt a0 x4_9) = true) then (some (.nxt ((jF x3_7 (gt a0 x4_9)), IntKind.wrap .i64 (x4_9 + 1)))) else none) else none) else none) else none) else none) else (some (.brk x3_7))
def y2.sh (k : Nat) (a0 : List (List Rec)) : Option (List Rec) :=
  (qn (y2.b1 a0) k (([] : List Rec), 0)).bind fun z => match z with | .inl t => some t | .inr x3_13 => some x3_13
theorem y2.eq (a0 : List (List Rec)) (h0 : vi a0 = true) : ∃ k, y2.sh k a0 = some (qD a0) := by
 obtain ⟨h5, hL⟩ := jU h0
 refine ⟨a0.length + 1, ?_⟩
 unfold y2.sh
 have hk := XV a0 jF (fun i s => yA s = true ∧ s.length ≤ 16 * i) (y2.b1 a0) (a0.length + 1) (by omega) (fun i s hi hI => by
  have hl := hL (gt a0 (i : Int)) (by rw [vK, vr hi]; exact List.getElem_mem hi)
  have h16 := QH hl
  have hq := GN s (gt a0 (i : Int))
  have d1 : decide ((i : Int) < (a0.length : Int)) = true := decide_eq_true (by omega)
  have d2 : decide (s.length ≤ 500000) = true := decide_eq_true (by have := hI.2; omega)
  have d3 : decide ((gt a0 (i : Int)).length ≤ 500000) = true := decide_eq_true (by omega)
  have e1 : IntKind.wrap .i64 ((i : Int) + 1) = ((i + 1 : Nat) : Int) := by rw [wrap_small (by omega) (by omega)]; omega
  refine ⟨?_, Jt hI.1 (VE hl), by have := hI.2; omega⟩
  simp only [y2.b1, d1, d2, d3, qP hi, cond_true, e1, hI.1, VE hl, decide_true]) (fun s => by simp [y2.b1]) [] ⟨XC, by simp⟩
 rw [hk.1]
 simp only [Option.bind_some, qD]
def ya.b1 (a0 : List (List Rec)) : List Rec × Int → Option (Step (List Rec) (List Rec × Int) (List Rec)) :=
 fun q => match q with
 | (x3_7, x9_9) => bif (decide (x9_9 < (a0.length : Int))) then (bif inR x9_9 a0.length then (bif decide (x3_7.length ≤ 500000) then (bif decide ((gt a0 x9_9).length ≤ 500000) then (bif decide (yA x3_7 = true) then (bif decide (yA (gt a0 x9_9) = true) then (some (.nxt ((jF x3_7 (gt a0 x9_9)), IntKind.wrap .i64 (x9_9 + 1)))) else none) else none) else none) else none) else none) else (some (.brk x3_7))
def ya.sh (k : Nat) (a0 : List (List Rec)) : Option (List Rec) :=
  (qn (ya.b1 a0) k (([] : List Rec), 0)).bind fun z => match z with | .inl t => some t | .inr x3_13 => some x3_13
theorem ya.eq (a0 : List (List Rec)) (h0 : vi a0 = true) : ∃ k, ya.sh k a0 = some (qD a0) := by
 obtain ⟨h5, hL⟩ := jU h0
 refine ⟨a0.length + 1, ?_⟩
 unfold ya.sh
 have hk := XV a0 jF (fun i s => yA s = true ∧ s.length ≤ 16 * i) (ya.b1 a0) (a0.length + 1) (by omega) (fun i s hi hI => by
  have hl := hL (gt a0 (i : Int)) (by rw [vK, vr hi]; exact List.getElem_mem hi)
  have h16 := QH hl
  have hq := GN s (gt a0 (i : Int))
  have d1 : decide ((i : Int) < (a0.length : Int)) = true := decide_eq_true (by omega)
  have d2 : decide (s.length ≤ 500000) = true := decide_eq_true (by have := hI.2; omega)
  have d3 : decide ((gt a0 (i : Int)).length ≤ 500000) = true := decide_eq_true (by omega)
  have e1 : IntKind.wrap .i64 ((i : Int) + 1) = ((i + 1 : Nat) : Int) := by rw [wrap_small (by omega) (by omega)]; omega
  refine ⟨?_, Jt hI.1 (VE hl), by have := hI.2; omega⟩
  simp only [ya.b1, d1, d2, d3, qP hi, cond_true, e1, hI.1, VE hl, decide_true]) (fun s => by simp [ya.b1]) [] ⟨XC, by simp⟩
 rw [hk.1]
 simp only [Option.bind_some, qD]
end Go.UL
