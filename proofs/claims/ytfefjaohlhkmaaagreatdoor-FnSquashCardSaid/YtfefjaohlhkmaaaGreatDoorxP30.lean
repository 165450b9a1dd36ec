import Derived.Test.YtfefjaohlhkmaaaGreatDoorxP24
set_option linter.unusedVariables false
set_option linter.unusedSimpArgs false
namespace Go.UL
open Go.RowKit
structure Wood (t : List Nd) : Prop where
 rise : yt (t.map (·.path))
 ok : ∀ n ∈ t, nodeOK n = true
 par : ∀ n ∈ t, qc n.path ≠ [] → ∃ m ∈ t, m.path = qc n.path ∧ m.kind = 3
structure Sheet (l : List Rec) : Prop where
 rise : yt (l.map (·.path))
 ok : ∀ r ∈ l, qx r = 0
 par : ∀ r ∈ l, qc r.path ≠ [] → ∃ q ∈ l, q.path = qc r.path ∧ q.kind = 3
abbrev y5 (t : List Nd) (p : List UInt8) : Option Nd := yq (fun n : Nd => n.path) t p
abbrev ve (l : List Rec) (p : List UInt8) : Option Rec := yq (fun r : Rec => r.path) l p
theorem Qa {t : List Nd} (h : yt (t.map (·.path))) {n : Nd} (hn : n ∈ t) : y5 t n.path = some n := Ja (fun n : Nd => n.path) h n hn
theorem Y0 {l : List Rec} (h : yt (l.map (·.path))) {r : Rec} (hr : r ∈ l) : ve l r.path = some r := Ja (fun r : Rec => r.path) h r hr
theorem jD {t : List Nd} {p : List UInt8} {n : Nd} (h : y5 t p = some n) : n ∈ t ∧ n.path = p := VV _ h
theorem jc {l : List Rec} {p : List UInt8} {r : Rec} (h : ve l p = some r) : r ∈ l ∧ r.path = p := VV _ h
theorem QI (t : List Nd) (p : List UInt8) : (0 ≤ vd t p ↔ y5 t p ≠ none) ∧ ∀ x, y5 t p = some x → gt t (vd t p) = x := VZ (fun n : Nd => n.path) t p
theorem je (l : List Rec) (p : List UInt8) : (0 ≤ qD l p ↔ ve l p ≠ none) ∧ ∀ x, ve l p = some x → gt l (qD l p) = x := VZ (fun r : Rec => r.path) l p
theorem GO {α : Type} [Inhabited α] (f : α → List UInt8) {l : List α} (h : yt (l.map f)) {i j : Nat} (hij : i < j) (hj : j < l.length) : ltP (f (l.getD i default)) (f (l.getD j default)) = true := by
 rw [vY (by omega), vY hj]
 have := List.pairwise_iff_getElem.1 (List.pairwise_map.1 h) i j (by omega) hj hij
 exact this
theorem idx_lt {α : Type} [Inhabited α] (f : α → List UInt8) {l : List α} (h : yt (l.map f)) {i : Nat} (hi : i < l.length) {m : α} (hm : m ∈ l) (hlt : ltP (f m) (f (l.getD i default)) = true) : m ∈ l.take i := by
 obtain ⟨j, hj, rfl⟩ := List.getElem_of_mem hm
 by_cases hji : j < i
 ·rw [List.mem_take_iff_getElem]
  exact ⟨j, by omega, rfl⟩
 ·exfalso
  have e : l[j] = l.getD j default := (vY hj).symm
  rw [e] at hlt
  by_cases he : i = j
  ·subst he; rw [VU] at hlt; cases hlt
  ·have := GO f h (show i < j by omega) hj
   rw [VW this] at hlt; cases hlt
theorem GS {α : Type} (f : α → List UInt8) {l : List α} (h : yt (l.map f)) (i : Nat) : yt ((l.take i).map f) := by
 rw [List.map_take]; exact List.Pairwise.sublist (List.take_sublist _ _) h
def XX (t : List Nd) : Bool := (List.range t.length).all (jY t)
theorem G6 (t : List Nd) : jO t = (decide (t.length ≤ 24) && XX t) := rfl
theorem wood_of {t : List Nd} (h : XX t = true) : Wood t := by
 have hat : ∀ i, i < t.length → jY t i = true := fun i hi => List.all_eq_true.1 h i (List.mem_range.2 hi)
 have hr : yt (t.map (·.path)) := Jg _ fun i h0 hi => by
  have := hat i hi
  have h9 : ¬ i = 0 := by omega
  simp only [jY, Bool.and_eq_true, h9, decide_false, Bool.false_or] at this
  exact this.1.2
 refine ⟨hr, fun n hn => ?_, fun n hn hp => ?_⟩
 ·obtain ⟨i, hi, rfl⟩ := List.getElem_of_mem hn
  have := hat i hi
  simp only [jY, Bool.and_eq_true, vY hi] at this
  exact this.1.1
 ·obtain ⟨i, hi, rfl⟩ := List.getElem_of_mem hn
  have := hat i hi
  simp only [jY, Bool.and_eq_true, vY hi] at this
  have h2 := this.2
  unfold Q1 at h2
  simp only [hp, decide_false, Bool.false_or, Bool.and_eq_true, decide_eq_true_eq] at h2
  cases hl : y5 (t.take i) (qc t[i].path) with
  | none => exact absurd hl ((QI _ _).1.1 h2.1)
  | some m =>
   obtain ⟨hm, he⟩ := jD hl
   rw [(QI _ _).2 m hl] at h2
   exact ⟨m, List.mem_of_mem_take hm, he, h2.2⟩
theorem wood_ok {t : List Nd} (h : Wood t) : XX t = true := by
 refine List.all_eq_true.2 fun i hi => ?_
 have hi := List.mem_range.1 hi
 have hm : t.getD i default ∈ t := by rw [vY hi]; exact List.getElem_mem hi
 simp only [jY, Bool.and_eq_true, h.ok _ hm, true_and]
 refine ⟨?_, ?_⟩
 ·by_cases h0 : i = 0
  ·simp [h0]
  ·have := GO (fun n : Nd => n.path) h.rise (show i - 1 < i by omega) hi
   have h9 : vw (cut 47 (t.getD (i - 1) default).path) (cut 47 (t.getD i default).path) = true := this
   rw [h9]; simp
 ·unfold Q1
  by_cases hp : qc (t.getD i default).path = []
  ·rw [decide_eq_true hp]; rfl
  ·obtain ⟨m, hmt, he, hk⟩ := h.par _ hm hp
   have hmi : m ∈ t.take i := idx_lt (fun n : Nd => n.path) h.rise hi hmt (by
    show ltP m.path (t.getD i default).path = true
    rw [he]; exact YA hp)
   have hl := Qa (GS (fun n : Nd => n.path) h.rise i) hmi
   rw [he] at hl
   have h1 := (QI (t.take i) (qc (t.getD i default).path)).1.2 (by rw [hl]; simp)
   have h2 := (QI (t.take i) (qc (t.getD i default).path)).2 m hl
   have hz : vd (t.take i) (qc (t.getD i default).path) < (t.take i).length := JB _ _
   simp only [hp, decide_false, Bool.false_or, Bool.and_eq_true, decide_eq_true_eq]
   exact ⟨h1, by rw [h2]; exact hk⟩
theorem treeOK_of {t : List Nd} (h : Wood t) (hl : t.length ≤ 24) : jO t = true := by rw [G6, wood_ok h, decide_eq_true hl]; rfl
theorem Jy {t : List Nd} (h : jO t = true) : Wood t := by
 rw [G6, Bool.and_eq_true] at h
 exact wood_of h.2
theorem J7 {t : List Nd} (h : jO t = true) : t.length ≤ 24 := (treeOK_rise h).1
theorem codeAt_par {l : List Rec} {i : Nat} (h : ju l i = 0) (hp : qc (l.getD i default).path ≠ []) : 0 ≤ qD (l.take i) (qc (l.getD i default).path) ∧ (gt l (qD (l.take i) (qc (l.getD i default).path))).kind = 3 := by
 unfold ju at h
 split at h
 ·omega
 ·split at h
  ·exact absurd h ‹_›
  ·split at h
   ·omega
   ·split at h
    ·omega
    ·split at h
     ·omega
     ·split at h
      ·omega
      ·rename_i h1 h2
       exact ⟨by omega, by
        by_cases e : (gt l (qD (l.take i) (qc (l.getD i default).path))).kind = 3
        ·exact e
        ·exact absurd e h2⟩
theorem G5 {l : List Rec} (h : (qv l).2 = 0) : Sheet l := by
 refine ⟨Gk h, G9 h, fun r hr hp => ?_⟩
 obtain ⟨i, hi, rfl⟩ := List.getElem_of_mem hr
 have e : l[i] = l.getD i default := (vY hi).symm
 rw [e] at hp ⊢
 obtain ⟨h1, h2⟩ := codeAt_par (Ve h i hi) hp
 cases hl : ve (l.take i) (qc (l.getD i default).path) with
 | none => exact absurd hl ((je _ _).1.1 h1)
 | some m =>
  obtain ⟨hm, he⟩ := jc hl
  refine ⟨m, List.mem_of_mem_take hm, he, ?_⟩
  have h3 := (je (l.take i) (qc (l.getD i default).path)).2 m hl
  rw [gtake l i _ h1 (JE _ _)] at h3
  rw [← h3]; exact h2
theorem Vv {l : List Rec} (h : Sheet l) (hn : l.length ≤ 16) : (qv l).2 = 0 := by
 rw [layerFault_of fun i hi => ?_]
 have hm : l.getD i default ∈ l := by rw [vY hi]; exact List.getElem_mem hi
 unfold ju
 rw [if_neg (by omega), if_neg (by rw [h.ok _ hm]; simp)]
 have hlt : 0 < i → ltP (l.getD (i - 1) default).path (l.getD i default).path = true := fun h0 => GO (fun r : Rec => r.path) h.rise (show i - 1 < i by omega) hi
 rw [if_neg (fun ⟨h0, e⟩ => VM (hlt h0) e.symm), if_neg (fun ⟨h0, e⟩ => by have := hlt h0; unfold ltP at this; rw [e] at this; cases this)]
 by_cases hp : qc (l.getD i default).path = []
 ·rw [if_pos hp]
 ·obtain ⟨m, hmt, he, hk⟩ := h.par _ hm hp
  have hmi : m ∈ l.take i := idx_lt (fun r : Rec => r.path) h.rise hi hmt (by
   show ltP m.path (l.getD i default).path = true
   rw [he]; exact YA hp)
  have hl := Y0 (GS (fun r : Rec => r.path) h.rise i) hmi
  rw [he] at hl
  have h1 := (je (l.take i) (qc (l.getD i default).path)).1.2 (by rw [hl]; simp)
  have h2 := (je (l.take i) (qc (l.getD i default).path)).2 m hl
  rw [gtake l i _ h1 (JE _ _)] at h2
  rw [if_neg hp, if_neg (by omega), if_neg (by rw [h2]; simp [hk])]
theorem Wood.up {t : List Nd} (h : Wood t) : ∀ (k : Nat) (n : Nd), n ∈ t → n.path.length ≤ k → ∀ p ∈ jK n.path, ∃ m ∈ t, m.path = p ∧ m.kind = 3 := by
 intro k
 induction k with
 | zero =>
  intro n hn hk p hp
  have : n.path = [] := List.eq_nil_of_length_eq_zero (by omega)
  rw [this, Qk, if_pos j3] at hp; cases hp
 | succ k ih =>
  intro n hn hk p hp
  rw [Qk] at hp
  by_cases hpp : qc n.path = []
  ·rw [if_pos hpp] at hp; cases hp
  ·rw [if_neg hpp] at hp
   obtain ⟨m, hm, he, hk3⟩ := h.par n hn hpp
   have hne : n.path ≠ [] := fun e => by rw [e] at hpp; exact hpp j3
   rcases List.mem_cons.1 hp with rfl | hp
   ·exact ⟨m, hm, he, hk3⟩
   ·exact ih m hm (by rw [he]; have := Q3 hne; omega) p (by rw [he]; exact hp)
theorem nodeOK_fault {n : Nd} (h : nodeOK n = true) : qx (QQ n) = 0 ∧ n.kind ≠ 4 := by
 simp only [nodeOK, Bool.and_eq_true, decide_eq_true_eq, Bool.not_eq_true', decide_eq_false_iff_not] at h
 exact h
theorem Wood.above {t : List Nd} (h : Wood t) {n : Nd} (hn : n ∈ t) {p : List UInt8} (hb : vu n.path p = true) : ∃ m ∈ t, m.path = p ∧ m.kind = 3 :=
 h.up _ n hn (Nat.le_refl _) p (Yz (Q2 (h.ok n hn)) hb)
theorem Sheet.up {t : List Rec} (h : Sheet t) : ∀ (k : Nat) (n : Rec), n ∈ t → n.path.length ≤ k → ∀ p ∈ jK n.path, ∃ m ∈ t, m.path = p ∧ m.kind = 3 := by
 intro k
 induction k with
 | zero =>
  intro n hn hk p hp
  have : n.path = [] := List.eq_nil_of_length_eq_zero (by omega)
  rw [this, Qk, if_pos j3] at hp; cases hp
 | succ k ih =>
  intro n hn hk p hp
  rw [Qk] at hp
  by_cases hpp : qc n.path = []
  ·rw [if_pos hpp] at hp; cases hp
  ·rw [if_neg hpp] at hp
   obtain ⟨m, hm, he, hk3⟩ := h.par n hn hpp
   have hne : n.path ≠ [] := fun e => by rw [e] at hpp; exact hpp j3
   rcases List.mem_cons.1 hp with rfl | hp
   ·exact ⟨m, hm, he, hk3⟩
   ·exact ih m hm (by rw [he]; have := Q3 hne; omega) p (by rw [he]; exact hp)
theorem Sheet.above {t : List Rec} (h : Sheet t) {n : Rec} (hn : n ∈ t) {p : List UInt8} (hb : vu n.path p = true) : ∃ m ∈ t, m.path = p ∧ m.kind = 3 :=
 h.up _ n hn (Nat.le_refl _) p (Yz (yg (h.ok n hn)) hb)
theorem look_filter {α : Type} (f : α → List UInt8) (q : α → Bool) {l : List α} (h : yt (l.map f)) (p : List UInt8) : yq f (l.filter q) p = (yq f l p).filter q := by
 induction l with
 | nil => rfl
 | cons x l ih =>
  have ih := ih (VC h)
  rw [jV]
  by_cases hx : q x = true
  ·rw [List.filter_cons_of_pos hx, jV, ih]
   by_cases e : f x = p
   ·rw [if_pos e, if_pos e, Option.filter_some, if_pos hx]
   ·rw [if_neg e, if_neg e]
  ·rw [List.filter_cons_of_neg hx, ih]
   by_cases e : f x = p
   ·have : yq f l p = none := (jE f).2 fun hm => VM (Ya h p hm) e
    rw [if_pos e, this, Option.filter_some, if_neg hx]; rfl
   ·rw [if_neg e]
theorem Vq {α : Type} (f : α → List UInt8) (q : α → Bool) {l : List α} (h : yt (l.map f)) : yt ((l.filter q).map f) :=
 List.Pairwise.sublist (List.Sublist.map f List.filter_sublist) h
theorem Gq {t : List Nd} (h : yt (t.map (·.path))) (q : Nd → Bool) (p : List UInt8) : y5 (t.filter q) p = (y5 t p).filter q := look_filter (fun n : Nd => n.path) q h p
theorem X3 {t : List Nd} {n : Nd} (h : yt (t.map (·.path))) (hn : n.path ∉ t.map (·.path)) : yt ((Qx t n).map (·.path)) ∧ ∀ p, y5 (Qx t n) p = if p = n.path then some n else y5 t p := by
 have hr : yt ((Qx t n).map (·.path)) := by
  unfold Qx yt
  rw [List.map_append, List.map_cons, List.pairwise_append, List.pairwise_cons]
  have hgt : ∀ y ∈ (t.filter fun x => !ltP x.path n.path).map (fun x : Nd => x.path), ltP n.path y = true := by
   intro y hy
   obtain ⟨x, hx, rfl⟩ := List.mem_map.1 hy
   obtain ⟨hx1, hx2⟩ := List.mem_filter.1 hx
   rcases ql (ltP n.path x.path) with h1 | h1
   ·exact h1
   ·have h2 : ltP x.path n.path = false := by simpa using hx2
    exact absurd (List.mem_map_of_mem (f := fun x : Nd => x.path) hx1) (by rw [show x.path = n.path from YG h2 h1]; exact hn)
  refine ⟨Vq _ _ h, ⟨hgt, Vq _ _ h⟩, fun a ha b hb => ?_⟩
  obtain ⟨x, hx, rfl⟩ := List.mem_map.1 ha
  have h1 := (List.mem_filter.1 hx).2
  rcases List.mem_cons.1 hb with rfl | hb
  ·exact h1
  ·exact Qj h1 (hgt b hb)
 refine ⟨hr, fun p => ?_⟩
 by_cases e : p = n.path
 ·subst e
  rw [if_pos rfl]
  exact Qa hr (by unfold Qx; simp)
 ·rw [if_neg e]
  have key : ∀ x, y5 (Qx t n) p = some x ↔ y5 t p = some x := by
   intro x
   constructor
   ·intro hx
    obtain ⟨h1, h2⟩ := jD hx
    unfold Qx at h1
    rw [List.mem_append, List.mem_cons] at h1
    rcases h1 with h1 | h1 | h1
    ·rw [← h2]; exact Qa h (List.mem_filter.1 h1).1
    ·exact absurd (by rw [← h2, h1]) e
    ·rw [← h2]; exact Qa h (List.mem_filter.1 h1).1
   ·intro hx
    obtain ⟨h1, h2⟩ := jD hx
    rw [← h2]
    refine Qa hr ?_
    unfold Qx
    rw [List.mem_append, List.mem_cons]
    rcases ql (ltP x.path n.path) with h3 | h3
    ·exact .inl (List.mem_filter.2 ⟨h1, h3⟩)
    ·exact .inr (.inr (List.mem_filter.2 ⟨h1, by rw [h3]; rfl⟩))
  cases hl : y5 t p with
  | none =>
   cases hl2 : y5 (Qx t n) p with
   | none => rfl
   | some x => rw [(key x).1 hl2] at hl; cases hl
  | some x => exact (key x).2 hl
def Gv (t : List Nd) (n : Nd) : List Nd := t.takeWhile (fun x => ltP x.path n.path) ++ n :: (match t.dropWhile (fun x => ltP x.path n.path) with | [] => [] | y :: r => if y.path = n.path then r else y :: r)
theorem rise_while {t : List Nd} {p : List UInt8} (h : yt (t.map (·.path))) : t.takeWhile (fun x => ltP x.path p) = t.filter (fun x => ltP x.path p) ∧ t.dropWhile (fun x => ltP x.path p) = t.filter (fun x => !ltP x.path p) := by
 induction t with
 | nil => exact ⟨rfl, rfl⟩
 | cons x t ih =>
  obtain ⟨i1, i2⟩ := ih (VC h)
  rcases ql (ltP x.path p) with hx | hx
  ·simp only [List.takeWhile_cons, List.dropWhile_cons, List.filter_cons, hx, if_true, i1, i2]
   simp
  ·have hall := Jp h hx
   have h1 : t.filter (fun x => ltP x.path p) = [] := List.filter_eq_nil_iff.2 fun y hy => by rw [hall y hy]; simp
   have h2 : t.filter (fun x => !ltP x.path p) = t := List.filter_eq_self.2 fun y hy => by rw [hall y hy]; rfl
   simp [List.takeWhile_cons, List.dropWhile_cons, List.filter_cons, hx, h1, h2]
theorem putN_place {t : List Nd} {n : Nd} (h : yt (t.map (·.path))) : Gv t n = Qx (t.filter fun x => !decide (x.path = n.path)) n := by
 obtain ⟨h1, h2⟩ := rise_while (p := n.path) h
 unfold Gv Qx
 rw [h1, h2, List.filter_filter, List.filter_filter]
 have e1 : t.filter (fun x => ltP x.path n.path && !decide (x.path = n.path)) = t.filter (fun x => ltP x.path n.path) := by
  refine List.filter_congr fun x _ => ?_
  rcases ql (ltP x.path n.path) with h3 | h3
  ·rw [h3, decide_eq_false (VM h3)]; rfl
  ·rw [h3]; rfl
 rw [e1]
 congr 2
 have hr := Vq (fun x : Nd => x.path) (fun x => !ltP x.path n.path) h
 have hnl : ∀ x ∈ t.filter (fun x => !ltP x.path n.path), ltP x.path n.path = false := fun x hx => by simpa using (List.mem_filter.1 hx).2
 have e2 : t.filter (fun x => (!ltP x.path n.path) && !decide (x.path = n.path)) = (t.filter (fun x => !ltP x.path n.path)).filter fun x => !decide (x.path = n.path) := by
  rw [List.filter_filter]
  exact List.filter_congr fun x _ => Bool.and_comm _ _
 rw [e2]
 cases hd : t.filter (fun x => !ltP x.path n.path) with
 | nil => rfl
 | cons y r =>
  rw [hd] at hr hnl
  have hrest : ∀ x ∈ r, x.path ≠ n.path := by
   intro x hx e
   have h3 : ltP y.path x.path = true := Ya hr x.path (List.mem_map_of_mem hx)
   rw [e, hnl y (List.mem_cons_self ..)] at h3; cases h3
  have hfr : r.filter (fun x => !decide (x.path = n.path)) = r := List.filter_eq_self.2 fun x hx => by rw [decide_eq_false (hrest x hx)]; rfl
  by_cases e : y.path = n.path
  ·simp [e, hfr]
  ·simp [e, hfr]
def doS (t : List Nd) (r : Rec) : List Nd :=
 if r.kind = 4 then ye t r.path true
 else if r.kind ≠ 3 ∨ r.opq = true ∨ (0 ≤ vd t r.path ∧ (gt t (vd t r.path)).kind ≠ 3) then Gv (ye t r.path false) (jP r) else Gv t (jP r)
def doI (t : List Nd) (r : Rec) : List Nd :=
 if (r.kind = 3 ∧ r.opq = false) ∧ 0 ≤ vd t r.path ∧ (gt t (vd t r.path)).kind = 3 then Y2 t (vd t r.path) ⟨(gt t (vd t r.path)).kind, (gt t (vd t r.path)).path, (gt t (vd t r.path)).body, r.mode⟩
 else if r.kind = 4 then ye t r.path true else Qx (ye t r.path true) (jP r)
def VG (r : Rec) : Option Nd := if r.kind = 4 then none else some (jP r)
def YD (t : List Nd) (r : Rec) (p : List UInt8) : Option Nd := if p = r.path then VG r else if vz r && vu p r.path then none else y5 t p
theorem dir_body {r : Rec} (h : qx r = 0) (hk : r.kind = 3) : r.body = [] := by
 unfold qx at h
 split at h
 ·omega
 ·split at h
  ·omega
  ·split at h
   ·omega
   ·split at h
    ·omega
    ·rename_i h4
     by_cases e : r.body = []
     ·exact e
     ·exact absurd (by simp [hk, e]) h4
theorem VD {t : List Nd} (h : yt (t.map (·.path))) {p : List UInt8} (hp : p ≠ []) (b : Bool) (q : List UInt8) : y5 (ye t p b) q = if vu q p || (b && decide (q = p)) then none else y5 t q := by
 unfold ye
 rw [Gq h]
 cases hl : y5 t q with
 | none => rw [ite_self]; rfl
 | some x =>
  have e := (jD hl).2
  subst e
  simp only [hp, decide_false, Bool.false_and, Bool.false_or, Option.filter_some]
  cases vu x.path p <;> cases b <;> cases hd : decide (x.path = p) <;> simp
theorem VF {t : List Nd} (h : yt (t.map (·.path))) (p : List UInt8) (b : Bool) : yt ((ye t p b).map (·.path)) := Vq _ _ h
theorem XB {t : List Nd} (h : Wood t) {p q : List UInt8} (hb : vu q p = true) (hd : ∀ m ∈ t, m.path = p → m.kind ≠ 3) : y5 t q = none := by
 cases hl : y5 t q with
 | none => rfl
 | some n =>
  obtain ⟨hn, e⟩ := jD hl
  subst e
  obtain ⟨m, hm, h1, h2⟩ := h.above hn hb
  exact absurd h2 (hd m hm h1)
theorem putN_look {t : List Nd} (h : yt (t.map (·.path))) (n : Nd) : yt ((Gv t n).map (·.path)) ∧ ∀ p, y5 (Gv t n) p = if p = n.path then some n else y5 t p := by
 rw [putN_place h]
 have hr := Vq (fun x : Nd => x.path) (fun x => !decide (x.path = n.path)) h
 have hn : n.path ∉ (t.filter fun x => !decide (x.path = n.path)).map (fun x : Nd => x.path) := by
  intro hm
  obtain ⟨x, hx, e⟩ := List.mem_map.1 hm
  have := (List.mem_filter.1 hx).2
  simp [e] at this
 obtain ⟨h1, h2⟩ := X3 hr hn
 refine ⟨h1, fun p => ?_⟩
 rw [h2]
 by_cases e : p = n.path
 ·simp [e]
 ·simp only [if_neg e]
  rw [Gq h]
  cases hl : y5 t p with
  | none => rfl
  | some x =>
   have e2 := (jD hl).2
   subst e2
   rw [Option.filter_some, decide_eq_false e]; rfl
theorem G7 {r : Rec} (h : qx r = 0) : r.path ≠ [] := GZ (yg h)
theorem Xy {t : List Nd} {r : Rec} (h : Wood t) (hr : qx r = 0) : yt ((doS t r).map (·.path)) ∧ ∀ p, y5 (doS t r) p = YD t r p := by
 have hne := G7 hr
 unfold doS YD VG
 by_cases h4 : r.kind = 4
 ·have hst : vz r = true := by simp [vz, h4]
  rw [if_pos h4]
  refine ⟨VF h.rise _ _, fun p => ?_⟩
  rw [VD h.rise hne]
  by_cases e : p = r.path
  ·simp [e, h4]
  ·simp [e, hst]
 ·rw [if_neg h4]
  by_cases hc : r.kind ≠ 3 ∨ r.opq = true ∨ (0 ≤ vd t r.path ∧ (gt t (vd t r.path)).kind ≠ 3)
  ·rw [if_pos hc]
   obtain ⟨h1, h2⟩ := putN_look (VF h.rise r.path false) (jP r)
   refine ⟨h1, fun p => ?_⟩
   rw [h2]
   have hpath : (jP r).path = r.path := rfl
   by_cases e : p = r.path
   ·rw [if_pos (by rw [e]; rfl), if_pos e, if_neg h4]
   ·rw [if_neg (by rw [hpath]; exact e), if_neg e, VD h.rise hne]
    simp only [Bool.false_and, Bool.or_false]
    rcases ql (vz r) with hs | hs
    ·rw [hs]; rfl
    ·rw [hs]
     simp only [Bool.false_and, Bool.false_eq_true, if_false]
     rcases ql (vu p r.path) with hb | hb
     ·rw [hb, if_pos rfl]
      have hs2 : r.kind = 3 ∧ r.opq = false := by simpa [vz] using hs
      rcases hc with hc | hc | hc
      ·exact absurd hs2.1 hc
      ·rw [hs2.2] at hc; cases hc
      ·refine (XB h hb fun m hm e2 => ?_).symm
       have hl := Qa h.rise hm
       rw [e2] at hl
       rw [(QI t r.path).2 m hl] at hc
       exact hc.2
     ·rw [hb]; rfl
  ·rw [if_neg hc]
   obtain ⟨h1, h2⟩ := putN_look h.rise (jP r)
   refine ⟨h1, fun p => ?_⟩
   rw [h2]
   have hpath : (jP r).path = r.path := rfl
   have hs : vz r = false := by
    simp only [not_or, ne_eq, Decidable.not_not] at hc
    simp only [vz, hc.1, decide_true, Bool.not_true, Bool.false_or]
    cases ho : r.opq with
    | false => rfl
    | true => exact absurd ho hc.2.1
   by_cases e : p = r.path
   ·rw [if_pos (by rw [e]; rfl), if_pos e, if_neg h4]
   ·rw [if_neg (by rw [hpath]; exact e), if_neg e, hs]; rfl
theorem set_look {t : List Nd} {n : Nd} (h : yt (t.map (·.path))) {k : Nat} (hk : k < t.length) (hp : n.path = (t.getD k default).path) : yt ((t.set k n).map (·.path)) ∧ ∀ p, y5 (t.set k n) p = if p = n.path then some n else y5 t p := by
 have hm : (t.set k n).map (fun x : Nd => x.path) = t.map (fun x : Nd => x.path) := by
  rw [List.map_set, hp, vY hk]
  apply List.ext_getElem
  ·simp
  ·intro i h1 h2
   rw [List.getElem_set]
   split
   ·rename_i e; subst e; simp
   ·rfl
 have hr : yt ((t.set k n).map (fun x : Nd => x.path)) := by rw [hm]; exact h
 refine ⟨hr, fun p => ?_⟩
 by_cases e : p = n.path
 ·subst e; rw [if_pos rfl]
  exact Qa hr (List.mem_set hk n)
 ·rw [if_neg e]
  have key : ∀ x, y5 (t.set k n) p = some x ↔ y5 t p = some x := by
   intro x
   constructor
   ·intro hx
    obtain ⟨h1, h2⟩ := jD hx
    rw [← h2]
    rcases List.mem_or_eq_of_mem_set h1 with h1 | h1
    ·exact Qa h h1
    ·exact absurd (by rw [← h2, h1]) e
   ·intro hx
    obtain ⟨h1, h2⟩ := jD hx
    rw [← h2]
    refine Qa hr ?_
    obtain ⟨j, hj, rfl⟩ := List.getElem_of_mem h1
    have hjk : k ≠ j := fun e2 => e (by subst e2; rw [← h2, hp, vY hk])
    rw [List.mem_iff_getElem]
    exact ⟨j, by simpa using hj, by rw [List.getElem_set_ne hjk]⟩
  cases hl : y5 t p with
  | none =>
   cases hl2 : y5 (t.set k n) p with
   | none => rfl
   | some x => rw [(key x).1 hl2] at hl; cases hl
  | some x => exact (key x).2 hl
theorem doI_spec {t : List Nd} {r : Rec} (h : Wood t) (hr : qx r = 0) : yt ((doI t r).map (·.path)) ∧ ∀ p, y5 (doI t r) p = YD t r p := by
 have hne := G7 hr
 unfold doI YD VG
 by_cases hc : (r.kind = 3 ∧ r.opq = false) ∧ 0 ≤ vd t r.path ∧ (gt t (vd t r.path)).kind = 3
 ·rw [if_pos hc]
  obtain ⟨⟨h3, ho⟩, hf, hk⟩ := hc
  have hs : vz r = false := by simp [vz, h3, ho]
  obtain ⟨m, hm⟩ : ∃ m, y5 t r.path = some m := by
   cases hl : y5 t r.path with
   | none => exact absurd hl ((QI t r.path).1.1 hf)
   | some m => exact ⟨m, rfl⟩
  have hg := (QI t r.path).2 m hm
  obtain ⟨hmt, hmp⟩ := jD hm
  rw [hg] at hk ⊢
  have hin := GL (t := t) (p := r.path) (by omega)
  have hlt : (vd t r.path).toNat < t.length := by have := Qs hin; omega
  have hgd : t.getD (vd t r.path).toNat default = m := hg
  have hb1 : m.body = [] := dir_body (r := QQ m) (nodeOK_fault (h.ok m hmt)).1 hk
  have hb2 : r.body = [] := dir_body hr h3
  have hnd : (⟨m.kind, m.path, m.body, r.mode⟩ : Nd) = jP r := by unfold jP; rw [hk, hmp, hb1, h3, hb2]
  rw [hnd]
  obtain ⟨h1, h2⟩ := set_look (n := jP r) h.rise hlt (by rw [hgd]; exact hmp.symm)
  refine ⟨h1, fun p => ?_⟩
  have := h2 p
  unfold Y2
  rw [this]
  have h4 : r.kind ≠ 4 := by omega
  by_cases e : p = r.path
  ·rw [if_pos (by rw [e]; rfl), if_pos e, if_neg h4]
  ·rw [if_neg (show ¬ p = (jP r).path from e), if_neg e, hs]; rfl
 ·rw [if_neg hc]
  by_cases h4 : r.kind = 4
  ·have hst : vz r = true := by simp [vz, h4]
   rw [if_pos h4]
   refine ⟨VF h.rise _ _, fun p => ?_⟩
   rw [VD h.rise hne]
   by_cases e : p = r.path
   ·simp [e, h4]
   ·simp [e, hst]
  ·rw [if_neg h4]
   have hn : (jP r).path ∉ (ye t r.path true).map (fun x : Nd => x.path) := by
    intro hm
    have := (QS (fun n : Nd => n.path)).1 hm
    exact this (by show y5 (ye t r.path true) r.path = none; rw [VD h.rise hne]; simp)
   obtain ⟨h1, h2⟩ := X3 (VF h.rise r.path true) hn
   refine ⟨h1, fun p => ?_⟩
   rw [h2]
   by_cases e : p = r.path
   ·rw [if_pos (by rw [e]; rfl), if_pos e, if_neg h4]
   ·rw [if_neg (show ¬ p = (jP r).path from e), if_neg e, VD h.rise hne]
    simp only [e, decide_false, Bool.and_false, Bool.or_false]
    rcases ql (vz r) with hs | hs
    ·rw [hs]; rfl
    ·rw [hs]
     simp only [Bool.false_and, Bool.false_eq_true, if_false]
     rcases ql (vu p r.path) with hb | hb
     ·rw [hb, if_pos rfl]
      have hs2 : r.kind = 3 ∧ r.opq = false := by simpa [vz] using hs
      refine (XB h hb fun m hm e2 hk => hc ?_).symm
      have hl := Qa h.rise hm
      rw [e2] at hl
      refine ⟨hs2, (QI t r.path).1.2 (by rw [hl]; simp), ?_⟩
      rw [(QI t r.path).2 m hl]; exact hk
     ·rw [hb]; rfl
theorem doI_doS {t : List Nd} {r : Rec} (h : Wood t) (hr : qx r = 0) : doI t r = doS t r := by
 obtain ⟨a1, a2⟩ := doI_spec h hr
 obtain ⟨b1, b2⟩ := Xy h hr
 exact Jk (fun n : Nd => n.path) a1 b1 fun p => (a2 p).trans (b2 p).symm
theorem Qe (r : Rec) : qx r = 0 ↔ within r.kind 1 4 = true ∧ qH r.path = true ∧ (decide (20 < r.body.length) || (decide (r.kind = 2) && decide (r.body = []))) = false ∧
  (((decide (r.kind = 3) || decide (r.kind = 4)) && !decide (r.body = [])) || (!decide (r.kind = 3) && r.opq)) = false ∧ (!within r.mode 0 511 || ((decide (r.kind = 2) || decide (r.kind = 4)) && !decide (r.mode = 0))) = false := by
 unfold qx
 generalize (!within r.mode 0 511 || ((decide (r.kind = 2) || decide (r.kind = 4)) && !decide (r.mode = 0))) = c5
 generalize (((decide (r.kind = 3) || decide (r.kind = 4)) && !decide (r.body = [])) || (!decide (r.kind = 3) && r.opq)) = c4
 generalize (decide (20 < r.body.length) || (decide (r.kind = 2) && decide (r.body = []))) = c3
 cases within r.kind 1 4 <;> cases qH r.path <;> cases c3 <;> cases c4 <;> cases c5 <;> simp
theorem Va {r : Rec} (h : qx r = 0) (b : Bool) (hb : b = true → r.kind = 3) : qx ⟨r.kind, r.path, r.body, r.mode, b⟩ = 0 := by
 obtain ⟨h1, h2, h3, h4, h5⟩ := (Qe r).1 h
 refine (Qe _).2 ⟨h1, h2, h3, ?_, h5⟩
 rw [Bool.or_eq_false_iff] at h4 ⊢
 refine ⟨h4.1, ?_⟩
 cases b with
 | false => simp
 | true => simp [hb rfl]
theorem G8 {r : Rec} (hr : qx r = 0) (h4 : r.kind ≠ 4) : nodeOK (jP r) = true := by
 simp only [nodeOK, Bool.and_eq_true, decide_eq_true_eq, Bool.not_eq_true', decide_eq_false_iff_not]
 exact ⟨Va hr false (fun h => by cases h), h4⟩
theorem doS_wood {t : List Nd} {r : Rec} (h : Wood t) (hr : qx r = 0) (hp : qc r.path ≠ [] → ∃ m ∈ t, m.path = qc r.path ∧ m.kind = 3) : Wood (doS t r) := by
 obtain ⟨b1, b2⟩ := Xy h hr
 have hmem : ∀ n ∈ doS t r, YD t r n.path = some n := fun n hn => by rw [← b2]; exact Qa b1 hn
 have hback : ∀ p x, YD t r p = some x → x ∈ doS t r ∧ x.path = p := fun p x hx => by rw [← b2] at hx; exact jD hx
 refine ⟨b1, fun n hn => ?_, fun n hn hpp => ?_⟩
 ·have := hmem n hn
  unfold YD at this
  split at this
  ·unfold VG at this
   split at this
   ·cases this
   ·rename_i h4; rw [← Option.some.inj this]; exact G8 hr h4
  ·split at this
   ·cases this
   ·exact h.ok n (jD this).1
 ·have hs := hmem n hn
  unfold YD at hs
  by_cases e : n.path = r.path
  ·rw [e] at hpp
   obtain ⟨m, hm, h1, h2⟩ := hp hpp
   have hb := jb hpp
   have hx : YD t r (qc r.path) = some m := by
    unfold YD
    rw [if_neg (fun e2 => XP hb e2.symm), Xe hb, Bool.and_false, ← h1]
    exact Qa h.rise hm
   obtain ⟨g1, g2⟩ := hback _ _ hx
   exact ⟨m, g1, by rw [g2, e], h2⟩
  ·rw [if_neg e] at hs
   split at hs
   ·cases hs
   ·rename_i hns
    have hnt := (jD hs).1
    have hnok := Q2 (h.ok n hnt)
    obtain ⟨m, hm, h1, h2⟩ := h.par n hnt hpp
    have hb := jb hpp
    by_cases e2 : qc n.path = r.path
    ·
     rw [e2] at hb
     have hst : vz r = false := by
      rcases ql (vz r) with h3 | h3
      ·exact absurd (by rw [h3, hb]; rfl) hns
      ·exact h3
     have h3 : r.kind = 3 := by
      have : r.kind = 3 ∧ r.opq = false := by simpa [vz] using hst
      exact this.1
     have hx : YD t r (qc n.path) = some (jP r) := by
      unfold YD VG
      rw [if_pos e2, if_neg (by omega)]
     obtain ⟨g1, g2⟩ := hback _ _ hx
     exact ⟨_, g1, g2, h3⟩
    ·have hx : YD t r (qc n.path) = some m := by
      unfold YD
      rw [if_neg e2]
      rw [if_neg (fun h3 => hns ?_), ← h1]
      ·exact Qa h.rise hm
      ·rw [Bool.and_eq_true] at h3
       rw [h3.1, Yf hb h3.2]; rfl
     obtain ⟨g1, g2⟩ := hback _ _ hx
     exact ⟨m, g1, g2, h2⟩
def vC (l : List Rec) (t : List Nd) : List Nd := l.foldl doS t
theorem Xd (l : List Rec) (r : Rec) (t : List Nd) : vC (l ++ [r]) t = doS (vC l t) r := by simp [vC]
def seenL (l : List Rec) (t : List Nd) (p : List UInt8) : Option Nd := match ve l p with
 | some r => VG r
 | none => if vL l p then none else y5 t p
theorem yi (l : List Rec) (p : List UInt8) : vL l p = true ↔ ∃ x ∈ jK p, ∃ r, ve l x = some r ∧ vz r = true := by
 unfold vL
 rw [List.any_eq_true]
 constructor
 ·rintro ⟨x, hx, h⟩
  rw [Bool.and_eq_true, decide_eq_true_eq] at h
  cases hl : ve l x with
  | none => exact absurd hl ((je l x).1.1 h.1)
  | some r =>
   rw [(je l x).2 r hl] at h
   exact ⟨x, hx, r, hl, h.2⟩
 ·rintro ⟨x, hx, r, hl, h⟩
  refine ⟨x, hx, ?_⟩
  rw [Bool.and_eq_true, decide_eq_true_eq, (je l x).2 r hl]
  exact ⟨(je l x).1.2 (by rw [hl]; simp), h⟩
theorem jW (l : List Rec) (p : List UInt8) : yz l p = true ↔ ∃ x ∈ jK p, ∃ r, ve l x = some r ∧ r.opq = true := by
 unfold yz
 rw [List.any_eq_true]
 constructor
 ·rintro ⟨x, hx, h⟩
  rw [Bool.and_eq_true, decide_eq_true_eq] at h
  cases hl : ve l x with
  | none => exact absurd hl ((je l x).1.1 h.1)
  | some r =>
   rw [(je l x).2 r hl] at h
   exact ⟨x, hx, r, hl, h.2⟩
 ·rintro ⟨x, hx, r, hl, h⟩
  refine ⟨x, hx, ?_⟩
  rw [Bool.and_eq_true, decide_eq_true_eq, (je l x).2 r hl]
  exact ⟨(je l x).1.2 (by rw [hl]; simp), h⟩
theorem JY {l : List Rec} {r : Rec} (h : yt ((l ++ [r]).map (·.path))) (p : List UInt8) : ve (l ++ [r]) p = if p = r.path then some r else ve l p := by
 have hl : yt (l.map (fun r : Rec => r.path)) := by
  rw [List.map_append] at h
  exact (List.pairwise_append.1 h).1
 by_cases e : p = r.path
 ·subst e; rw [if_pos rfl]; exact Y0 h (by simp)
 ·rw [if_neg e]
  unfold ve yq
  rw [List.find?_append]
  have : List.find? (fun x : Rec => decide (x.path = p)) [r] = none := by simp [Ne.symm e]
  rw [this]; simp
theorem Xb {l : List Rec} {p : List UInt8} : ve l p ≠ none ↔ p ∈ l.map (·.path) := (QS (fun r : Rec => r.path)).symm
theorem Sheet.init {l : List Rec} {r : Rec} (h : Sheet (l ++ [r])) : Sheet l ∧ (∀ x ∈ l, ltP x.path r.path = true) ∧ qx r = 0 ∧ (qc r.path ≠ [] → ∃ q ∈ l, q.path = qc r.path ∧ q.kind = 3) := by
 have hr := h.rise
 rw [List.map_append] at hr
 obtain ⟨h1, _, h3⟩ := List.pairwise_append.1 hr
 have hlt : ∀ x ∈ l, ltP x.path r.path = true := fun x hx => h3 x.path (List.mem_map_of_mem hx) r.path (by simp)
 refine ⟨⟨h1, fun x hx => h.ok x (List.mem_append_left _ hx), fun x hx hp => ?_⟩, hlt, h.ok r (by simp), fun hp => ?_⟩
 ·obtain ⟨q, hq, e, hk⟩ := h.par x (List.mem_append_left _ hx) hp
  rcases List.mem_append.1 hq with hq | hq
  ·exact ⟨q, hq, e, hk⟩
  ·rw [List.mem_singleton.1 hq] at e
   have h4 := YA hp
   rw [← e, VW (hlt x hx)] at h4; cases h4
 ·obtain ⟨q, hq, e, hk⟩ := h.par r (by simp) hp
  rcases List.mem_append.1 hq with hq | hq
  ·exact ⟨q, hq, e, hk⟩
  ·rw [List.mem_singleton.1 hq] at e
   have h4 := YA hp
   rw [← e, VU] at h4; cases h4
theorem list_snoc {α : Type} : ∀ (n : Nat) (l : List α), l.length = n + 1 → ∃ m x, l = m ++ [x] ∧ m.length = n := by
 intro n l h
 have hne : l ≠ [] := fun e => by rw [e] at h; cases h
 exact ⟨l.dropLast, l.getLast hne, (List.dropLast_concat_getLast hne).symm, by simp; omega⟩
theorem YK (t : List Nd) (ht : Wood t) : ∀ (n : Nat) (l : List Rec), l.length = n → Sheet l → Wood (vC l t) ∧ (∀ p, y5 (vC l t) p = seenL l t p) ∧ (vC l t).length ≤ t.length + n ∧ l.foldl doI t = vC l t := by
 intro n
 induction n with
 | zero =>
  intro l hn _
  have : l = [] := List.eq_nil_of_length_eq_zero hn
  subst this
  refine ⟨ht, fun p => ?_, by simp [vC], rfl⟩
  have : vL [] p = false := by
   rcases ql (vL [] p) with h | h
   ·obtain ⟨x, _, r, hl, _⟩ := (yi [] p).1 h; cases hl
   ·exact h
  show y5 t p = if vL [] p then none else y5 t p
  rw [this]; rfl
 | succ n ih =>
  intro l hn hl
  obtain ⟨m, r, rfl, hm⟩ := list_snoc n l hn
  obtain ⟨hs, hlt, hr, hpar⟩ := hl.init
  obtain ⟨i1, i2, i3, i4⟩ := ih m hm hs
  have hpw : qc r.path ≠ [] → ∃ q ∈ vC m t, q.path = qc r.path ∧ q.kind = 3 := by
   intro hp
   obtain ⟨q, hq, e, hk⟩ := hpar hp
   have hlook : y5 (vC m t) (qc r.path) = some (jP q) := by
    rw [i2]
    unfold seenL
    rw [← e, Y0 hs.rise hq]
    show VG q = _
    unfold VG; rw [if_neg (by omega)]
   obtain ⟨g1, g2⟩ := jD hlook
   exact ⟨jP q, g1, g2, hk⟩
  rw [Xd]
  obtain ⟨b1, b2⟩ := Xy i1 hr
  have hw := doS_wood i1 hr hpw
  refine ⟨hw, fun p => ?_, ?_, by rw [List.foldl_append, i4]; exact doI_doS i1 hr⟩
  ·rw [b2]
   unfold YD seenL
   rw [JY hl.rise]
   by_cases e : p = r.path
   ·rw [if_pos e, if_pos e]
   ·rw [if_neg e, if_neg e]
    have hcut : ∀ x ∈ jK p, ve (m ++ [r]) x = if x = r.path then some r else ve m x := fun x _ => JY hl.rise x
    by_cases hsb : (vz r && vu p r.path) = true
    ·rw [if_pos hsb]
     rw [Bool.and_eq_true] at hsb
     have hno : ve m p = none := by
      cases hlm : ve m p with
      | none => rfl
      | some q =>
       obtain ⟨h1, h2⟩ := jc hlm
       have h3 := hlt q h1
       rw [h2, VW (GX hsb.2)] at h3; cases h3
     rw [hno]
     by_cases hpo : r.path ∈ jK p
     ·have : vL (m ++ [r]) p = true := (yi _ _).2 ⟨r.path, hpo, r, by rw [JY hl.rise, if_pos rfl], hsb.1⟩
      simp only [this, if_true]
     ·
      have hc : y5 t p = none := by
       cases hlt2 : y5 t p with
       | none => rfl
       | some q =>
        obtain ⟨h1, h2⟩ := jD hlt2
        exact absurd (Yz (by rw [← h2]; exact Q2 (ht.ok q h1)) hsb.2) hpo
      simp only [hc, ite_self]
    ·rw [if_neg hsb, i2]
     unfold seenL
     cases hlm : ve m p with
     | some q => rfl
     | none =>
      have : vL (m ++ [r]) p = vL m p := by
       rw [Bool.eq_iff_iff, yi, yi]
       constructor
       ·rintro ⟨x, hx, q, hq, hst⟩
        rw [hcut x hx] at hq
        by_cases e2 : x = r.path
        ·rw [if_pos e2] at hq
         have : r = q := Option.some.inj hq
         subst this
         exact absurd (by rw [hst, ← e2, QO hx]; rfl) hsb
        ·rw [if_neg e2] at hq
         exact ⟨x, hx, q, hq, hst⟩
       ·rintro ⟨x, hx, q, hq, hst⟩
        refine ⟨x, hx, q, ?_, hst⟩
        rw [hcut x hx, if_neg (fun e2 => ?_)]
        ·exact hq
        ·have h3 := hlt q (jc hq).1
         rw [(jc hq).2, e2, VU] at h3; cases h3
      simp only [this]
  ·refine Nat.le_trans ?_ (show (vC m t).length + 1 ≤ t.length + (n + 1) by omega)
   have hput : ∀ (s : List Nd) (x : Nd), (Gv s x).length ≤ s.length + 1 := by
    intro s x
    unfold Gv
    have hl2 : (s.takeWhile fun y => ltP y.path x.path).length + (s.dropWhile fun y => ltP y.path x.path).length = s.length := by
     rw [← List.length_append, List.takeWhile_append_dropWhile]
    cases hd : s.dropWhile (fun y => ltP y.path x.path) with
    | nil => simp; rw [hd] at hl2; simp at hl2; omega
    | cons y q =>
     rw [hd] at hl2
     simp only [List.length_append, List.length_cons] at hl2 ⊢
     split
     ·omega
     ·simp only [List.length_cons]; omega
   unfold doS
   split
   ·have := YH (vC m t) r.path true; omega
   ·split
    ·have h1 := YH (vC m t) r.path false
     have h2 := hput (ye (vC m t) r.path false) (jP r)
     omega
    ·exact hput _ _
theorem Sheet.take {l : List Rec} (h : Sheet l) (i : Nat) : Sheet (l.take i) := by
 refine ⟨GS (fun r : Rec => r.path) h.rise i, fun r hr => h.ok r (List.mem_of_mem_take hr), fun r hr hp => ?_⟩
 obtain ⟨q, hq, e, hk⟩ := h.par r (List.mem_of_mem_take hr) hp
 obtain ⟨j, hj, rfl⟩ := List.mem_take_iff_getElem.1 hr
 have hjl : j < l.length := by omega
 have hlt : ltP q.path (l.getD j default).path = true := by rw [e, vY hjl]; exact YA hp
 have hq2 := idx_lt (fun r : Rec => r.path) h.rise hjl hq hlt
 refine ⟨q, ?_, e, hk⟩
 have : l.take j = (l.take i).take j := by rw [List.take_take, Nat.min_eq_left (by omega)]
 rw [this] at hq2
 exact List.mem_of_mem_take hq2
def okT (l : List Rec) (t : List Nd) : Bool := decide ((qv l).2 = 0) && XX t
theorem okT_of {l : List Rec} {t : List Nd} (h : okT l t = true) : Sheet l ∧ Wood t := by
 rw [okT, Bool.and_eq_true, decide_eq_true_eq] at h
 exact ⟨G5 h.1, wood_of h.2⟩
theorem okT_mk {l : List Rec} {t : List Nd} (h : (qv l).2 = 0) (k : Wood t) : okT l t = true := by rw [okT, decide_eq_true h, wood_ok k]; rfl
theorem Gb {t : List Nd} (h : Wood t) : ∀ x ∈ t, x.path.length ≤ 1048576 := fun x hx => yU (Q2 (h.ok x hx))
def qZ.b1 (a0 : List Nd) (a1 : Nd) : Int → Option (Step (List Nd) (Int) (Int)) :=
 fun x5_7 => bif (!(decide (x5_7 < (a0.length : Int))) || (inR x5_7 a0.length)) then (bif (!(decide (x5_7 < (a0.length : Int))) || (decide (((gt a0 x5_7).path).length ≤ 1048576))) then (bif (!(decide (x5_7 < (a0.length : Int))) || (decide (a1.path.length ≤ 1048576))) then (bif ((decide (x5_7 < (a0.length : Int))) && (vw (cut 47 ((gt a0 x5_7).path)) (cut 47 a1.path))) then (some (.nxt (IntKind.wrap .i64 (x5_7 + 1)))) else (some (.brk x5_7))) else none) else none) else none
def qZ.sh (k : Nat) (a0 : List Nd) (a1 : Nd) : Option (List Nd) :=
  (qp (qZ.b1 a0 a1) k 0).bind fun z => match z with | .inl t => some t | .inr x5_11 => bif inS x5_11 (a0.length : Int) (a0.length : Int) then (bif (!(decide (x5_11 < (a0.length : Int))) || (inR x5_11 a0.length)) then (bif ((decide (x5_11 < (a0.length : Int))) && (decide (((gt a0 x5_11).path) = a1.path))) then (bif inS (IntKind.wrap .i64 (x5_11 + 1)) (a0.length : Int) (a0.length : Int) then (bif inS 0 x5_11 (a0.length : Int) then (bif decide ((([] : List Nd).length + (sub a0 0 x5_11).length) * 48 ≤ 140737488355328) then (bif decide (((([] : List Nd) ++ (sub a0 0 x5_11)).length + ([a1] : List Nd).length) * 48 ≤ 140737488355328) then (bif decide ((((([] : List Nd) ++ (sub a0 0 x5_11)) ++ ([a1] : List Nd)).length + (sub a0 (IntKind.wrap .i64 (x5_11 + 1)) (a0.length : Int)).length) * 48 ≤ 140737488355328) then (some (((([] : List Nd) ++ (sub a0 0 x5_11)) ++ ([a1] : List Nd)) ++ (sub a0 (IntKind.wrap .i64 (x5_11 + 1)) (a0.length : Int)))) else none) else none) else none) else none) else none) else (bif inS 0 x5_11 (a0.length : Int) then (bif decide ((([] : List Nd).length + (sub a0 0 x5_11).length) * 48 ≤ 140737488355328) then (bif decide (((([] : List Nd) ++ (sub a0 0 x5_11)).length + ([a1] : List Nd).length) * 48 ≤ 140737488355328) then (bif decide ((((([] : List Nd) ++ (sub a0 0 x5_11)) ++ ([a1] : List Nd)).length + (sub a0 x5_11 (a0.length : Int)).length) * 48 ≤ 140737488355328) then (some (((([] : List Nd) ++ (sub a0 0 x5_11)) ++ ([a1] : List Nd)) ++ (sub a0 x5_11 (a0.length : Int)))) else none) else none) else none) else none)) else none) else none
theorem while_run {t : List Nd} {n : Nd} (h0 : t.length ≤ 1000000) (h1 : ∀ x ∈ t, x.path.length ≤ 1048576) (h2 : n.path.length ≤ 1048576) :
  qp (qZ.b1 t n) (t.length + 1) 0 = some (.inr ((t.takeWhile fun x => ltP x.path n.path).length : Int)) := by
 have key : ∀ (d i k : Nat), i + d = t.length → d < k → qp (qZ.b1 t n) k (i : Int) = some (.inr ((i + ((t.drop i).takeWhile fun x => ltP x.path n.path).length : Nat) : Int)) := by
  intro d
  induction d with
  | zero =>
   intro i k hi hk
   obtain ⟨k, rfl⟩ : ∃ m, k = m + 1 := ⟨k - 1, by omega⟩
   have d1 : decide ((i : Int) < (t.length : Int)) = false := decide_eq_false (by omega)
   have hd : t.drop i = [] := List.drop_eq_nil_of_le (by omega)
   rw [qp, hd]
   simp only [qZ.b1, d1, Bool.not_false, Bool.true_or, Bool.false_and, cond_true, cond_false, List.takeWhile_nil, List.length_nil, Nat.add_zero]; rfl
  | succ d ih =>
   intro i k hi hk
   obtain ⟨k, rfl⟩ : ∃ m, k = m + 1 := ⟨k - 1, by omega⟩
   have hlt : i < t.length := by omega
   have d1 : decide ((i : Int) < (t.length : Int)) = true := decide_eq_true (by omega)
   have p1 : decide ((gt t (i : Int)).path.length ≤ 1048576) = true := decide_eq_true (by rw [vZ, vY hlt]; exact h1 _ (List.getElem_mem hlt))
   have w1 : IntKind.wrap .i64 ((i : Int) + 1) = ((i + 1 : Nat) : Int) := by rw [wrap_small (by omega) (by omega)]; omega
   rw [qp, QM hlt]
   simp only [qZ.b1, d1, qV hlt, p1, decide_eq_true h2, Bool.not_true, Bool.false_or, Bool.true_and, cond_true, w1]
   rcases ql (vw (cut 47 (gt t (i : Int)).path) (cut 47 n.path)) with hl | hl
   ·have hl' : ltP (gt t (i : Int)).path n.path = true := hl
    rw [hl]
    simp only [cond_true, List.takeWhile_cons, hl', if_true, List.length_cons]
    refine (ih (i + 1) k (by omega) (by omega)).trans ?_
    congr 2; omega
   ·have hl' : ltP (gt t (i : Int)).path n.path = false := hl
    rw [hl]
    simp only [cond_false, List.takeWhile_cons, hl', Bool.false_eq_true, if_false, List.length_nil, Nat.add_zero]; rfl
 have := key t.length 0 (t.length + 1) (by omega) (by omega)
 rw [List.drop_zero, Nat.zero_add] at this
 exact this
theorem X5 {α : Type} (q : α → Bool) (t : List α) : t.take (t.takeWhile q).length = t.takeWhile q ∧ t.drop (t.takeWhile q).length = t.dropWhile q := by
 have h : t = t.takeWhile q ++ t.dropWhile q := List.takeWhile_append_dropWhile.symm
 constructor
 ·conv => lhs; rw [h]
  rw [List.take_append_of_le_length (by simp)]; simp
 ·conv => lhs; rw [h]
  have : (t.takeWhile q ++ t.dropWhile q).takeWhile q = t.takeWhile q := by rw [← h]
  rw [this, List.drop_left]
theorem qZ.eq (a0 : List Nd) (a1 : Nd) (h0 : a0.length ≤ 1000000) (h1 : ∀ x ∈ a0, x.path.length ≤ 1048576) (h2 : a1.path.length ≤ 1048576) : ∃ k, qZ.sh k a0 a1 = some (Gv a0 a1) := by
 refine ⟨a0.length + 1, ?_⟩
 unfold qZ.sh
 rw [while_run h0 h1 h2]
 obtain ⟨c, hc⟩ : ∃ c, c = (a0.takeWhile fun x => ltP x.path a1.path).length := ⟨_, rfl⟩
 obtain ⟨t1, t2⟩ := X5 (fun x : Nd => ltP x.path a1.path) a0
 rw [← hc] at t1 t2 ⊢
 have hle : c ≤ a0.length := by rw [hc]; exact (List.takeWhile_prefix _).length_le
 have s1 : inS (c : Int) (a0.length : Int) (a0.length : Int) = true := Vg (by omega) (by omega) (by omega)
 have s2 : inS 0 (c : Int) (a0.length : Int) = true := Vg (by omega) (by omega) (by omega)
 have e1 : sub a0 0 (c : Int) = a0.take c := by show sub a0 ((0 : Nat) : Int) (c : Int) = _; rw [GF]; rfl
 have e2 : sub a0 (c : Int) (a0.length : Int) = a0.drop c := by rw [GF, List.take_length]
 have l1 : (a0.take c).length ≤ 1000000 := by simp; omega
 have l2 : (a0.drop c).length ≤ 1000000 := by simp; omega
 have g1 : decide ((([] : List Nd).length + (a0.take c).length) * 48 ≤ 140737488355328) = true := decide_eq_true (by simp only [List.length_nil]; omega)
 have g2 : decide (((([] : List Nd) ++ a0.take c).length + ([a1] : List Nd).length) * 48 ≤ 140737488355328) = true := decide_eq_true (by simp only [List.nil_append, List.length_cons, List.length_nil]; omega)
 have g3 : decide ((((([] : List Nd) ++ a0.take c) ++ ([a1] : List Nd)).length + (a0.drop c).length) * 48 ≤ 140737488355328) = true := decide_eq_true (by simp only [List.nil_append, List.length_append, List.length_cons, List.length_nil]; omega)
 simp only [Option.bind_some, s1, s2, e1, e2, g1, g2, g3, cond_true]
 by_cases hlt : c < a0.length
 ·have d1 : decide ((c : Int) < (a0.length : Int)) = true := decide_eq_true (by omega)
  have w1 : IntKind.wrap .i64 ((c : Int) + 1) = ((c + 1 : Nat) : Int) := by rw [wrap_small (by omega) (by omega)]; omega
  have s3 : inS ((c + 1 : Nat) : Int) (a0.length : Int) (a0.length : Int) = true := Vg (by omega) (by omega) (by omega)
  have e3 : sub a0 ((c + 1 : Nat) : Int) (a0.length : Int) = a0.drop (c + 1) := by rw [GF, List.take_length]
  have l3 : (a0.drop (c + 1)).length ≤ 1000000 := by simp; omega
  have g4 : decide ((((([] : List Nd) ++ a0.take c) ++ ([a1] : List Nd)).length + (a0.drop (c + 1)).length) * 48 ≤ 140737488355328) = true := decide_eq_true (by simp only [List.nil_append, List.length_append, List.length_cons, List.length_nil]; omega)
  rw [QM hlt] at t2
  simp only [d1, qV hlt, w1, s3, e3, g4, Bool.not_true, Bool.false_or, Bool.true_and, cond_true]
  unfold Gv
  rw [← t1, ← t2]
  by_cases he : (gt a0 (c : Int)).path = a1.path
  ·simp [he]
  ·simp [he, QM hlt]
 ·have d1 : decide ((c : Int) < (a0.length : Int)) = false := decide_eq_false (by omega)
  have hn : a0.drop c = [] := List.drop_eq_nil_of_le (by omega)
  simp only [d1, Bool.not_false, Bool.true_or, Bool.false_and, cond_true, cond_false]
  unfold Gv
  rw [← t1, ← t2, hn]; simp
def Qq.sh (a0 : Rec) : Option (Nd) :=
 some (⟨a0.kind, a0.path, a0.body, a0.mode⟩ : Nd)
theorem Qq.eq (a0 : Rec) : Qq.sh a0 = some (jP a0) := rfl
def Qc.sh (a0 : Rec) : Option (Nd) :=
 some (⟨a0.kind, a0.path, a0.body, a0.mode⟩ : Nd)
theorem Qc.eq (a0 : Rec) : Qc.sh a0 = some (jP a0) := rfl
def Vk.sh (a0 : List Nd) (a1 : Rec) : Option (List Nd) :=
 bif decide (a0.length ≤ 1048576) then (bif (decide (a1.kind = 4)) then (bif decide (a0.length ≤ 1048576) then (some (ye a0 a1.path true)) else none) else (((bif ((!decide (a1.kind = 3)) || a1.opq) then some true else (((bif (decide (0 ≤ (vd a0 a1.path))) then (bif inR (vd a0 a1.path) a0.length then (some (!decide (((gt a0 (vd a0 a1.path)).kind) = 3))) else none) else some false)).bind fun z24 => some z24))).bind fun z23 => bif z23 then (bif decide (a0.length ≤ 1048576) then (bif decide ((ye a0 a1.path false).length ≤ 1000000) then (bif decide (∀ x ∈ (ye a0 a1.path false), x.path.length ≤ 1048576) then (bif decide ((jP a1).path.length ≤ 1048576) then (some (Gv (ye a0 a1.path false) (jP a1))) else none) else none) else none) else none) else (bif decide (a0.length ≤ 1000000) then (bif decide (∀ x ∈ a0, x.path.length ≤ 1048576) then (bif decide ((jP a1).path.length ≤ 1048576) then (some (Gv a0 (jP a1))) else none) else none) else none))) else none
theorem Vk.eq (a0 : List Nd) (a1 : Rec) (h0 : a0.length ≤ 1000000) (h1 : ∀ x ∈ a0, x.path.length ≤ 1048576) (h2 : a1.path.length ≤ 1048576) : Vk.sh a0 a1 = some (doS a0 a1) := by
 unfold Vk.sh doS
 have b1 : decide (a0.length ≤ 1048576) = true := decide_eq_true (by omega)
 have b2 : decide (a0.length ≤ 1000000) = true := decide_eq_true h0
 have b3 : decide ((ye a0 a1.path false).length ≤ 1000000) = true := decide_eq_true (Nat.le_trans (YH _ _ _) h0)
 have b4 : ∀ x ∈ ye a0 a1.path false, x.path.length ≤ 1048576 := fun x hx => h1 x (List.mem_filter.1 hx).1
 have b5 : decide ((jP a1).path.length ≤ 1048576) = true := decide_eq_true h2
 simp only [b1, b2, b3, b5, decide_eq_true h1, decide_eq_true b4, cond_true]
 by_cases h4 : a1.kind = 4
 ·simp [h4]
 ·simp only [h4, decide_false, cond_false, if_false]
  by_cases h3 : a1.kind = 3
  ·rcases ql a1.opq with ho | ho
   ·simp [h3, ho]
   ·by_cases hf : 0 ≤ vd a0 a1.path
    ·by_cases hk : (gt a0 (vd a0 a1.path)).kind = 3 <;> simp [h3, ho, hf, GL (t := a0) (p := a1.path) (by omega), hk]
    ·simp [h3, ho, hf]
  ·simp [h3]
theorem apply_at {l : List Rec} {t : List Nd} (hs : Sheet l) (ht : Wood t) {i : Nat} (hi : i ≤ l.length) : Wood (vC (l.take i) t) ∧ (vC (l.take i) t).length ≤ t.length + i ∧ (l.take i).foldl doI t = vC (l.take i) t := by
 obtain ⟨h1, _, h3, h4⟩ := YK t ht i (l.take i) (by simp; omega) (hs.take i)
 exact ⟨h1, h3, h4⟩
theorem apply_next {l : List Rec} {t : List Nd} {i : Nat} (hi : i < l.length) : vC (l.take (i + 1)) t = doS (vC (l.take i) t) (gt l (i : Int)) := by
 rw [List.take_succ_eq_append_getElem hi, Xd, vZ, vY hi]
def yp.b1 (a0 : List Rec) : List Nd × Int → Option (Step (List Nd) (List Nd × Int) (List Nd)) :=
 fun q => match q with
 | (x1_13, x5_15) => bif (decide (x5_15 < (a0.length : Int))) then (bif inR x5_15 a0.length then (bif decide (x1_13.length ≤ 1000000) then (bif decide (∀ x ∈ x1_13, x.path.length ≤ 1048576) then (bif decide ((gt a0 x5_15).path.length ≤ 1048576) then (some (.nxt ((doS x1_13 (gt a0 x5_15)), IntKind.wrap .i64 (x5_15 + 1)))) else none) else none) else none) else none) else (some (.brk x1_13))
def yp.sh (k : Nat) (a0 : List Rec) (a1 : List Nd) : Option (List Nd) :=
  bif decide ((([] : List Nd).length + a1.length) * 48 ≤ 140737488355328) then ((qp (yp.b1 a0) k (([] : List Nd) ++ a1, 0)).bind fun z => match z with | .inl t => some t | .inr x1_19 => some x1_19) else none
theorem yp.eq (a0 : List Rec) (a1 : List Nd) (h0 : a0.length ≤ 16) (h1 : a1.length ≤ 1000) (h2 : okT a0 a1 = true) : ∃ k, yp.sh k a0 a1 = some (vC a0 a1) := by
 obtain ⟨hs, ht⟩ := okT_of h2
 refine ⟨a0.length + 1, ?_⟩
 unfold yp.sh
 have key : ∀ (d i k : Nat), i + d = a0.length → d < k → qp (yp.b1 a0) k (vC (a0.take i) a1, (i : Int)) = some (.inr (vC a0 a1)) := by
  intro d
  induction d with
  | zero =>
   intro i k hi hk
   obtain ⟨k, rfl⟩ : ∃ m, k = m + 1 := ⟨k - 1, by omega⟩
   have d1 : decide ((i : Int) < (a0.length : Int)) = false := decide_eq_false (by omega)
   rw [qp, List.take_of_length_le (by omega)]
   simp only [yp.b1, d1, cond_false]; rfl
  | succ d ih =>
   intro i k hi hk
   obtain ⟨k, rfl⟩ : ∃ m, k = m + 1 := ⟨k - 1, by omega⟩
   have hlt : i < a0.length := by omega
   obtain ⟨w1, w2, _⟩ := apply_at hs ht (show i ≤ a0.length by omega)
   have d1 : decide ((i : Int) < (a0.length : Int)) = true := decide_eq_true (by omega)
   have d2 : decide ((vC (a0.take i) a1).length ≤ 1000000) = true := decide_eq_true (by omega)
   have d3 : decide ((gt a0 (i : Int)).path.length ≤ 1048576) = true := decide_eq_true (by
    rw [vZ, vY hlt]; exact yU (yg (hs.ok _ (List.getElem_mem hlt))))
   have e1 : IntKind.wrap .i64 ((i : Int) + 1) = ((i + 1 : Nat) : Int) := by rw [wrap_small (by omega) (by omega)]; omega
   rw [qp]
   simp only [yp.b1, d1, d2, d3, decide_eq_true (Gb w1), qV hlt, cond_true, e1]
   rw [← apply_next hlt]
   exact ih (i + 1) k (by omega) (by omega)
 have g1 : decide ((([] : List Nd).length + a1.length) * 48 ≤ 140737488355328) = true := decide_eq_true (by simp only [List.length_nil]; omega)
 have hk := key a0.length 0 (a0.length + 1) (by omega) (by omega)
 rw [List.take_zero] at hk
 have hk2 : qp (yp.b1 a0) (a0.length + 1) (([] : List Nd) ++ a1, 0) = some (.inr (vC a0 a1)) := hk
 rw [hk2]
 simp only [g1, cond_true, Option.bind_some]
def jd.b1 (a0 : List Rec) : List Nd × Int → Option (Step (List Nd) (List Nd × Int) (List Nd)) :=
 fun q => match q with
 | (x5_6, x13_8) => bif (decide (x13_8 < (a0.length : Int))) then (bif inR x13_8 a0.length then (bif decide (x5_6.length ≤ 1048576) then (((bif (((decide (((gt a0 x13_8).kind) = 3)) && (!((gt a0 x13_8).opq))) && (decide (0 ≤ (vd x5_6 ((gt a0 x13_8).path))))) then (bif inR (vd x5_6 ((gt a0 x13_8).path)) x5_6.length then (some (decide (((gt x5_6 (vd x5_6 ((gt a0 x13_8).path))).kind) = 3))) else none) else some false)).bind fun z58 => bif z58 then (bif inR (vd x5_6 ((gt a0 x13_8).path)) x5_6.length then (some (.nxt (Y2 x5_6 (vd x5_6 ((gt a0 x13_8).path)) (⟨(gt x5_6 (vd x5_6 ((gt a0 x13_8).path))).kind, (gt x5_6 (vd x5_6 ((gt a0 x13_8).path))).path, (gt x5_6 (vd x5_6 ((gt a0 x13_8).path))).body, (gt a0 x13_8).mode⟩ : Nd), IntKind.wrap .i64 (x13_8 + 1)))) else none) else (bif decide (x5_6.length ≤ 1048576) then (bif decide (((gt a0 x13_8).path).length ≤ 1048576) then (bif (!decide (((gt a0 x13_8).kind) = 4)) then (bif decide ((ye x5_6 ((gt a0 x13_8).path) true).length ≤ 1048575) then (bif decide (XK (ye x5_6 ((gt a0 x13_8).path) true) = true) then (bif decide (∀ x ∈ (ye x5_6 ((gt a0 x13_8).path) true), x.path.length ≤ 1048576) then (bif decide ((jP (gt a0 x13_8)).path.length ≤ 1048576) then (some (.nxt ((Qx (ye x5_6 ((gt a0 x13_8).path) true) (jP (gt a0 x13_8))), IntKind.wrap .i64 (x13_8 + 1)))) else none) else none) else none) else none) else (some (.nxt ((ye x5_6 ((gt a0 x13_8).path) true), IntKind.wrap .i64 (x13_8 + 1))))) else none) else none)) else none) else none) else (some (.brk x5_6))
def jd.sh (k : Nat) (a0 : List Rec) (a1 : List Nd) : Option (List Nd) :=
  bif decide (a1.length ≤ 1048576) then ((qp (jd.b1 a0) k (a1, 0)).bind fun z => match z with | .inl t => some t | .inr x5_12 => some x5_12) else none
theorem jd.eq (a0 : List Rec) (a1 : List Nd) (h0 : a0.length ≤ 16) (h1 : a1.length ≤ 1000) (h2 : okT a0 a1 = true) : ∃ k, jd.sh k a0 a1 = some (vC a0 a1) := by
 obtain ⟨hs, ht⟩ := okT_of h2
 refine ⟨a0.length + 1, ?_⟩
 unfold jd.sh
 have key : ∀ (d i k : Nat), i + d = a0.length → d < k → qp (jd.b1 a0) k (vC (a0.take i) a1, (i : Int)) = some (.inr (vC a0 a1)) := by
  intro d
  induction d with
  | zero =>
   intro i k hi hk
   obtain ⟨k, rfl⟩ : ∃ m, k = m + 1 := ⟨k - 1, by omega⟩
   have d1 : decide ((i : Int) < (a0.length : Int)) = false := decide_eq_false (by omega)
   rw [qp, List.take_of_length_le (by omega)]
   simp only [jd.b1, d1, cond_false]; rfl
  | succ d ih =>
   intro i k hi hk
   obtain ⟨k, rfl⟩ : ∃ m, k = m + 1 := ⟨k - 1, by omega⟩
   have hlt : i < a0.length := by omega
   obtain ⟨w1, w2, _⟩ := apply_at hs ht (show i ≤ a0.length by omega)
   have hr0 : qx (gt a0 (i : Int)) = 0 := by rw [vZ, vY hlt]; exact hs.ok _ (List.getElem_mem hlt)
   have hn := apply_next (t := a1) hlt
   rw [← doI_doS w1 hr0] at hn
   have hI := ih (i + 1) k (by omega) (by omega)
   rw [hn] at hI
   obtain ⟨x, hx⟩ : ∃ x, vC (a0.take i) a1 = x := ⟨_, rfl⟩
   obtain ⟨r, hr⟩ : ∃ r, gt a0 (i : Int) = r := ⟨_, rfl⟩
   rw [hx] at w1 w2 hI ⊢
   rw [hr] at hr0 hI
   have hp := yU (yg hr0)
   have d1 : decide ((i : Int) < (a0.length : Int)) = true := decide_eq_true (by omega)
   have d2 : decide (x.length ≤ 1048576) = true := decide_eq_true (by omega)
   have d3 : decide (r.path.length ≤ 1048576) = true := decide_eq_true hp
   have d4 : decide ((ye x r.path true).length ≤ 1048575) = true := decide_eq_true (by have := YH x r.path true; omega)
   have d5 : XK (ye x r.path true) = true := riseN_mk (VF w1.rise _ _)
   have d6 : ∀ y ∈ ye x r.path true, y.path.length ≤ 1048576 := fun y hy => Gb w1 y (List.mem_filter.1 hy).1
   have d7 : decide ((jP r).path.length ≤ 1048576) = true := decide_eq_true hp
   have e1 : IntKind.wrap .i64 ((i : Int) + 1) = ((i + 1 : Nat) : Int) := by rw [wrap_small (by omega) (by omega)]; omega
   rw [qp]
   simp only [jd.b1, d1, d2, qV hlt, cond_true, e1, hr, d3, d4, d5, d7, decide_eq_true d6, decide_true]
   unfold doI at hI
   by_cases c1 : r.kind = 3 ∧ r.opq = false
   ·obtain ⟨c3, co⟩ := c1
    by_cases cf : 0 ≤ vd x r.path
    ·have hin := GL (t := x) (p := r.path) (by omega)
     by_cases ck : (gt x (vd x r.path)).kind = 3
     ·rw [if_pos ⟨⟨c3, co⟩, cf, ck⟩] at hI
      simp only [c3, co, cf, ck, hin, decide_true, Bool.not_false, Bool.and_true, Bool.and_self, cond_true, Option.bind_some]
      rw [ck] at hI
      exact hI
     ·rw [if_neg (fun h => ck h.2.2), if_neg (by omega)] at hI
      simp only [c3, co, cf, ck, hin, decide_true, decide_false, Bool.not_false, Bool.and_true, Bool.and_self, cond_true, cond_false, Option.bind_some, show ¬ (3 : Int) = 4 by decide]
      exact hI
    ·rw [if_neg (fun h => cf h.2.1), if_neg (by omega)] at hI
     simp only [c3, co, cf, decide_true, decide_false, Bool.not_false, Bool.and_true, Bool.and_false, cond_true, cond_false, Option.bind_some, show ¬ (3 : Int) = 4 by decide]
     exact hI
   ·rw [if_neg (fun h => c1 h.1)] at hI
    have c2 : (decide (r.kind = 3) && !r.opq) = false := by
     rcases ql r.opq with co | co
     ·simp [co]
     ·by_cases c3 : r.kind = 3
      ·exact absurd ⟨c3, co⟩ c1
      ·simp [c3]
    simp only [c2, Bool.false_and, cond_false, Option.bind_some]
    by_cases c4 : r.kind = 4
    ·rw [if_pos c4] at hI
     simp only [c4, decide_true, Bool.not_true, cond_false]
     exact hI
    ·rw [if_neg c4] at hI
     simp only [c4, decide_false, Bool.not_false, cond_true]
     exact hI
 have g1 : decide (a1.length ≤ 1048576) = true := decide_eq_true (by omega)
 have hk := key a0.length 0 (a0.length + 1) (by omega) (by omega)
 rw [List.take_zero] at hk
 have hk2 : qp (jd.b1 a0) (a0.length + 1) (a1, 0) = some (.inr (vC a0 a1)) := hk
 rw [hk2]
 simp only [g1, cond_true, Option.bind_some]
def Yk (l : List Rec) (t : List Nd) : Int := if decide (4096 < l.length) || decide (4096 < t.length) then 2 else if !decide ((qv l).2 = 0) || !jO t then 1 else 0
def XQ (t : List Nd) : List Nd × Int := if 24 < t.length then ([], 7) else (t, 0)
def QB (l : List Rec) (t : List Nd) : List Nd × Int := if Yk l t = 0 then XQ (vC l t) else ([], Yk l t)
theorem n24_dec (n : Nat) : decide ((24 : Int) < (n : Int)) = decide (24 < n) := by rw [decide_eq_decide]; omega
def Qv.sh (a0 : List Rec) (a1 : List Nd) : Option (List Nd × Int) :=
 bif decide (a0.length ≤ 1048576) then (bif decide (∀ x ∈ a0, x.path.length ≤ 1048576) then (((bif (!(decide ((qU a0).2 = 0))) then some true else (bif decide (a1.length ≤ 1048576) then (bif decide (∀ x ∈ a1, x.path.length ≤ 1048576) then (some (!(jO a1))) else none) else none))).bind fun z14 => bif decide (([.inl ((decide (4096 < a0.length)) || (decide (4096 < a1.length))), .inr 2, .inl z14, .inr 1] : List (Bool ⊕ Int)).length ≤ 4611686018427387904) then ((some (vX ([.inl ((decide (4096 < a0.length)) || (decide (4096 < a1.length))), .inr 2, .inl z14, .inr 1] : List (Bool ⊕ Int)))).bind fun z31 => bif (!decide (z31 = 0)) then (some ([], z31)) else (bif decide (a0.length ≤ 16) then (bif decide (a1.length ≤ 1000) then (bif decide (okT a0 a1 = true) then (bif (decide (24 < ((vC a0 a1).length : Int))) then (some ([], 7)) else (some ((vC a0 a1), 0))) else none) else none) else none)) else none) else none) else none
theorem Qv.eq (a0 : List Rec) (a1 : List Nd) (h0 : a0.length ≤ 1048576) (h1 : a1.length ≤ 1048576) (h2 : ∀ x ∈ a0, x.path.length ≤ 1048576) (h3 : ∀ x ∈ a1, x.path.length ≤ 1048576) : Qv.sh a0 a1 = some ((QB a0 a1).1, (QB a0 a1).2) := by
 unfold Qv.sh QB
 simp only [h0, h1, decide_true, cond_true, decide_eq_true h2, decide_eq_true h3, JL, List.length_cons, List.length_nil, vX, Xg, anyI]
 by_cases h : (decide (4096 < a0.length) || decide (4096 < a1.length)) = true
 ·have hc : Yk a0 a1 = 2 := by simp only [Yk, h, if_true]
  cases hz : decide ((qU a0).2 = 0) <;> simp [h, hc]
 ·have hf : (decide (4096 < a0.length) || decide (4096 < a1.length)) = false := by simpa using h
  rw [YY, hf]
  by_cases c1 : (qv a0).2 = 0
  ·rcases ql (jO a1) with c2 | c2
   ·have hc : Yk a0 a1 = 0 := by simp only [Yk, h, if_false, c1, c2]; rfl
    have l1 := Qp c1
    have l2 := J7 c2
    have b2 : a1.length ≤ 1000 := by omega
    by_cases h24 : 24 < (vC a0 a1).length <;> simp [c1, c2, hc, l1, b2, okT_mk c1 (Jy c2), n24_dec, XQ, h24]
   ·have hc : Yk a0 a1 = 1 := by simp only [Yk, h, if_false, c1, c2]; rfl
    simp [c1, c2, hc]
  ·have hc : Yk a0 a1 = 1 := by simp only [Yk, h, if_false, c1]; simp
   simp [c1, hc]
theorem fitT_len (t : List Nd) : (XQ t).1.length ≤ 24 := by
 unfold XQ
 split
 ·simp
 ·simp only; omega
theorem foldI_run {α β ρ : Type} [Inhabited α] (l : List α) (f : β → α → β) (Inv : Nat → β → Prop) (b : β × Int → Option (Step ρ (β × Int) β))
  (h1 : ∀ (i : Nat) (s : β), i < l.length → Inv i s → b (s, (i : Int)) = some (.nxt (f s (gt l (i : Int)), ((i + 1 : Nat) : Int))) ∧ Inv (i + 1) (f s (gt l (i : Int))))
  (h2 : ∀ s : β, b (s, (l.length : Int)) = some (.brk s)) (s0 : β) (h0 : Inv 0 s0) : qp b (l.length + 1) (s0, 0) = some (.inr (l.foldl f s0)) := by
 have key : ∀ (d i k : Nat) (s : β), i + d = l.length → d < k → Inv i s → qp b k (s, (i : Int)) = some (.inr ((l.drop i).foldl f s)) := by
  intro d
  induction d with
  | zero =>
   intro i k s hi hk hs
   obtain ⟨k, rfl⟩ : ∃ m, k = m + 1 := ⟨k - 1, by omega⟩
   have : i = l.length := by omega
   subst this
   rw [qp, h2 s, List.drop_length]; rfl
  | succ d ih =>
   intro i k s hi hk hs
   obtain ⟨k, rfl⟩ : ∃ m, k = m + 1 := ⟨k - 1, by omega⟩
   have hlt : i < l.length := by omega
   obtain ⟨e1, e2⟩ := h1 i s hlt hs
   rw [qp, e1, QM hlt]
   exact ih (i + 1) k _ (by omega) (by omega) e2
 exact key l.length 0 (l.length + 1) s0 (by omega) (by omega) h0
def okA (xs : List (List Rec)) (t : List Nd) : Bool := (xs.all fun l => decide ((qv l).2 = 0)) && XX t
theorem okA_of {xs : List (List Rec)} {t : List Nd} (h : okA xs t = true) : (∀ l ∈ xs, (qv l).2 = 0) ∧ Wood t := by
 unfold okA at h
 rw [Bool.and_eq_true, List.all_eq_true] at h
 exact ⟨fun l hl => of_decide_eq_true (h.1 l hl), wood_of h.2⟩
theorem okA_mk {xs : List (List Rec)} {t : List Nd} (h : ∀ l ∈ xs, (qv l).2 = 0) (k : Wood t) : okA xs t = true := by
 unfold okA
 rw [Bool.and_eq_true, List.all_eq_true]
 exact ⟨fun l hl => decide_eq_true (h l hl), wood_ok k⟩
theorem X9 {xs : List (List Rec)} (h : jQ xs = true) : xs.length ≤ 5 ∧ ∀ l ∈ xs, (qv l).2 = 0 := by
 unfold jQ at h
 rw [Bool.and_eq_true, List.all_eq_true] at h
 exact ⟨of_decide_eq_true h.1, fun l hl => of_decide_eq_true (h.2 l hl)⟩
def jy (xs : List (List Rec)) (t : List Nd) : List Nd := xs.foldl (fun t l => vC l t) t
theorem JR {l : List Rec} {s : List Nd} (h : (qv l).2 = 0) (hs : Wood s) : Wood (vC l s) ∧ (vC l s).length ≤ s.length + 16 := by
 have h1 := YK s hs _ l rfl (G5 h)
 have := Qp h
 exact ⟨h1.1, by have := h1.2.2.1; omega⟩
def yZ.b1 (a0 : List (List Rec)) : List Nd × Int → Option (Step (List Nd) (List Nd × Int) (List Nd)) :=
 fun q => match q with
 | (x1_13, x5_15) => bif (decide (x5_15 < (a0.length : Int))) then (bif inR x5_15 a0.length then (bif decide ((gt a0 x5_15).length ≤ 16) then (bif decide (x1_13.length ≤ 1000) then (bif decide (okT (gt a0 x5_15) x1_13 = true) then (some (.nxt ((vC (gt a0 x5_15) x1_13), IntKind.wrap .i64 (x5_15 + 1)))) else none) else none) else none) else none) else (some (.brk x1_13))
def yZ.sh (k : Nat) (a0 : List (List Rec)) (a1 : List Nd) : Option (List Nd) :=
  bif decide ((([] : List Nd).length + a1.length) * 48 ≤ 140737488355328) then ((qp (yZ.b1 a0) k (([] : List Nd) ++ a1, 0)).bind fun z => match z with | .inl t => some t | .inr x1_19 => some x1_19) else none
theorem yZ.eq (a0 : List (List Rec)) (a1 : List Nd) (h0 : a0.length ≤ 5) (h1 : a1.length ≤ 24) (h2 : okA a0 a1 = true) : ∃ k, yZ.sh k a0 a1 = some (jy a0 a1) := by
 obtain ⟨hs, ht⟩ := okA_of h2
 refine ⟨a0.length + 1, ?_⟩
 unfold yZ.sh
 have hk := foldI_run a0 (fun t l => vC l t) (fun i s => Wood s ∧ s.length ≤ 24 + 16 * i) (yZ.b1 a0) (fun i s hi hI => by
  have hl := hs (gt a0 (i : Int)) (by rw [vZ, vY hi]; exact List.getElem_mem hi)
  obtain ⟨w1, w2⟩ := JR hl hI.1
  have d1 : decide ((i : Int) < (a0.length : Int)) = true := decide_eq_true (by omega)
  have d2 : decide (s.length ≤ 1000) = true := decide_eq_true (by have := hI.2; omega)
  have e1 : IntKind.wrap .i64 ((i : Int) + 1) = ((i + 1 : Nat) : Int) := by rw [wrap_small (by omega) (by omega)]; omega
  refine ⟨?_, w1, by have := hI.2; omega⟩
  simp only [yZ.b1, d1, d2, qV hi, cond_true, e1, decide_eq_true (Qp hl), okT_mk hl hI.1, decide_true]) (fun s => by simp [yZ.b1]) a1 ⟨ht, by omega⟩
 have g1 : decide ((([] : List Nd).length + a1.length) * 48 ≤ 140737488355328) = true := decide_eq_true (by simp only [List.length_nil]; omega)
 have hk2 : qp (yZ.b1 a0) (a0.length + 1) (([] : List Nd) ++ a1, 0) = some (.inr (jy a0 a1)) := hk
 rw [hk2]
 simp only [g1, cond_true, Option.bind_some]
def yD.b1 (a0 : List (List Rec)) : List Nd × Int → Option (Step (List Nd) (List Nd × Int) (List Nd)) :=
 fun q => match q with
 | (x5_6, x12_8) => bif (decide (x12_8 < (a0.length : Int))) then (bif inR x12_8 a0.length then (bif decide ((gt a0 x12_8).length ≤ 16) then (bif decide (x5_6.length ≤ 1000) then (bif decide (okT (gt a0 x12_8) x5_6 = true) then (some (.nxt ((vC (gt a0 x12_8) x5_6), IntKind.wrap .i64 (x12_8 + 1)))) else none) else none) else none) else none) else (some (.brk x5_6))
def yD.sh (k : Nat) (a0 : List (List Rec)) (a1 : List Nd) : Option (List Nd) :=
  bif decide (a1.length ≤ 1048576) then ((qp (yD.b1 a0) k (a1, 0)).bind fun z => match z with | .inl t => some t | .inr x5_12 => some x5_12) else none
theorem yD.eq (a0 : List (List Rec)) (a1 : List Nd) (h0 : a0.length ≤ 5) (h1 : a1.length ≤ 24) (h2 : okA a0 a1 = true) : ∃ k, yD.sh k a0 a1 = some (jy a0 a1) := by
 obtain ⟨hs, ht⟩ := okA_of h2
 refine ⟨a0.length + 1, ?_⟩
 unfold yD.sh
 have hk := foldI_run a0 (fun t l => vC l t) (fun i s => Wood s ∧ s.length ≤ 24 + 16 * i) (yD.b1 a0) (fun i s hi hI => by
  have hl := hs (gt a0 (i : Int)) (by rw [vZ, vY hi]; exact List.getElem_mem hi)
  obtain ⟨w1, w2⟩ := JR hl hI.1
  have d1 : decide ((i : Int) < (a0.length : Int)) = true := decide_eq_true (by omega)
  have d2 : decide (s.length ≤ 1000) = true := decide_eq_true (by have := hI.2; omega)
  have e1 : IntKind.wrap .i64 ((i : Int) + 1) = ((i + 1 : Nat) : Int) := by rw [wrap_small (by omega) (by omega)]; omega
  refine ⟨?_, w1, by have := hI.2; omega⟩
  simp only [yD.b1, d1, d2, qV hi, cond_true, e1, decide_eq_true (Qp hl), okT_mk hl hI.1, decide_true]) (fun s => by simp [yD.b1]) a1 ⟨ht, by omega⟩
 have g1 : decide (a1.length ≤ 1048576) = true := decide_eq_true (by omega)
 rw [hk]
 simp only [g1, cond_true, Option.bind_some, jy]
def QF (l : List (List Rec)) (t : List Nd) : Int := if decide (4096 < l.length) || decide (4096 < t.length) then 2 else if !jQ l || !jO t then 1 else 0
def yT (l : List (List Rec)) (t : List Nd) : List Nd × Int := if QF l t = 0 then XQ (jy l t) else ([], QF l t)
theorem rs_dec (a : List (List Rec)) (b : List Nd) : (decide ((4096 : Int) < (a.length : Int)) || decide ((4096 : Int) < (b.length : Int))) = (decide (4096 < a.length) || decide (4096 < b.length)) := by
 have h : ∀ n : Nat, decide ((4096 : Int) < (n : Int)) = decide (4096 < n) := fun n => by rw [decide_eq_decide]; omega
 rw [h, h]
def js.sh (a0 : List (List Rec)) (a1 : List Nd) : Option (List Nd × Int) :=
 bif ((decide (4096 < (a0.length : Int))) || (decide (4096 < (a1.length : Int)))) then (some (([] : List Nd), 2)) else (bif decide (a0.length ≤ 1048576) then (bif decide (∀ l ∈ a0, l.length ≤ 1048576) then (bif decide (∀ l ∈ a0, ∀ x ∈ l, x.path.length ≤ 1048576) then (((bif (!(jQ a0)) then some true else (bif decide (∀ x ∈ a1, x.path.length ≤ 1048576) then (some (!(jO a1))) else none))).bind fun z20 => bif z20 then (some (([] : List Nd), 1)) else (bif decide (a0.length ≤ 5) then (bif decide (a1.length ≤ 24) then (bif decide (okA a0 a1 = true) then (bif (decide (24 < ((jy a0 a1).length : Int))) then (some (([] : List Nd), 7)) else (some ((jy a0 a1), 0))) else none) else none) else none)) else none) else none) else none)
theorem js.eq (a0 : List (List Rec)) (a1 : List Nd) (h0 : a0.length ≤ 1048576) (h1 : ∀ l ∈ a0, l.length ≤ 1048576) (h2 : ∀ l ∈ a0, ∀ x ∈ l, x.path.length ≤ 1048576) (h3 : a1.length ≤ 1048576) (h4 : ∀ x ∈ a1, x.path.length ≤ 1048576) : js.sh a0 a1 = some ((yT a0 a1).1, (yT a0 a1).2) := by
 unfold js.sh yT
 rw [rs_dec]
 by_cases h : (decide (4096 < a0.length) || decide (4096 < a1.length)) = true
 ·have : QF a0 a1 = 2 := by simp only [QF, h, if_true]
  simp only [h, cond_true, this]; rfl
 ·have hf : (decide (4096 < a0.length) || decide (4096 < a1.length)) = false := by simpa using h
  simp only [hf, cond_false, decide_eq_true h0, decide_eq_true h1, decide_eq_true h2, decide_eq_true h4, cond_true]
  rcases ql (jQ a0) with c1 | c1
  ·rcases ql (jO a1) with c2 | c2
   ·have hc : QF a0 a1 = 0 := by simp only [QF, h, if_false, c1, c2]; rfl
    have l1 := X9 c1
    have l2 := J7 c2
    have l3 := l1.1
    simp only [c1, c2, hc, l2, l3, okA_mk l1.2 (Jy c2), decide_true, Bool.not_true, cond_false, cond_true, Option.bind_some, if_true, n24_dec, XQ]
    by_cases h24 : 24 < (jy a0 a1).length <;> simp [h24]
   ·have hc : QF a0 a1 = 1 := by simp only [QF, h, if_false, c1, c2]; rfl
    simp only [c1, c2, hc, Bool.not_true, Bool.not_false, cond_false, cond_true, Option.bind_some]; rfl
  ·have hc : QF a0 a1 = 1 := by simp only [QF, h, if_false, c1]; simp
   simp only [c1, hc, Bool.not_false, cond_true, Option.bind_some]; rfl
def jr.sh (a0 : List (List Rec)) (a1 : List Nd) : Option (List Nd × Int) :=
 bif decide (a0.length ≤ 1048576) then (bif decide (∀ l ∈ a0, l.length ≤ 1048576) then (bif decide (∀ l ∈ a0, ∀ x ∈ l, x.path.length ≤ 1048576) then (((bif (!(jQ a0)) then some true else (bif decide (a1.length ≤ 1048576) then (bif decide (∀ x ∈ a1, x.path.length ≤ 1048576) then (some (!(jO a1))) else none) else none))).bind fun z15 => bif decide (([.inl ((decide (4096 < a0.length)) || (decide (4096 < a1.length))), .inr 2, .inl z15, .inr 1] : List (Bool ⊕ Int)).length ≤ 4611686018427387904) then ((some (vX ([.inl ((decide (4096 < a0.length)) || (decide (4096 < a1.length))), .inr 2, .inl z15, .inr 1] : List (Bool ⊕ Int)))).bind fun z32 => bif (!decide (z32 = 0)) then (some ([], z32)) else (bif decide (a0.length ≤ 5) then (bif decide (a1.length ≤ 24) then (bif decide (okA a0 a1 = true) then (bif (decide (24 < ((jy a0 a1).length : Int))) then (some ([], 7)) else (some ((jy a0 a1), 0))) else none) else none) else none)) else none) else none) else none) else none
theorem jr.eq (a0 : List (List Rec)) (a1 : List Nd) (h0 : a0.length ≤ 1048576) (h1 : ∀ l ∈ a0, l.length ≤ 1048576) (h2 : ∀ l ∈ a0, ∀ x ∈ l, x.path.length ≤ 1048576) (h3 : a1.length ≤ 1048576) (h4 : ∀ x ∈ a1, x.path.length ≤ 1048576) : jr.sh a0 a1 = some ((yT a0 a1).1, (yT a0 a1).2) := by
 unfold jr.sh yT
 simp only [h0, h3, decide_true, cond_true, decide_eq_true h1, decide_eq_true h2, decide_eq_true h4, JL, List.length_cons, List.length_nil, vX, Xg, anyI]
 by_cases h : (decide (4096 < a0.length) || decide (4096 < a1.length)) = true
 ·have hc : QF a0 a1 = 2 := by simp only [QF, h, if_true]
  rcases ql (jQ a0) with c1 | c1 <;> simp [h, hc, c1]
 ·have hf : (decide (4096 < a0.length) || decide (4096 < a1.length)) = false := by simpa using h
  rcases ql (jQ a0) with c1 | c1
  ·rcases ql (jO a1) with c2 | c2
   ·have hc : QF a0 a1 = 0 := by simp only [QF, h, if_false, c1, c2]; rfl
    have l1 := X9 c1
    have l2 := J7 c2
    have l3 := l1.1
    simp only [hf, c1, c2, hc, l2, l3, okA_mk l1.2 (Jy c2), decide_true, Bool.not_true, cond_false, cond_true, Option.bind_some, if_true, n24_dec, XQ]
    by_cases h24 : 24 < (jy a0 a1).length <;> simp [h24]
   ·have hc : QF a0 a1 = 1 := by simp only [QF, h, if_false, c1, c2]; rfl
    simp [hf, c1, c2, hc]
  ·have hc : QF a0 a1 = 1 := by simp only [QF, h, if_false, c1]; simp
   simp [hf, c1, hc]
theorem foldI_runK {α β ρ : Type} [Inhabited α] (l : List α) (f : β → α → β) (Inv : Nat → β → Prop) (b : β × Int → Option (Step ρ (β × Int) β)) (K : Nat) (hK : l.length < K)
  (h1 : ∀ (i : Nat) (s : β), i < l.length → Inv i s → b (s, (i : Int)) = some (.nxt (f s (gt l (i : Int)), ((i + 1 : Nat) : Int))) ∧ Inv (i + 1) (f s (gt l (i : Int))))
  (h2 : ∀ s : β, b (s, (l.length : Int)) = some (.brk s)) (s0 : β) (h0 : Inv 0 s0) : qp b K (s0, 0) = some (.inr (l.foldl f s0)) ∧ Inv l.length (l.foldl f s0) := by
 have key : ∀ (d i k : Nat) (s : β), i + d = l.length → d < k → Inv i s → qp b k (s, (i : Int)) = some (.inr ((l.drop i).foldl f s)) ∧ Inv l.length ((l.drop i).foldl f s) := by
  intro d
  induction d with
  | zero =>
   intro i k s hi hk hs
   obtain ⟨k, rfl⟩ : ∃ m, k = m + 1 := ⟨k - 1, by omega⟩
   have : i = l.length := by omega
   subst this
   rw [qp, h2 s, List.drop_length]; exact ⟨rfl, hs⟩
  | succ d ih =>
   intro i k s hi hk hs
   obtain ⟨k, rfl⟩ : ∃ m, k = m + 1 := ⟨k - 1, by omega⟩
   have hlt : i < l.length := by omega
   obtain ⟨e1, e2⟩ := h1 i s hlt hs
   rw [qp, e1, QM hlt]
   exact ih (i + 1) k _ (by omega) (by omega) e2
 have := key l.length 0 K s0 (by omega) (by omega) h0
 simpa using this
theorem Ye {l : List Rec} {r x : Rec} (h : jH l r = some x) : x.path = r.path := by
 unfold jH at h
 split at h
 ·split at h
  ·cases h
  ·rw [← Option.some.inj h]
 ·rw [← Option.some.inj h]
theorem Yw {f : Rec → Option Rec} (hf : ∀ r x, f r = some x → x.path = r.path) : ∀ {l : List Rec}, yt (l.map (·.path)) → yt ((l.filterMap f).map (·.path)) ∧ ∀ q ∈ (l.filterMap f).map (·.path), q ∈ l.map (·.path) := by
 intro l
 induction l with
 | nil => intro _; exact ⟨List.Pairwise.nil, by simp⟩
 | cons r l ih =>
  intro h
  obtain ⟨i1, i2⟩ := ih (VC h)
  have hlt := Ya h
  cases hr : f r with
  | none => rw [List.filterMap_cons_none hr]; exact ⟨i1, fun q hq => List.mem_cons_of_mem _ (i2 q hq)⟩
  | some x =>
   rw [List.filterMap_cons_some hr, List.map_cons, hf r x hr]
   exact ⟨List.pairwise_cons.2 ⟨fun q hq => hlt q (i2 q hq), i1⟩, fun q hq => by
    rcases List.mem_cons.1 hq with rfl | hq
    ·exact List.mem_cons_self
    ·exact List.mem_cons_of_mem _ (i2 q hq)⟩
end Go.UL
