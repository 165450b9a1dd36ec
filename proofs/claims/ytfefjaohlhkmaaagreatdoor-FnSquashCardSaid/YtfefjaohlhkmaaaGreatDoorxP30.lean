import Derived.Test.YtfefjaohlhkmaaaGreatDoorxP24
set_option linter.unusedVariables false
set_option linter.unusedSimpArgs false
namespace Go.UL
open Go.RowKit
structure Wood (t : List Nd) : Prop where
 rise : yp (t.map (·.path))
 ok : ∀ n ∈ t, nodeOK n = true
 par : ∀ n ∈ t, qc n.path ≠ [] → ∃ m ∈ t, m.path = qc n.path ∧ m.kind = 3
structure Sheet (l : List Rec) : Prop where
 rise : yp (l.map (·.path))
 ok : ∀ r ∈ l, qx r = 0
 par : ∀ r ∈ l, qc r.path ≠ [] → ∃ q ∈ l, q.path = qc r.path ∧ q.kind = 3
abbrev y5 (t : List Nd) (p : List UInt8) : Option Nd := yq (fun n : Nd => n.path) t p
abbrev vk (l : List Rec) (p : List UInt8) : Option Rec := yq (fun r : Rec => r.path) l p
theorem Qb {t : List Nd} (h : yp (t.map (·.path))) {n : Nd} (hn : n ∈ t) : y5 t n.path = some n := Y7 (fun n : Nd => n.path) h n hn
theorem JL {l : List Rec} (h : yp (l.map (·.path))) {r : Rec} (hr : r ∈ l) : vk l r.path = some r := Y7 (fun r : Rec => r.path) h r hr
theorem jG {t : List Nd} {p : List UInt8} {n : Nd} (h : y5 t p = some n) : n ∈ t ∧ n.path = p := VX _ h
theorem jF {l : List Rec} {p : List UInt8} {r : Rec} (h : vk l p = some r) : r ∈ l ∧ r.path = p := VX _ h
theorem QL (t : List Nd) (p : List UInt8) : (0 ≤ vd t p ↔ y5 t p ≠ none) ∧ ∀ x, y5 t p = some x → gt t (vd t p) = x := VV (fun n : Nd => n.path) t p
theorem jd (l : List Rec) (p : List UInt8) : (0 ≤ qD l p ↔ vk l p ≠ none) ∧ ∀ x, vk l p = some x → gt l (qD l p) = x := VV (fun r : Rec => r.path) l p
theorem GO {α : Type} [Inhabited α] (f : α → List UInt8) {l : List α} (h : yp (l.map f)) {i j : Nat} (hij : i < j) (hj : j < l.length) : ltP (f (l.getD i default)) (f (l.getD j default)) = true := by
 rw [vX (by omega), vX hj]
 have := List.pairwise_iff_getElem.1 (List.pairwise_map.1 h) i j (by omega) hj hij
 exact this
theorem idx_lt {α : Type} [Inhabited α] (f : α → List UInt8) {l : List α} (h : yp (l.map f)) {i : Nat} (hi : i < l.length) {m : α} (hm : m ∈ l) (hlt : ltP (f m) (f (l.getD i default)) = true) : m ∈ l.take i := by
 obtain ⟨j, hj, rfl⟩ := List.getElem_of_mem hm
 by_cases hji : j < i
 ·rw [List.mem_take_iff_getElem]
  exact ⟨j, by omega, rfl⟩
 ·exfalso
  have e : l[j] = l.getD j default := (vX hj).symm
  rw [e] at hlt
  by_cases he : i = j
  ·subst he; rw [VT] at hlt; cases hlt
  ·have := GO f h (show i < j by omega) hj
   rw [V2 this] at hlt; cases hlt
theorem GS {α : Type} (f : α → List UInt8) {l : List α} (h : yp (l.map f)) (i : Nat) : yp ((l.take i).map f) := by
 rw [List.map_take]; exact List.Pairwise.sublist (List.take_sublist _ _) h
def XM (t : List Nd) : Bool := (List.range t.length).all (jX t)
theorem GX (t : List Nd) : jN t = (decide (t.length ≤ 24) && XM t) := rfl
theorem wood_of {t : List Nd} (h : XM t = true) : Wood t := by
 have hat : ∀ i, i < t.length → jX t i = true := fun i hi => List.all_eq_true.1 h i (List.mem_range.2 hi)
 have hr : yp (t.map (·.path)) := YY _ fun i h0 hi => by
  have := hat i hi
  have h9 : ¬ i = 0 := by omega
  simp only [jX, Bool.and_eq_true, h9, decide_false, Bool.false_or] at this
  exact this.1.2
 refine ⟨hr, fun n hn => ?_, fun n hn hp => ?_⟩
 ·obtain ⟨i, hi, rfl⟩ := List.getElem_of_mem hn
  have := hat i hi
  simp only [jX, Bool.and_eq_true, vX hi] at this
  exact this.1.1
 ·obtain ⟨i, hi, rfl⟩ := List.getElem_of_mem hn
  have := hat i hi
  simp only [jX, Bool.and_eq_true, vX hi] at this
  have h2 := this.2
  unfold QY at h2
  simp only [hp, decide_false, Bool.false_or, Bool.and_eq_true, decide_eq_true_eq] at h2
  cases hl : y5 (t.take i) (qc t[i].path) with
  | none => exact absurd hl ((QL _ _).1.1 h2.1)
  | some m =>
   obtain ⟨hm, he⟩ := jG hl
   rw [(QL _ _).2 m hl] at h2
   exact ⟨m, List.mem_of_mem_take hm, he, h2.2⟩
theorem wood_ok {t : List Nd} (h : Wood t) : XM t = true := by
 refine List.all_eq_true.2 fun i hi => ?_
 have hi := List.mem_range.1 hi
 have hm : t.getD i default ∈ t := by rw [vX hi]; exact List.getElem_mem hi
 simp only [jX, Bool.and_eq_true, h.ok _ hm, true_and]
 refine ⟨?_, ?_⟩
 ·by_cases h0 : i = 0
  ·simp [h0]
  ·have := GO (fun n : Nd => n.path) h.rise (show i - 1 < i by omega) hi
   have h9 : vw (cut 47 (t.getD (i - 1) default).path) (cut 47 (t.getD i default).path) = true := this
   rw [h9]; simp
 ·unfold QY
  by_cases hp : qc (t.getD i default).path = []
  ·rw [decide_eq_true hp]; rfl
  ·obtain ⟨m, hmt, he, hk⟩ := h.par _ hm hp
   have hmi : m ∈ t.take i := idx_lt (fun n : Nd => n.path) h.rise hi hmt (by
    show ltP m.path (t.getD i default).path = true
    rw [he]; exact Yu hp)
   have hl := Qb (GS (fun n : Nd => n.path) h.rise i) hmi
   rw [he] at hl
   have h1 := (QL (t.take i) (qc (t.getD i default).path)).1.2 (by rw [hl]; simp)
   have h2 := (QL (t.take i) (qc (t.getD i default).path)).2 m hl
   have hz : vd (t.take i) (qc (t.getD i default).path) < (t.take i).length := Jp _ _
   simp only [hp, decide_false, Bool.false_or, Bool.and_eq_true, decide_eq_true_eq]
   exact ⟨h1, by rw [h2]; exact hk⟩
theorem treeOK_of {t : List Nd} (h : Wood t) (hl : t.length ≤ 24) : jN t = true := by rw [GX, wood_ok h, decide_eq_true hl]; rfl
theorem Jl {t : List Nd} (h : jN t = true) : Wood t := by
 rw [GX, Bool.and_eq_true] at h
 exact wood_of h.2
theorem JY {t : List Nd} (h : jN t = true) : t.length ≤ 24 := (treeOK_rise h).1
theorem codeAt_par {l : List Rec} {i : Nat} (h : ju l i = 0) (hp : qc (l.getD i default).path ≠ []) : 0 ≤ qD (l.take i) (qc (l.getD i default).path) ∧ (gt l (qD (l.take i) (qc (l.getD i default).path))).kind = 3 := by
 unfold ju at h
 split at h
 ·omega
 ·split at h
  ·exact absurd h ‹_›
  ·split at h
   ·omega
   ·split at h
    ·omega
    ·split at h
     ·omega
     ·split at h
      ·omega
      ·rename_i h1 h2
       exact ⟨by omega, by
        by_cases e : (gt l (qD (l.take i) (qc (l.getD i default).path))).kind = 3
        ·exact e
        ·exact absurd e h2⟩
theorem G7 {l : List Rec} (h : (qv l).2 = 0) : Sheet l := by
 refine ⟨Gy h, G8 h, fun r hr hp => ?_⟩
 obtain ⟨i, hi, rfl⟩ := List.getElem_of_mem hr
 have e : l[i] = l.getD i default := (vX hi).symm
 rw [e] at hp ⊢
 obtain ⟨h1, h2⟩ := codeAt_par (Vc h i hi) hp
 cases hl : vk (l.take i) (qc (l.getD i default).path) with
 | none => exact absurd hl ((jd _ _).1.1 h1)
 | some m =>
  obtain ⟨hm, he⟩ := jF hl
  refine ⟨m, List.mem_of_mem_take hm, he, ?_⟩
  have h3 := (jd (l.take i) (qc (l.getD i default).path)).2 m hl
  rw [gtake l i _ h1 (JA _ _)] at h3
  rw [← h3]; exact h2
theorem Vr {l : List Rec} (h : Sheet l) (hn : l.length ≤ 16) : (qv l).2 = 0 := by
 rw [layerFault_of fun i hi => ?_]
 have hm : l.getD i default ∈ l := by rw [vX hi]; exact List.getElem_mem hi
 unfold ju
 rw [if_neg (by omega), if_neg (by rw [h.ok _ hm]; simp)]
 have hlt : 0 < i → ltP (l.getD (i - 1) default).path (l.getD i default).path = true := fun h0 => GO (fun r : Rec => r.path) h.rise (show i - 1 < i by omega) hi
 rw [if_neg (fun ⟨h0, e⟩ => VD (hlt h0) e.symm), if_neg (fun ⟨h0, e⟩ => by have := hlt h0; unfold ltP at this; rw [e] at this; cases this)]
 by_cases hp : qc (l.getD i default).path = []
 ·rw [if_pos hp]
 ·obtain ⟨m, hmt, he, hk⟩ := h.par _ hm hp
  have hmi : m ∈ l.take i := idx_lt (fun r : Rec => r.path) h.rise hi hmt (by
   show ltP m.path (l.getD i default).path = true
   rw [he]; exact Yu hp)
  have hl := JL (GS (fun r : Rec => r.path) h.rise i) hmi
  rw [he] at hl
  have h1 := (jd (l.take i) (qc (l.getD i default).path)).1.2 (by rw [hl]; simp)
  have h2 := (jd (l.take i) (qc (l.getD i default).path)).2 m hl
  rw [gtake l i _ h1 (JA _ _)] at h2
  rw [if_neg hp, if_neg (by omega), if_neg (by rw [h2]; simp [hk])]
theorem Wood.up {t : List Nd} (h : Wood t) : ∀ (k : Nat) (n : Nd), n ∈ t → n.path.length ≤ k → ∀ p ∈ jP n.path, ∃ m ∈ t, m.path = p ∧ m.kind = 3 := by
 intro k
 induction k with
 | zero =>
  intro n hn hk p hp
  have : n.path = [] := List.eq_nil_of_length_eq_zero (by omega)
  rw [this, QJ, if_pos QG] at hp; cases hp
 | succ k ih =>
  intro n hn hk p hp
  rw [QJ] at hp
  by_cases hpp : qc n.path = []
  ·rw [if_pos hpp] at hp; cases hp
  ·rw [if_neg hpp] at hp
   obtain ⟨m, hm, he, hk3⟩ := h.par n hn hpp
   have hne : n.path ≠ [] := fun e => by rw [e] at hpp; exact hpp QG
   rcases List.mem_cons.1 hp with rfl | hp
   ·exact ⟨m, hm, he, hk3⟩
   ·exact ih m hm (by rw [he]; have := Vg hne; omega) p (by rw [he]; exact hp)
theorem nodeOK_fault {n : Nd} (h : nodeOK n = true) : qx (QR n) = 0 ∧ n.kind ≠ 4 := by
 simp only [nodeOK, Bool.and_eq_true, decide_eq_true_eq, Bool.not_eq_true', decide_eq_false_iff_not] at h
 exact h
theorem Wood.above {t : List Nd} (h : Wood t) {n : Nd} (hn : n ∈ t) {p : List UInt8} (hb : vu n.path p = true) : ∃ m ∈ t, m.path = p ∧ m.kind = 3 :=
 h.up _ n hn (Nat.le_refl _) p (YZ (Q2 (h.ok n hn)) hb)
theorem look_filter {α : Type} (f : α → List UInt8) (q : α → Bool) {l : List α} (h : yp (l.map f)) (p : List UInt8) : yq f (l.filter q) p = (yq f l p).filter q := by
 induction l with
 | nil => rfl
 | cons x l ih =>
  have ih := ih (VJ h)
  rw [jV]
  by_cases hx : q x = true
  ·rw [List.filter_cons_of_pos hx, jV, ih]
   by_cases e : f x = p
   ·rw [if_pos e, if_pos e, Option.filter_some, if_pos hx]
   ·rw [if_neg e, if_neg e]
  ·rw [List.filter_cons_of_neg hx, ih]
   by_cases e : f x = p
   ·have : yq f l p = none := (jD f).2 fun hm => VD (V3 h p hm) e
    rw [if_pos e, this, Option.filter_some, if_neg hx]; rfl
   ·rw [if_neg e]
theorem Vt {α : Type} (f : α → List UInt8) (q : α → Bool) {l : List α} (h : yp (l.map f)) : yp ((l.filter q).map f) :=
 List.Pairwise.sublist (List.Sublist.map f List.filter_sublist) h
theorem Gn {t : List Nd} (h : yp (t.map (·.path))) (q : Nd → Bool) (p : List UInt8) : y5 (t.filter q) p = (y5 t p).filter q := look_filter (fun n : Nd => n.path) q h p
theorem Xt {t : List Nd} {n : Nd} (h : yp (t.map (·.path))) (hn : n.path ∉ t.map (·.path)) : yp ((Qp t n).map (·.path)) ∧ ∀ p, y5 (Qp t n) p = if p = n.path then some n else y5 t p := by
 have hr : yp ((Qp t n).map (·.path)) := by
  unfold Qp yp
  rw [List.map_append, List.map_cons, List.pairwise_append, List.pairwise_cons]
  have hgt : ∀ y ∈ (t.filter fun x => !ltP x.path n.path).map (fun x : Nd => x.path), ltP n.path y = true := by
   intro y hy
   obtain ⟨x, hx, rfl⟩ := List.mem_map.1 hy
   obtain ⟨hx1, hx2⟩ := List.mem_filter.1 hx
   rcases ql (ltP n.path x.path) with h1 | h1
   ·exact h1
   ·have h2 : ltP x.path n.path = false := by simpa using hx2
    exact absurd (List.mem_map_of_mem (f := fun x : Nd => x.path) hx1) (by rw [show x.path = n.path from YI h2 h1]; exact hn)
  refine ⟨Vt _ _ h, ⟨hgt, Vt _ _ h⟩, fun a ha b hb => ?_⟩
  obtain ⟨x, hx, rfl⟩ := List.mem_map.1 ha
  have h1 := (List.mem_filter.1 hx).2
  rcases List.mem_cons.1 hb with rfl | hb
  ·exact h1
  ·exact Qh h1 (hgt b hb)
 refine ⟨hr, fun p => ?_⟩
 by_cases e : p = n.path
 ·subst e
  rw [if_pos rfl]
  exact Qb hr (by unfold Qp; simp)
 ·rw [if_neg e]
  have key : ∀ x, y5 (Qp t n) p = some x ↔ y5 t p = some x := by
   intro x
   constructor
   ·intro hx
    obtain ⟨h1, h2⟩ := jG hx
    unfold Qp at h1
    rw [List.mem_append, List.mem_cons] at h1
    rcases h1 with h1 | h1 | h1
    ·rw [← h2]; exact Qb h (List.mem_filter.1 h1).1
    ·exact absurd (by rw [← h2, h1]) e
    ·rw [← h2]; exact Qb h (List.mem_filter.1 h1).1
   ·intro hx
    obtain ⟨h1, h2⟩ := jG hx
    rw [← h2]
    refine Qb hr ?_
    unfold Qp
    rw [List.mem_append, List.mem_cons]
    rcases ql (ltP x.path n.path) with h3 | h3
    ·exact .inl (List.mem_filter.2 ⟨h1, h3⟩)
    ·exact .inr (.inr (List.mem_filter.2 ⟨h1, by rw [h3]; rfl⟩))
  cases hl : y5 t p with
  | none =>
   cases hl2 : y5 (Qp t n) p with
   | none => rfl
   | some x => rw [(key x).1 hl2] at hl; cases hl
  | some x => exact (key x).2 hl
def J5 (t : List Nd) (n : Nd) : List Nd := t.takeWhile (fun x => ltP x.path n.path) ++ n :: (match t.dropWhile (fun x => ltP x.path n.path) with | [] => [] | y :: r => if y.path = n.path then r else y :: r)
theorem rise_while {t : List Nd} {p : List UInt8} (h : yp (t.map (·.path))) : t.takeWhile (fun x => ltP x.path p) = t.filter (fun x => ltP x.path p) ∧ t.dropWhile (fun x => ltP x.path p) = t.filter (fun x => !ltP x.path p) := by
 induction t with
 | nil => exact ⟨rfl, rfl⟩
 | cons x t ih =>
  obtain ⟨i1, i2⟩ := ih (VJ h)
  rcases ql (ltP x.path p) with hx | hx
  ·simp only [List.takeWhile_cons, List.dropWhile_cons, List.filter_cons, hx, if_true, i1, i2]
   simp
  ·have hall := Jy h hx
   have h1 : t.filter (fun x => ltP x.path p) = [] := List.filter_eq_nil_iff.2 fun y hy => by rw [hall y hy]; simp
   have h2 : t.filter (fun x => !ltP x.path p) = t := List.filter_eq_self.2 fun y hy => by rw [hall y hy]; rfl
   simp [List.takeWhile_cons, List.dropWhile_cons, List.filter_cons, hx, h1, h2]
theorem putN_place {t : List Nd} {n : Nd} (h : yp (t.map (·.path))) : J5 t n = Qp (t.filter fun x => !decide (x.path = n.path)) n := by
 obtain ⟨h1, h2⟩ := rise_while (p := n.path) h
 unfold J5 Qp
 rw [h1, h2, List.filter_filter, List.filter_filter]
 have e1 : t.filter (fun x => ltP x.path n.path && !decide (x.path = n.path)) = t.filter (fun x => ltP x.path n.path) := by
  refine List.filter_congr fun x _ => ?_
  rcases ql (ltP x.path n.path) with h3 | h3
  ·rw [h3, decide_eq_false (VD h3)]; rfl
  ·rw [h3]; rfl
 rw [e1]
 congr 2
 have hr := Vt (fun x : Nd => x.path) (fun x => !ltP x.path n.path) h
 have hnl : ∀ x ∈ t.filter (fun x => !ltP x.path n.path), ltP x.path n.path = false := fun x hx => by simpa using (List.mem_filter.1 hx).2
 have e2 : t.filter (fun x => (!ltP x.path n.path) && !decide (x.path = n.path)) = (t.filter (fun x => !ltP x.path n.path)).filter fun x => !decide (x.path = n.path) := by
  rw [List.filter_filter]
  exact List.filter_congr fun x _ => Bool.and_comm _ _
 rw [e2]
 cases hd : t.filter (fun x => !ltP x.path n.path) with
 | nil => rfl
 | cons y r =>
  rw [hd] at hr hnl
  have hrest : ∀ x ∈ r, x.path ≠ n.path := by
   intro x hx e
   have h3 : ltP y.path x.path = true := V3 hr x.path (List.mem_map_of_mem hx)
   rw [e, hnl y (List.mem_cons_self ..)] at h3; cases h3
  have hfr : r.filter (fun x => !decide (x.path = n.path)) = r := List.filter_eq_self.2 fun x hx => by rw [decide_eq_false (hrest x hx)]; rfl
  by_cases e : y.path = n.path
  ·simp [e, hfr]
  ·simp [e, hfr]
def doS (t : List Nd) (r : Rec) : List Nd :=
 if r.kind = 4 then yf t r.path true
 else if r.kind ≠ 3 ∨ r.opq = true ∨ (0 ≤ vd t r.path ∧ (gt t (vd t r.path)).kind ≠ 3) then J5 (yf t r.path false) (jO r) else J5 t (jO r)
def doI (t : List Nd) (r : Rec) : List Nd :=
 if (r.kind = 3 ∧ r.opq = false) ∧ 0 ≤ vd t r.path ∧ (gt t (vd t r.path)).kind = 3 then Gv t (vd t r.path) ⟨(gt t (vd t r.path)).kind, (gt t (vd t r.path)).path, (gt t (vd t r.path)).body, r.mode⟩
 else if r.kind = 4 then yf t r.path true else Qp (yf t r.path true) (jO r)
def VF (r : Rec) : Option Nd := if r.kind = 4 then none else some (jO r)
def Yx (t : List Nd) (r : Rec) (p : List UInt8) : Option Nd := if p = r.path then VF r else if vB r && vu p r.path then none else y5 t p
theorem dir_body {r : Rec} (h : qx r = 0) (hk : r.kind = 3) : r.body = [] := by
 unfold qx at h
 split at h
 ·omega
 ·split at h
  ·omega
  ·split at h
   ·omega
   ·split at h
    ·omega
    ·rename_i h4
     by_cases e : r.body = []
     ·exact e
     ·exact absurd (by simp [hk, e]) h4
theorem VE {t : List Nd} (h : yp (t.map (·.path))) {p : List UInt8} (hp : p ≠ []) (b : Bool) (q : List UInt8) : y5 (yf t p b) q = if vu q p || (b && decide (q = p)) then none else y5 t q := by
 unfold yf
 rw [Gn h]
 cases hl : y5 t q with
 | none => rw [ite_self]; rfl
 | some x =>
  have e := (jG hl).2
  subst e
  simp only [hp, decide_false, Bool.false_and, Bool.false_or, Option.filter_some]
  cases vu x.path p <;> cases b <;> cases hd : decide (x.path = p) <;> simp
theorem VG {t : List Nd} (h : yp (t.map (·.path))) (p : List UInt8) (b : Bool) : yp ((yf t p b).map (·.path)) := Vt _ _ h
theorem XB {t : List Nd} (h : Wood t) {p q : List UInt8} (hb : vu q p = true) (hd : ∀ m ∈ t, m.path = p → m.kind ≠ 3) : y5 t q = none := by
 cases hl : y5 t q with
 | none => rfl
 | some n =>
  obtain ⟨hn, e⟩ := jG hl
  subst e
  obtain ⟨m, hm, h1, h2⟩ := h.above hn hb
  exact absurd h2 (hd m hm h1)
theorem putN_look {t : List Nd} (h : yp (t.map (·.path))) (n : Nd) : yp ((J5 t n).map (·.path)) ∧ ∀ p, y5 (J5 t n) p = if p = n.path then some n else y5 t p := by
 rw [putN_place h]
 have hr := Vt (fun x : Nd => x.path) (fun x => !decide (x.path = n.path)) h
 have hn : n.path ∉ (t.filter fun x => !decide (x.path = n.path)).map (fun x : Nd => x.path) := by
  intro hm
  obtain ⟨x, hx, e⟩ := List.mem_map.1 hm
  have := (List.mem_filter.1 hx).2
  simp [e] at this
 obtain ⟨h1, h2⟩ := Xt hr hn
 refine ⟨h1, fun p => ?_⟩
 rw [h2]
 by_cases e : p = n.path
 ·simp [e]
 ·simp only [if_neg e]
  rw [Gn h]
  cases hl : y5 t p with
  | none => rfl
  | some x =>
   have e2 := (jG hl).2
   subst e2
   rw [Option.filter_some, decide_eq_false e]; rfl
theorem G2 {r : Rec} (h : qx r = 0) : r.path ≠ [] := GJ (yN h)
theorem XC {t : List Nd} {r : Rec} (h : Wood t) (hr : qx r = 0) : yp ((doS t r).map (·.path)) ∧ ∀ p, y5 (doS t r) p = Yx t r p := by
 have hne := G2 hr
 unfold doS Yx VF
 by_cases h4 : r.kind = 4
 ·have hst : vB r = true := by simp [vB, h4]
  rw [if_pos h4]
  refine ⟨VG h.rise _ _, fun p => ?_⟩
  rw [VE h.rise hne]
  by_cases e : p = r.path
  ·simp [e, h4]
  ·simp [e, hst]
 ·rw [if_neg h4]
  by_cases hc : r.kind ≠ 3 ∨ r.opq = true ∨ (0 ≤ vd t r.path ∧ (gt t (vd t r.path)).kind ≠ 3)
  ·rw [if_pos hc]
   obtain ⟨h1, h2⟩ := putN_look (VG h.rise r.path false) (jO r)
   refine ⟨h1, fun p => ?_⟩
   rw [h2]
   have hpath : (jO r).path = r.path := rfl
   by_cases e : p = r.path
   ·rw [if_pos (by rw [e]; rfl), if_pos e, if_neg h4]
   ·rw [if_neg (by rw [hpath]; exact e), if_neg e, VE h.rise hne]
    simp only [Bool.false_and, Bool.or_false]
    rcases ql (vB r) with hs | hs
    ·rw [hs]; rfl
    ·rw [hs]
     simp only [Bool.false_and, Bool.false_eq_true, if_false]
     rcases ql (vu p r.path) with hb | hb
     ·rw [hb, if_pos rfl]
      have hs2 : r.kind = 3 ∧ r.opq = false := by simpa [vB] using hs
      rcases hc with hc | hc | hc
      ·exact absurd hs2.1 hc
      ·rw [hs2.2] at hc; cases hc
      ·refine (XB h hb fun m hm e2 => ?_).symm
       have hl := Qb h.rise hm
       rw [e2] at hl
       rw [(QL t r.path).2 m hl] at hc
       exact hc.2
     ·rw [hb]; rfl
  ·rw [if_neg hc]
   obtain ⟨h1, h2⟩ := putN_look h.rise (jO r)
   refine ⟨h1, fun p => ?_⟩
   rw [h2]
   have hpath : (jO r).path = r.path := rfl
   have hs : vB r = false := by
    simp only [not_or, ne_eq, Decidable.not_not] at hc
    simp only [vB, hc.1, decide_true, Bool.not_true, Bool.false_or]
    cases ho : r.opq with
    | false => rfl
    | true => exact absurd ho hc.2.1
   by_cases e : p = r.path
   ·rw [if_pos (by rw [e]; rfl), if_pos e, if_neg h4]
   ·rw [if_neg (by rw [hpath]; exact e), if_neg e, hs]; rfl
theorem set_look {t : List Nd} {n : Nd} (h : yp (t.map (·.path))) {k : Nat} (hk : k < t.length) (hp : n.path = (t.getD k default).path) : yp ((t.set k n).map (·.path)) ∧ ∀ p, y5 (t.set k n) p = if p = n.path then some n else y5 t p := by
 have hm : (t.set k n).map (fun x : Nd => x.path) = t.map (fun x : Nd => x.path) := by
  rw [List.map_set, hp, vX hk]
  apply List.ext_getElem
  ·simp
  ·intro i h1 h2
   rw [List.getElem_set]
   split
   ·rename_i e; subst e; simp
   ·rfl
 have hr : yp ((t.set k n).map (fun x : Nd => x.path)) := by rw [hm]; exact h
 refine ⟨hr, fun p => ?_⟩
 by_cases e : p = n.path
 ·subst e; rw [if_pos rfl]
  exact Qb hr (List.mem_set hk n)
 ·rw [if_neg e]
  have key : ∀ x, y5 (t.set k n) p = some x ↔ y5 t p = some x := by
   intro x
   constructor
   ·intro hx
    obtain ⟨h1, h2⟩ := jG hx
    rw [← h2]
    rcases List.mem_or_eq_of_mem_set h1 with h1 | h1
    ·exact Qb h h1
    ·exact absurd (by rw [← h2, h1]) e
   ·intro hx
    obtain ⟨h1, h2⟩ := jG hx
    rw [← h2]
    refine Qb hr ?_
    obtain ⟨j, hj, rfl⟩ := List.getElem_of_mem h1
    have hjk : k ≠ j := fun e2 => e (by subst e2; rw [← h2, hp, vX hk])
    rw [List.mem_iff_getElem]
    exact ⟨j, by simpa using hj, by rw [List.getElem_set_ne hjk]⟩
  cases hl : y5 t p with
  | none =>
   cases hl2 : y5 (t.set k n) p with
   | none => rfl
   | some x => rw [(key x).1 hl2] at hl; cases hl
  | some x => exact (key x).2 hl
theorem doI_spec {t : List Nd} {r : Rec} (h : Wood t) (hr : qx r = 0) : yp ((doI t r).map (·.path)) ∧ ∀ p, y5 (doI t r) p = Yx t r p := by
 have hne := G2 hr
 unfold doI Yx VF
 by_cases hc : (r.kind = 3 ∧ r.opq = false) ∧ 0 ≤ vd t r.path ∧ (gt t (vd t r.path)).kind = 3
 ·rw [if_pos hc]
  obtain ⟨⟨h3, ho⟩, hf, hk⟩ := hc
  have hs : vB r = false := by simp [vB, h3, ho]
  obtain ⟨m, hm⟩ : ∃ m, y5 t r.path = some m := by
   cases hl : y5 t r.path with
   | none => exact absurd hl ((QL t r.path).1.1 hf)
   | some m => exact ⟨m, rfl⟩
  have hg := (QL t r.path).2 m hm
  obtain ⟨hmt, hmp⟩ := jG hm
  rw [hg] at hk ⊢
  have hin := GB (t := t) (p := r.path) (by omega)
  have hlt : (vd t r.path).toNat < t.length := by have := Qs hin; omega
  have hgd : t.getD (vd t r.path).toNat default = m := hg
  have hb1 : m.body = [] := dir_body (r := QR m) (nodeOK_fault (h.ok m hmt)).1 hk
  have hb2 : r.body = [] := dir_body hr h3
  have hnd : (⟨m.kind, m.path, m.body, r.mode⟩ : Nd) = jO r := by unfold jO; rw [hk, hmp, hb1, h3, hb2]
  rw [hnd]
  obtain ⟨h1, h2⟩ := set_look (n := jO r) h.rise hlt (by rw [hgd]; exact hmp.symm)
  refine ⟨h1, fun p => ?_⟩
  have := h2 p
  unfold Gv
  rw [this]
  have h4 : r.kind ≠ 4 := by omega
  by_cases e : p = r.path
  ·rw [if_pos (by rw [e]; rfl), if_pos e, if_neg h4]
  ·rw [if_neg (show ¬ p = (jO r).path from e), if_neg e, hs]; rfl
 ·rw [if_neg hc]
  by_cases h4 : r.kind = 4
  ·have hst : vB r = true := by simp [vB, h4]
   rw [if_pos h4]
   refine ⟨VG h.rise _ _, fun p => ?_⟩
   rw [VE h.rise hne]
   by_cases e : p = r.path
   ·simp [e, h4]
   ·simp [e, hst]
  ·rw [if_neg h4]
   have hn : (jO r).path ∉ (yf t r.path true).map (fun x : Nd => x.path) := by
    intro hm
    have := (QP (fun n : Nd => n.path)).1 hm
    exact this (by show y5 (yf t r.path true) r.path = none; rw [VE h.rise hne]; simp)
   obtain ⟨h1, h2⟩ := Xt (VG h.rise r.path true) hn
   refine ⟨h1, fun p => ?_⟩
   rw [h2]
   by_cases e : p = r.path
   ·rw [if_pos (by rw [e]; rfl), if_pos e, if_neg h4]
   ·rw [if_neg (show ¬ p = (jO r).path from e), if_neg e, VE h.rise hne]
    simp only [e, decide_false, Bool.and_false, Bool.or_false]
    rcases ql (vB r) with hs | hs
    ·rw [hs]; rfl
    ·rw [hs]
     simp only [Bool.false_and, Bool.false_eq_true, if_false]
     rcases ql (vu p r.path) with hb | hb
     ·rw [hb, if_pos rfl]
      have hs2 : r.kind = 3 ∧ r.opq = false := by simpa [vB] using hs
      refine (XB h hb fun m hm e2 hk => hc ?_).symm
      have hl := Qb h.rise hm
      rw [e2] at hl
      refine ⟨hs2, (QL t r.path).1.2 (by rw [hl]; simp), ?_⟩
      rw [(QL t r.path).2 m hl]; exact hk
     ·rw [hb]; rfl
theorem doI_doS {t : List Nd} {r : Rec} (h : Wood t) (hr : qx r = 0) : doI t r = doS t r := by
 obtain ⟨a1, a2⟩ := doI_spec h hr
 obtain ⟨b1, b2⟩ := XC h hr
 exact Y3 (fun n : Nd => n.path) a1 b1 fun p => (a2 p).trans (b2 p).symm
theorem Qd (r : Rec) : qx r = 0 ↔ within r.kind 1 4 = true ∧ qJ r.path = true ∧ (decide (20 < r.body.length) || (decide (r.kind = 2) && decide (r.body = []))) = false ∧
  (((decide (r.kind = 3) || decide (r.kind = 4)) && !decide (r.body = [])) || (!decide (r.kind = 3) && r.opq)) = false ∧ (!within r.mode 0 511 || ((decide (r.kind = 2) || decide (r.kind = 4)) && !decide (r.mode = 0))) = false := by
 unfold qx
 generalize (!within r.mode 0 511 || ((decide (r.kind = 2) || decide (r.kind = 4)) && !decide (r.mode = 0))) = c5
 generalize (((decide (r.kind = 3) || decide (r.kind = 4)) && !decide (r.body = [])) || (!decide (r.kind = 3) && r.opq)) = c4
 generalize (decide (20 < r.body.length) || (decide (r.kind = 2) && decide (r.body = []))) = c3
 cases within r.kind 1 4 <;> cases qJ r.path <;> cases c3 <;> cases c4 <;> cases c5 <;> simp
theorem Q9 {r : Rec} (h : qx r = 0) (b : Bool) (hb : b = true → r.kind = 3) : qx ⟨r.kind, r.path, r.body, r.mode, b⟩ = 0 := by
 obtain ⟨h1, h2, h3, h4, h5⟩ := (Qd r).1 h
 refine (Qd _).2 ⟨h1, h2, h3, ?_, h5⟩
 rw [Bool.or_eq_false_iff] at h4 ⊢
 refine ⟨h4.1, ?_⟩
 cases b with
 | false => simp
 | true => simp [hb rfl]
theorem GZ {r : Rec} (hr : qx r = 0) (h4 : r.kind ≠ 4) : nodeOK (jO r) = true := by
 simp only [nodeOK, Bool.and_eq_true, decide_eq_true_eq, Bool.not_eq_true', decide_eq_false_iff_not]
 exact ⟨Q9 hr false (fun h => by cases h), h4⟩
theorem doS_wood {t : List Nd} {r : Rec} (h : Wood t) (hr : qx r = 0) (hp : qc r.path ≠ [] → ∃ m ∈ t, m.path = qc r.path ∧ m.kind = 3) : Wood (doS t r) := by
 obtain ⟨b1, b2⟩ := XC h hr
 have hmem : ∀ n ∈ doS t r, Yx t r n.path = some n := fun n hn => by rw [← b2]; exact Qb b1 hn
 have hback : ∀ p x, Yx t r p = some x → x ∈ doS t r ∧ x.path = p := fun p x hx => by rw [← b2] at hx; exact jG hx
 refine ⟨b1, fun n hn => ?_, fun n hn hpp => ?_⟩
 ·have := hmem n hn
  unfold Yx at this
  split at this
  ·unfold VF at this
   split at this
   ·cases this
   ·rename_i h4; rw [← Option.some.inj this]; exact GZ hr h4
  ·split at this
   ·cases this
   ·exact h.ok n (jG this).1
 ·have hs := hmem n hn
  unfold Yx at hs
  by_cases e : n.path = r.path
  ·rw [e] at hpp
   obtain ⟨m, hm, h1, h2⟩ := hp hpp
   have hb := jb hpp
   have hx : Yx t r (qc r.path) = some m := by
    unfold Yx
    rw [if_neg (fun e2 => X8 hb e2.symm), G0 hb, Bool.and_false, ← h1]
    exact Qb h.rise hm
   obtain ⟨g1, g2⟩ := hback _ _ hx
   exact ⟨m, g1, by rw [g2, e], h2⟩
  ·rw [if_neg e] at hs
   split at hs
   ·cases hs
   ·rename_i hns
    have hnt := (jG hs).1
    have hnok := Q2 (h.ok n hnt)
    obtain ⟨m, hm, h1, h2⟩ := h.par n hnt hpp
    have hb := jb hpp
    by_cases e2 : qc n.path = r.path
    ·
     rw [e2] at hb
     have hst : vB r = false := by
      rcases ql (vB r) with h3 | h3
      ·exact absurd (by rw [h3, hb]; rfl) hns
      ·exact h3
     have h3 : r.kind = 3 := by
      have : r.kind = 3 ∧ r.opq = false := by simpa [vB] using hst
      exact this.1
     have hx : Yx t r (qc n.path) = some (jO r) := by
      unfold Yx VF
      rw [if_pos e2, if_neg (by omega)]
     obtain ⟨g1, g2⟩ := hback _ _ hx
     exact ⟨_, g1, g2, h3⟩
    ·have hx : Yx t r (qc n.path) = some m := by
      unfold Yx
      rw [if_neg e2]
      rw [if_neg (fun h3 => hns ?_), ← h1]
      ·exact Qb h.rise hm
      ·rw [Bool.and_eq_true] at h3
       rw [h3.1, Yc hb h3.2]; rfl
     obtain ⟨g1, g2⟩ := hback _ _ hx
     exact ⟨m, g1, g2, h2⟩
def vD (l : List Rec) (t : List Nd) : List Nd := l.foldl doS t
theorem G6 (l : List Rec) (r : Rec) (t : List Nd) : vD (l ++ [r]) t = doS (vD l t) r := by simp [vD]
def seenL (l : List Rec) (t : List Nd) (p : List UInt8) : Option Nd := match vk l p with
 | some r => VF r
 | none => if vK l p then none else y5 t p
theorem yh (l : List Rec) (p : List UInt8) : vK l p = true ↔ ∃ x ∈ jP p, ∃ r, vk l x = some r ∧ vB r = true := by
 unfold vK
 rw [List.any_eq_true]
 constructor
 ·rintro ⟨x, hx, h⟩
  rw [Bool.and_eq_true, decide_eq_true_eq] at h
  cases hl : vk l x with
  | none => exact absurd hl ((jd l x).1.1 h.1)
  | some r =>
   rw [(jd l x).2 r hl] at h
   exact ⟨x, hx, r, hl, h.2⟩
 ·rintro ⟨x, hx, r, hl, h⟩
  refine ⟨x, hx, ?_⟩
  rw [Bool.and_eq_true, decide_eq_true_eq, (jd l x).2 r hl]
  exact ⟨(jd l x).1.2 (by rw [hl]; simp), h⟩
theorem jW (l : List Rec) (p : List UInt8) : yw l p = true ↔ ∃ x ∈ jP p, ∃ r, vk l x = some r ∧ r.opq = true := by
 unfold yw
 rw [List.any_eq_true]
 constructor
 ·rintro ⟨x, hx, h⟩
  rw [Bool.and_eq_true, decide_eq_true_eq] at h
  cases hl : vk l x with
  | none => exact absurd hl ((jd l x).1.1 h.1)
  | some r =>
   rw [(jd l x).2 r hl] at h
   exact ⟨x, hx, r, hl, h.2⟩
 ·rintro ⟨x, hx, r, hl, h⟩
  refine ⟨x, hx, ?_⟩
  rw [Bool.and_eq_true, decide_eq_true_eq, (jd l x).2 r hl]
  exact ⟨(jd l x).1.2 (by rw [hl]; simp), h⟩
theorem JU {l : List Rec} {r : Rec} (h : yp ((l ++ [r]).map (·.path))) (p : List UInt8) : vk (l ++ [r]) p = if p = r.path then some r else vk l p := by
 have hl : yp (l.map (fun r : Rec => r.path)) := by
  rw [List.map_append] at h
  exact (List.pairwise_append.1 h).1
 by_cases e : p = r.path
 ·subst e; rw [if_pos rfl]; exact JL h (by simp)
 ·rw [if_neg e]
  unfold vk yq
  rw [List.find?_append]
  have : List.find? (fun x : Rec => decide (x.path = p)) [r] = none := by simp [Ne.symm e]
  rw [this]; simp
theorem GY {l : List Rec} {p : List UInt8} : vk l p ≠ none ↔ p ∈ l.map (·.path) := (QP (fun r : Rec => r.path)).symm
theorem Sheet.init {l : List Rec} {r : Rec} (h : Sheet (l ++ [r])) : Sheet l ∧ (∀ x ∈ l, ltP x.path r.path = true) ∧ qx r = 0 ∧ (qc r.path ≠ [] → ∃ q ∈ l, q.path = qc r.path ∧ q.kind = 3) := by
 have hr := h.rise
 rw [List.map_append] at hr
 obtain ⟨h1, _, h3⟩ := List.pairwise_append.1 hr
 have hlt : ∀ x ∈ l, ltP x.path r.path = true := fun x hx => h3 x.path (List.mem_map_of_mem hx) r.path (by simp)
 refine ⟨⟨h1, fun x hx => h.ok x (List.mem_append_left _ hx), fun x hx hp => ?_⟩, hlt, h.ok r (by simp), fun hp => ?_⟩
 ·obtain ⟨q, hq, e, hk⟩ := h.par x (List.mem_append_left _ hx) hp
  rcases List.mem_append.1 hq with hq | hq
  ·exact ⟨q, hq, e, hk⟩
  ·rw [List.mem_singleton.1 hq] at e
   have h4 := Yu hp
   rw [← e, V2 (hlt x hx)] at h4; cases h4
 ·obtain ⟨q, hq, e, hk⟩ := h.par r (by simp) hp
  rcases List.mem_append.1 hq with hq | hq
  ·exact ⟨q, hq, e, hk⟩
  ·rw [List.mem_singleton.1 hq] at e
   have h4 := Yu hp
   rw [← e, VT] at h4; cases h4
theorem list_snoc {α : Type} : ∀ (n : Nat) (l : List α), l.length = n + 1 → ∃ m x, l = m ++ [x] ∧ m.length = n := by
 intro n l h
 have hne : l ≠ [] := fun e => by rw [e] at h; cases h
 exact ⟨l.dropLast, l.getLast hne, (List.dropLast_concat_getLast hne).symm, by simp; omega⟩
theorem YD (t : List Nd) (ht : Wood t) : ∀ (n : Nat) (l : List Rec), l.length = n → Sheet l → Wood (vD l t) ∧ (∀ p, y5 (vD l t) p = seenL l t p) ∧ (vD l t).length ≤ t.length + n ∧ l.foldl doI t = vD l t := by
 intro n
 induction n with
 | zero =>
  intro l hn _
  have : l = [] := List.eq_nil_of_length_eq_zero hn
  subst this
  refine ⟨ht, fun p => ?_, by simp [vD], rfl⟩
  have : vK [] p = false := by
   rcases ql (vK [] p) with h | h
   ·obtain ⟨x, _, r, hl, _⟩ := (yh [] p).1 h; cases hl
   ·exact h
  show y5 t p = if vK [] p then none else y5 t p
  rw [this]; rfl
 | succ n ih =>
  intro l hn hl
  obtain ⟨m, r, rfl, hm⟩ := list_snoc n l hn
  obtain ⟨hs, hlt, hr, hpar⟩ := hl.init
  obtain ⟨i1, i2, i3, i4⟩ := ih m hm hs
  have hpw : qc r.path ≠ [] → ∃ q ∈ vD m t, q.path = qc r.path ∧ q.kind = 3 := by
   intro hp
   obtain ⟨q, hq, e, hk⟩ := hpar hp
   have hlook : y5 (vD m t) (qc r.path) = some (jO q) := by
    rw [i2]
    unfold seenL
    rw [← e, JL hs.rise hq]
    show VF q = _
    unfold VF; rw [if_neg (by omega)]
   obtain ⟨g1, g2⟩ := jG hlook
   exact ⟨jO q, g1, g2, hk⟩
  rw [G6]
  obtain ⟨b1, b2⟩ := XC i1 hr
  have hw := doS_wood i1 hr hpw
  refine ⟨hw, fun p => ?_, ?_, by rw [List.foldl_append, i4]; exact doI_doS i1 hr⟩
  ·rw [b2]
   unfold Yx seenL
   rw [JU hl.rise]
   by_cases e : p = r.path
   ·rw [if_pos e, if_pos e]
   ·rw [if_neg e, if_neg e]
    have hcut : ∀ x ∈ jP p, vk (m ++ [r]) x = if x = r.path then some r else vk m x := fun x _ => JU hl.rise x
    by_cases hsb : (vB r && vu p r.path) = true
    ·rw [if_pos hsb]
     rw [Bool.and_eq_true] at hsb
     have hno : vk m p = none := by
      cases hlm : vk m p with
      | none => rfl
      | some q =>
       obtain ⟨h1, h2⟩ := jF hlm
       have h3 := hlt q h1
       rw [h2, V2 (GK hsb.2)] at h3; cases h3
     rw [hno]
     by_cases hpo : r.path ∈ jP p
     ·have : vK (m ++ [r]) p = true := (yh _ _).2 ⟨r.path, hpo, r, by rw [JU hl.rise, if_pos rfl], hsb.1⟩
      simp only [this, if_true]
     ·
      have hc : y5 t p = none := by
       cases hlt2 : y5 t p with
       | none => rfl
       | some q =>
        obtain ⟨h1, h2⟩ := jG hlt2
        exact absurd (YZ (by rw [← h2]; exact Q2 (ht.ok q h1)) hsb.2) hpo
      simp only [hc, ite_self]
    ·rw [if_neg hsb, i2]
     unfold seenL
     cases hlm : vk m p with
     | some q => rfl
     | none =>
      have : vK (m ++ [r]) p = vK m p := by
       rw [Bool.eq_iff_iff, yh, yh]
       constructor
       ·rintro ⟨x, hx, q, hq, hst⟩
        rw [hcut x hx] at hq
        by_cases e2 : x = r.path
        ·rw [if_pos e2] at hq
         have : r = q := Option.some.inj hq
         subst this
         exact absurd (by rw [hst, ← e2, QZ hx]; rfl) hsb
        ·rw [if_neg e2] at hq
         exact ⟨x, hx, q, hq, hst⟩
       ·rintro ⟨x, hx, q, hq, hst⟩
        refine ⟨x, hx, q, ?_, hst⟩
        rw [hcut x hx, if_neg (fun e2 => ?_)]
        ·exact hq
        ·have h3 := hlt q (jF hq).1
         rw [(jF hq).2, e2, VT] at h3; cases h3
      simp only [this]
  ·refine Nat.le_trans ?_ (show (vD m t).length + 1 ≤ t.length + (n + 1) by omega)
   have hput : ∀ (s : List Nd) (x : Nd), (J5 s x).length ≤ s.length + 1 := by
    intro s x
    unfold J5
    have hl2 : (s.takeWhile fun y => ltP y.path x.path).length + (s.dropWhile fun y => ltP y.path x.path).length = s.length := by
     rw [← List.length_append, List.takeWhile_append_dropWhile]
    cases hd : s.dropWhile (fun y => ltP y.path x.path) with
    | nil => simp; rw [hd] at hl2; simp at hl2; omega
    | cons y q =>
     rw [hd] at hl2
     simp only [List.length_append, List.length_cons] at hl2 ⊢
     split
     ·omega
     ·simp only [List.length_cons]; omega
   unfold doS
   split
   ·have := YH (vD m t) r.path true; omega
   ·split
    ·have h1 := YH (vD m t) r.path false
     have h2 := hput (yf (vD m t) r.path false) (jO r)
     omega
    ·exact hput _ _
theorem Sheet.take {l : List Rec} (h : Sheet l) (i : Nat) : Sheet (l.take i) := by
 refine ⟨GS (fun r : Rec => r.path) h.rise i, fun r hr => h.ok r (List.mem_of_mem_take hr), fun r hr hp => ?_⟩
 obtain ⟨q, hq, e, hk⟩ := h.par r (List.mem_of_mem_take hr) hp
 obtain ⟨j, hj, rfl⟩ := List.mem_take_iff_getElem.1 hr
 have hjl : j < l.length := by omega
 have hlt : ltP q.path (l.getD j default).path = true := by rw [e, vX hjl]; exact Yu hp
 have hq2 := idx_lt (fun r : Rec => r.path) h.rise hjl hq hlt
 refine ⟨q, ?_, e, hk⟩
 have : l.take j = (l.take i).take j := by rw [List.take_take, Nat.min_eq_left (by omega)]
 rw [this] at hq2
 exact List.mem_of_mem_take hq2
def okT (l : List Rec) (t : List Nd) : Bool := decide ((qv l).2 = 0) && XM t
theorem okT_of {l : List Rec} {t : List Nd} (h : okT l t = true) : Sheet l ∧ Wood t := by
 rw [okT, Bool.and_eq_true, decide_eq_true_eq] at h
 exact ⟨G7 h.1, wood_of h.2⟩
theorem okT_mk {l : List Rec} {t : List Nd} (h : (qv l).2 = 0) (k : Wood t) : okT l t = true := by rw [okT, decide_eq_true h, wood_ok k]; rfl
theorem JS {t : List Nd} (h : Wood t) : ∀ x ∈ t, x.path.length ≤ 1048576 := fun x hx => yW (Q2 (h.ok x hx))
def qZ.b1 (a0 : List Nd) (a1 : Nd) : Int → Option (Step (List Nd) (Int) (Int)) :=
 fun x5_7 => bif (!(decide (x5_7 < (a0.length : Int))) || (inR x5_7 a0.length)) then (bif (!(decide (x5_7 < (a0.length : Int))) || (decide (((gt a0 x5_7).path).length ≤ 1048576))) then (bif (!(decide (x5_7 < (a0.length : Int))) || (decide (a1.path.length ≤ 1048576))) then (bif ((decide (x5_7 < (a0.length : Int))) && (vw (cut 47 ((gt a0 x5_7).path)) (cut 47 a1.path))) then (some (.nxt (IntKind.wrap .i64 (x5_7 + 1)))) else (some (.brk x5_7))) else none) else none) else none
def qZ.sh (k : Nat) (a0 : List Nd) (a1 : Nd) : Option (List Nd) :=
  (qp (qZ.b1 a0 a1) k 0).bind fun z => match z with | .inl t => some t | .inr x5_11 => bif inS x5_11 (a0.length : Int) (a0.length : Int) then (bif (!(decide (x5_11 < (a0.length : Int))) || (inR x5_11 a0.length)) then (bif ((decide (x5_11 < (a0.length : Int))) && (decide (((gt a0 x5_11).path) = a1.path))) then (bif inS (IntKind.wrap .i64 (x5_11 + 1)) (a0.length : Int) (a0.length : Int) then (bif inS 0 x5_11 (a0.length : Int) then (bif decide ((([] : List Nd).length + (sub a0 0 x5_11).length) * 48 ≤ 140737488355328) then (bif decide (((([] : List Nd) ++ (sub a0 0 x5_11)).length + ([a1] : List Nd).length) * 48 ≤ 140737488355328) then (bif decide ((((([] : List Nd) ++ (sub a0 0 x5_11)) ++ ([a1] : List Nd)).length + (sub a0 (IntKind.wrap .i64 (x5_11 + 1)) (a0.length : Int)).length) * 48 ≤ 140737488355328) then (some (((([] : List Nd) ++ (sub a0 0 x5_11)) ++ ([a1] : List Nd)) ++ (sub a0 (IntKind.wrap .i64 (x5_11 + 1)) (a0.length : Int)))) else none) else none) else none) else none) else none) else (bif inS 0 x5_11 (a0.length : Int) then (bif decide ((([] : List Nd).length + (sub a0 0 x5_11).length) * 48 ≤ 140737488355328) then (bif decide (((([] : List Nd) ++ (sub a0 0 x5_11)).length + ([a1] : List Nd).length) * 48 ≤ 140737488355328) then (bif decide ((((([] : List Nd) ++ (sub a0 0 x5_11)) ++ ([a1] : List Nd)).length + (sub a0 x5_11 (a0.length : Int)).length) * 48 ≤ 140737488355328) then (some (((([] : List Nd) ++ (sub a0 0 x5_11)) ++ ([a1] : List Nd)) ++ (sub a0 x5_11 (a0.length : Int)))) else none) else none) else none) else none)) else none) else none
theorem while_run {t : List Nd} {n : Nd} (h0 : t.length ≤ 1000000) (h1 : ∀ x ∈ t, x.path.length ≤ 1048576) (h2 : n.path.length ≤ 1048576) :
  qp (qZ.b1 t n) (t.length + 1) 0 = some (.inr ((t.takeWhile fun x => ltP x.path n.path).length : Int)) := by
 have key : ∀ (d i k : Nat), i + d = t.length → d < k → qp (qZ.b1 t n) k (i : Int) = some (.inr ((i + ((t.drop i).takeWhile fun x => ltP x.path n.path).length : Nat) : Int)) := by
  intro d
  induction d with
  | zero =>
   intro i k hi hk
   obtain ⟨k, rfl⟩ : ∃ m, k = m + 1 := ⟨k - 1, by omega⟩
   have d1 : decide ((i : Int) < (t.length : Int)) = false := decide_eq_false (by omega)
   have hd : t.drop i = [] := List.drop_eq_nil_of_le (by omega)
   rw [qp, hd]
   simp only [qZ.b1, d1, Bool.not_false, Bool.true_or, Bool.false_and, cond_true, cond_false, List.takeWhile_nil, List.length_nil, Nat.add_zero]; rfl
  | succ d ih =>
   intro i k hi hk
   obtain ⟨k, rfl⟩ : ∃ m, k = m + 1 := ⟨k - 1, by omega⟩
   have hlt : i < t.length := by omega
   have d1 : decide ((i : Int) < (t.length : Int)) = true := decide_eq_true (by omega)
   have p1 : decide ((gt t (i : Int)).path.length ≤ 1048576) = true := decide_eq_true (by rw [vY, vX hlt]; exact h1 _ (List.getElem_mem hlt))
   have w1 : IntKind.wrap .i64 ((i : Int) + 1) = ((i + 1 : Nat) : Int) := by rw [wrap_small (by omega) (by omega)]; omega
   rw [qp, QK hlt]
   simp only [qZ.b1, d1, qV hlt, p1, decide_eq_true h2, Bool.not_true, Bool.false_or, Bool.true_and, cond_true, w1]
   rcases ql (vw (cut 47 (gt t (i : Int)).path) (cut 47 n.path)) with hl | hl
   ·have hl' : ltP (gt t (i : Int)).path n.path = true := hl
    rw [hl]
    simp only [cond_true, List.takeWhile_cons, hl', if_true, List.length_cons]
    refine (ih (i + 1) k (by omega) (by omega)).trans ?_
    congr 2; omega
   ·have hl' : ltP (gt t (i : Int)).path n.path = false := hl
    rw [hl]
    simp only [cond_false, List.takeWhile_cons, hl', Bool.false_eq_true, if_false, List.length_nil, Nat.add_zero]; rfl
 have := key t.length 0 (t.length + 1) (by omega) (by omega)
 rw [List.drop_zero, Nat.zero_add] at this
 exact this
theorem take_while_len {α : Type} (q : α → Bool) (t : List α) : t.take (t.takeWhile q).length = t.takeWhile q ∧ t.drop (t.takeWhile q).length = t.dropWhile q := by
 have h : t = t.takeWhile q ++ t.dropWhile q := List.takeWhile_append_dropWhile.symm
 constructor
 ·conv => lhs; rw [h]
  rw [List.take_append_of_le_length (by simp)]; simp
 ·conv => lhs; rw [h]
  have : (t.takeWhile q ++ t.dropWhile q).takeWhile q = t.takeWhile q := by rw [← h]
  rw [this, List.drop_left]
theorem qZ.eq (a0 : List Nd) (a1 : Nd) (h0 : a0.length ≤ 1000000) (h1 : ∀ x ∈ a0, x.path.length ≤ 1048576) (h2 : a1.path.length ≤ 1048576) : ∃ k, qZ.sh k a0 a1 = some (J5 a0 a1) := by
 refine ⟨a0.length + 1, ?_⟩
 unfold qZ.sh
 rw [while_run h0 h1 h2]
 obtain ⟨c, hc⟩ : ∃ c, c = (a0.takeWhile fun x => ltP x.path a1.path).length := ⟨_, rfl⟩
 obtain ⟨t1, t2⟩ := take_while_len (fun x : Nd => ltP x.path a1.path) a0
 rw [← hc] at t1 t2 ⊢
 have hle : c ≤ a0.length := by rw [hc]; exact (List.takeWhile_prefix _).length_le
 have s1 : inS (c : Int) (a0.length : Int) (a0.length : Int) = true := Vi (by omega) (by omega) (by omega)
 have s2 : inS 0 (c : Int) (a0.length : Int) = true := Vi (by omega) (by omega) (by omega)
 have e1 : sub a0 0 (c : Int) = a0.take c := by show sub a0 ((0 : Nat) : Int) (c : Int) = _; rw [Gj]; rfl
 have e2 : sub a0 (c : Int) (a0.length : Int) = a0.drop c := by rw [Gj, List.take_length]
 have l1 : (a0.take c).length ≤ 1000000 := by simp; omega
 have l2 : (a0.drop c).length ≤ 1000000 := by simp; omega
 have g1 : decide ((([] : List Nd).length + (a0.take c).length) * 48 ≤ 140737488355328) = true := decide_eq_true (by simp only [List.length_nil]; omega)
 have g2 : decide (((([] : List Nd) ++ a0.take c).length + ([a1] : List Nd).length) * 48 ≤ 140737488355328) = true := decide_eq_true (by simp only [List.nil_append, List.length_cons, List.length_nil]; omega)
 have g3 : decide ((((([] : List Nd) ++ a0.take c) ++ ([a1] : List Nd)).length + (a0.drop c).length) * 48 ≤ 140737488355328) = true := decide_eq_true (by simp only [List.nil_append, List.length_append, List.length_cons, List.length_nil]; omega)
 simp only [Option.bind_some, s1, s2, e1, e2, g1, g2, g3, cond_true]
 by_cases hlt : c < a0.length
 ·have d1 : decide ((c : Int) < (a0.length : Int)) = true := decide_eq_true (by omega)
  have w1 : IntKind.wrap .i64 ((c : Int) + 1) = ((c + 1 : Nat) : Int) := by rw [wrap_small (by omega) (by omega)]; omega
  have s3 : inS ((c + 1 : Nat) : Int) (a0.length : Int) (a0.length : Int) = true := Vi (by omega) (by omega) (by omega)
  have e3 : sub a0 ((c + 1 : Nat) : Int) (a0.length : Int) = a0.drop (c + 1) := by rw [Gj, List.take_length]
  have l3 : (a0.drop (c + 1)).length ≤ 1000000 := by simp; omega
  have g4 : decide ((((([] : List Nd) ++ a0.take c) ++ ([a1] : List Nd)).length + (a0.drop (c + 1)).length) * 48 ≤ 140737488355328) = true := decide_eq_true (by simp only [List.nil_append, List.length_append, List.length_cons, List.length_nil]; omega)
  rw [QK hlt] at t2
  simp only [d1, qV hlt, w1, s3, e3, g4, Bool.not_true, Bool.false_or, Bool.true_and, cond_true]
  unfold J5
  rw [← t1, ← t2]
  by_cases he : (gt a0 (c : Int)).path = a1.path
  ·simp [he]
  ·simp [he, QK hlt]
 ·have d1 : decide ((c : Int) < (a0.length : Int)) = false := decide_eq_false (by omega)
  have hn : a0.drop c = [] := List.drop_eq_nil_of_le (by omega)
  simp only [d1, Bool.not_false, Bool.true_or, Bool.false_and, cond_true, cond_false]
  unfold J5
  rw [← t1, ← t2, hn]; simp
def Ql.sh (a0 : Rec) : Option (Nd) :=
 some (⟨a0.kind, a0.path, a0.body, a0.mode⟩ : Nd)
theorem Ql.eq (a0 : Rec) : Ql.sh a0 = some (jO a0) := rfl
def j9.sh (a0 : Rec) : Option (Nd) :=
 some (⟨a0.kind, a0.path, a0.body, a0.mode⟩ : Nd)
theorem j9.eq (a0 : Rec) : j9.sh a0 = some (jO a0) := rfl
def Vl.sh (a0 : List Nd) (a1 : Rec) : Option (List Nd) :=
 bif decide (a0.length ≤ 1048576) then (bif (decide (a1.kind = 4)) then (bif decide (a0.length ≤ 1048576) then (some (yf a0 a1.path true)) else none) else (((bif ((!decide (a1.kind = 3)) || a1.opq) then some true else (((bif (decide (0 ≤ (vd a0 a1.path))) then (bif inR (vd a0 a1.path) a0.length then (some (!decide (((gt a0 (vd a0 a1.path)).kind) = 3))) else none) else some false)).bind fun z24 => some z24))).bind fun z23 => bif z23 then (bif decide (a0.length ≤ 1048576) then (bif decide ((yf a0 a1.path false).length ≤ 1000000) then (bif decide (∀ x ∈ (yf a0 a1.path false), x.path.length ≤ 1048576) then (bif decide ((jO a1).path.length ≤ 1048576) then (some (J5 (yf a0 a1.path false) (jO a1))) else none) else none) else none) else none) else (bif decide (a0.length ≤ 1000000) then (bif decide (∀ x ∈ a0, x.path.length ≤ 1048576) then (bif decide ((jO a1).path.length ≤ 1048576) then (some (J5 a0 (jO a1))) else none) else none) else none))) else none
theorem Vl.eq (a0 : List Nd) (a1 : Rec) (h0 : a0.length ≤ 1000000) (h1 : ∀ x ∈ a0, x.path.length ≤ 1048576) (h2 : a1.path.length ≤ 1048576) : Vl.sh a0 a1 = some (doS a0 a1) := by
 unfold Vl.sh doS
 have b1 : decide (a0.length ≤ 1048576) = true := decide_eq_true (by omega)
 have b2 : decide (a0.length ≤ 1000000) = true := decide_eq_true h0
 have b3 : decide ((yf a0 a1.path false).length ≤ 1000000) = true := decide_eq_true (Nat.le_trans (YH _ _ _) h0)
 have b4 : ∀ x ∈ yf a0 a1.path false, x.path.length ≤ 1048576 := fun x hx => h1 x (List.mem_filter.1 hx).1
 have b5 : decide ((jO a1).path.length ≤ 1048576) = true := decide_eq_true h2
 simp only [b1, b2, b3, b5, decide_eq_true h1, decide_eq_true b4, cond_true]
 by_cases h4 : a1.kind = 4
 ·simp [h4]
 ·simp only [h4, decide_false, cond_false, if_false]
  by_cases h3 : a1.kind = 3
  ·rcases ql a1.opq with ho | ho
   ·simp [h3, ho]
   ·by_cases hf : 0 ≤ vd a0 a1.path
    ·by_cases hk : (gt a0 (vd a0 a1.path)).kind = 3 <;> simp [h3, ho, hf, GB (t := a0) (p := a1.path) (by omega), hk]
    ·simp [h3, ho, hf]
  ·simp [h3]
theorem apply_at {l : List Rec} {t : List Nd} (hs : Sheet l) (ht : Wood t) {i : Nat} (hi : i ≤ l.length) : Wood (vD (l.take i) t) ∧ (vD (l.take i) t).length ≤ t.length + i ∧ (l.take i).foldl doI t = vD (l.take i) t := by
 obtain ⟨h1, _, h3, h4⟩ := YD t ht i (l.take i) (by simp; omega) (hs.take i)
 exact ⟨h1, h3, h4⟩
theorem Xu {l : List Rec} {t : List Nd} {i : Nat} (hi : i < l.length) : vD (l.take (i + 1)) t = doS (vD (l.take i) t) (gt l (i : Int)) := by
 rw [List.take_succ_eq_append_getElem hi, G6, vY, vX hi]
def yo.b1 (a0 : List Rec) : List Nd × Int → Option (Step (List Nd) (List Nd × Int) (List Nd)) :=
 fun q => match q with
 | (x1_13, x5_15) => bif (decide (x5_15 < (a0.length : Int))) then (bif inR x5_15 a0.length then (bif decide (x1_13.length ≤ 1000000) then (bif decide (∀ x ∈ x1_13, x.path.length ≤ 1048576) then (bif decide ((gt a0 x5_15).path.length ≤ 1048576) then (some (.nxt ((doS x1_13 (gt a0 x5_15)), IntKind.wrap .i64 (x5_15 + 1)))) else none) else none) else none) else none) else (some (.brk x1_13))
def yo.sh (k : Nat) (a0 : List Rec) (a1 : List Nd) : Option (List Nd) :=
  bif decide ((([] : List Nd).length + a1.length) * 48 ≤ 140737488355328) then ((qp (yo.b1 a0) k (([] : List Nd) ++ a1, 0)).bind fun z => match z with | .inl t => some t | .inr x1_19 => some x1_19) else none
theorem yo.eq (a0 : List Rec) (a1 : List Nd) (h0 : a0.length ≤ 16) (h1 : a1.length ≤ 1000) (h2 : okT a0 a1 = true) : ∃ k, yo.sh k a0 a1 = some (vD a0 a1) := by
 obtain ⟨hs, ht⟩ := okT_of h2
 refine ⟨a0.length + 1, ?_⟩
 unfold yo.sh
 have key : ∀ (d i k : Nat), i + d = a0.length → d < k → qp (yo.b1 a0) k (vD (a0.take i) a1, (i : Int)) = some (.inr (vD a0 a1)) := by
  intro d
  induction d with
  | zero =>
   intro i k hi hk
   obtain ⟨k, rfl⟩ : ∃ m, k = m + 1 := ⟨k - 1, by omega⟩
   have d1 : decide ((i : Int) < (a0.length : Int)) = false := decide_eq_false (by omega)
   rw [qp, List.take_of_length_le (by omega)]
   simp only [yo.b1, d1, cond_false]; rfl
  | succ d ih =>
   intro i k hi hk
   obtain ⟨k, rfl⟩ : ∃ m, k = m + 1 := ⟨k - 1, by omega⟩
   have hlt : i < a0.length := by omega
   obtain ⟨w1, w2, _⟩ := apply_at hs ht (show i ≤ a0.length by omega)
   have d1 : decide ((i : Int) < (a0.length : Int)) = true := decide_eq_true (by omega)
   have d2 : decide ((vD (a0.take i) a1).length ≤ 1000000) = true := decide_eq_true (by omega)
   have d3 : decide ((gt a0 (i : Int)).path.length ≤ 1048576) = true := decide_eq_true (by
    rw [vY, vX hlt]; exact yW (yN (hs.ok _ (List.getElem_mem hlt))))
   have e1 : IntKind.wrap .i64 ((i : Int) + 1) = ((i + 1 : Nat) : Int) := by rw [wrap_small (by omega) (by omega)]; omega
   rw [qp]
   simp only [yo.b1, d1, d2, d3, decide_eq_true (JS w1), qV hlt, cond_true, e1]
   rw [← Xu hlt]
   exact ih (i + 1) k (by omega) (by omega)
 have g1 : decide ((([] : List Nd).length + a1.length) * 48 ≤ 140737488355328) = true := decide_eq_true (by simp only [List.length_nil]; omega)
 have hk := key a0.length 0 (a0.length + 1) (by omega) (by omega)
 rw [List.take_zero] at hk
 have hk2 : qp (yo.b1 a0) (a0.length + 1) (([] : List Nd) ++ a1, 0) = some (.inr (vD a0 a1)) := hk
 rw [hk2]
 simp only [g1, cond_true, Option.bind_some]
def jc.b1 (a0 : List Rec) : List Nd × Int → Option (Step (List Nd) (List Nd × Int) (List Nd)) :=
 fun q => match q with
 | (x5_6, x13_8) => bif (decide (x13_8 < (a0.length : Int))) then (bif inR x13_8 a0.length then (bif decide (x5_6.length ≤ 1048576) then (((bif (((decide (((gt a0 x13_8).kind) = 3)) && (!((gt a0 x13_8).opq))) && (decide (0 ≤ (vd x5_6 ((gt a0 x13_8).path))))) then (bif inR (vd x5_6 ((gt a0 x13_8).path)) x5_6.length then (some (decide (((gt x5_6 (vd x5_6 ((gt a0 x13_8).path))).kind) = 3))) else none) else some false)).bind fun z58 => bif z58 then (bif inR (vd x5_6 ((gt a0 x13_8).path)) x5_6.length then (some (.nxt (Gv x5_6 (vd x5_6 ((gt a0 x13_8).path)) (⟨(gt x5_6 (vd x5_6 ((gt a0 x13_8).path))).kind, (gt x5_6 (vd x5_6 ((gt a0 x13_8).path))).path, (gt x5_6 (vd x5_6 ((gt a0 x13_8).path))).body, (gt a0 x13_8).mode⟩ : Nd), IntKind.wrap .i64 (x13_8 + 1)))) else none) else (bif decide (x5_6.length ≤ 1048576) then (bif decide (((gt a0 x13_8).path).length ≤ 1048576) then (bif (!decide (((gt a0 x13_8).kind) = 4)) then (bif decide ((yf x5_6 ((gt a0 x13_8).path) true).length ≤ 1048575) then (bif decide (X1 (yf x5_6 ((gt a0 x13_8).path) true) = true) then (bif decide (∀ x ∈ (yf x5_6 ((gt a0 x13_8).path) true), x.path.length ≤ 1048576) then (bif decide ((jO (gt a0 x13_8)).path.length ≤ 1048576) then (some (.nxt ((Qp (yf x5_6 ((gt a0 x13_8).path) true) (jO (gt a0 x13_8))), IntKind.wrap .i64 (x13_8 + 1)))) else none) else none) else none) else none) else (some (.nxt ((yf x5_6 ((gt a0 x13_8).path) true), IntKind.wrap .i64 (x13_8 + 1))))) else none) else none)) else none) else none) else (some (.brk x5_6))
def jc.sh (k : Nat) (a0 : List Rec) (a1 : List Nd) : Option (List Nd) :=
  bif decide (a1.length ≤ 1048576) then ((qp (jc.b1 a0) k (a1, 0)).bind fun z => match z with | .inl t => some t | .inr x5_12 => some x5_12) else none
theorem jc.eq (a0 : List Rec) (a1 : List Nd) (h0 : a0.length ≤ 16) (h1 : a1.length ≤ 1000) (h2 : okT a0 a1 = true) : ∃ k, jc.sh k a0 a1 = some (vD a0 a1) := by
 obtain ⟨hs, ht⟩ := okT_of h2
 refine ⟨a0.length + 1, ?_⟩
 unfold jc.sh
 have key : ∀ (d i k : Nat), i + d = a0.length → d < k → qp (jc.b1 a0) k (vD (a0.take i) a1, (i : Int)) = some (.inr (vD a0 a1)) := by
  intro d
  induction d with
  | zero =>
   intro i k hi hk
   obtain ⟨k, rfl⟩ : ∃ m, k = m + 1 := ⟨k - 1, by omega⟩
   have d1 : decide ((i : Int) < (a0.length : Int)) = false := decide_eq_false (by omega)
   rw [qp, List.take_of_length_le (by omega)]
   simp only [jc.b1, d1, cond_false]; rfl
  | succ d ih =>
   intro i k hi hk
   obtain ⟨k, rfl⟩ : ∃ m, k = m + 1 := ⟨k - 1, by omega⟩
   have hlt : i < a0.length := by omega
   obtain ⟨w1, w2, _⟩ := apply_at hs ht (show i ≤ a0.length by omega)
   have hr0 : qx (gt a0 (i : Int)) = 0 := by rw [vY, vX hlt]; exact hs.ok _ (List.getElem_mem hlt)
   have hn := Xu (t := a1) hlt
   rw [← doI_doS w1 hr0] at hn
   have hI := ih (i + 1) k (by omega) (by omega)
   rw [hn] at hI
   obtain ⟨x, hx⟩ : ∃ x, vD (a0.take i) a1 = x := ⟨_, rfl⟩
   obtain ⟨r, hr⟩ : ∃ r, gt a0 (i : Int) = r := ⟨_, rfl⟩
   rw [hx] at w1 w2 hI ⊢
   rw [hr] at hr0 hI
   have hp := yW (yN hr0)
   have d1 : decide ((i : Int) < (a0.length : Int)) = true := decide_eq_true (by omega)
   have d2 : decide (x.length ≤ 1048576) = true := decide_eq_true (by omega)
   have d3 : decide (r.path.length ≤ 1048576) = true := decide_eq_true hp
   have d4 : decide ((yf x r.path true).length ≤ 1048575) = true := decide_eq_true (by have := YH x r.path true; omega)
   have d5 : X1 (yf x r.path true) = true := riseN_mk (VG w1.rise _ _)
   have d6 : ∀ y ∈ yf x r.path true, y.path.length ≤ 1048576 := fun y hy => JS w1 y (List.mem_filter.1 hy).1
   have d7 : decide ((jO r).path.length ≤ 1048576) = true := decide_eq_true hp
   have e1 : IntKind.wrap .i64 ((i : Int) + 1) = ((i + 1 : Nat) : Int) := by rw [wrap_small (by omega) (by omega)]; omega
   rw [qp]
   simp only [jc.b1, d1, d2, qV hlt, cond_true, e1, hr, d3, d4, d5, d7, decide_eq_true d6, decide_true]
   unfold doI at hI
   by_cases c1 : r.kind = 3 ∧ r.opq = false
   ·obtain ⟨c3, co⟩ := c1
    by_cases cf : 0 ≤ vd x r.path
    ·have hin := GB (t := x) (p := r.path) (by omega)
     by_cases ck : (gt x (vd x r.path)).kind = 3
     ·rw [if_pos ⟨⟨c3, co⟩, cf, ck⟩] at hI
      simp only [c3, co, cf, ck, hin, decide_true, Bool.not_false, Bool.and_true, Bool.and_self, cond_true, Option.bind_some]
      rw [ck] at hI
      exact hI
     ·rw [if_neg (fun h => ck h.2.2), if_neg (by omega)] at hI
      simp only [c3, co, cf, ck, hin, decide_true, decide_false, Bool.not_false, Bool.and_true, Bool.and_self, cond_true, cond_false, Option.bind_some, show ¬ (3 : Int) = 4 by decide]
      exact hI
    ·rw [if_neg (fun h => cf h.2.1), if_neg (by omega)] at hI
     simp only [c3, co, cf, decide_true, decide_false, Bool.not_false, Bool.and_true, Bool.and_false, cond_true, cond_false, Option.bind_some, show ¬ (3 : Int) = 4 by decide]
     exact hI
   ·rw [if_neg (fun h => c1 h.1)] at hI
    have c2 : (decide (r.kind = 3) && !r.opq) = false := by
     rcases ql r.opq with co | co
     ·simp [co]
     ·by_cases c3 : r.kind = 3
      ·exact absurd ⟨c3, co⟩ c1
      ·simp [c3]
    simp only [c2, Bool.false_and, cond_false, Option.bind_some]
    by_cases c4 : r.kind = 4
    ·rw [if_pos c4] at hI
     simp only [c4, decide_true, Bool.not_true, cond_false]
     exact hI
    ·rw [if_neg c4] at hI
     simp only [c4, decide_false, Bool.not_false, cond_true]
     exact hI
 have g1 : decide (a1.length ≤ 1048576) = true := decide_eq_true (by omega)
 have hk := key a0.length 0 (a0.length + 1) (by omega) (by omega)
 rw [List.take_zero] at hk
 have hk2 : qp (jc.b1 a0) (a0.length + 1) (a1, 0) = some (.inr (vD a0 a1)) := hk
 rw [hk2]
 simp only [g1, cond_true, Option.bind_some]
def Yi (l : List Rec) (t : List Nd) : Int := if decide (4096 < l.length) || decide (4096 < t.length) then 2 else if !decide ((qv l).2 = 0) || !jN t then 1 else 0
def XV (t : List Nd) : List Nd × Int := if 24 < t.length then ([], 7) else (t, 0)
def Qx (l : List Rec) (t : List Nd) : List Nd × Int := if Yi l t = 0 then XV (vD l t) else ([], Yi l t)
theorem n24_dec (n : Nat) : decide ((24 : Int) < (n : Int)) = decide (24 < n) := by rw [decide_eq_decide]; omega
def Qt.sh (a0 : List Rec) (a1 : List Nd) : Option (List Nd × Int) :=
 bif decide (a0.length ≤ 1048576) then (bif decide (∀ x ∈ a0, x.path.length ≤ 1048576) then (((bif (!(decide ((qU a0).2 = 0))) then some true else (bif decide (a1.length ≤ 1048576) then (bif decide (∀ x ∈ a1, x.path.length ≤ 1048576) then (some (!(jN a1))) else none) else none))).bind fun z14 => bif decide (([.inl ((decide (4096 < a0.length)) || (decide (4096 < a1.length))), .inr 2, .inl z14, .inr 1] : List (Bool ⊕ Int)).length ≤ 4611686018427387904) then ((some (vZ ([.inl ((decide (4096 < a0.length)) || (decide (4096 < a1.length))), .inr 2, .inl z14, .inr 1] : List (Bool ⊕ Int)))).bind fun z31 => bif (!decide (z31 = 0)) then (some ([], z31)) else (bif decide (a0.length ≤ 16) then (bif decide (a1.length ≤ 1000) then (bif decide (okT a0 a1 = true) then (bif (decide (24 < ((vD a0 a1).length : Int))) then (some ([], 7)) else (some ((vD a0 a1), 0))) else none) else none) else none)) else none) else none) else none
theorem Qt.eq (a0 : List Rec) (a1 : List Nd) (h0 : a0.length ≤ 1048576) (h1 : a1.length ≤ 1048576) (h2 : ∀ x ∈ a0, x.path.length ≤ 1048576) (h3 : ∀ x ∈ a1, x.path.length ≤ 1048576) : Qt.sh a0 a1 = some ((Qx a0 a1).1, (Qx a0 a1).2) := by
 unfold Qt.sh Qx
 simp only [h0, h1, decide_true, cond_true, decide_eq_true h2, decide_eq_true h3, JJ, List.length_cons, List.length_nil, vZ, Xe, XO]
 by_cases h : (decide (4096 < a0.length) || decide (4096 < a1.length)) = true
 ·have hc : Yi a0 a1 = 2 := by simp only [Yi, h, if_true]
  cases hz : decide ((qU a0).2 = 0) <;> simp [h, hc]
 ·have hf : (decide (4096 < a0.length) || decide (4096 < a1.length)) = false := by simpa using h
  rw [YV, hf]
  by_cases c1 : (qv a0).2 = 0
  ·rcases ql (jN a1) with c2 | c2
   ·have hc : Yi a0 a1 = 0 := by simp only [Yi, h, if_false, c1, c2]; rfl
    have l1 := Qj c1
    have l2 := JY c2
    have b2 : a1.length ≤ 1000 := by omega
    by_cases h24 : 24 < (vD a0 a1).length <;> simp [c1, c2, hc, l1, b2, okT_mk c1 (Jl c2), n24_dec, XV, h24]
   ·have hc : Yi a0 a1 = 1 := by simp only [Yi, h, if_false, c1, c2]; rfl
    simp [c1, c2, hc]
  ·have hc : Yi a0 a1 = 1 := by simp only [Yi, h, if_false, c1]; simp
   simp [c1, hc]
theorem fitT_len (t : List Nd) : (XV t).1.length ≤ 24 := by
 unfold XV
 split
 ·simp
 ·simp only; omega
theorem foldI_run {α β ρ : Type} [Inhabited α] (l : List α) (f : β → α → β) (Inv : Nat → β → Prop) (b : β × Int → Option (Step ρ (β × Int) β))
  (h1 : ∀ (i : Nat) (s : β), i < l.length → Inv i s → b (s, (i : Int)) = some (.nxt (f s (gt l (i : Int)), ((i + 1 : Nat) : Int))) ∧ Inv (i + 1) (f s (gt l (i : Int))))
  (h2 : ∀ s : β, b (s, (l.length : Int)) = some (.brk s)) (s0 : β) (h0 : Inv 0 s0) : qp b (l.length + 1) (s0, 0) = some (.inr (l.foldl f s0)) := by
 have key : ∀ (d i k : Nat) (s : β), i + d = l.length → d < k → Inv i s → qp b k (s, (i : Int)) = some (.inr ((l.drop i).foldl f s)) := by
  intro d
  induction d with
  | zero =>
   intro i k s hi hk hs
   obtain ⟨k, rfl⟩ : ∃ m, k = m + 1 := ⟨k - 1, by omega⟩
   have : i = l.length := by omega
   subst this
   rw [qp, h2 s, List.drop_length]; rfl
  | succ d ih =>
   intro i k s hi hk hs
   obtain ⟨k, rfl⟩ : ∃ m, k = m + 1 := ⟨k - 1, by omega⟩
   have hlt : i < l.length := by omega
   obtain ⟨e1, e2⟩ := h1 i s hlt hs
   rw [qp, e1, QK hlt]
   exact ih (i + 1) k _ (by omega) (by omega) e2
 exact key l.length 0 (l.length + 1) s0 (by omega) (by omega) h0
def okA (xs : List (List Rec)) (t : List Nd) : Bool := (xs.all fun l => decide ((qv l).2 = 0)) && XM t
theorem okA_of {xs : List (List Rec)} {t : List Nd} (h : okA xs t = true) : (∀ l ∈ xs, (qv l).2 = 0) ∧ Wood t := by
 unfold okA at h
 rw [Bool.and_eq_true, List.all_eq_true] at h
 exact ⟨fun l hl => of_decide_eq_true (h.1 l hl), wood_of h.2⟩
theorem okA_mk {xs : List (List Rec)} {t : List Nd} (h : ∀ l ∈ xs, (qv l).2 = 0) (k : Wood t) : okA xs t = true := by
 unfold okA
 rw [Bool.and_eq_true, List.all_eq_true]
 exact ⟨fun l hl => decide_eq_true (h l hl), wood_ok k⟩
theorem XY {xs : List (List Rec)} (h : jR xs = true) : xs.length ≤ 5 ∧ ∀ l ∈ xs, (qv l).2 = 0 := by
 unfold jR at h
 rw [Bool.and_eq_true, List.all_eq_true] at h
 exact ⟨of_decide_eq_true h.1, fun l hl => of_decide_eq_true (h.2 l hl)⟩
def jw (xs : List (List Rec)) (t : List Nd) : List Nd := xs.foldl (fun t l => vD l t) t
theorem JM {l : List Rec} {s : List Nd} (h : (qv l).2 = 0) (hs : Wood s) : Wood (vD l s) ∧ (vD l s).length ≤ s.length + 16 := by
 have h1 := YD s hs _ l rfl (G7 h)
 have := Qj h
 exact ⟨h1.1, by have := h1.2.2.1; omega⟩
def y0.b1 (a0 : List (List Rec)) : List Nd × Int → Option (Step (List Nd) (List Nd × Int) (List Nd)) :=
 fun q => match q with
 | (x1_13, x5_15) => bif (decide (x5_15 < (a0.length : Int))) then (bif inR x5_15 a0.length then (bif decide ((gt a0 x5_15).length ≤ 16) then (bif decide (x1_13.length ≤ 1000) then (bif decide (okT (gt a0 x5_15) x1_13 = true) then (some (.nxt ((vD (gt a0 x5_15) x1_13), IntKind.wrap .i64 (x5_15 + 1)))) else none) else none) else none) else none) else (some (.brk x1_13))
def y0.sh (k : Nat) (a0 : List (List Rec)) (a1 : List Nd) : Option (List Nd) :=
  bif decide ((([] : List Nd).length + a1.length) * 48 ≤ 140737488355328) then ((qp (y0.b1 a0) k (([] : List Nd) ++ a1, 0)).bind fun z => match z with | .inl t => some t | .inr x1_19 => some x1_19) else none
theorem y0.eq (a0 : List (List Rec)) (a1 : List Nd) (h0 : a0.length ≤ 5) (h1 : a1.length ≤ 24) (h2 : okA a0 a1 = true) : ∃ k, y0.sh k a0 a1 = some (jw a0 a1) := by
 obtain ⟨hs, ht⟩ := okA_of h2
 refine ⟨a0.length + 1, ?_⟩
 unfold y0.sh
 have hk := foldI_run a0 (fun t l => vD l t) (fun i s => Wood s ∧ s.length ≤ 24 + 16 * i) (y0.b1 a0) (fun i s hi hI => by
  have hl := hs (gt a0 (i : Int)) (by rw [vY, vX hi]; exact List.getElem_mem hi)
  obtain ⟨w1, w2⟩ := JM hl hI.1
  have d1 : decide ((i : Int) < (a0.length : Int)) = true := decide_eq_true (by omega)
  have d2 : decide (s.length ≤ 1000) = true := decide_eq_true (by have := hI.2; omega)
  have e1 : IntKind.wrap .i64 ((i : Int) + 1) = ((i + 1 : Nat) : Int) := by rw [wrap_small (by omega) (by omega)]; omega
  refine ⟨?_, w1, by have := hI.2; omega⟩
  simp only [y0.b1, d1, d2, qV hi, cond_true, e1, decide_eq_true (Qj hl), okT_mk hl hI.1, decide_true]) (fun s => by simp [y0.b1]) a1 ⟨ht, by omega⟩
 have g1 : decide ((([] : List Nd).length + a1.length) * 48 ≤ 140737488355328) = true := decide_eq_true (by simp only [List.length_nil]; omega)
 have hk2 : qp (y0.b1 a0) (a0.length + 1) (([] : List Nd) ++ a1, 0) = some (.inr (jw a0 a1)) := hk
 rw [hk2]
 simp only [g1, cond_true, Option.bind_some]
def yA.b1 (a0 : List (List Rec)) : List Nd × Int → Option (Step (List Nd) (List Nd × Int) (List Nd)) :=
 fun q => match q with
 | (x5_6, x12_8) => bif (decide (x12_8 < (a0.length : Int))) then (bif inR x12_8 a0.length then (bif decide ((gt a0 x12_8).length ≤ 16) then (bif decide (x5_6.length ≤ 1000) then (bif decide (okT (gt a0 x12_8) x5_6 = true) then (some (.nxt ((vD (gt a0 x12_8) x5_6), IntKind.wrap .i64 (x12_8 + 1)))) else none) else none) else none) else none) else (some (.brk x5_6))
def yA.sh (k : Nat) (a0 : List (List Rec)) (a1 : List Nd) : Option (List Nd) :=
  bif decide (a1.length ≤ 1048576) then ((qp (yA.b1 a0) k (a1, 0)).bind fun z => match z with | .inl t => some t | .inr x5_12 => some x5_12) else none
theorem yA.eq (a0 : List (List Rec)) (a1 : List Nd) (h0 : a0.length ≤ 5) (h1 : a1.length ≤ 24) (h2 : okA a0 a1 = true) : ∃ k, yA.sh k a0 a1 = some (jw a0 a1) := by
 obtain ⟨hs, ht⟩ := okA_of h2
 refine ⟨a0.length + 1, ?_⟩
 unfold yA.sh
 have hk := foldI_run a0 (fun t l => vD l t) (fun i s => Wood s ∧ s.length ≤ 24 + 16 * i) (yA.b1 a0) (fun i s hi hI => by
  have hl := hs (gt a0 (i : Int)) (by rw [vY, vX hi]; exact List.getElem_mem hi)
  obtain ⟨w1, w2⟩ := JM hl hI.1
  have d1 : decide ((i : Int) < (a0.length : Int)) = true := decide_eq_true (by omega)
  have d2 : decide (s.length ≤ 1000) = true := decide_eq_true (by have := hI.2; omega)
  have e1 : IntKind.wrap .i64 ((i : Int) + 1) = ((i + 1 : Nat) : Int) := by rw [wrap_small (by omega) (by omega)]; omega
  refine ⟨?_, w1, by have := hI.2; omega⟩
  simp only [yA.b1, d1, d2, qV hi, cond_true, e1, decide_eq_true (Qj hl), okT_mk hl hI.1, decide_true]) (fun s => by simp [yA.b1]) a1 ⟨ht, by omega⟩
 have g1 : decide (a1.length ≤ 1048576) = true := decide_eq_true (by omega)
 rw [hk]
 simp only [g1, cond_true, Option.bind_some, jw]
def QC (l : List (List Rec)) (t : List Nd) : Int := if decide (4096 < l.length) || decide (4096 < t.length) then 2 else if !jR l || !jN t then 1 else 0
def yR (l : List (List Rec)) (t : List Nd) : List Nd × Int := if QC l t = 0 then XV (jw l t) else ([], QC l t)
theorem rs_dec (a : List (List Rec)) (b : List Nd) : (decide ((4096 : Int) < (a.length : Int)) || decide ((4096 : Int) < (b.length : Int))) = (decide (4096 < a.length) || decide (4096 < b.length)) := by
 have h : ∀ n : Nat, decide ((4096 : Int) < (n : Int)) = decide (4096 < n) := fun n => by rw [decide_eq_decide]; omega
 rw [h, h]
def jr.sh (a0 : List (List Rec)) (a1 : List Nd) : Option (List Nd × Int) :=
 bif ((decide (4096 < (a0.length : Int))) || (decide (4096 < (a1.length : Int)))) then (some (([] : List Nd), 2)) else (bif decide (a0.length ≤ 1048576) then (bif decide (∀ l ∈ a0, l.length ≤ 1048576) then (bif decide (∀ l ∈ a0, ∀ x ∈ l, x.path.length ≤ 1048576) then (((bif (!(jR a0)) then some true else (bif decide (∀ x ∈ a1, x.path.length ≤ 1048576) then (some (!(jN a1))) else none))).bind fun z20 => bif z20 then (some (([] : List Nd), 1)) else (bif decide (a0.length ≤ 5) then (bif decide (a1.length ≤ 24) then (bif decide (okA a0 a1 = true) then (bif (decide (24 < ((jw a0 a1).length : Int))) then (some (([] : List Nd), 7)) else (some ((jw a0 a1), 0))) else none) else none) else none)) else none) else none) else none)
theorem jr.eq (a0 : List (List Rec)) (a1 : List Nd) (h0 : a0.length ≤ 1048576) (h1 : ∀ l ∈ a0, l.length ≤ 1048576) (h2 : ∀ l ∈ a0, ∀ x ∈ l, x.path.length ≤ 1048576) (h3 : a1.length ≤ 1048576) (h4 : ∀ x ∈ a1, x.path.length ≤ 1048576) : jr.sh a0 a1 = some ((yR a0 a1).1, (yR a0 a1).2) := by
 unfold jr.sh yR
 rw [rs_dec]
 by_cases h : (decide (4096 < a0.length) || decide (4096 < a1.length)) = true
 ·have : QC a0 a1 = 2 := by simp only [QC, h, if_true]
  simp only [h, cond_true, this]; rfl
 ·have hf : (decide (4096 < a0.length) || decide (4096 < a1.length)) = false := by simpa using h
  simp only [hf, cond_false, decide_eq_true h0, decide_eq_true h1, decide_eq_true h2, decide_eq_true h4, cond_true]
  rcases ql (jR a0) with c1 | c1
  ·rcases ql (jN a1) with c2 | c2
   ·have hc : QC a0 a1 = 0 := by simp only [QC, h, if_false, c1, c2]; rfl
    have l1 := XY c1
    have l2 := JY c2
    have l3 := l1.1
    simp only [c1, c2, hc, l2, l3, okA_mk l1.2 (Jl c2), decide_true, Bool.not_true, cond_false, cond_true, Option.bind_some, if_true, n24_dec, XV]
    by_cases h24 : 24 < (jw a0 a1).length <;> simp [h24]
   ·have hc : QC a0 a1 = 1 := by simp only [QC, h, if_false, c1, c2]; rfl
    simp only [c1, c2, hc, Bool.not_true, Bool.not_false, cond_false, cond_true, Option.bind_some]; rfl
  ·have hc : QC a0 a1 = 1 := by simp only [QC, h, if_false, c1]; simp
   simp only [c1, hc, Bool.not_false, cond_true, Option.bind_some]; rfl
def jq.sh (a0 : List (List Rec)) (a1 : List Nd) : Option (List Nd × Int) :=
 bif decide (a0.length ≤ 1048576) then (bif decide (∀ l ∈ a0, l.length ≤ 1048576) then (bif decide (∀ l ∈ a0, ∀ x ∈ l, x.path.length ≤ 1048576) then (((bif (!(jR a0)) then some true else (bif decide (a1.length ≤ 1048576) then (bif decide (∀ x ∈ a1, x.path.length ≤ 1048576) then (some (!(jN a1))) else none) else none))).bind fun z15 => bif decide (([.inl ((decide (4096 < a0.length)) || (decide (4096 < a1.length))), .inr 2, .inl z15, .inr 1] : List (Bool ⊕ Int)).length ≤ 4611686018427387904) then ((some (vZ ([.inl ((decide (4096 < a0.length)) || (decide (4096 < a1.length))), .inr 2, .inl z15, .inr 1] : List (Bool ⊕ Int)))).bind fun z32 => bif (!decide (z32 = 0)) then (some ([], z32)) else (bif decide (a0.length ≤ 5) then (bif decide (a1.length ≤ 24) then (bif decide (okA a0 a1 = true) then (bif (decide (24 < ((jw a0 a1).length : Int))) then (some ([], 7)) else (some ((jw a0 a1), 0))) else none) else none) else none)) else none) else none) else none) else none
theorem jq.eq (a0 : List (List Rec)) (a1 : List Nd) (h0 : a0.length ≤ 1048576) (h1 : ∀ l ∈ a0, l.length ≤ 1048576) (h2 : ∀ l ∈ a0, ∀ x ∈ l, x.path.length ≤ 1048576) (h3 : a1.length ≤ 1048576) (h4 : ∀ x ∈ a1, x.path.length ≤ 1048576) : jq.sh a0 a1 = some ((yR a0 a1).1, (yR a0 a1).2) := by
 unfold jq.sh yR
 simp only [h0, h3, decide_true, cond_true, decide_eq_true h1, decide_eq_true h2, decide_eq_true h4, JJ, List.length_cons, List.length_nil, vZ, Xe, XO]
 by_cases h : (decide (4096 < a0.length) || decide (4096 < a1.length)) = true
 ·have hc : QC a0 a1 = 2 := by simp only [QC, h, if_true]
  rcases ql (jR a0) with c1 | c1 <;> simp [h, hc, c1]
 ·have hf : (decide (4096 < a0.length) || decide (4096 < a1.length)) = false := by simpa using h
  rcases ql (jR a0) with c1 | c1
  ·rcases ql (jN a1) with c2 | c2
   ·have hc : QC a0 a1 = 0 := by simp only [QC, h, if_false, c1, c2]; rfl
    have l1 := XY c1
    have l2 := JY c2
    have l3 := l1.1
    simp only [hf, c1, c2, hc, l2, l3, okA_mk l1.2 (Jl c2), decide_true, Bool.not_true, cond_false, cond_true, Option.bind_some, if_true, n24_dec, XV]
    by_cases h24 : 24 < (jw a0 a1).length <;> simp [h24]
   ·have hc : QC a0 a1 = 1 := by simp only [QC, h, if_false, c1, c2]; rfl
    simp [hf, c1, c2, hc]
  ·have hc : QC a0 a1 = 1 := by simp only [QC, h, if_false, c1]; simp
   simp [hf, c1, hc]
theorem foldI_runK {α β ρ : Type} [Inhabited α] (l : List α) (f : β → α → β) (Inv : Nat → β → Prop) (b : β × Int → Option (Step ρ (β × Int) β)) (K : Nat) (hK : l.length < K)
  (h1 : ∀ (i : Nat) (s : β), i < l.length → Inv i s → b (s, (i : Int)) = some (.nxt (f s (gt l (i : Int)), ((i + 1 : Nat) : Int))) ∧ Inv (i + 1) (f s (gt l (i : Int))))
  (h2 : ∀ s : β, b (s, (l.length : Int)) = some (.brk s)) (s0 : β) (h0 : Inv 0 s0) : qp b K (s0, 0) = some (.inr (l.foldl f s0)) ∧ Inv l.length (l.foldl f s0) := by
 have key : ∀ (d i k : Nat) (s : β), i + d = l.length → d < k → Inv i s → qp b k (s, (i : Int)) = some (.inr ((l.drop i).foldl f s)) ∧ Inv l.length ((l.drop i).foldl f s) := by
  intro d
  induction d with
  | zero =>
   intro i k s hi hk hs
   obtain ⟨k, rfl⟩ : ∃ m, k = m + 1 := ⟨k - 1, by omega⟩
   have : i = l.length := by omega
   subst this
   rw [qp, h2 s, List.drop_length]; exact ⟨rfl, hs⟩
  | succ d ih =>
   intro i k s hi hk hs
   obtain ⟨k, rfl⟩ : ∃ m, k = m + 1 := ⟨k - 1, by omega⟩
   have hlt : i < l.length := by omega
   obtain ⟨e1, e2⟩ := h1 i s hlt hs
   rw [qp, e1, QK hlt]
   exact ih (i + 1) k _ (by omega) (by omega) e2
 have := key l.length 0 K s0 (by omega) (by omega) h0
 simpa using this
theorem Yb {l : List Rec} {r x : Rec} (h : jE l r = some x) : x.path = r.path := by
 unfold jE at h
 split at h
 ·split at h
  ·cases h
  ·rw [← Option.some.inj h]
 ·rw [← Option.some.inj h]
theorem YA {f : Rec → Option Rec} (hf : ∀ r x, f r = some x → x.path = r.path) : ∀ {l : List Rec}, yp (l.map (·.path)) → yp ((l.filterMap f).map (·.path)) ∧ ∀ q ∈ (l.filterMap f).map (·.path), q ∈ l.map (·.path) := by
 intro l
 induction l with
 | nil => intro _; exact ⟨List.Pairwise.nil, by simp⟩
 | cons r l ih =>
  intro h
  obtain ⟨i1, i2⟩ := ih (VJ h)
  have hlt := V3 h
  cases hr : f r with
  | none => rw [List.filterMap_cons_none hr]; exact ⟨i1, fun q hq => List.mem_cons_of_mem _ (i2 q hq)⟩
  | some x =>
   rw [List.filterMap_cons_some hr, List.map_cons, hf r x hr]
   exact ⟨List.pairwise_cons.2 ⟨fun q hq => hlt q (i2 q hq), i1⟩, fun q hq => by
    rcases List.mem_cons.1 hq with rfl | hq
    ·exact List.mem_cons_self
    ·exact List.mem_cons_of_mem _ (i2 q hq)⟩
end Go.UL
