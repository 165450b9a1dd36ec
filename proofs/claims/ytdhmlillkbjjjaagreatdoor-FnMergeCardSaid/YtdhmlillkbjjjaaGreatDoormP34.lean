import Derived.Test.YtdhmlillkbjjjaaGreatDoormP28
set_option linter.unusedVariables false
set_option linter.unusedSimpArgs false
namespace Go.UL
open Go.RowKit
theorem J3 {α β ρ : Type} [Inhabited α] (l : List α) (f : β → α → β) (Inv : Nat → β → Prop) (b : β × Int → Option (Step ρ (β × Int) β)) (K : Nat) (hK : l.length < K)
  (h1 : ∀ (i : Nat) (s : β), i < l.length → Inv i s → b (s, (i : Int)) = some (.nxt (f s (gt l (i : Int)), ((i + 1 : Nat) : Int))) ∧ Inv (i + 1) (f s (gt l (i : Int))))
  (h2 : ∀ s : β, b (s, (l.length : Int)) = some (.brk s)) (s0 : β) (h0 : Inv 0 s0) : qn b K (s0, 0) = some (.inr (l.foldl f s0)) ∧ Inv l.length (l.foldl f s0) := by
 have key : ∀ (d i k : Nat) (s : β), i + d = l.length → d < k → Inv i s → qn b k (s, (i : Int)) = some (.inr ((l.drop i).foldl f s)) ∧ Inv l.length ((l.drop i).foldl f s) := by
  intro d
  induction d with
  | zero =>
   intro i k s hi hk hs
   obtain ⟨k, rfl⟩ : ∃ m, k = m + 1 := ⟨k - 1, by omega⟩
   have : i = l.length := by omega
   subst this
   rw [qn, h2 s, List.drop_length]; exact ⟨rfl, hs⟩
  | succ d ih =>
   intro i k s hi hk hs
   obtain ⟨k, rfl⟩ : ∃ m, k = m + 1 := ⟨k - 1, by omega⟩
   have hlt : i < l.length := by omega
   obtain ⟨e1, e2⟩ := h1 i s hlt hs
   rw [qn, e1, JH hlt]
   exact ih (i + 1) k _ (by omega) (by omega) e2
 have := key l.length 0 K s0 (by omega) (by omega) h0
 simpa using this
theorem JR : ∀ {l : List (List UInt8)} {p : List UInt8}, jk l → l.filter (fun x => !ltP p x) ++ l.filter (fun x => ltP p x) = l := by
 intro l p
 induction l with
 | nil => intro _; rfl
 | cons x l ih =>
  intro h
  have hl := JI h
  rcases qw (ltP p x) with hx | hx
  ·have h1 : ∀ y ∈ l, ltP p y = true := fun y hy => Qi hx (hl y hy)
   have e1 : l.filter (fun y => !ltP p y) = [] := List.filter_eq_nil_iff.2 fun y hy => by rw [h1 y hy]; simp
   have e2 : l.filter (fun y => ltP p y) = l := List.filter_eq_self.2 h1
   simp [hx, e1, e2]
  ·simp [hx, ih (JD h)]
theorem gt_left {α : Type} [Inhabited α] {A B : List α} {m : Nat} (h : m < A.length) : gt (A ++ B) (m : Int) ∈ A := by
 rw [vJ, vY (by simp; omega), List.getElem_append_left h]
 exact List.getElem_mem h
theorem gt_right {α : Type} [Inhabited α] {A B : List α} {m : Nat} (h : A.length ≤ m) (h2 : m < (A ++ B).length) : gt (A ++ B) (m : Int) ∈ B := by
 rw [vJ, vY h2, List.getElem_append_right h]
 exact List.getElem_mem _
theorem gt_last {α : Type} [Inhabited α] {A B : List α} {x : α} : gt ((A ++ [x]) ++ B) ((A.length : Nat) : Int) = x := by
 rw [vJ, vY (by simp), List.getElem_append_left (by simp)]
 simp
theorem insP_cases {l : List (List UInt8)} {p : List UInt8} (h : jk l) : (p ∈ l ∧ Vi l p = l ∧ ∃ A, l.filter (fun x => !ltP p x) = A ++ [p]) ∨ (p ∉ l ∧ Vi l p = l.filter (fun x => !ltP p x) ++ p :: l.filter (fun x => ltP p x)) := by
 by_cases hp : p ∈ l
 ·refine .inl ⟨hp, jk.uniq (Y5 h p) h fun z => ?_, l.filter (fun x => ltP x p), ?_⟩
  ·rw [Gi]; constructor
   ·rintro (rfl | hz)
    ·exact hp
    ·exact hz
   ·exact .inr
  ·have h1 : jk (l.filter (fun x => !ltP p x)) := List.Pairwise.filter _ h
   have h2 : jk (l.filter (fun x => ltP x p) ++ [p]) := by
    refine List.pairwise_append.2 ⟨List.Pairwise.filter _ h, by simp, fun a ha b hb => ?_⟩
    have hb : b = p := by simpa using hb
    subst hb
    exact (List.mem_filter.1 ha).2
   refine jk.uniq h1 h2 fun z => ?_
   simp only [List.mem_filter, List.mem_append, List.mem_cons, List.not_mem_nil, or_false]
   constructor
   ·rintro ⟨hz, hn⟩
    rcases qw (ltP z p) with hz2 | hz2
    ·exact .inl ⟨hz, hz2⟩
    ·exact .inr (Vf hz2 (by simpa using hn))
   ·rintro (⟨hz, hz2⟩ | rfl)
    ·exact ⟨hz, by rw [QJ hz2]; rfl⟩
    ·exact ⟨hp, by rw [Q4]; rfl⟩
 ·refine .inr ⟨hp, ?_⟩
  unfold Vi
  congr 1
  refine List.filter_congr fun x hx => ?_
  rcases qw (ltP x p) with h1 | h1
  ·rw [h1, QJ h1]; rfl
  ·rcases qw (ltP p x) with h2 | h2
   ·rw [h1, h2]; rfl
   ·exact absurd (Vf h1 h2 ▸ hx) hp
theorem GB {α β : Type} (f : β → α → β) : ∀ (ls : List (List α)) (s : β), ls.flatten.foldl f s = ls.foldl (fun s l => l.foldl f s) s := by
 intro ls
 induction ls with
 | nil => intro s; rfl
 | cons l ls ih => intro s; rw [List.flatten_cons, List.foldl_append, ih]; rfl
theorem XU (ls : List (List Rec)) : qK ls = ls.foldl (fun s l => l.foldl (fun s (r : Rec) => Vi s r.path) s) [] := by
 unfold qK Vm
 rw [List.foldl_map, GB]
def QN (n : Nat) (s : List (List UInt8)) : Prop := jk s ∧ s.length ≤ n ∧ ∀ x ∈ s, x.length ≤ 1048576
theorem QN.ins {n : Nat} {s : List (List UInt8)} {p : List UInt8} (h : QN n s) (hp : p.length ≤ 1048576) : QN (n + 1) (Vi s p) := by
 refine ⟨Y5 h.1 p, by have := Xz s p; have := h.2.1; omega, fun x hx => ?_⟩
 rcases (Gi s p x).1 hx with rfl | hx
 ·exact hp
 ·exact h.2.2 x hx
def qu.b3 (a0 : List (List Rec)) (x4_9 : Int) (x3_31 : List (List UInt8)) (x5_33 : Int) : Int → Option (Step (Step (Step (List (List UInt8)) (List (List UInt8) × Int) (List (List UInt8))) (List (List UInt8) × Int) (List (List UInt8))) (Int) (Int)) :=
 fun x7_68 => ((bif (decide (0 < x7_68)) then (bif inR (IntKind.wrap .i64 (x7_68 - 1)) x3_31.length then (bif decide (((gt (gt a0 x4_9) x5_33).path).length ≤ 1048576) then (bif decide ((gt x3_31 (IntKind.wrap .i64 (x7_68 - 1))).length ≤ 1048576) then (some (vP (cut 47 ((gt (gt a0 x4_9) x5_33).path)) (cut 47 (gt x3_31 (IntKind.wrap .i64 (x7_68 - 1)))))) else none) else none) else none) else some false)).bind fun z87 => bif z87 then (some (.nxt (IntKind.wrap .i64 (x7_68 - 1)))) else (some (.brk x7_68))
def qu.b2 (k : Nat) (a0 : List (List Rec)) (x4_9 : Int) : List (List UInt8) × Int → Option (Step (Step (List (List UInt8)) (List (List UInt8) × Int) (List (List UInt8))) (List (List UInt8) × Int) (List (List UInt8))) :=
  fun q => match q with
  | (x3_31, x5_33) => bif inR x4_9 a0.length then (bif (decide (x5_33 < ((gt a0 x4_9).length : Int))) then (bif inR x4_9 a0.length then (bif inR x5_33 (gt a0 x4_9).length then ((qn (qu.b3 a0 x4_9 x3_31 x5_33) k (x3_31.length : Int)).bind fun z => match z with | .inl t => some t | .inr x7_72 => ((bif (decide (x7_72 = 0)) then some true else (bif inR (IntKind.wrap .i64 (x7_72 - 1)) x3_31.length then (some (!decide ((gt x3_31 (IntKind.wrap .i64 (x7_72 - 1))) = ((gt (gt a0 x4_9) x5_33).path)))) else none))).bind fun z100 => bif z100 then (bif inS 0 x7_72 (x3_31.length : Int) then (bif decide ((([] : List (List UInt8)).length + (sub x3_31 0 x7_72).length) * 16 ≤ 140737488355328) then (bif decide (((([] : List (List UInt8)) ++ (sub x3_31 0 x7_72)).length + ([(gt (gt a0 x4_9) x5_33).path] : List (List UInt8)).length) * 16 ≤ 140737488355328) then (bif inS x7_72 (x3_31.length : Int) (x3_31.length : Int) then (bif decide ((((([] : List (List UInt8)) ++ (sub x3_31 0 x7_72)) ++ ([(gt (gt a0 x4_9) x5_33).path] : List (List UInt8))).length + (sub x3_31 x7_72 (x3_31.length : Int)).length) * 16 ≤ 140737488355328) then (some (.nxt (((([] : List (List UInt8)) ++ (sub x3_31 0 x7_72)) ++ ([(gt (gt a0 x4_9) x5_33).path] : List (List UInt8))) ++ (sub x3_31 x7_72 (x3_31.length : Int)), IntKind.wrap .i64 (x5_33 + 1)))) else none) else none) else none) else none) else none) else (some (.nxt (x3_31, IntKind.wrap .i64 (x5_33 + 1))))) else none) else none) else (some (.brk x3_31))) else none
def qu.b1 (k : Nat) (a0 : List (List Rec)) : List (List UInt8) × Int → Option (Step (List (List UInt8)) (List (List UInt8) × Int) (List (List UInt8))) :=
  fun q => match q with
  | (x3_7, x4_9) => bif (decide (x4_9 < (a0.length : Int))) then ((qn (qu.b2 k a0 x4_9) k (x3_7, 0)).bind fun z => match z with | .inl t => some t | .inr x3_37 => some (.nxt (x3_37, IntKind.wrap .i64 (x4_9 + 1)))) else (some (.brk x3_7))
def qu.sh (k : Nat) (a0 : List (List Rec)) : Option (List (List UInt8)) :=
  (qn (qu.b1 k a0) k (([] : List (List UInt8)), 0)).bind fun z => match z with | .inl t => some t | .inr x3_13 => some x3_13
theorem l07_scan {a0 : List (List Rec)} {x4 : Int} {s : List (List UInt8)} {x5 : Int} {K : Nat} (hI : QN 100 s) (hp : (gt (gt a0 x4) x5).path.length ≤ 1048576) (hK : s.length < K) :
  qn (qu.b3 a0 x4 s x5) K (s.length : Int) = some (.inr (((s.filter fun x => !ltP (gt (gt a0 x4) x5).path x).length : Nat) : Int)) := by
 obtain ⟨p, hpe⟩ : ∃ p, (gt (gt a0 x4) x5).path = p := ⟨_, rfl⟩
 have hs := JR (p := p) hI.1
 have key : ∀ (d n k : Nat), n = (s.filter fun x => !ltP p x).length + d → n ≤ s.length → d < k → qn (qu.b3 a0 x4 s x5) k (n : Int) = some (.inr (((s.filter fun x => !ltP p x).length : Nat) : Int)) := by
  intro d
  induction d with
  | zero =>
   intro n k hn hle hk
   obtain ⟨k, rfl⟩ : ∃ m, k = m + 1 := ⟨k - 1, by omega⟩
   have hn : n = (s.filter fun x => !ltP p x).length := by omega
   rw [qn, ← hn]
   cases n with
   | zero =>
    simp only [qu.b3]; rfl
   | succ m =>
    have e1 : IntKind.wrap .i64 (((m + 1 : Nat) : Int) - 1) = (m : Int) := by have := hI.2.1; rw [wrap_small (by omega) (by omega)]; omega
    have hmem : gt s (m : Int) ∈ s.filter fun x => !ltP p x := by
     have := gt_left (A := s.filter fun x => !ltP p x) (B := s.filter fun x => ltP p x) (m := m) (by omega)
     rwa [hs] at this
    obtain ⟨m1, m2⟩ := List.mem_filter.1 hmem
    have m2' : vP (cut 47 p) (cut 47 (gt s (m : Int))) = false := by
     have : ltP p (gt s (m : Int)) = false := by simpa using m2
     exact this
    have d1 : decide ((0 : Int) < ((m + 1 : Nat) : Int)) = true := decide_eq_true (by omega)
    rw [hpe] at hp
    simp only [qu.b3, d1, e1, qT (show m < s.length by omega), hpe, decide_eq_true hp, decide_eq_true (hI.2.2 _ m1), m2', cond_true, Option.bind_some, cond_false]
  | succ d ih =>
   intro n k hn hle hk
   obtain ⟨k, rfl⟩ : ∃ m, k = m + 1 := ⟨k - 1, by omega⟩
   obtain ⟨m, rfl⟩ : ∃ m, n = m + 1 := ⟨n - 1, by omega⟩
   have e1 : IntKind.wrap .i64 (((m + 1 : Nat) : Int) - 1) = (m : Int) := by have := hI.2.1; rw [wrap_small (by omega) (by omega)]; omega
   have hmem : gt s (m : Int) ∈ s.filter fun x => ltP p x := by
    have := gt_right (A := s.filter fun x => !ltP p x) (B := s.filter fun x => ltP p x) (m := m) (by omega) (by rw [hs]; omega)
    rwa [hs] at this
   obtain ⟨m1, m2⟩ := List.mem_filter.1 hmem
   have m2' : vP (cut 47 p) (cut 47 (gt s (m : Int))) = true := m2
   have d1 : decide ((0 : Int) < ((m + 1 : Nat) : Int)) = true := decide_eq_true (by omega)
   have hp' := hp
   rw [hpe] at hp'
   rw [qn]
   simp only [qu.b3, d1, e1, qT (show m < s.length by omega), hpe, decide_eq_true hp', decide_eq_true (hI.2.2 _ m1), m2', cond_true, Option.bind_some]
   exact ih m k (by omega) (by omega) (by omega)
 rw [hpe]
 have hlen := congrArg List.length hs
 rw [List.length_append] at hlen
 exact key (s.filter fun x => ltP p x).length s.length K (by omega) (Nat.le_refl _) (by omega)
theorem qu.eq (a0 : List (List Rec)) (h0 : qO a0 = true) : ∃ k, qu.sh k a0 = some (qK a0) := by
 obtain ⟨h5, hL⟩ := QK h0
 refine ⟨101, ?_⟩
 unfold qu.sh
 have hp : ∀ l ∈ a0, ∀ x ∈ l, x.path.length ≤ 1048576 := fun l hl x hx => yi (YL (hL l hl) x hx)
 have hin : ∀ (i : Nat) (s : List (List UInt8)), i < a0.length → QN (16 * i) s → qn (qu.b2 101 a0 (i : Int)) 101 (s, 0) = some (.inr ((gt a0 (i : Int)).foldl (fun s (r : Rec) => Vi s r.path) s)) ∧ QN (16 * (i + 1)) ((gt a0 (i : Int)).foldl (fun s (r : Rec) => Vi s r.path) s) := by
  intro i s hi hI
  have hmem : gt a0 (i : Int) ∈ a0 := by rw [vJ, vY hi]; exact List.getElem_mem hi
  have hl16 := Vc (hL _ hmem)
  have hr := J3 (gt a0 (i : Int)) (fun s (r : Rec) => Vi s r.path) (fun j s => QN (16 * i + j) s) (qu.b2 101 a0 (i : Int)) 101 (by omega) (fun j s hj hI => by
   have hx : (gt (gt a0 (i : Int)) (j : Int)).path.length ≤ 1048576 := by
    rw [vJ (gt a0 (i : Int)), vY hj]
    exact hp _ hmem _ (List.getElem_mem hj)
   have hsl := hI.2.1
   refine ⟨?_, hI.ins hx⟩
   have hsc := l07_scan (a0 := a0) (x4 := (i : Int)) (x5 := (j : Int)) (s := s) (K := 101) ⟨hI.1, by omega, hI.2.2⟩ hx (by omega)
   have d1 : decide ((j : Int) < ((gt a0 (i : Int)).length : Int)) = true := decide_eq_true (by omega)
   have w1 : IntKind.wrap .i64 ((j : Int) + 1) = ((j + 1 : Nat) : Int) := by rw [wrap_small (by omega) (by omega)]; omega
   simp only [qu.b2, qT hi, d1, qT hj, hsc, cond_true, Option.bind_some, w1]
   obtain ⟨p, hpe⟩ : ∃ p, (gt (gt a0 (i : Int)) (j : Int)).path = p := ⟨_, rfl⟩
   rw [hpe]
   have hs := JR (p := p) hI.1
   have hlen := congrArg List.length hs
   rw [List.length_append] at hlen
   rcases insP_cases (p := p) hI.1 with ⟨c1, c2, A, c3⟩ | ⟨c1, c2⟩
   ·rw [c2]
    have hn : (s.filter fun x => !ltP p x).length = A.length + 1 := by rw [c3]; simp
    have d2 : decide ((((s.filter fun x => !ltP p x).length : Nat) : Int) = 0) = false := decide_eq_false (by omega)
    have e1 : IntKind.wrap .i64 ((((s.filter fun x => !ltP p x).length : Nat) : Int) - 1) = (A.length : Int) := by rw [wrap_small (by omega) (by omega)]; omega
    have g1 : gt s (A.length : Int) = p := by
     have := gt_last (A := A) (B := s.filter fun x => ltP p x) (x := p)
     rwa [← c3, hs] at this
    simp only [d2, e1, cond_false, qT (show A.length < s.length by omega), cond_true, g1, decide_true, Bool.not_true, Option.bind_some]
   ·rw [c2]
    have hne : (bif decide ((((s.filter fun x => !ltP p x).length : Nat) : Int) = 0) then some true else (bif inR (IntKind.wrap .i64 ((((s.filter fun x => !ltP p x).length : Nat) : Int) - 1)) s.length then (some (!decide ((gt s (IntKind.wrap .i64 ((((s.filter fun x => !ltP p x).length : Nat) : Int) - 1))) = p))) else none)) = some true := by
     by_cases hz : (s.filter fun x => !ltP p x).length = 0
     ·have d2 : decide ((((s.filter fun x => !ltP p x).length : Nat) : Int) = 0) = true := decide_eq_true (by omega)
      rw [d2]; rfl
     ·have d2 : decide ((((s.filter fun x => !ltP p x).length : Nat) : Int) = 0) = false := decide_eq_false (by omega)
      have e1 : IntKind.wrap .i64 ((((s.filter fun x => !ltP p x).length : Nat) : Int) - 1) = (((s.filter fun x => !ltP p x).length - 1 : Nat) : Int) := by rw [wrap_small (by omega) (by omega)]; omega
      have hmem : gt s (((s.filter fun x => !ltP p x).length - 1 : Nat) : Int) ∈ s := by
       rw [vJ, vY (by omega)]; exact List.getElem_mem _
      have d3 : decide (gt s (((s.filter fun x => !ltP p x).length - 1 : Nat) : Int) = p) = false := decide_eq_false (fun e => c1 (e ▸ hmem))
      rw [d2, e1, d3]
      simp only [cond_false, qT (show (s.filter fun x => !ltP p x).length - 1 < s.length by omega), cond_true, Bool.not_false]
    rw [hne]
    have t1 : sub s 0 (((s.filter fun x => !ltP p x).length : Nat) : Int) = s.filter fun x => !ltP p x := by
     rw [show (0 : Int) = ((0 : Nat) : Int) from rfl, Jz, List.drop_zero]
     conv => lhs; rw [← hs]
     simp
    have t2 : sub s (((s.filter fun x => !ltP p x).length : Nat) : Int) (s.length : Int) = s.filter fun x => ltP p x := by
     rw [Jz, List.take_length]
     conv => lhs; rw [← hs]
     simp
    have i1 : inS 0 (((s.filter fun x => !ltP p x).length : Nat) : Int) (s.length : Int) = true := Vl (by omega) (by omega) (by omega)
    have i2 : inS (((s.filter fun x => !ltP p x).length : Nat) : Int) (s.length : Int) (s.length : Int) = true := Vl (by omega) (by omega) (by omega)
    have n1 : decide ((([] : List (List UInt8)).length + (s.filter fun x => !ltP p x).length) * 16 ≤ 140737488355328) = true := decide_eq_true (by simp only [List.length_nil]; omega)
    have n2 : decide (((([] : List (List UInt8)) ++ s.filter fun x => !ltP p x).length + ([p] : List (List UInt8)).length) * 16 ≤ 140737488355328) = true := decide_eq_true (by simp only [List.nil_append, List.length_cons, List.length_nil]; omega)
    have n3 : decide (((([] : List (List UInt8)) ++ (s.filter fun x => !ltP p x) ++ ([p] : List (List UInt8))).length + (s.filter fun x => ltP p x).length) * 16 ≤ 140737488355328) = true := decide_eq_true (by simp only [List.nil_append, List.length_append, List.length_cons, List.length_nil]; omega)
    simp only [Option.bind_some, cond_true, i1, i2, t1, t2, n1, n2, n3]
    simp) (fun s => by simp [qu.b2, qT hi]) s (by simpa using hI)
  refine ⟨hr.1, hr.2.1, by have := hr.2.2.1; omega, hr.2.2.2⟩
 have hr := J3 a0 (fun s l => l.foldl (fun s (r : Rec) => Vi s r.path) s) (fun i s => QN (16 * i) s) (qu.b1 101 a0) 101 (by omega) (fun i s hi hI => by
  obtain ⟨k1, k2⟩ := hin i s hi hI
  refine ⟨?_, k2⟩
  have d1 : decide ((i : Int) < (a0.length : Int)) = true := decide_eq_true (by omega)
  have w1 : IntKind.wrap .i64 ((i : Int) + 1) = ((i + 1 : Nat) : Int) := by rw [wrap_small (by omega) (by omega)]; omega
  simp only [qu.b1, d1, cond_true, k1, Option.bind_some, w1]) (fun s => by simp [qu.b1]) [] ⟨List.Pairwise.nil, by simp, by simp⟩
 rw [hr.1, XU]
 rfl
theorem Q1 {a : List (List Rec)} (h : qO a = true) : (qK a).length ≤ 80 := by
 obtain ⟨h5, hL⟩ := QK h
 refine Nat.le_trans (riseOf_len _) ?_
 rw [List.length_map]
 have : ∀ (ls : List (List Rec)), (∀ l ∈ ls, l.length ≤ 16) → ls.flatten.length ≤ ls.length * 16 := by
  intro ls
  induction ls with
  | nil => intro _; simp
  | cons l ls ih =>
   intro h
   have a1 := h l (by simp)
   have a2 := ih fun x hx => h x (by simp [hx])
   simp only [List.flatten_cons, List.length_append, List.length_cons]; omega
 have := this a fun l hl => Vc (hL l hl)
 omega
theorem paths_mem {a : List (List Rec)} {p : List UInt8} : p ∈ qK a ↔ ∃ l ∈ a, ∃ r ∈ l, r.path = p := by
 rw [qK, JK]
 simp only [List.mem_map, List.mem_flatten]
 constructor
 ·rintro ⟨r, ⟨l, hl, hr⟩, e⟩; exact ⟨l, hl, r, hr, e⟩
 ·rintro ⟨l, hl, r, hr, e⟩; exact ⟨r, ⟨l, hl, hr⟩, e⟩
theorem VP {a : List (List Rec)} (h : qO a = true) : ∀ p ∈ qK a, qy p = true := by
 intro p hp
 obtain ⟨l, hl, r, hr, rfl⟩ := paths_mem.1 hp
 exact YL ((QK h).2 l hl) r hr
def qA (a : List (List Rec)) : List (List UInt8) × Int := if stackCode a = 0 then (qK a, 0) else ([], stackCode a)
def yU.sh (a0 : List (List Rec)) : Option (List (List UInt8) × Int) :=
 bif (decide (4096 < (a0.length : Int))) then (some (([] : List (List UInt8)), 2)) else (bif decide (a0.length ≤ 1048576) then (bif decide (∀ l ∈ a0, l.length ≤ 1048576) then (bif decide (∀ l ∈ a0, ∀ x ∈ l, x.path.length ≤ 1048576) then (bif (!(qO a0)) then (some (([] : List (List UInt8)), 1)) else (bif decide (qO a0 = true) then (some ((qK a0), 0)) else none)) else none) else none) else none)
theorem yU.eq (a0 : List (List Rec)) (h0 : a0.length ≤ 1048576) (h1 : ∀ l ∈ a0, l.length ≤ 1048576) (h2 : ∀ l ∈ a0, ∀ x ∈ l, x.path.length ≤ 1048576) : yU.sh a0 = some ((qA a0).1, (qA a0).2) := by
 unfold yU.sh qA stackCode
 rw [Vr]
 by_cases h : 4096 < a0.length
 ·simp [h]
 ·rcases qw (qO a0) with c1 | c1
  ·simp [h, h0, decide_eq_true h1, decide_eq_true h2, c1]
  ·simp [h, h0, decide_eq_true h1, decide_eq_true h2, c1]
def yV.sh (a0 : List (List Rec)) : Option (List (List UInt8) × Int) :=
 bif decide (a0.length ≤ 1048576) then (bif decide (∀ l ∈ a0, l.length ≤ 1048576) then (bif decide (∀ l ∈ a0, ∀ x ∈ l, x.path.length ≤ 1048576) then (bif (!decide ((stackCode a0) = 0)) then (some ([], (stackCode a0))) else (bif decide (a0.length ≤ 5) then (bif decide (∀ l ∈ a0, l.length ≤ 1048576) then (bif decide (∀ l ∈ a0, ∀ x ∈ l, x.path.length ≤ 1048576) then (some ((qK a0), 0)) else none) else none) else none)) else none) else none) else none
theorem yV.eq (a0 : List (List Rec)) (h0 : a0.length ≤ 1048576) (h1 : ∀ l ∈ a0, l.length ≤ 1048576) (h2 : ∀ l ∈ a0, ∀ x ∈ l, x.path.length ≤ 1048576) : yV.sh a0 = some ((qA a0).1, (qA a0).2) := by
 unfold yV.sh qA
 by_cases h : stackCode a0 = 0
 ·have l1 := (QK (V0 h)).1
  simp [h0, decide_eq_true h1, decide_eq_true h2, h, l1]
 ·simp [h0, decide_eq_true h1, decide_eq_true h2, h]
def VG (a : List (List Rec)) (p : List UInt8) : Option Rec := if (0 : Int) < (winner a p).2 then some (winner a p).1 else none
def Qy (a : List (List Rec)) (p : List UInt8) : Option Pick := if (0 : Int) < (winner a p).2 then some ⟨p, (winner a p).2⟩ else none
def JZ (a : List (List Rec)) : List Rec := (qK a).filterMap (VG a)
def QF (a : List (List Rec)) : List Pick := (qK a).filterMap (Qy a)
def mergeL (a : List (List Rec)) : List Rec := Yx (JZ a)
theorem Xl {α β : Type} [Inhabited α] {f : α → Option β} {l : List α} {i : Nat} (hi : i < l.length) : (l.take (i + 1)).filterMap f = (l.take i).filterMap f ++ (f (gt l (i : Int))).toList := by
 rw [List.take_succ_eq_append_getElem hi, List.filterMap_append, vJ, vY hi]
 cases h : f l[i] <;> simp [h]
theorem XE {a : List (List Rec)} {p : List UInt8} (h : (0 : Int) < (winner a p).2) : (winner a p).1.path = p := by
 have hlo := YB a p
 have h1 : 0 < (j8 a p).2.1 := h
 have hc : (winner a p).1.path = (j8 a p).1.path := by
  show (VU (j8 a p)).path = _
  unfold VU; split <;> rfl
 rcases JL a p (vx a p) (a.length - vx a p) (by omega) with h2 | ⟨_, _, _, l, _, _, h3⟩
 ·unfold j8 at h1; rw [h2] at h1; exact absurd h1 (by simp)
 ·rw [hc]; exact h3
theorem GR {a : List (List Rec)} {p : List UInt8} {x : Rec} (h : VG a p = some x) : x.path = p := by
 unfold VG at h
 split at h
 ·rename_i hc; rw [← Option.some.inj h]; exact XE hc
 ·cases h
theorem wins_spec (a : List (List Rec)) : jk ((JZ a).map (·.path)) ∧ ∀ p, jx (JZ a) p = if p ∈ qK a then VG a p else none :=
 pick_spec (fun r : Rec => r.path) (VW _) (VG a) fun p x h => GR h
theorem wins_len {a : List (List Rec)} (h : qO a = true) : (JZ a).length ≤ 80 := Nat.le_trans (List.length_filterMap_le _ _) (Q1 h)
theorem picks_len {a : List (List Rec)} (h : qO a = true) : (QF a).length ≤ 80 := Nat.le_trans (List.length_filterMap_le _ _) (Q1 h)
theorem wins_sheet {a : List (List Rec)} (h : qO a = true) : j2 (JZ a) = true := by
 refine Ja (fun x hx => ?_) (wins_spec a).1
 obtain ⟨p, hp, hx⟩ := List.mem_filterMap.1 hx
 rw [GR hx]
 exact VP h p hp
def qI (a : List (List Rec)) : List Pick × Int := if stackCode a = 0 then (QF a, 0) else ([], stackCode a)
def yp.sh (a0 : List (List Rec)) : Option (List Pick × Int) :=
 bif (decide (4096 < (a0.length : Int))) then (some (([] : List Pick), 2)) else (bif decide (a0.length ≤ 1048576) then (bif decide (∀ l ∈ a0, l.length ≤ 1048576) then (bif decide (∀ l ∈ a0, ∀ x ∈ l, x.path.length ≤ 1048576) then (bif (!(qO a0)) then (some (([] : List Pick), 1)) else (bif decide (qO a0 = true) then (some ((QF a0), 0)) else none)) else none) else none) else none)
theorem yp.eq (a0 : List (List Rec)) (h0 : a0.length ≤ 1048576) (h1 : ∀ l ∈ a0, l.length ≤ 1048576) (h2 : ∀ l ∈ a0, ∀ x ∈ l, x.path.length ≤ 1048576) : yp.sh a0 = some ((qI a0).1, (qI a0).2) := by
 unfold yp.sh qI stackCode
 rw [Vr]
 by_cases h : 4096 < a0.length
 ·simp [h]
 ·rcases qw (qO a0) with c1 | c1
  ·simp [h, h0, decide_eq_true h1, decide_eq_true h2, c1]
  ·simp [h, h0, decide_eq_true h1, decide_eq_true h2, c1]
def vc.b1 (a0 : List (List Rec)) : List Pick × Int → Option (Step (List Pick × Int) (List Pick × Int) (List Pick)) :=
 fun q => match q with
 | (x5_20, x20_22) => bif (decide (x20_22 < ((qK a0).length : Int))) then (bif inR x20_22 (qK a0).length then (bif decide (qO a0 = true) then (bif decide (a0.length ≤ 1048576) then (bif decide ((gt (qK a0) x20_22).length ≤ 1048576) then (bif decide (∀ l ∈ a0, l.length ≤ 1048576) then (bif (decide ((0 : Int) < (winner a0 (gt (qK a0) x20_22)).2)) then (bif decide ((x5_20.length + ([(⟨gt (qK a0) x20_22, (winner a0 (gt (qK a0) x20_22)).2⟩ : Pick)] : List Pick).length) * 24 ≤ 140737488355328) then (some (.nxt (x5_20 ++ ([(⟨gt (qK a0) x20_22, (winner a0 (gt (qK a0) x20_22)).2⟩ : Pick)] : List Pick), IntKind.wrap .i64 (x20_22 + 1)))) else none) else (some (.nxt (x5_20, IntKind.wrap .i64 (x20_22 + 1))))) else none) else none) else none) else none) else none) else (some (.brk x5_20))
def vc.sh (k : Nat) (a0 : List (List Rec)) : Option (List Pick × Int) :=
  bif decide (a0.length ≤ 1048576) then (bif decide (∀ l ∈ a0, l.length ≤ 1048576) then (bif decide (∀ l ∈ a0, ∀ x ∈ l, x.path.length ≤ 1048576) then (bif (!decide ((stackCode a0) = 0)) then (some ([], (stackCode a0))) else (bif decide (a0.length ≤ 5) then (bif decide (∀ l ∈ a0, l.length ≤ 1048576) then (bif decide (∀ l ∈ a0, ∀ x ∈ l, x.path.length ≤ 1048576) then ((qn (vc.b1 a0) k (([] : List Pick), 0)).bind fun z => match z with | .inl t => some t | .inr x5_26 => some (x5_26, 0)) else none) else none) else none)) else none) else none) else none
theorem vc.eq (a0 : List (List Rec)) (h0 : a0.length ≤ 1048576) (h1 : ∀ l ∈ a0, l.length ≤ 1048576) (h2 : ∀ l ∈ a0, ∀ x ∈ l, x.path.length ≤ 1048576) : ∃ k, vc.sh k a0 = some ((qI a0).1, (qI a0).2) := by
 unfold vc.sh qI
 by_cases h : stackCode a0 = 0
 ·have h0' := V0 h
  obtain ⟨h5, hL⟩ := QK h0'
  have hn := Q1 h0'
  refine ⟨(qK a0).length + 1, ?_⟩
  rw [Jm (qK a0) (Qy a0) (vc.b1 a0) (fun i hi acc ha => by
   have b0 : decide (a0.length ≤ 1048576) = true := decide_eq_true (by omega)
   have e1 : ∀ z : Pick, decide ((acc.length + ([z] : List Pick).length) * 24 ≤ 140737488355328) = true := fun z => decide_eq_true (by simp; omega)
   have m1 := yi (VP h0' _ (List.getElem_mem hi))
   simp only [vc.b1, yY, hi, decide_true, cond_true, qT hi, vJ, vY hi, b0, e1, vR hi (by omega), decide_eq_true m1, h0', decide_eq_true h1]
   unfold Qy
   by_cases hc : (0 : Int) < (winner a0 (qK a0)[i]).2 <;> simp [hc]) (fun acc => by simp [vc.b1])]
  simp [h0, decide_eq_true h1, decide_eq_true h2, h, h5, QF]
 ·exact ⟨0, by simp [h0, decide_eq_true h1, decide_eq_true h2, h]⟩
def viewR (l : List Rec) (p : List UInt8) : Option (Option Nd) := match jx l p with
 | some r => some (showR r)
 | none => if QB l p then some none else none
theorem Sheet.path {l : List Rec} (hs : Sheet l) {p : List UInt8} {r : Rec} (h : jx l p = some r) : qy p = true := by
 obtain ⟨h1, h2⟩ := JP h
 rw [← h2]; exact yA (hs.ok r h1)
theorem pigeon {α : Type} [DecidableEq α] : ∀ (l m : List α), l.Nodup → (∀ x ∈ l, x ∈ m) → l.length ≤ m.length := by
 intro l
 induction l with
 | nil => intro m _ _; simp
 | cons x l ih =>
  intro m hd hs
  have hx := hs x (by simp)
  have h1 := List.nodup_cons.1 hd
  have h2 := ih (m.erase x) h1.2 fun y hy => (List.mem_erase_of_ne (fun e => h1.1 (by rw [← e]; exact hy))).2 (hs y (by simp [hy]))
  rw [List.length_erase_of_mem hx] at h2
  have : 0 < m.length := List.length_pos_of_mem hx
  simp only [List.length_cons]; omega
def Vb (i : Nat) : List UInt8 := [122, UInt8.ofNat (97 + i / 16), UInt8.ofNat (97 + i % 16)]
theorem freeN_ok : ∀ i, i < 256 → yP (Vb i) = true := by
 have h : (List.range 256).all (fun i => yP (Vb i)) = true := by decide +kernel
 intro i hi
 exact (List.all_eq_true.1 h) i (List.mem_range.2 hi)
theorem Gy : ∀ i, i < 256 → cut 47 (Vb i) = [Vb i] := by
 have h : (List.range 256).all (fun i => decide (cut 47 (Vb i) = [Vb i])) = true := by decide +kernel
 intro i hi
 exact of_decide_eq_true ((List.all_eq_true.1 h) i (List.mem_range.2 hi))
theorem freeN_inj {i j : Nat} (hi : i < 256) (hj : j < 256) (h : Vb i = Vb j) : i = j := by
 unfold Vb at h
 injection h with _ h
 injection h with h1 h
 injection h with h2 _
 have e1 := congrArg UInt8.toNat h1
 have e2 := congrArg UInt8.toNat h2
 simp only [UInt8.toNat_ofNat'] at e1 e2
 omega
theorem joinL_le : ∀ (l : List (List UInt8)), (∀ x ∈ l, x.length ≤ 8) → (ym l).length ≤ 9 * l.length - 1 := by
 intro l
 induction l with
 | nil => intro _; simp [ym]
 | cons x l ih =>
  intro h
  have h1 := h x (by simp)
  have h2 := ih fun y hy => h y (by simp [hy])
  by_cases e : l = []
  ·subst e; simp [ym]; omega
  ·rw [QD x e]
   have := List.length_pos_iff.2 e
   simp only [List.length_append, List.length_cons]; omega
theorem Js {p : List UInt8} (h : qy p = true) : (cut 47 p).length ≤ 4 ∧ ∀ x ∈ cut 47 p, yP x = true := by
 simp only [qy, Bool.and_eq_true, decide_eq_true_eq, List.all_eq_true] at h
 exact ⟨h.2.1, h.2.2⟩
theorem child_ok {x part : List UInt8} (hx : qy x = true) (hd : (cut 47 x).length < 4) (hp : yP part = true) (hc : cut 47 part = [part]) : qy (x ++ 47 :: part) = true ∧ qb (x ++ 47 :: part) = x := by
 have hcut : cut 47 (x ++ 47 :: part) = cut 47 x ++ [part] := by rw [Gc, hc]
 obtain ⟨h1, h2⟩ := Js hx
 have h3 := joinL_le (cut 47 x) fun y hy => Yt (h2 y hy)
 rw [Qn] at h3
 have h4 := Yt hp
 have hok : qy (x ++ 47 :: part) = true := by
  simp only [qy, Bool.and_eq_true, decide_eq_true_eq, List.all_eq_true, hcut]
  refine ⟨by simp; omega, by simp; omega, fun y hy => ?_⟩
  rcases List.mem_append.1 hy with hy | hy
  ·exact h2 y hy
  ·rw [List.mem_singleton.1 hy]; exact hp
 refine ⟨hok, ?_⟩
 have hb : yj (x ++ 47 :: part) x = true := (jW _ _).2 ⟨[part], by simp, hcut⟩
 obtain ⟨g1, g2 | g2⟩ := Jr hok hb
 ·exact g2
 ·have g3 := QO g2
  rw [Ge g1, hcut] at g3
  simp at g3
theorem fresh {a b : List Rec} (hlen : a.length + b.length < 256) {x : List UInt8} (hx : qy x = true) (hd : (cut 47 x).length < 4) :
  ∃ q, qy q = true ∧ qb q = x ∧ jx a q = none ∧ jx b q = none := by
 have key : ∃ i, i < 256 ∧ (x ++ 47 :: Vb i) ∉ a.map (·.path) ++ b.map (·.path) := by
  refine Classical.byContradiction fun hno => ?_
  have hall : ∀ i, i < 256 → (x ++ 47 :: Vb i) ∈ a.map (·.path) ++ b.map (·.path) := fun i hi => Classical.byContradiction fun h => hno ⟨i, hi, h⟩
  have hnd : ((List.range 256).map fun i => x ++ 47 :: Vb i).Nodup := by
   refine List.pairwise_map.2 (List.Pairwise.imp_of_mem (R := fun i j => i < j) (fun {i j} hi hj hlt e => ?_) List.pairwise_lt_range)
   have h1 := List.append_cancel_left e
   injection h1 with _ h1
   have := freeN_inj (List.mem_range.1 hi) (List.mem_range.1 hj) h1
   omega
  have hle := pigeon _ _ hnd fun y hy => by
   obtain ⟨i, hi, rfl⟩ := List.mem_map.1 hy
   exact hall i (List.mem_range.1 hi)
  simp at hle
  omega
 obtain ⟨i, hi, hni⟩ := key
 obtain ⟨h1, h2⟩ := child_ok hx hd (freeN_ok i hi) (Gy i hi)
 rw [List.mem_append, not_or] at hni
 refine ⟨_, h1, h2, ?_, ?_⟩
 ·cases h : jx a (x ++ 47 :: Vb i) with
  | none => rfl
  | some r => exact absurd (Jo.1 (by rw [h]; simp)) hni.1
 ·cases h : jx b (x ++ 47 :: Vb i) with
  | none => rfl
  | some r => exact absurd (Jo.1 (by rw [h]; simp)) hni.2
set_option linter.unusedSectionVars false
section
variable {a b : List Rec} (ha : Sheet a) (hb : Sheet b) (hlen : a.length + b.length < 256) (hv : ∀ p, qy p = true → viewR a p = viewR b p)
include ha hb hlen hv
end
theorem Sheet.nil : Sheet [] := ⟨List.Pairwise.nil, by simp, by simp⟩
theorem lowN_def (L : List (List Rec)) (p : List UInt8) : vx L p = (jT L p).toNat - 1 := rfl
theorem winN_spec (L : List (List Rec)) (p : List UInt8) (lo : Nat) : ∀ n,
  (ji L p lo n = (jD, 0, false) ∧ ∀ j, lo ≤ j → j < lo + n → jx (L.getD j default) p = none) ∨
  ∃ j r, lo ≤ j ∧ j < lo + n ∧ jx (L.getD j default) p = some r ∧ (ji L p lo n).1 = r ∧ (ji L p lo n).2.1 = (j : Int) + 1 ∧ (∀ i, j < i → i < lo + n → jx (L.getD i default) p = none) ∧
   ((ji L p lo n).2.2 = true ↔ ∃ i r', lo ≤ i ∧ i < lo + n ∧ jx (L.getD i default) p = some r' ∧ yC r' = true) := by
 intro n
 induction n with
 | zero => exact .inl ⟨rfl, fun j h1 h2 => by omega⟩
 | succ n ih =>
  rw [ji, YQ]
  cases hl : jx (L.getD (lo + n) default) p with
  | none =>
   have hf : ¬ 0 ≤ qt (L.getD (lo + n) default) p := fun h => (jd _ _).1.1 h hl
   rw [if_neg hf]
   rcases ih with ⟨h1, h2⟩ | ⟨j, r, h1, h2, h3, h4, h5, h6, h7⟩
   ·refine .inl ⟨h1, fun j a b => ?_⟩
    by_cases e : j = lo + n
    ·subst e; exact hl
    ·exact h2 j a (by omega)
   ·refine .inr ⟨j, r, h1, by omega, h3, h4, h5, fun i a b => ?_, h7.trans ?_⟩
    ·by_cases e : i = lo + n
     ·subst e; exact hl
     ·exact h6 i a (by omega)
    ·constructor
     ·rintro ⟨i, r', a, b, c, d⟩; exact ⟨i, r', a, by omega, c, d⟩
     ·rintro ⟨i, r', a, b, c, d⟩
      by_cases e : i = lo + n
      ·subst e; rw [hl] at c; cases c
      ·exact ⟨i, r', a, by omega, c, d⟩
  | some r =>
   have hf : 0 ≤ qt (L.getD (lo + n) default) p := (jd _ _).1.2 (by rw [hl]; simp)
   rw [if_pos hf, (jd _ _).2 r hl]
   refine .inr ⟨lo + n, r, by omega, by omega, hl, rfl, rfl, fun i a b => by omega, ?_⟩
   show ((ji L p lo n).2.2 || yC r) = true ↔ _
   rw [Bool.or_eq_true]
   constructor
   ·rintro (h | h)
    ·rcases ih with ⟨h1, _⟩ | ⟨j, r2, _, _, _, _, _, _, h7⟩
     ·rw [h1] at h; cases h
     ·obtain ⟨i, r', a, b, c, d⟩ := h7.1 h; exact ⟨i, r', a, by omega, c, d⟩
    ·exact ⟨lo + n, r, by omega, by omega, hl, h⟩
   ·rintro ⟨i, r', a, b, c, d⟩
    by_cases e : i = lo + n
    ·subst e; rw [hl] at c; rw [Option.some.inj c]; exact .inr d
    ·left
     rcases ih with ⟨_, h2⟩ | ⟨j, r2, _, _, _, _, _, _, h7⟩
     ·rw [h2 i a (by omega)] at c; cases c
     ·exact h7.2 ⟨i, r', a, by omega, c, d⟩
theorem G3 (L : List (List Rec)) (p : List UInt8) :
  (VG L p = none ∧ ∀ j, vx L p ≤ j → j < L.length → jx (L.getD j default) p = none) ∨
  ∃ j r x, vx L p ≤ j ∧ j < L.length ∧ jx (L.getD j default) p = some r ∧ VG L p = some x ∧ (winner L p).2 = (j : Int) + 1 ∧ (∀ i, j < i → i < L.length → jx (L.getD i default) p = none) ∧
   x.kind = r.kind ∧ x.path = r.path ∧ x.body = r.body ∧ x.mode = r.mode ∧ (r.kind ≠ 3 → x = r) ∧ (r.kind = 3 → (x.opq = true ↔ ∃ i r', vx L p ≤ i ∧ i < L.length ∧ jx (L.getD i default) p = some r' ∧ yC r' = true)) := by
 have hlo := YB L p
 have he : vx L p + (L.length - vx L p) = L.length := by omega
 rcases winN_spec L p (vx L p) (L.length - vx L p) with ⟨h1, h2⟩ | ⟨j, r, h1, h2, h3, h4, h5, h6, h7⟩
 ·rw [he] at h2
  refine .inl ⟨?_, h2⟩
  unfold VG winner j8
  rw [h1]; rfl
 ·rw [he] at h2 h6 h7
  have hw : (winner L p).2 = (j : Int) + 1 := h5
  refine .inr ⟨j, r, (winner L p).1, h1, h2, h3, ?_, hw, h6, ?_⟩
  ·unfold VG; rw [if_pos (by rw [hw]; omega)]
  ·have hx : (winner L p).1 = VU (ji L p (vx L p) (L.length - vx L p)) := rfl
   rw [hx]
   unfold VU
   by_cases hk : r.kind = 3
   ·rw [h4, if_pos hk]
    exact ⟨rfl, rfl, rfl, rfl, fun h => absurd hk h, fun _ => h7⟩
   ·rw [h4, if_neg hk]
    exact ⟨rfl, rfl, rfl, rfl, fun _ => rfl, fun h => absurd h hk⟩
theorem getL_mem {L : List (List Rec)} {j : Nat} (h : j < L.length) : L.getD j default ∈ L := by rw [vY h]; exact List.getElem_mem h
end Go.UL
