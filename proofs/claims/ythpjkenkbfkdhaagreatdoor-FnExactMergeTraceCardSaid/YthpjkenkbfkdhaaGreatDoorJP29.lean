/- Plain Lean: what the functions compute. -/
import Derived.Test.YthpjkenkbfkdhaaGreatDoorJP28
set_option linter.unusedVariables false
set_option linter.unusedSimpArgs false
namespace Go.UL
open Go.RowKit
/-! ### the paths of a stack; many layers as one, from below -/
theorem foldI_runK {α β ρ : Type} [Inhabited α] (l : List α) (f : β → α → β) (Inv : Nat → β → Prop) (b : β × Int → Option (Step ρ (β × Int) β)) (K : Nat) (hK : l.length < K)
    (h1 : ∀ (i : Nat) (s : β), i < l.length → Inv i s → b (s, (i : Int)) = some (.nxt (f s (gt l (i : Int)), ((i + 1 : Nat) : Int))) ∧ Inv (i + 1) (f s (gt l (i : Int))))
    (h2 : ∀ s : β, b (s, (l.length : Int)) = some (.brk s)) (s0 : β) (h0 : Inv 0 s0) : loopF b K (s0, 0) = some (.inr (l.foldl f s0)) ∧ Inv l.length (l.foldl f s0) := by
  have key : ∀ (d i k : Nat) (s : β), i + d = l.length → d < k → Inv i s → loopF b k (s, (i : Int)) = some (.inr ((l.drop i).foldl f s)) ∧ Inv l.length ((l.drop i).foldl f s) := by
    intro d
    induction d with
    | zero =>
      intro i k s hi hk hs
      obtain ⟨k, rfl⟩ : ∃ m, k = m + 1 := ⟨k - 1, by omega⟩
      have : i = l.length := by omega
      subst this
      rw [loopF, h2 s, List.drop_length]; exact ⟨rfl, hs⟩
    | succ d ih =>
      intro i k s hi hk hs
      obtain ⟨k, rfl⟩ : ∃ m, k = m + 1 := ⟨k - 1, by omega⟩
      have hlt : i < l.length := by omega
      obtain ⟨e1, e2⟩ := h1 i s hlt hs
      rw [loopF, e1, drop_gt hlt]
      exact ih (i + 1) k _ (by omega) (by omega) e2
  have := key l.length 0 K s0 (by omega) (by omega) h0
  simpa using this
theorem rise_split : ∀ {l : List (List UInt8)} {p : List UInt8}, Rise l → l.filter (fun x => !ltP p x) ++ l.filter (fun x => ltP p x) = l := by
  intro l p
  induction l with
  | nil => intro _; rfl
  | cons x l ih =>
    intro h
    have hl := rise_lt h
    rcases bool_two (ltP p x) with hx | hx
    · have h1 : ∀ y ∈ l, ltP p y = true := fun y hy => ltP_trans hx (hl y hy)
      have e1 : l.filter (fun y => !ltP p y) = [] := List.filter_eq_nil_iff.2 fun y hy => by rw [h1 y hy]; simp
      have e2 : l.filter (fun y => ltP p y) = l := List.filter_eq_self.2 h1
      simp [hx, e1, e2]
    · simp [hx, ih (rise_tl h)]
theorem gt_left {α : Type} [Inhabited α] {A B : List α} {m : Nat} (h : m < A.length) : gt (A ++ B) (m : Int) ∈ A := by
  rw [getD_gt, getD_el (by simp; omega), List.getElem_append_left h]
  exact List.getElem_mem h
theorem gt_right {α : Type} [Inhabited α] {A B : List α} {m : Nat} (h : A.length ≤ m) (h2 : m < (A ++ B).length) : gt (A ++ B) (m : Int) ∈ B := by
  rw [getD_gt, getD_el h2, List.getElem_append_right h]
  exact List.getElem_mem _
theorem gt_last {α : Type} [Inhabited α] {A B : List α} {x : α} : gt ((A ++ [x]) ++ B) ((A.length : Nat) : Int) = x := by
  rw [getD_gt, getD_el (by simp), List.getElem_append_left (by simp)]
  simp
/-- How a path is put in. -/
theorem insP_cases {l : List (List UInt8)} {p : List UInt8} (h : Rise l) : (p ∈ l ∧ insP l p = l ∧ ∃ A, l.filter (fun x => !ltP p x) = A ++ [p]) ∨ (p ∉ l ∧ insP l p = l.filter (fun x => !ltP p x) ++ p :: l.filter (fun x => ltP p x)) := by
  by_cases hp : p ∈ l
  · refine .inl ⟨hp, Rise.uniq (insP_rise h p) h fun z => ?_, l.filter (fun x => ltP x p), ?_⟩
    · rw [insP_mem]; constructor
      · rintro (rfl | hz)
        · exact hp
        · exact hz
      · exact .inr
    · have h1 : Rise (l.filter (fun x => !ltP p x)) := List.Pairwise.filter _ h
      have h2 : Rise (l.filter (fun x => ltP x p) ++ [p]) := by
        refine List.pairwise_append.2 ⟨List.Pairwise.filter _ h, by simp, fun a ha b hb => ?_⟩
        have hb : b = p := by simpa using hb
        subst hb
        exact (List.mem_filter.1 ha).2
      refine Rise.uniq h1 h2 fun z => ?_
      simp only [List.mem_filter, List.mem_append, List.mem_cons, List.not_mem_nil, or_false]
      constructor
      · rintro ⟨hz, hn⟩
        rcases bool_two (ltP z p) with hz2 | hz2
        · exact .inl ⟨hz, hz2⟩
        · exact .inr (ltP_tri hz2 (by simpa using hn))
      · rintro (⟨hz, hz2⟩ | rfl)
        · exact ⟨hz, by rw [ltP_asymm hz2]; rfl⟩
        · exact ⟨hp, by rw [ltP_irrefl]; rfl⟩
  · refine .inr ⟨hp, ?_⟩
    unfold insP
    congr 1
    refine List.filter_congr fun x hx => ?_
    rcases bool_two (ltP x p) with h1 | h1
    · rw [h1, ltP_asymm h1]; rfl
    · rcases bool_two (ltP p x) with h2 | h2
      · rw [h1, h2]; rfl
      · exact absurd (ltP_tri h1 h2 ▸ hx) hp
theorem foldl_flatten {α β : Type} (f : β → α → β) : ∀ (ls : List (List α)) (s : β), ls.flatten.foldl f s = ls.foldl (fun s l => l.foldl f s) s := by
  intro ls
  induction ls with
  | nil => intro s; rfl
  | cons l ls ih => intro s; rw [List.flatten_cons, List.foldl_append, ih]; rfl
theorem pathsL_fold (ls : List (List Rec)) : pathsL ls = ls.foldl (fun s l => l.foldl (fun s (r : Rec) => insP s r.path) s) [] := by
  unfold pathsL riseOf
  rw [List.foldl_map, foldl_flatten]
def pathsInv (n : Nat) (s : List (List UInt8)) : Prop := Rise s ∧ s.length ≤ n ∧ ∀ x ∈ s, x.length ≤ 1048576
theorem pathsInv.ins {n : Nat} {s : List (List UInt8)} {p : List UInt8} (h : pathsInv n s) (hp : p.length ≤ 1048576) : pathsInv (n + 1) (insP s p) := by
  refine ⟨insP_rise h.1 p, by have := insP_len s p; have := h.2.1; omega, fun x hx => ?_⟩
  rcases (insP_mem s p x).1 hx with rfl | hx
  · exact hp
  · exact h.2.2 x hx
def spec_l07Paths.b3 (a0 : List (List Rec)) (x4_9 : Int) (x3_31 : List (List UInt8)) (x5_33 : Int) : Int → Option (Step (Step (Step (List (List UInt8)) (List (List UInt8) × Int) (List (List UInt8))) (List (List UInt8) × Int) (List (List UInt8))) (Int) (Int)) :=
  fun x7_68 => ((bif (decide (0 < x7_68)) then (bif inR (IntKind.wrap .i64 (x7_68 - 1)) x3_31.length then (bif decide (((gt (gt a0 x4_9) x5_33).path).length ≤ 1048576) then (bif decide ((gt x3_31 (IntKind.wrap .i64 (x7_68 - 1))).length ≤ 1048576) then (some (lessL (cut 47 ((gt (gt a0 x4_9) x5_33).path)) (cut 47 (gt x3_31 (IntKind.wrap .i64 (x7_68 - 1)))))) else none) else none) else none) else some false)).bind fun z87 => bif z87 then (some (.nxt (IntKind.wrap .i64 (x7_68 - 1)))) else (some (.brk x7_68))
def spec_l07Paths.b2 (k : Nat) (a0 : List (List Rec)) (x4_9 : Int) : List (List UInt8) × Int → Option (Step (Step (List (List UInt8)) (List (List UInt8) × Int) (List (List UInt8))) (List (List UInt8) × Int) (List (List UInt8))) :=
  fun q => match q with
  | (x3_31, x5_33) => bif inR x4_9 a0.length then (bif (decide (x5_33 < ((gt a0 x4_9).length : Int))) then (bif inR x4_9 a0.length then (bif inR x5_33 (gt a0 x4_9).length then ((loopF (spec_l07Paths.b3 a0 x4_9 x3_31 x5_33) k (x3_31.length : Int)).bind fun z => match z with | .inl t => some t | .inr x7_72 => ((bif (decide (x7_72 = 0)) then some true else (bif inR (IntKind.wrap .i64 (x7_72 - 1)) x3_31.length then (some (!decide ((gt x3_31 (IntKind.wrap .i64 (x7_72 - 1))) = ((gt (gt a0 x4_9) x5_33).path)))) else none))).bind fun z100 => bif z100 then (bif inS 0 x7_72 (x3_31.length : Int) then (bif decide ((([] : List (List UInt8)).length + (sub x3_31 0 x7_72).length) * 16 ≤ 140737488355328) then (bif decide (((([] : List (List UInt8)) ++ (sub x3_31 0 x7_72)).length + ([(gt (gt a0 x4_9) x5_33).path] : List (List UInt8)).length) * 16 ≤ 140737488355328) then (bif inS x7_72 (x3_31.length : Int) (x3_31.length : Int) then (bif decide ((((([] : List (List UInt8)) ++ (sub x3_31 0 x7_72)) ++ ([(gt (gt a0 x4_9) x5_33).path] : List (List UInt8))).length + (sub x3_31 x7_72 (x3_31.length : Int)).length) * 16 ≤ 140737488355328) then (some (.nxt (((([] : List (List UInt8)) ++ (sub x3_31 0 x7_72)) ++ ([(gt (gt a0 x4_9) x5_33).path] : List (List UInt8))) ++ (sub x3_31 x7_72 (x3_31.length : Int)), IntKind.wrap .i64 (x5_33 + 1)))) else none) else none) else none) else none) else none) else (some (.nxt (x3_31, IntKind.wrap .i64 (x5_33 + 1))))) else none) else none) else (some (.brk x3_31))) else none
def spec_l07Paths.b1 (k : Nat) (a0 : List (List Rec)) : List (List UInt8) × Int → Option (Step (List (List UInt8)) (List (List UInt8) × Int) (List (List UInt8))) :=
  fun q => match q with
  | (x3_7, x4_9) => bif (decide (x4_9 < (a0.length : Int))) then ((loopF (spec_l07Paths.b2 k a0 x4_9) k (x3_7, 0)).bind fun z => match z with | .inl t => some t | .inr x3_37 => some (.nxt (x3_37, IntKind.wrap .i64 (x4_9 + 1)))) else (some (.brk x3_7))
def spec_l07Paths.sh (k : Nat) (a0 : List (List Rec)) : Option (List (List UInt8)) :=
  (loopF (spec_l07Paths.b1 k a0) k (([] : List (List UInt8)), 0)).bind fun z => match z with | .inl t => some t | .inr x3_13 => some x3_13
theorem l07_scan {a0 : List (List Rec)} {x4 : Int} {s : List (List UInt8)} {x5 : Int} {K : Nat} (hI : pathsInv 100 s) (hp : (gt (gt a0 x4) x5).path.length ≤ 1048576) (hK : s.length < K) :
    loopF (spec_l07Paths.b3 a0 x4 s x5) K (s.length : Int) = some (.inr (((s.filter fun x => !ltP (gt (gt a0 x4) x5).path x).length : Nat) : Int)) := by
  obtain ⟨p, hpe⟩ : ∃ p, (gt (gt a0 x4) x5).path = p := ⟨_, rfl⟩
  have hs := rise_split (p := p) hI.1
  have key : ∀ (d n k : Nat), n = (s.filter fun x => !ltP p x).length + d → n ≤ s.length → d < k → loopF (spec_l07Paths.b3 a0 x4 s x5) k (n : Int) = some (.inr (((s.filter fun x => !ltP p x).length : Nat) : Int)) := by
    intro d
    induction d with
    | zero =>
      intro n k hn hle hk
      obtain ⟨k, rfl⟩ : ∃ m, k = m + 1 := ⟨k - 1, by omega⟩
      have hn : n = (s.filter fun x => !ltP p x).length := by omega
      rw [loopF, ← hn]
      cases n with
      | zero =>
        simp only [spec_l07Paths.b3]; rfl
      | succ m =>
        have e1 : IntKind.wrap .i64 (((m + 1 : Nat) : Int) - 1) = (m : Int) := by have := hI.2.1; rw [wrap_small (by omega) (by omega)]; omega
        have hmem : gt s (m : Int) ∈ s.filter fun x => !ltP p x := by
          have := gt_left (A := s.filter fun x => !ltP p x) (B := s.filter fun x => ltP p x) (m := m) (by omega)
          rwa [hs] at this
        obtain ⟨m1, m2⟩ := List.mem_filter.1 hmem
        have m2' : lessL (cut 47 p) (cut 47 (gt s (m : Int))) = false := by
          have : ltP p (gt s (m : Int)) = false := by simpa using m2
          exact this
        have d1 : decide ((0 : Int) < ((m + 1 : Nat) : Int)) = true := decide_eq_true (by omega)
        rw [hpe] at hp
        simp only [spec_l07Paths.b3, d1, e1, inR_nat (show m < s.length by omega), hpe, decide_eq_true hp, decide_eq_true (hI.2.2 _ m1), m2', cond_true, Option.bind_some, cond_false]
    | succ d ih =>
      intro n k hn hle hk
      obtain ⟨k, rfl⟩ : ∃ m, k = m + 1 := ⟨k - 1, by omega⟩
      obtain ⟨m, rfl⟩ : ∃ m, n = m + 1 := ⟨n - 1, by omega⟩
      have e1 : IntKind.wrap .i64 (((m + 1 : Nat) : Int) - 1) = (m : Int) := by have := hI.2.1; rw [wrap_small (by omega) (by omega)]; omega
      have hmem : gt s (m : Int) ∈ s.filter fun x => ltP p x := by
        have := gt_right (A := s.filter fun x => !ltP p x) (B := s.filter fun x => ltP p x) (m := m) (by omega) (by rw [hs]; omega)
        rwa [hs] at this
      obtain ⟨m1, m2⟩ := List.mem_filter.1 hmem
      have m2' : lessL (cut 47 p) (cut 47 (gt s (m : Int))) = true := m2
      have d1 : decide ((0 : Int) < ((m + 1 : Nat) : Int)) = true := decide_eq_true (by omega)
      have hp' := hp
      rw [hpe] at hp'
      rw [loopF]
      simp only [spec_l07Paths.b3, d1, e1, inR_nat (show m < s.length by omega), hpe, decide_eq_true hp', decide_eq_true (hI.2.2 _ m1), m2', cond_true, Option.bind_some]
      exact ih m k (by omega) (by omega) (by omega)
  rw [hpe]
  have hlen := congrArg List.length hs
  rw [List.length_append] at hlen
  exact key (s.filter fun x => ltP p x).length s.length K (by omega) (Nat.le_refl _) (by omega)
theorem spec_l07Paths.eq (a0 : List (List Rec)) (h0 : stackOK a0 = true) : ∃ k, spec_l07Paths.sh k a0 = some (pathsL a0) := by
  obtain ⟨h5, hL⟩ := stackOK_of h0
  refine ⟨101, ?_⟩
  unfold spec_l07Paths.sh
  have hp : ∀ l ∈ a0, ∀ x ∈ l, x.path.length ≤ 1048576 := fun l hl x hx => pathOK_small (layerOK_path (hL l hl) x hx)
  have hin : ∀ (i : Nat) (s : List (List UInt8)), i < a0.length → pathsInv (16 * i) s → loopF (spec_l07Paths.b2 101 a0 (i : Int)) 101 (s, 0) = some (.inr ((gt a0 (i : Int)).foldl (fun s (r : Rec) => insP s r.path) s)) ∧ pathsInv (16 * (i + 1)) ((gt a0 (i : Int)).foldl (fun s (r : Rec) => insP s r.path) s) := by
    intro i s hi hI
    have hmem : gt a0 (i : Int) ∈ a0 := by rw [getD_gt, getD_el hi]; exact List.getElem_mem hi
    have hl16 := layerOK_len (hL _ hmem)
    have hr := foldI_runK (gt a0 (i : Int)) (fun s (r : Rec) => insP s r.path) (fun j s => pathsInv (16 * i + j) s) (spec_l07Paths.b2 101 a0 (i : Int)) 101 (by omega) (fun j s hj hI => by
      have hx : (gt (gt a0 (i : Int)) (j : Int)).path.length ≤ 1048576 := by
        rw [getD_gt (gt a0 (i : Int)), getD_el hj]
        exact hp _ hmem _ (List.getElem_mem hj)
      have hsl := hI.2.1
      refine ⟨?_, hI.ins hx⟩
      have hsc := l07_scan (a0 := a0) (x4 := (i : Int)) (x5 := (j : Int)) (s := s) (K := 101) ⟨hI.1, by omega, hI.2.2⟩ hx (by omega)
      have d1 : decide ((j : Int) < ((gt a0 (i : Int)).length : Int)) = true := decide_eq_true (by omega)
      have w1 : IntKind.wrap .i64 ((j : Int) + 1) = ((j + 1 : Nat) : Int) := by rw [wrap_small (by omega) (by omega)]; omega
      simp only [spec_l07Paths.b2, inR_nat hi, d1, inR_nat hj, hsc, cond_true, Option.bind_some, w1]
      obtain ⟨p, hpe⟩ : ∃ p, (gt (gt a0 (i : Int)) (j : Int)).path = p := ⟨_, rfl⟩
      rw [hpe]
      have hs := rise_split (p := p) hI.1
      have hlen := congrArg List.length hs
      rw [List.length_append] at hlen
      rcases insP_cases (p := p) hI.1 with ⟨c1, c2, A, c3⟩ | ⟨c1, c2⟩
      · rw [c2]
        have hn : (s.filter fun x => !ltP p x).length = A.length + 1 := by rw [c3]; simp
        have d2 : decide ((((s.filter fun x => !ltP p x).length : Nat) : Int) = 0) = false := decide_eq_false (by omega)
        have e1 : IntKind.wrap .i64 ((((s.filter fun x => !ltP p x).length : Nat) : Int) - 1) = (A.length : Int) := by rw [wrap_small (by omega) (by omega)]; omega
        have g1 : gt s (A.length : Int) = p := by
          have := gt_last (A := A) (B := s.filter fun x => ltP p x) (x := p)
          rwa [← c3, hs] at this
        simp only [d2, e1, cond_false, inR_nat (show A.length < s.length by omega), cond_true, g1, decide_true, Bool.not_true, Option.bind_some]
      · rw [c2]
        have hne : (bif decide ((((s.filter fun x => !ltP p x).length : Nat) : Int) = 0) then some true else (bif inR (IntKind.wrap .i64 ((((s.filter fun x => !ltP p x).length : Nat) : Int) - 1)) s.length then (some (!decide ((gt s (IntKind.wrap .i64 ((((s.filter fun x => !ltP p x).length : Nat) : Int) - 1))) = p))) else none)) = some true := by
          by_cases hz : (s.filter fun x => !ltP p x).length = 0
          · have d2 : decide ((((s.filter fun x => !ltP p x).length : Nat) : Int) = 0) = true := decide_eq_true (by omega)
            rw [d2]; rfl
          · have d2 : decide ((((s.filter fun x => !ltP p x).length : Nat) : Int) = 0) = false := decide_eq_false (by omega)
            have e1 : IntKind.wrap .i64 ((((s.filter fun x => !ltP p x).length : Nat) : Int) - 1) = (((s.filter fun x => !ltP p x).length - 1 : Nat) : Int) := by rw [wrap_small (by omega) (by omega)]; omega
            have hmem : gt s (((s.filter fun x => !ltP p x).length - 1 : Nat) : Int) ∈ s := by
              rw [getD_gt, getD_el (by omega)]; exact List.getElem_mem _
            have d3 : decide (gt s (((s.filter fun x => !ltP p x).length - 1 : Nat) : Int) = p) = false := decide_eq_false (fun e => c1 (e ▸ hmem))
            rw [d2, e1, d3]
            simp only [cond_false, inR_nat (show (s.filter fun x => !ltP p x).length - 1 < s.length by omega), cond_true, Bool.not_false]
        rw [hne]
        have t1 : sub s 0 (((s.filter fun x => !ltP p x).length : Nat) : Int) = s.filter fun x => !ltP p x := by
          rw [show (0 : Int) = ((0 : Nat) : Int) from rfl, sub_nat, List.drop_zero]
          conv => lhs; rw [← hs]
          simp
        have t2 : sub s (((s.filter fun x => !ltP p x).length : Nat) : Int) (s.length : Int) = s.filter fun x => ltP p x := by
          rw [sub_nat, List.take_length]
          conv => lhs; rw [← hs]
          simp
        have i1 : inS 0 (((s.filter fun x => !ltP p x).length : Nat) : Int) (s.length : Int) = true := inS_mk (by omega) (by omega) (by omega)
        have i2 : inS (((s.filter fun x => !ltP p x).length : Nat) : Int) (s.length : Int) (s.length : Int) = true := inS_mk (by omega) (by omega) (by omega)
        have n1 : decide ((([] : List (List UInt8)).length + (s.filter fun x => !ltP p x).length) * 16 ≤ 140737488355328) = true := decide_eq_true (by simp only [List.length_nil]; omega)
        have n2 : decide (((([] : List (List UInt8)) ++ s.filter fun x => !ltP p x).length + ([p] : List (List UInt8)).length) * 16 ≤ 140737488355328) = true := decide_eq_true (by simp only [List.nil_append, List.length_cons, List.length_nil]; omega)
        have n3 : decide (((([] : List (List UInt8)) ++ (s.filter fun x => !ltP p x) ++ ([p] : List (List UInt8))).length + (s.filter fun x => ltP p x).length) * 16 ≤ 140737488355328) = true := decide_eq_true (by simp only [List.nil_append, List.length_append, List.length_cons, List.length_nil]; omega)
        simp only [Option.bind_some, cond_true, i1, i2, t1, t2, n1, n2, n3]
        simp) (fun s => by simp [spec_l07Paths.b2, inR_nat hi]) s (by simpa using hI)
    refine ⟨hr.1, hr.2.1, by have := hr.2.2.1; omega, hr.2.2.2⟩
  have hr := foldI_runK a0 (fun s l => l.foldl (fun s (r : Rec) => insP s r.path) s) (fun i s => pathsInv (16 * i) s) (spec_l07Paths.b1 101 a0) 101 (by omega) (fun i s hi hI => by
    obtain ⟨k1, k2⟩ := hin i s hi hI
    refine ⟨?_, k2⟩
    have d1 : decide ((i : Int) < (a0.length : Int)) = true := decide_eq_true (by omega)
    have w1 : IntKind.wrap .i64 ((i : Int) + 1) = ((i + 1 : Nat) : Int) := by rw [wrap_small (by omega) (by omega)]; omega
    simp only [spec_l07Paths.b1, d1, cond_true, k1, Option.bind_some, w1]) (fun s => by simp [spec_l07Paths.b1]) [] ⟨List.Pairwise.nil, by simp, by simp⟩
  rw [hr.1, pathsL_fold]
  rfl
theorem paths_len {a : List (List Rec)} (h : stackOK a = true) : (pathsL a).length ≤ 80 := by
  obtain ⟨h5, hL⟩ := stackOK_of h
  refine Nat.le_trans (riseOf_len _) ?_
  rw [List.length_map]
  have : ∀ (ls : List (List Rec)), (∀ l ∈ ls, l.length ≤ 16) → ls.flatten.length ≤ ls.length * 16 := by
    intro ls
    induction ls with
    | nil => intro _; simp
    | cons l ls ih =>
      intro h
      have a1 := h l (by simp)
      have a2 := ih fun x hx => h x (by simp [hx])
      simp only [List.flatten_cons, List.length_append, List.length_cons]; omega
  have := this a fun l hl => layerOK_len (hL l hl)
  omega
theorem paths_mem {a : List (List Rec)} {p : List UInt8} : p ∈ pathsL a ↔ ∃ l ∈ a, ∃ r ∈ l, r.path = p := by
  rw [pathsL, riseOf_mem]
  simp only [List.mem_map, List.mem_flatten]
  constructor
  · rintro ⟨r, ⟨l, hl, hr⟩, e⟩; exact ⟨l, hl, r, hr, e⟩
  · rintro ⟨l, hl, r, hr, e⟩; exact ⟨r, ⟨l, hl, hr⟩, e⟩
theorem paths_ok {a : List (List Rec)} (h : stackOK a = true) : ∀ p ∈ pathsL a, pathOK p = true := by
  intro p hp
  obtain ⟨l, hl, r, hr, rfl⟩ := paths_mem.1 hp
  exact layerOK_path ((stackOK_of h).2 l hl) r hr
end Go.UL
