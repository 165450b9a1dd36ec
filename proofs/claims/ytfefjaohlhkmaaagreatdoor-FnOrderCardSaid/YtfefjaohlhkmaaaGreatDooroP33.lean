/- Plain Lean: what the functions compute. -/
import Derived.Test.YtfefjaohlhkmaaaGreatDooroP27
set_option linter.unusedVariables false
set_option linter.unusedSimpArgs false
namespace Go.UL
open Go.RowKit
/-! ### marks on stacks; stacks applied -/
theorem stackOK_of {xs : List (List Rec)} (h : stackOK xs = true) : xs.length ≤ 5 ∧ ∀ l ∈ xs, (layerFault l).2 = 0 := by
  unfold stackOK at h
  rw [Bool.and_eq_true, List.all_eq_true] at h
  exact ⟨of_decide_eq_true h.1, fun l hl => of_decide_eq_true (h.2 l hl)⟩
theorem stackCode_zero {a : List (List Rec)} (h : stackCode a = 0) : stackOK a = true := by
  unfold stackCode at h
  split at h
  · omega
  · split at h
    · omega
    · rename_i h2; simpa using h2
/-! ### the paths of a stack; many layers as one, from below -/
theorem foldI_runK {α β ρ : Type} [Inhabited α] (l : List α) (f : β → α → β) (Inv : Nat → β → Prop) (b : β × Int → Option (Step ρ (β × Int) β)) (K : Nat) (hK : l.length < K)
    (h1 : ∀ (i : Nat) (s : β), i < l.length → Inv i s → b (s, (i : Int)) = some (.nxt (f s (gt l (i : Int)), ((i + 1 : Nat) : Int))) ∧ Inv (i + 1) (f s (gt l (i : Int))))
    (h2 : ∀ s : β, b (s, (l.length : Int)) = some (.brk s)) (s0 : β) (h0 : Inv 0 s0) : loopF b K (s0, 0) = some (.inr (l.foldl f s0)) ∧ Inv l.length (l.foldl f s0) := by
  have key : ∀ (d i k : Nat) (s : β), i + d = l.length → d < k → Inv i s → loopF b k (s, (i : Int)) = some (.inr ((l.drop i).foldl f s)) ∧ Inv l.length ((l.drop i).foldl f s) := by
    intro d
    induction d with
    | zero =>
      intro i k s hi hk hs
      obtain ⟨k, rfl⟩ : ∃ m, k = m + 1 := ⟨k - 1, by omega⟩
      have : i = l.length := by omega
      subst this
      rw [loopF, h2 s, List.drop_length]; exact ⟨rfl, hs⟩
    | succ d ih =>
      intro i k s hi hk hs
      obtain ⟨k, rfl⟩ : ∃ m, k = m + 1 := ⟨k - 1, by omega⟩
      have hlt : i < l.length := by omega
      obtain ⟨e1, e2⟩ := h1 i s hlt hs
      rw [loopF, e1, drop_gt hlt]
      exact ih (i + 1) k _ (by omega) (by omega) e2
  have := key l.length 0 K s0 (by omega) (by omega) h0
  simpa using this
theorem rise_split : ∀ {l : List (List UInt8)} {p : List UInt8}, Rise l → l.filter (fun x => !ltP p x) ++ l.filter (fun x => ltP p x) = l := by
  intro l p
  induction l with
  | nil => intro _; rfl
  | cons x l ih =>
    intro h
    have hl := rise_lt h
    rcases bool_two (ltP p x) with hx | hx
    · have h1 : ∀ y ∈ l, ltP p y = true := fun y hy => ltP_trans hx (hl y hy)
      have e1 : l.filter (fun y => !ltP p y) = [] := List.filter_eq_nil_iff.2 fun y hy => by rw [h1 y hy]; simp
      have e2 : l.filter (fun y => ltP p y) = l := List.filter_eq_self.2 h1
      simp [hx, e1, e2]
    · simp [hx, ih (rise_tl h)]
theorem gt_left {α : Type} [Inhabited α] {A B : List α} {m : Nat} (h : m < A.length) : gt (A ++ B) (m : Int) ∈ A := by
  rw [getD_gt, getD_el (by simp; omega), List.getElem_append_left h]
  exact List.getElem_mem h
theorem gt_right {α : Type} [Inhabited α] {A B : List α} {m : Nat} (h : A.length ≤ m) (h2 : m < (A ++ B).length) : gt (A ++ B) (m : Int) ∈ B := by
  rw [getD_gt, getD_el h2, List.getElem_append_right h]
  exact List.getElem_mem _
theorem gt_last {α : Type} [Inhabited α] {A B : List α} {x : α} : gt ((A ++ [x]) ++ B) ((A.length : Nat) : Int) = x := by
  rw [getD_gt, getD_el (by simp), List.getElem_append_left (by simp)]
  simp
/-- How a path is put in. -/
theorem insP_cases {l : List (List UInt8)} {p : List UInt8} (h : Rise l) : (p ∈ l ∧ insP l p = l ∧ ∃ A, l.filter (fun x => !ltP p x) = A ++ [p]) ∨ (p ∉ l ∧ insP l p = l.filter (fun x => !ltP p x) ++ p :: l.filter (fun x => ltP p x)) := by
  by_cases hp : p ∈ l
  · refine .inl ⟨hp, Rise.uniq (insP_rise h p) h fun z => ?_, l.filter (fun x => ltP x p), ?_⟩
    · rw [insP_mem]; constructor
      · rintro (rfl | hz)
        · exact hp
        · exact hz
      · exact .inr
    · have h1 : Rise (l.filter (fun x => !ltP p x)) := List.Pairwise.filter _ h
      have h2 : Rise (l.filter (fun x => ltP x p) ++ [p]) := by
        refine List.pairwise_append.2 ⟨List.Pairwise.filter _ h, by simp, fun a ha b hb => ?_⟩
        have hb : b = p := by simpa using hb
        subst hb
        exact (List.mem_filter.1 ha).2
      refine Rise.uniq h1 h2 fun z => ?_
      simp only [List.mem_filter, List.mem_append, List.mem_cons, List.not_mem_nil, or_false]
      constructor
      · rintro ⟨hz, hn⟩
        rcases bool_two (ltP z p) with hz2 | hz2
        · exact .inl ⟨hz, hz2⟩
        · exact .inr (ltP_tri hz2 (by simpa using hn))
      · rintro (⟨hz, hz2⟩ | rfl)
        · exact ⟨hz, by rw [ltP_asymm hz2]; rfl⟩
        · exact ⟨hp, by rw [ltP_irrefl]; rfl⟩
  · refine .inr ⟨hp, ?_⟩
    unfold insP
    congr 1
    refine List.filter_congr fun x hx => ?_
    rcases bool_two (ltP x p) with h1 | h1
    · rw [h1, ltP_asymm h1]; rfl
    · rcases bool_two (ltP p x) with h2 | h2
      · rw [h1, h2]; rfl
      · exact absurd (ltP_tri h1 h2 ▸ hx) hp
theorem foldl_flatten {α β : Type} (f : β → α → β) : ∀ (ls : List (List α)) (s : β), ls.flatten.foldl f s = ls.foldl (fun s l => l.foldl f s) s := by
  intro ls
  induction ls with
  | nil => intro s; rfl
  | cons l ls ih => intro s; rw [List.flatten_cons, List.foldl_append, ih]; rfl
theorem pathsL_fold (ls : List (List Rec)) : pathsL ls = ls.foldl (fun s l => l.foldl (fun s (r : Rec) => insP s r.path) s) [] := by
  unfold pathsL riseOf
  rw [List.foldl_map, foldl_flatten]
def pathsInv (n : Nat) (s : List (List UInt8)) : Prop := Rise s ∧ s.length ≤ n ∧ ∀ x ∈ s, x.length ≤ 1048576
theorem pathsInv.ins {n : Nat} {s : List (List UInt8)} {p : List UInt8} (h : pathsInv n s) (hp : p.length ≤ 1048576) : pathsInv (n + 1) (insP s p) := by
  refine ⟨insP_rise h.1 p, by have := insP_len s p; have := h.2.1; omega, fun x hx => ?_⟩
  rcases (insP_mem s p x).1 hx with rfl | hx
  · exact hp
  · exact h.2.2 x hx
def spec_l07Paths.b3 (a0 : List (List Rec)) (x4_9 : Int) (x3_31 : List (List UInt8)) (x5_33 : Int) : Int → Option (Step (Step (Step (List (List UInt8)) (List (List UInt8) × Int) (List (List UInt8))) (List (List UInt8) × Int) (List (List UInt8))) (Int) (Int)) :=
  fun x7_68 => ((bif (decide (0 < x7_68)) then (bif inR (IntKind.wrap .i64 (x7_68 - 1)) x3_31.length then (bif decide (((gt (gt a0 x4_9) x5_33).path).length ≤ 1048576) then (bif decide ((gt x3_31 (IntKind.wrap .i64 (x7_68 - 1))).length ≤ 1048576) then (some (lessL (cut 47 ((gt (gt a0 x4_9) x5_33).path)) (cut 47 (gt x3_31 (IntKind.wrap .i64 (x7_68 - 1)))))) else none) else none) else none) else some false)).bind fun z87 => bif z87 then (some (.nxt (IntKind.wrap .i64 (x7_68 - 1)))) else (some (.brk x7_68))
def spec_l07Paths.b2 (k : Nat) (a0 : List (List Rec)) (x4_9 : Int) : List (List UInt8) × Int → Option (Step (Step (List (List UInt8)) (List (List UInt8) × Int) (List (List UInt8))) (List (List UInt8) × Int) (List (List UInt8))) :=
  fun q => match q with
  | (x3_31, x5_33) => bif inR x4_9 a0.length then (bif (decide (x5_33 < ((gt a0 x4_9).length : Int))) then (bif inR x4_9 a0.length then (bif inR x5_33 (gt a0 x4_9).length then ((loopF (spec_l07Paths.b3 a0 x4_9 x3_31 x5_33) k (x3_31.length : Int)).bind fun z => match z with | .inl t => some t | .inr x7_72 => ((bif (decide (x7_72 = 0)) then some true else (bif inR (IntKind.wrap .i64 (x7_72 - 1)) x3_31.length then (some (!decide ((gt x3_31 (IntKind.wrap .i64 (x7_72 - 1))) = ((gt (gt a0 x4_9) x5_33).path)))) else none))).bind fun z100 => bif z100 then (bif inS 0 x7_72 (x3_31.length : Int) then (bif decide ((([] : List (List UInt8)).length + (sub x3_31 0 x7_72).length) * 16 ≤ 140737488355328) then (bif decide (((([] : List (List UInt8)) ++ (sub x3_31 0 x7_72)).length + ([(gt (gt a0 x4_9) x5_33).path] : List (List UInt8)).length) * 16 ≤ 140737488355328) then (bif inS x7_72 (x3_31.length : Int) (x3_31.length : Int) then (bif decide ((((([] : List (List UInt8)) ++ (sub x3_31 0 x7_72)) ++ ([(gt (gt a0 x4_9) x5_33).path] : List (List UInt8))).length + (sub x3_31 x7_72 (x3_31.length : Int)).length) * 16 ≤ 140737488355328) then (some (.nxt (((([] : List (List UInt8)) ++ (sub x3_31 0 x7_72)) ++ ([(gt (gt a0 x4_9) x5_33).path] : List (List UInt8))) ++ (sub x3_31 x7_72 (x3_31.length : Int)), IntKind.wrap .i64 (x5_33 + 1)))) else none) else none) else none) else none) else none) else (some (.nxt (x3_31, IntKind.wrap .i64 (x5_33 + 1))))) else none) else none) else (some (.brk x3_31))) else none
def spec_l07Paths.b1 (k : Nat) (a0 : List (List Rec)) : List (List UInt8) × Int → Option (Step (List (List UInt8)) (List (List UInt8) × Int) (List (List UInt8))) :=
  fun q => match q with
  | (x3_7, x4_9) => bif (decide (x4_9 < (a0.length : Int))) then ((loopF (spec_l07Paths.b2 k a0 x4_9) k (x3_7, 0)).bind fun z => match z with | .inl t => some t | .inr x3_37 => some (.nxt (x3_37, IntKind.wrap .i64 (x4_9 + 1)))) else (some (.brk x3_7))
def spec_l07Paths.sh (k : Nat) (a0 : List (List Rec)) : Option (List (List UInt8)) :=
  (loopF (spec_l07Paths.b1 k a0) k (([] : List (List UInt8)), 0)).bind fun z => match z with | .inl t => some t | .inr x3_13 => some x3_13
theorem l07_scan {a0 : List (List Rec)} {x4 : Int} {s : List (List UInt8)} {x5 : Int} {K : Nat} (hI : pathsInv 100 s) (hp : (gt (gt a0 x4) x5).path.length ≤ 1048576) (hK : s.length < K) :
    loopF (spec_l07Paths.b3 a0 x4 s x5) K (s.length : Int) = some (.inr (((s.filter fun x => !ltP (gt (gt a0 x4) x5).path x).length : Nat) : Int)) := by
  obtain ⟨p, hpe⟩ : ∃ p, (gt (gt a0 x4) x5).path = p := ⟨_, rfl⟩
  have hs := rise_split (p := p) hI.1
  have key : ∀ (d n k : Nat), n = (s.filter fun x => !ltP p x).length + d → n ≤ s.length → d < k → loopF (spec_l07Paths.b3 a0 x4 s x5) k (n : Int) = some (.inr (((s.filter fun x => !ltP p x).length : Nat) : Int)) := by
    intro d
    induction d with
    | zero =>
      intro n k hn hle hk
      obtain ⟨k, rfl⟩ : ∃ m, k = m + 1 := ⟨k - 1, by omega⟩
      have hn : n = (s.filter fun x => !ltP p x).length := by omega
      rw [loopF, ← hn]
      cases n with
      | zero =>
        simp only [spec_l07Paths.b3]; rfl
      | succ m =>
        have e1 : IntKind.wrap .i64 (((m + 1 : Nat) : Int) - 1) = (m : Int) := by have := hI.2.1; rw [wrap_small (by omega) (by omega)]; omega
        have hmem : gt s (m : Int) ∈ s.filter fun x => !ltP p x := by
          have := gt_left (A := s.filter fun x => !ltP p x) (B := s.filter fun x => ltP p x) (m := m) (by omega)
          rwa [hs] at this
        obtain ⟨m1, m2⟩ := List.mem_filter.1 hmem
        have m2' : lessL (cut 47 p) (cut 47 (gt s (m : Int))) = false := by
          have : ltP p (gt s (m : Int)) = false := by simpa using m2
          exact this
        have d1 : decide ((0 : Int) < ((m + 1 : Nat) : Int)) = true := decide_eq_true (by omega)
        rw [hpe] at hp
        simp only [spec_l07Paths.b3, d1, e1, inR_nat (show m < s.length by omega), hpe, decide_eq_true hp, decide_eq_true (hI.2.2 _ m1), m2', cond_true, Option.bind_some, cond_false]
    | succ d ih =>
      intro n k hn hle hk
      obtain ⟨k, rfl⟩ : ∃ m, k = m + 1 := ⟨k - 1, by omega⟩
      obtain ⟨m, rfl⟩ : ∃ m, n = m + 1 := ⟨n - 1, by omega⟩
      have e1 : IntKind.wrap .i64 (((m + 1 : Nat) : Int) - 1) = (m : Int) := by have := hI.2.1; rw [wrap_small (by omega) (by omega)]; omega
      have hmem : gt s (m : Int) ∈ s.filter fun x => ltP p x := by
        have := gt_right (A := s.filter fun x => !ltP p x) (B := s.filter fun x => ltP p x) (m := m) (by omega) (by rw [hs]; omega)
        rwa [hs] at this
      obtain ⟨m1, m2⟩ := List.mem_filter.1 hmem
      have m2' : lessL (cut 47 p) (cut 47 (gt s (m : Int))) = true := m2
      have d1 : decide ((0 : Int) < ((m + 1 : Nat) : Int)) = true := decide_eq_true (by omega)
      have hp' := hp
      rw [hpe] at hp'
      rw [loopF]
      simp only [spec_l07Paths.b3, d1, e1, inR_nat (show m < s.length by omega), hpe, decide_eq_true hp', decide_eq_true (hI.2.2 _ m1), m2', cond_true, Option.bind_some]
      exact ih m k (by omega) (by omega) (by omega)
  rw [hpe]
  have hlen := congrArg List.length hs
  rw [List.length_append] at hlen
  exact key (s.filter fun x => ltP p x).length s.length K (by omega) (Nat.le_refl _) (by omega)
theorem spec_l07Paths.eq (a0 : List (List Rec)) (h0 : stackOK a0 = true) : ∃ k, spec_l07Paths.sh k a0 = some (pathsL a0) := by
  obtain ⟨h5, hL⟩ := stackOK_of h0
  refine ⟨101, ?_⟩
  unfold spec_l07Paths.sh
  have hp : ∀ l ∈ a0, ∀ x ∈ l, x.path.length ≤ 1048576 := fun l hl x hx => pathOK_small (layerOK_path (hL l hl) x hx)
  have hin : ∀ (i : Nat) (s : List (List UInt8)), i < a0.length → pathsInv (16 * i) s → loopF (spec_l07Paths.b2 101 a0 (i : Int)) 101 (s, 0) = some (.inr ((gt a0 (i : Int)).foldl (fun s (r : Rec) => insP s r.path) s)) ∧ pathsInv (16 * (i + 1)) ((gt a0 (i : Int)).foldl (fun s (r : Rec) => insP s r.path) s) := by
    intro i s hi hI
    have hmem : gt a0 (i : Int) ∈ a0 := by rw [getD_gt, getD_el hi]; exact List.getElem_mem hi
    have hl16 := layerOK_len (hL _ hmem)
    have hr := foldI_runK (gt a0 (i : Int)) (fun s (r : Rec) => insP s r.path) (fun j s => pathsInv (16 * i + j) s) (spec_l07Paths.b2 101 a0 (i : Int)) 101 (by omega) (fun j s hj hI => by
      have hx : (gt (gt a0 (i : Int)) (j : Int)).path.length ≤ 1048576 := by
        rw [getD_gt (gt a0 (i : Int)), getD_el hj]
        exact hp _ hmem _ (List.getElem_mem hj)
      have hsl := hI.2.1
      refine ⟨?_, hI.ins hx⟩
      have hsc := l07_scan (a0 := a0) (x4 := (i : Int)) (x5 := (j : Int)) (s := s) (K := 101) ⟨hI.1, by omega, hI.2.2⟩ hx (by omega)
      have d1 : decide ((j : Int) < ((gt a0 (i : Int)).length : Int)) = true := decide_eq_true (by omega)
      have w1 : IntKind.wrap .i64 ((j : Int) + 1) = ((j + 1 : Nat) : Int) := by rw [wrap_small (by omega) (by omega)]; omega
      simp only [spec_l07Paths.b2, inR_nat hi, d1, inR_nat hj, hsc, cond_true, Option.bind_some, w1]
      obtain ⟨p, hpe⟩ : ∃ p, (gt (gt a0 (i : Int)) (j : Int)).path = p := ⟨_, rfl⟩
      rw [hpe]
      have hs := rise_split (p := p) hI.1
      have hlen := congrArg List.length hs
      rw [List.length_append] at hlen
      rcases insP_cases (p := p) hI.1 with ⟨c1, c2, A, c3⟩ | ⟨c1, c2⟩
      · rw [c2]
        have hn : (s.filter fun x => !ltP p x).length = A.length + 1 := by rw [c3]; simp
        have d2 : decide ((((s.filter fun x => !ltP p x).length : Nat) : Int) = 0) = false := decide_eq_false (by omega)
        have e1 : IntKind.wrap .i64 ((((s.filter fun x => !ltP p x).length : Nat) : Int) - 1) = (A.length : Int) := by rw [wrap_small (by omega) (by omega)]; omega
        have g1 : gt s (A.length : Int) = p := by
          have := gt_last (A := A) (B := s.filter fun x => ltP p x) (x := p)
          rwa [← c3, hs] at this
        simp only [d2, e1, cond_false, inR_nat (show A.length < s.length by omega), cond_true, g1, decide_true, Bool.not_true, Option.bind_some]
      · rw [c2]
        have hne : (bif decide ((((s.filter fun x => !ltP p x).length : Nat) : Int) = 0) then some true else (bif inR (IntKind.wrap .i64 ((((s.filter fun x => !ltP p x).length : Nat) : Int) - 1)) s.length then (some (!decide ((gt s (IntKind.wrap .i64 ((((s.filter fun x => !ltP p x).length : Nat) : Int) - 1))) = p))) else none)) = some true := by
          by_cases hz : (s.filter fun x => !ltP p x).length = 0
          · have d2 : decide ((((s.filter fun x => !ltP p x).length : Nat) : Int) = 0) = true := decide_eq_true (by omega)
            rw [d2]; rfl
          · have d2 : decide ((((s.filter fun x => !ltP p x).length : Nat) : Int) = 0) = false := decide_eq_false (by omega)
            have e1 : IntKind.wrap .i64 ((((s.filter fun x => !ltP p x).length : Nat) : Int) - 1) = (((s.filter fun x => !ltP p x).length - 1 : Nat) : Int) := by rw [wrap_small (by omega) (by omega)]; omega
            have hmem : gt s (((s.filter fun x => !ltP p x).length - 1 : Nat) : Int) ∈ s := by
              rw [getD_gt, getD_el (by omega)]; exact List.getElem_mem _
            have d3 : decide (gt s (((s.filter fun x => !ltP p x).length - 1 : Nat) : Int) = p) = false := decide_eq_false (fun e => c1 (e ▸ hmem))
            rw [d2, e1, d3]
            simp only [cond_false, inR_nat (show (s.filter fun x => !ltP p x).length - 1 < s.length by omega), cond_true, Bool.not_false]
        rw [hne]
        have t1 : sub s 0 (((s.filter fun x => !ltP p x).length : Nat) : Int) = s.filter fun x => !ltP p x := by
          rw [show (0 : Int) = ((0 : Nat) : Int) from rfl, sub_nat, List.drop_zero]
          conv => lhs; rw [← hs]
          simp
        have t2 : sub s (((s.filter fun x => !ltP p x).length : Nat) : Int) (s.length : Int) = s.filter fun x => ltP p x := by
          rw [sub_nat, List.take_length]
          conv => lhs; rw [← hs]
          simp
        have i1 : inS 0 (((s.filter fun x => !ltP p x).length : Nat) : Int) (s.length : Int) = true := inS_mk (by omega) (by omega) (by omega)
        have i2 : inS (((s.filter fun x => !ltP p x).length : Nat) : Int) (s.length : Int) (s.length : Int) = true := inS_mk (by omega) (by omega) (by omega)
        have n1 : decide ((([] : List (List UInt8)).length + (s.filter fun x => !ltP p x).length) * 16 ≤ 140737488355328) = true := decide_eq_true (by simp only [List.length_nil]; omega)
        have n2 : decide (((([] : List (List UInt8)) ++ s.filter fun x => !ltP p x).length + ([p] : List (List UInt8)).length) * 16 ≤ 140737488355328) = true := decide_eq_true (by simp only [List.nil_append, List.length_cons, List.length_nil]; omega)
        have n3 : decide (((([] : List (List UInt8)) ++ (s.filter fun x => !ltP p x) ++ ([p] : List (List UInt8))).length + (s.filter fun x => ltP p x).length) * 16 ≤ 140737488355328) = true := decide_eq_true (by simp only [List.nil_append, List.length_append, List.length_cons, List.length_nil]; omega)
        simp only [Option.bind_some, cond_true, i1, i2, t1, t2, n1, n2, n3]
        simp) (fun s => by simp [spec_l07Paths.b2, inR_nat hi]) s (by simpa using hI)
    refine ⟨hr.1, hr.2.1, by have := hr.2.2.1; omega, hr.2.2.2⟩
  have hr := foldI_runK a0 (fun s l => l.foldl (fun s (r : Rec) => insP s r.path) s) (fun i s => pathsInv (16 * i) s) (spec_l07Paths.b1 101 a0) 101 (by omega) (fun i s hi hI => by
    obtain ⟨k1, k2⟩ := hin i s hi hI
    refine ⟨?_, k2⟩
    have d1 : decide ((i : Int) < (a0.length : Int)) = true := decide_eq_true (by omega)
    have w1 : IntKind.wrap .i64 ((i : Int) + 1) = ((i + 1 : Nat) : Int) := by rw [wrap_small (by omega) (by omega)]; omega
    simp only [spec_l07Paths.b1, d1, cond_true, k1, Option.bind_some, w1]) (fun s => by simp [spec_l07Paths.b1]) [] ⟨List.Pairwise.nil, by simp, by simp⟩
  rw [hr.1, pathsL_fold]
  rfl
theorem paths_len {a : List (List Rec)} (h : stackOK a = true) : (pathsL a).length ≤ 80 := by
  obtain ⟨h5, hL⟩ := stackOK_of h
  refine Nat.le_trans (riseOf_len _) ?_
  rw [List.length_map]
  have : ∀ (ls : List (List Rec)), (∀ l ∈ ls, l.length ≤ 16) → ls.flatten.length ≤ ls.length * 16 := by
    intro ls
    induction ls with
    | nil => intro _; simp
    | cons l ls ih =>
      intro h
      have a1 := h l (by simp)
      have a2 := ih fun x hx => h x (by simp [hx])
      simp only [List.flatten_cons, List.length_append, List.length_cons]; omega
  have := this a fun l hl => layerOK_len (hL l hl)
  omega
theorem paths_mem {a : List (List Rec)} {p : List UInt8} : p ∈ pathsL a ↔ ∃ l ∈ a, ∃ r ∈ l, r.path = p := by
  rw [pathsL, riseOf_mem]
  simp only [List.mem_map, List.mem_flatten]
  constructor
  · rintro ⟨r, ⟨l, hl, hr⟩, e⟩; exact ⟨l, hl, r, hr, e⟩
  · rintro ⟨l, hl, r, hr, e⟩; exact ⟨r, ⟨l, hl, hr⟩, e⟩
theorem paths_ok {a : List (List Rec)} (h : stackOK a = true) : ∀ p ∈ pathsL a, pathOK p = true := by
  intro p hp
  obtain ⟨l, hl, r, hr, rfl⟩ := paths_mem.1 hp
  exact layerOK_path ((stackOK_of h).2 l hl) r hr
theorem canonR_path {l : List Rec} {r x : Rec} (h : canonR l r = some x) : x.path = r.path := by
  unfold canonR at h
  split at h
  · split at h
    · cases h
    · rw [← Option.some.inj h]
  · rw [← Option.some.inj h]
theorem filterMap_rise {f : Rec → Option Rec} (hf : ∀ r x, f r = some x → x.path = r.path) : ∀ {l : List Rec}, Rise (l.map (·.path)) → Rise ((l.filterMap f).map (·.path)) ∧ ∀ q ∈ (l.filterMap f).map (·.path), q ∈ l.map (·.path) := by
  intro l
  induction l with
  | nil => intro _; exact ⟨List.Pairwise.nil, by simp⟩
  | cons r l ih =>
    intro h
    obtain ⟨i1, i2⟩ := ih (rise_tl h)
    have hlt := rise_lt h
    cases hr : f r with
    | none => rw [List.filterMap_cons_none hr]; exact ⟨i1, fun q hq => List.mem_cons_of_mem _ (i2 q hq)⟩
    | some x =>
      rw [List.filterMap_cons_some hr, List.map_cons, hf r x hr]
      exact ⟨List.pairwise_cons.2 ⟨fun q hq => hlt q (i2 q hq), i1⟩, fun q hq => by
        rcases List.mem_cons.1 hq with rfl | hq
        · exact List.mem_cons_self
        · exact List.mem_cons_of_mem _ (i2 q hq)⟩
theorem canonL_sheet {l : List Rec} (h : sheetB l = true) : sheetB (canonL l) = true := by
  obtain ⟨h1, h2⟩ := filterMap_rise (f := canonR l) (fun r x => canonR_path) (sheetB_rise h)
  refine sheetB_mk (fun x hx => ?_) h1
  obtain ⟨r, hr, e⟩ := List.mem_map.1 (h2 _ (List.mem_map_of_mem hx))
  rw [← e]; exact sheetB_path h r hr
theorem squashL_sheet {a b : List Rec} (ha : sheetB a = true) (hb : sheetB b = true) : sheetB (squashL a b) = true := canonL_sheet (twoR_sheet ha hb)
def squashAllL (xs : List (List Rec)) : List Rec := xs.foldl squashL []
theorem sheetB_nil : sheetB [] = true := rfl
def spec_l06All.b1 (a0 : List (List Rec)) : List Rec × Int → Option (Step (List Rec) (List Rec × Int) (List Rec)) :=
  fun q => match q with
  | (x3_7, x4_9) => bif (decide (x4_9 < (a0.length : Int))) then (bif inR x4_9 a0.length then (bif decide (x3_7.length ≤ 500000) then (bif decide ((gt a0 x4_9).length ≤ 500000) then (bif decide (sheetB x3_7 = true) then (bif decide (sheetB (gt a0 x4_9) = true) then (some (.nxt ((squashL x3_7 (gt a0 x4_9)), IntKind.wrap .i64 (x4_9 + 1)))) else none) else none) else none) else none) else none) else (some (.brk x3_7))
def spec_l06All.sh (k : Nat) (a0 : List (List Rec)) : Option (List Rec) :=
  (loopF (spec_l06All.b1 a0) k (([] : List Rec), 0)).bind fun z => match z with | .inl t => some t | .inr x3_13 => some x3_13
theorem spec_l06All.eq (a0 : List (List Rec)) (h0 : stackOK a0 = true) : ∃ k, spec_l06All.sh k a0 = some (squashAllL a0) := by
  obtain ⟨h5, hL⟩ := stackOK_of h0
  refine ⟨a0.length + 1, ?_⟩
  unfold spec_l06All.sh
  have hk := foldI_runK a0 squashL (fun i s => sheetB s = true ∧ s.length ≤ 16 * i) (spec_l06All.b1 a0) (a0.length + 1) (by omega) (fun i s hi hI => by
    have hl := hL (gt a0 (i : Int)) (by rw [getD_gt, getD_el hi]; exact List.getElem_mem hi)
    have h16 := layerOK_len hl
    have hq := squashL_len s (gt a0 (i : Int))
    have d1 : decide ((i : Int) < (a0.length : Int)) = true := decide_eq_true (by omega)
    have d2 : decide (s.length ≤ 500000) = true := decide_eq_true (by have := hI.2; omega)
    have d3 : decide ((gt a0 (i : Int)).length ≤ 500000) = true := decide_eq_true (by omega)
    have e1 : IntKind.wrap .i64 ((i : Int) + 1) = ((i + 1 : Nat) : Int) := by rw [wrap_small (by omega) (by omega)]; omega
    refine ⟨?_, squashL_sheet hI.1 (layerOK_sheet hl), by have := hI.2; omega⟩
    simp only [spec_l06All.b1, d1, d2, d3, inR_nat hi, cond_true, e1, hI.1, layerOK_sheet hl, decide_true]) (fun s => by simp [spec_l06All.b1]) [] ⟨sheetB_nil, by simp⟩
  rw [hk.1]
  simp only [Option.bind_some, squashAllL]
def impl_squashAll.b1 (a0 : List (List Rec)) : List Rec × Int → Option (Step (List Rec) (List Rec × Int) (List Rec)) :=
  fun q => match q with
  | (x3_7, x9_9) => bif (decide (x9_9 < (a0.length : Int))) then (bif inR x9_9 a0.length then (bif decide (x3_7.length ≤ 500000) then (bif decide ((gt a0 x9_9).length ≤ 500000) then (bif decide (sheetB x3_7 = true) then (bif decide (sheetB (gt a0 x9_9) = true) then (some (.nxt ((squashL x3_7 (gt a0 x9_9)), IntKind.wrap .i64 (x9_9 + 1)))) else none) else none) else none) else none) else none) else (some (.brk x3_7))
def impl_squashAll.sh (k : Nat) (a0 : List (List Rec)) : Option (List Rec) :=
  (loopF (impl_squashAll.b1 a0) k (([] : List Rec), 0)).bind fun z => match z with | .inl t => some t | .inr x3_13 => some x3_13
theorem impl_squashAll.eq (a0 : List (List Rec)) (h0 : stackOK a0 = true) : ∃ k, impl_squashAll.sh k a0 = some (squashAllL a0) := by
  obtain ⟨h5, hL⟩ := stackOK_of h0
  refine ⟨a0.length + 1, ?_⟩
  unfold impl_squashAll.sh
  have hk := foldI_runK a0 squashL (fun i s => sheetB s = true ∧ s.length ≤ 16 * i) (impl_squashAll.b1 a0) (a0.length + 1) (by omega) (fun i s hi hI => by
    have hl := hL (gt a0 (i : Int)) (by rw [getD_gt, getD_el hi]; exact List.getElem_mem hi)
    have h16 := layerOK_len hl
    have hq := squashL_len s (gt a0 (i : Int))
    have d1 : decide ((i : Int) < (a0.length : Int)) = true := decide_eq_true (by omega)
    have d2 : decide (s.length ≤ 500000) = true := decide_eq_true (by have := hI.2; omega)
    have d3 : decide ((gt a0 (i : Int)).length ≤ 500000) = true := decide_eq_true (by omega)
    have e1 : IntKind.wrap .i64 ((i : Int) + 1) = ((i + 1 : Nat) : Int) := by rw [wrap_small (by omega) (by omega)]; omega
    refine ⟨?_, squashL_sheet hI.1 (layerOK_sheet hl), by have := hI.2; omega⟩
    simp only [impl_squashAll.b1, d1, d2, d3, inR_nat hi, cond_true, e1, hI.1, layerOK_sheet hl, decide_true]) (fun s => by simp [impl_squashAll.b1]) [] ⟨sheetB_nil, by simp⟩
  rw [hk.1]
  simp only [Option.bind_some, squashAllL]
def squashAllOf (a : List (List Rec)) : List Rec × Int := if stackCode a = 0 then (fitL (squashAllL a), fitC (squashAllL a)) else ([], stackCode a)
def spec_SquashAll.sh (a0 : List (List Rec)) : Option (List Rec × Int) :=
  bif (decide (4096 < (a0.length : Int))) then (some (([] : List Rec), 2)) else (bif decide (a0.length ≤ 1048576) then (bif decide (∀ l ∈ a0, l.length ≤ 1048576) then (bif decide (∀ l ∈ a0, ∀ x ∈ l, x.path.length ≤ 1048576) then (bif (!(stackOK a0)) then (some (([] : List Rec), 1)) else (bif decide (stackOK a0 = true) then (bif (decide (16 < ((squashAllL a0).length : Int))) then (some (([] : List Rec), 7)) else (some ((squashAllL a0), 0))) else none)) else none) else none) else none)
theorem spec_SquashAll.eq (a0 : List (List Rec)) (h0 : a0.length ≤ 1048576) (h1 : ∀ l ∈ a0, l.length ≤ 1048576) (h2 : ∀ l ∈ a0, ∀ x ∈ l, x.path.length ≤ 1048576) : spec_SquashAll.sh a0 = some ((squashAllOf a0).1, (squashAllOf a0).2) := by
  unfold spec_SquashAll.sh squashAllOf stackCode
  rw [lenSS4096, fit_dec]
  by_cases h : 4096 < a0.length
  · simp [h]
  · rcases bool_two (stackOK a0) with c1 | c1
    · by_cases h16 : 16 < (squashAllL a0).length <;> simp [h, h0, decide_eq_true h1, decide_eq_true h2, c1, h16, fitL, fitC]
    · simp [h, h0, decide_eq_true h1, decide_eq_true h2, c1]
def impl_SquashAll.sh (a0 : List (List Rec)) : Option (List Rec × Int) :=
  bif decide (a0.length ≤ 1048576) then (bif decide (∀ l ∈ a0, l.length ≤ 1048576) then (bif decide (∀ l ∈ a0, ∀ x ∈ l, x.path.length ≤ 1048576) then (bif (!decide ((stackCode a0) = 0)) then (some ([], (stackCode a0))) else (bif decide (stackOK a0 = true) then (some ((fitL (squashAllL a0)), (fitC (squashAllL a0)))) else none)) else none) else none) else none
theorem impl_SquashAll.eq (a0 : List (List Rec)) (h0 : a0.length ≤ 1048576) (h1 : ∀ l ∈ a0, l.length ≤ 1048576) (h2 : ∀ l ∈ a0, ∀ x ∈ l, x.path.length ≤ 1048576) : impl_SquashAll.sh a0 = some ((squashAllOf a0).1, (squashAllOf a0).2) := by
  unfold impl_SquashAll.sh squashAllOf
  by_cases h : stackCode a0 = 0
  · simp [h0, decide_eq_true h1, decide_eq_true h2, h, stackCode_zero h]
  · simp [h0, decide_eq_true h1, decide_eq_true h2, h]

/-! ### one pass over all layers -/
def winR (a : List (List Rec)) (p : List UInt8) : Option Rec := if (0 : Int) < (winner a p).2 then some (winner a p).1 else none
def pickK (a : List (List Rec)) (p : List UInt8) : Option Pick := if (0 : Int) < (winner a p).2 then some ⟨p, (winner a p).2⟩ else none
def winsL (a : List (List Rec)) : List Rec := (pathsL a).filterMap (winR a)
def picksL (a : List (List Rec)) : List Pick := (pathsL a).filterMap (pickK a)
def mergeL (a : List (List Rec)) : List Rec := canonL (winsL a)
theorem fm_take {α β : Type} [Inhabited α] {f : α → Option β} {l : List α} {i : Nat} (hi : i < l.length) : (l.take (i + 1)).filterMap f = (l.take i).filterMap f ++ (f (gt l (i : Int))).toList := by
  rw [List.take_succ_eq_append_getElem hi, List.filterMap_append, getD_gt, getD_el hi]
  cases h : f l[i] <;> simp [h]
theorem winner_path {a : List (List Rec)} {p : List UInt8} (h : (0 : Int) < (winner a p).2) : (winner a p).1.path = p := by
  have hlo := lowN_le a p
  have h1 : 0 < (winner0 a p).2.1 := h
  have hc : (winner a p).1.path = (winner0 a p).1.path := by
    show (closeW (winner0 a p)).path = _
    unfold closeW; split <;> rfl
  rcases winN_inv a p (lowN a p) (a.length - lowN a p) (by omega) with h2 | ⟨_, _, _, l, _, _, h3⟩
  · unfold winner0 at h1; rw [h2] at h1; exact absurd h1 (by simp)
  · rw [hc]; exact h3
theorem winR_path {a : List (List Rec)} {p : List UInt8} {x : Rec} (h : winR a p = some x) : x.path = p := by
  unfold winR at h
  split at h
  · rename_i hc; rw [← Option.some.inj h]; exact winner_path hc
  · cases h
theorem wins_spec (a : List (List Rec)) : Rise ((winsL a).map (·.path)) ∧ ∀ p, lookR (winsL a) p = if p ∈ pathsL a then winR a p else none :=
  pick_spec (fun r : Rec => r.path) (riseOf_rise _) (winR a) fun p x h => winR_path h
theorem wins_len {a : List (List Rec)} (h : stackOK a = true) : (winsL a).length ≤ 80 := Nat.le_trans (List.length_filterMap_le _ _) (paths_len h)
theorem wins_sheet {a : List (List Rec)} (h : stackOK a = true) : sheetB (winsL a) = true := by
  refine sheetB_mk (fun x hx => ?_) (wins_spec a).1
  obtain ⟨p, hp, hx⟩ := List.mem_filterMap.1 hx
  rw [winR_path hx]
  exact paths_ok h p hp
def mergeOf (a : List (List Rec)) : List Rec × Int := if stackCode a = 0 then (fitL (mergeL a), fitC (mergeL a)) else ([], stackCode a)
def spec_MergeMany.sh (a0 : List (List Rec)) : Option (List Rec × Int) :=
  bif (decide (4096 < (a0.length : Int))) then (some (([] : List Rec), 2)) else (bif decide (a0.length ≤ 1048576) then (bif decide (∀ l ∈ a0, l.length ≤ 1048576) then (bif decide (∀ l ∈ a0, ∀ x ∈ l, x.path.length ≤ 1048576) then (bif (!(stackOK a0)) then (some (([] : List Rec), 1)) else (bif decide (stackOK a0 = true) then (bif (decide (16 < ((mergeL a0).length : Int))) then (some (([] : List Rec), 7)) else (some ((mergeL a0), 0))) else none)) else none) else none) else none)
theorem spec_MergeMany.eq (a0 : List (List Rec)) (h0 : a0.length ≤ 1048576) (h1 : ∀ l ∈ a0, l.length ≤ 1048576) (h2 : ∀ l ∈ a0, ∀ x ∈ l, x.path.length ≤ 1048576) : spec_MergeMany.sh a0 = some ((mergeOf a0).1, (mergeOf a0).2) := by
  unfold spec_MergeMany.sh mergeOf stackCode
  rw [lenSS4096, fit_dec]
  by_cases h : 4096 < a0.length
  · simp [h]
  · rcases bool_two (stackOK a0) with c1 | c1
    · by_cases h16 : 16 < (mergeL a0).length <;> simp [h, h0, decide_eq_true h1, decide_eq_true h2, c1, h16, fitL, fitC]
    · simp [h, h0, decide_eq_true h1, decide_eq_true h2, c1]
def impl_merge.b1 (a0 : List (List Rec)) : List Rec × Int → Option (Step (List Rec) (List Rec × Int) (List Rec)) :=
  fun q => match q with
  | (x3_14, x13_16) => bif (decide (x13_16 < ((pathsL a0).length : Int))) then (bif inR x13_16 (pathsL a0).length then (bif decide (stackOK a0 = true) then (bif decide (a0.length ≤ 1048576) then (bif decide ((gt (pathsL a0) x13_16).length ≤ 1048576) then (bif decide (∀ l ∈ a0, l.length ≤ 1048576) then (bif (decide ((0 : Int) < (winner a0 (gt (pathsL a0) x13_16)).2)) then (bif decide ((x3_14.length + ([((winner a0 (gt (pathsL a0) x13_16)).1)] : List Rec).length) * 56 ≤ 140737488355328) then (some (.nxt (x3_14 ++ ([((winner a0 (gt (pathsL a0) x13_16)).1)] : List Rec), IntKind.wrap .i64 (x13_16 + 1)))) else none) else (some (.nxt (x3_14, IntKind.wrap .i64 (x13_16 + 1))))) else none) else none) else none) else none) else none) else (some (.brk x3_14))
def impl_merge.sh (k : Nat) (a0 : List (List Rec)) : Option (List Rec) :=
  bif decide (a0.length ≤ 5) then (bif decide (∀ l ∈ a0, l.length ≤ 1048576) then (bif decide (∀ l ∈ a0, ∀ x ∈ l, x.path.length ≤ 1048576) then ((loopF (impl_merge.b1 a0) k (([] : List Rec), 0)).bind fun z => match z with | .inl t => some t | .inr x3_20 => bif decide (x3_20.length ≤ 1048576) then (bif decide (∀ x ∈ x3_20, pathOK x.path = true) then (some (canonL x3_20)) else none) else none) else none) else none) else none
theorem impl_merge.eq (a0 : List (List Rec)) (h0 : stackOK a0 = true) : ∃ k, impl_merge.sh k a0 = some (mergeL a0) := by
  obtain ⟨h5, hL⟩ := stackOK_of h0
  have hn := paths_len h0
  have hls : ∀ l ∈ a0, l.length ≤ 1048576 := fun l hl => by have := layerOK_len (hL l hl); omega
  have hps : ∀ l ∈ a0, ∀ x ∈ l, x.path.length ≤ 1048576 := fun l hl x hx => pathOK_small (layerOK_path (hL l hl) x hx)
  refine ⟨(pathsL a0).length + 1, ?_⟩
  unfold impl_merge.sh
  rw [collect_run (pathsL a0) (winR a0) (impl_merge.b1 a0) (fun i hi acc ha => by
    have b0 : decide (a0.length ≤ 1048576) = true := decide_eq_true (by omega)
    have e1 : ∀ z : Rec, decide ((acc.length + ([z] : List Rec).length) * 56 ≤ 140737488355328) = true := fun z => decide_eq_true (by simp; omega)
    have m1 := pathOK_small (paths_ok h0 _ (List.getElem_mem hi))
    simp only [impl_merge.b1, lt_nat, hi, decide_true, cond_true, inR_nat hi, getD_gt, getD_el hi, b0, e1, wrap_succ hi (by omega), decide_eq_true m1, h0, decide_eq_true hls]
    unfold winR
    by_cases hc : (0 : Int) < (winner a0 (pathsL a0)[i]).2 <;> simp [hc]) (fun acc => by simp [impl_merge.b1])]
  have b1 : a0.length ≤ 5 := h5
  have b2 : (winsL a0).length ≤ 1048576 := by have := wins_len h0; omega
  have b3 := sheetB_path (wins_sheet h0)
  unfold winsL at b2 b3
  simp only [decide_eq_true b1, decide_eq_true hls, decide_eq_true hps, Option.bind_some, decide_eq_true b2, decide_eq_true b3, cond_true, mergeL, winsL]
def impl_MergeMany.sh (a0 : List (List Rec)) : Option (List Rec × Int) :=
  bif decide (a0.length ≤ 1048576) then (bif decide (∀ l ∈ a0, l.length ≤ 1048576) then (bif decide (∀ l ∈ a0, ∀ x ∈ l, x.path.length ≤ 1048576) then (bif (!decide ((stackCode a0) = 0)) then (some ([], (stackCode a0))) else (bif decide (stackOK a0 = true) then (some ((fitL (mergeL a0)), (fitC (mergeL a0)))) else none)) else none) else none) else none
theorem impl_MergeMany.eq (a0 : List (List Rec)) (h0 : a0.length ≤ 1048576) (h1 : ∀ l ∈ a0, l.length ≤ 1048576) (h2 : ∀ l ∈ a0, ∀ x ∈ l, x.path.length ≤ 1048576) : impl_MergeMany.sh a0 = some ((mergeOf a0).1, (mergeOf a0).2) := by
  unfold impl_MergeMany.sh mergeOf
  by_cases h : stackCode a0 = 0
  · simp [h0, decide_eq_true h1, decide_eq_true h2, h, stackCode_zero h]
  · simp [h0, decide_eq_true h1, decide_eq_true h2, h]
/-! ### marks on picks -/

/-! ### what a layer makes of each path: the canonical form is told by that alone -/
def viewR (l : List Rec) (p : List UInt8) : Option (Option Nd) := match lookR l p with
  | some r => some (showR r)
  | none => if cutsR l p then some none else none
theorem ancs_cons {p : List UInt8} (h : parentP p ≠ []) : ancs p = parentP p :: ancs (parentP p) := by rw [ancs_eq, if_neg h]
theorem ancs_none {p : List UInt8} (h : parentP p = []) : ancs p = [] := by rw [ancs_eq, if_pos h]
theorem ancs_trans {p x y : List UInt8} (hp : pathOK p = true) (hx : x ∈ ancs p) (hy : y ∈ ancs x) : y ∈ ancs p := below_ancs hp (below_trans (ancs_below hx) (ancs_below hy))
theorem ancs_ok {p x : List UInt8} (hp : pathOK p = true) (hx : x ∈ ancs p) : pathOK x = true := pathOK_below hp (ancs_below hx)
theorem ancs_depth {p x : List UInt8} (hp : pathOK p = true) (hx : x ∈ ancs p) : (cut 47 x).length < 4 := by
  have h1 := depth_below (ancs_below hx)
  have h2 := pathOK_depth hp
  omega
theorem Sheet.path {l : List Rec} (hs : Sheet l) {p : List UInt8} {r : Rec} (h : lookR l p = some r) : pathOK p = true := by
  obtain ⟨h1, h2⟩ := lookR_some h
  rw [← h2]; exact recFault_path (hs.ok r h1)
theorem Sheet.fault {l : List Rec} (hs : Sheet l) {p : List UInt8} {r : Rec} (h : lookR l p = some r) : recFault r = 0 := hs.ok r (lookR_some h).1
theorem Sheet.anc {l : List Rec} (hs : Sheet l) {p x : List UInt8} {r : Rec} (h : lookR l p = some r) (hx : x ∈ ancs p) : ∃ m, lookR l x = some m ∧ m.kind = 3 := by
  obtain ⟨h1, h2⟩ := lookR_some h
  obtain ⟨m, hm, e, hk⟩ := hs.above (n := r) h1 (p := x) (by rw [h2]; exact ancs_below hx)
  exact ⟨m, by rw [← e]; exact lookR_mem hs.rise hm, hk⟩
theorem Sheet.opqk {l : List Rec} (hs : Sheet l) {p : List UInt8} {r : Rec} (h : lookR l p = some r) (ho : r.opq = true) : r.kind = 3 := recFault_opq (hs.fault h) ho
theorem cut_under {l : List Rec} {p : List UInt8} (h : ∀ x ∈ ancs p, ∀ r, lookR l x = some r → r.kind = 3) : cutsR l p = underO l p := by
  rw [Bool.eq_iff_iff, cutsR_iff, underO_iff]
  constructor
  · rintro ⟨x, hx, r, hr, hs⟩
    refine ⟨x, hx, r, hr, ?_⟩
    simpa [stopsR, h x hx r hr] using hs
  · rintro ⟨x, hx, r, hr, hs⟩
    exact ⟨x, hx, r, hr, by simp [stopsR, hs]⟩
/-- Under what is opaque, or opaque. -/
def coverR (l : List Rec) (x : List UInt8) : Bool := underO l x || (match lookR l x with | some r => r.opq | none => false)
theorem under_parent {l : List Rec} {p : List UInt8} (h : parentP p ≠ []) : underO l p = coverR l (parentP p) := by
  rw [Bool.eq_iff_iff, underO_iff]
  unfold coverR
  rw [Bool.or_eq_true, underO_iff, ancs_cons h]
  constructor
  · rintro ⟨x, hx, r, hr, ho⟩
    rcases List.mem_cons.1 hx with rfl | hx
    · right; rw [hr]; exact ho
    · exact .inl ⟨x, hx, r, hr, ho⟩
  · rintro (⟨x, hx, r, hr, ho⟩ | ho)
    · exact ⟨x, List.mem_cons_of_mem _ hx, r, hr, ho⟩
    · cases hl : lookR l (parentP p) with
      | none => rw [hl] at ho; cases ho
      | some r => rw [hl] at ho; exact ⟨_, List.mem_cons_self, r, hl, ho⟩
theorem cover_view {l : List Rec} (hs : Sheet l) {q : List UInt8} (hq : pathOK q = true) (hp : parentP q ≠ []) {m : Rec} (hm : lookR l (parentP q) = some m) (hk : m.kind = 3) (hn : lookR l q = none) : viewR l q = if coverR l (parentP q) then some none else none := by
  unfold viewR
  rw [hn]
  show (if cutsR l q = true then some none else none) = _
  rw [cut_under, under_parent hp]
  intro x hx r hr
  rw [ancs_cons hp] at hx
  rcases List.mem_cons.1 hx with rfl | hx
  · rw [hm] at hr; rw [← Option.some.inj hr]; exact hk
  · obtain ⟨m2, h1, h2⟩ := hs.anc hm hx
    rw [h1] at hr; rw [← Option.some.inj hr]; exact h2
/-! a name that is free -/
theorem pigeon {α : Type} [DecidableEq α] : ∀ (l m : List α), l.Nodup → (∀ x ∈ l, x ∈ m) → l.length ≤ m.length := by
  intro l
  induction l with
  | nil => intro m _ _; simp
  | cons x l ih =>
    intro m hd hs
    have hx := hs x (by simp)
    have h1 := List.nodup_cons.1 hd
    have h2 := ih (m.erase x) h1.2 fun y hy => (List.mem_erase_of_ne (fun e => h1.1 (by rw [← e]; exact hy))).2 (hs y (by simp [hy]))
    rw [List.length_erase_of_mem hx] at h2
    have : 0 < m.length := List.length_pos_of_mem hx
    simp only [List.length_cons]; omega
def freeN (i : Nat) : List UInt8 := [122, UInt8.ofNat (97 + i / 16), UInt8.ofNat (97 + i % 16)]
theorem freeN_ok : ∀ i, i < 256 → partOK (freeN i) = true := by
  have h : (List.range 256).all (fun i => partOK (freeN i)) = true := by decide +kernel
  intro i hi
  exact (List.all_eq_true.1 h) i (List.mem_range.2 hi)
theorem freeN_noslash : ∀ i, i < 256 → cut 47 (freeN i) = [freeN i] := by
  have h : (List.range 256).all (fun i => decide (cut 47 (freeN i) = [freeN i])) = true := by decide +kernel
  intro i hi
  exact of_decide_eq_true ((List.all_eq_true.1 h) i (List.mem_range.2 hi))
theorem freeN_inj {i j : Nat} (hi : i < 256) (hj : j < 256) (h : freeN i = freeN j) : i = j := by
  unfold freeN at h
  injection h with _ h
  injection h with h1 h
  injection h with h2 _
  have e1 := congrArg UInt8.toNat h1
  have e2 := congrArg UInt8.toNat h2
  simp only [UInt8.toNat_ofNat'] at e1 e2
  omega
theorem joinL_le : ∀ (l : List (List UInt8)), (∀ x ∈ l, x.length ≤ 8) → (joinL l).length ≤ 9 * l.length - 1 := by
  intro l
  induction l with
  | nil => intro _; simp [joinL]
  | cons x l ih =>
    intro h
    have h1 := h x (by simp)
    have h2 := ih fun y hy => h y (by simp [hy])
    by_cases e : l = []
    · subst e; simp [joinL]; omega
    · rw [joinL_cons x e]
      have := List.length_pos_iff.2 e
      simp only [List.length_append, List.length_cons]; omega
theorem pathOK_allparts {p : List UInt8} (h : pathOK p = true) : (cut 47 p).length ≤ 4 ∧ ∀ x ∈ cut 47 p, partOK x = true := by
  simp only [pathOK, Bool.and_eq_true, decide_eq_true_eq, List.all_eq_true] at h
  exact ⟨h.2.1, h.2.2⟩
theorem child_ok {x part : List UInt8} (hx : pathOK x = true) (hd : (cut 47 x).length < 4) (hp : partOK part = true) (hc : cut 47 part = [part]) : pathOK (x ++ 47 :: part) = true ∧ parentP (x ++ 47 :: part) = x := by
  have hcut : cut 47 (x ++ 47 :: part) = cut 47 x ++ [part] := by rw [cut_app2, hc]
  obtain ⟨h1, h2⟩ := pathOK_allparts hx
  have h3 := joinL_le (cut 47 x) fun y hy => partOK_len (h2 y hy)
  rw [joinL_cut] at h3
  have h4 := partOK_len hp
  have hok : pathOK (x ++ 47 :: part) = true := by
    simp only [pathOK, Bool.and_eq_true, decide_eq_true_eq, List.all_eq_true, hcut]
    refine ⟨by simp; omega, by simp; omega, fun y hy => ?_⟩
    rcases List.mem_append.1 hy with hy | hy
    · exact h2 y hy
    · rw [List.mem_singleton.1 hy]; exact hp
  refine ⟨hok, ?_⟩
  have hb : belowP (x ++ 47 :: part) x = true := (below_iff _ _).2 ⟨[part], by simp, hcut⟩
  obtain ⟨g1, g2 | g2⟩ := parent_of_below hok hb
  · exact g2
  · have g3 := depth_below g2
    rw [cut_parent g1, hcut] at g3
    simp at g3
theorem fresh {a b : List Rec} (hlen : a.length + b.length < 256) {x : List UInt8} (hx : pathOK x = true) (hd : (cut 47 x).length < 4) :
    ∃ q, pathOK q = true ∧ parentP q = x ∧ lookR a q = none ∧ lookR b q = none := by
  have key : ∃ i, i < 256 ∧ (x ++ 47 :: freeN i) ∉ a.map (·.path) ++ b.map (·.path) := by
    refine Classical.byContradiction fun hno => ?_
    have hall : ∀ i, i < 256 → (x ++ 47 :: freeN i) ∈ a.map (·.path) ++ b.map (·.path) := fun i hi => Classical.byContradiction fun h => hno ⟨i, hi, h⟩
    have hnd : ((List.range 256).map fun i => x ++ 47 :: freeN i).Nodup := by
      refine List.pairwise_map.2 (List.Pairwise.imp_of_mem (R := fun i j => i < j) (fun {i j} hi hj hlt e => ?_) List.pairwise_lt_range)
      have h1 := List.append_cancel_left e
      injection h1 with _ h1
      have := freeN_inj (List.mem_range.1 hi) (List.mem_range.1 hj) h1
      omega
    have hle := pigeon _ _ hnd fun y hy => by
      obtain ⟨i, hi, rfl⟩ := List.mem_map.1 hy
      exact hall i (List.mem_range.1 hi)
    simp at hle
    omega
  obtain ⟨i, hi, hni⟩ := key
  obtain ⟨h1, h2⟩ := child_ok hx hd (freeN_ok i hi) (freeN_noslash i hi)
  rw [List.mem_append, not_or] at hni
  refine ⟨_, h1, h2, ?_, ?_⟩
  · cases h : lookR a (x ++ 47 :: freeN i) with
    | none => rfl
    | some r => exact absurd (lookR_paths.1 (by rw [h]; simp)) hni.1
  · cases h : lookR b (x ++ 47 :: freeN i) with
    | none => rfl
    | some r => exact absurd (lookR_paths.1 (by rw [h]; simp)) hni.2
theorem look_fm {f : Rec → Option Rec} (hf : ∀ r x, f r = some x → x.path = r.path) {l : List Rec} (h : Rise (l.map (·.path))) (p : List UInt8) : lookR (l.filterMap f) p = (lookR l p).bind f := by
  have h2 := (mrgF_spec (fun r : Rec => r.path) f some (fun _ _ => none) hf (fun y z e => by rw [Option.some.inj e]) (fun x y z _ e => by cases e) _ l [] (Nat.le_refl _) h List.Pairwise.nil).2 p
  rw [mrgF_nil] at h2
  refine h2.trans ?_
  show mrgO f some (fun _ _ => none) (lookR l p) none = _
  cases lookR l p <;> rfl
theorem look_canon {l : List Rec} (hs : Sheet l) (p : List UInt8) : lookR (canonL l) p = (lookR l p).bind (canonR l) := look_fm (fun _ _ => canonR_path) hs.rise p
theorem canonR_under {l : List Rec} {r : Rec} (h : underO l r.path = true) : canonR l r = if r.kind = 4 then none else some ⟨r.kind, r.path, r.body, r.mode, false⟩ := by unfold canonR; rw [if_pos h]
theorem canonR_not {l : List Rec} {r : Rec} (h : underO l r.path = false) : canonR l r = some ⟨r.kind, r.path, r.body, r.mode, r.opq && decide ((cut 47 r.path).length < 4)⟩ := by unfold canonR; rw [if_neg (by rw [h]; simp)]
theorem white_parts {r : Rec} (h : recFault r = 0) (hk : r.kind = 4) : r.body = [] ∧ r.mode = 0 ∧ r.opq = false := by
  obtain ⟨_, _, _, h4, h5⟩ := (recFault_parts r).1 h
  rw [Bool.or_eq_false_iff] at h4 h5
  simp [hk] at h4 h5
  exact ⟨h4.1, h5.2, h4.2⟩
theorem view_show {l : List Rec} {p : List UInt8} {n : Nd} (h : viewR l p = some (some n)) : ∃ r, lookR l p = some r ∧ r.kind ≠ 4 ∧ ndOf r = n := by
  unfold viewR at h
  cases hl : lookR l p with
  | none =>
    rw [hl] at h
    rcases bool_two (cutsR l p) with hc | hc
    · simp [hc] at h
    · simp [hc] at h
  | some r =>
    rw [hl] at h
    have h : showR r = some n := Option.some.inj h
    unfold showR at h
    by_cases hk : r.kind = 4
    · rw [if_pos hk] at h; cases h
    · rw [if_neg hk] at h; exact ⟨r, rfl, hk, Option.some.inj h⟩
theorem view_rec {l : List Rec} {p : List UInt8} {r : Rec} (h : lookR l p = some r) : viewR l p = some (showR r) := by unfold viewR; rw [h]
set_option linter.unusedSectionVars false
section
variable {a b : List Rec} (ha : Sheet a) (hb : Sheet b) (hlen : a.length + b.length < 256) (hv : ∀ p, pathOK p = true → viewR a p = viewR b p)
include ha hb hlen hv
theorem dir_both {x : List UInt8} {m : Rec} (h : lookR a x = some m) (hk : m.kind ≠ 4) : ∃ m', lookR b x = some m' ∧ m'.kind ≠ 4 ∧ ndOf m' = ndOf m := by
  have h1 := hv x (ha.path h)
  rw [view_rec h] at h1
  unfold showR at h1
  rw [if_neg hk] at h1
  exact view_show h1.symm
theorem cover_eq {x : List UInt8} {m m' : Rec} (hx : pathOK x = true) (hd : (cut 47 x).length < 4) (h : lookR a x = some m) (hk : m.kind = 3) (h' : lookR b x = some m') (hk' : m'.kind = 3) : coverR a x = coverR b x := by
  obtain ⟨q, h1, h2, h3, h4⟩ := fresh hlen hx hd
  have hne : parentP q ≠ [] := by rw [h2]; exact pathOK_ne hx
  have e1 := cover_view ha h1 hne (by rw [h2]; exact h) hk h3
  have e2 := cover_view hb h1 hne (by rw [h2]; exact h') hk' h4
  rw [h2] at e1 e2
  have e3 := hv q h1
  rw [e1, e2] at e3
  cases h5 : coverR a x <;> cases h6 : coverR b x <;> simp [h5, h6] at e3 ⊢
theorem under_eq {p : List UInt8} {r : Rec} (h : lookR a p = some r) : underO a p = underO b p ∧ ∀ x ∈ ancs p, ∃ m, lookR b x = some m ∧ m.kind = 3 := by
  have hp := ha.path h
  have hall : ∀ x ∈ ancs p, ∃ m, lookR b x = some m ∧ m.kind = 3 := fun x hx => by
    obtain ⟨m, h1, h2⟩ := ha.anc h hx
    obtain ⟨m', h3, _, h5⟩ := dir_both ha hb hlen hv h1 (by omega)
    exact ⟨m', h3, by have := congrArg Nd.kind h5; simp only [ndOf] at this; omega⟩
  refine ⟨?_, hall⟩
  by_cases hpp : parentP p = []
  · have : ∀ l, underO l p = false := fun l => by unfold underO; rw [ancs_none hpp]; rfl
    rw [this, this]
  · have hx : parentP p ∈ ancs p := by rw [ancs_cons hpp]; exact List.mem_cons_self
    obtain ⟨m, h1, h2⟩ := ha.anc h hx
    obtain ⟨m', h3, h4⟩ := hall _ hx
    rw [under_parent hpp, under_parent hpp]
    exact cover_eq ha hb hlen hv (ancs_ok hp hx) (ancs_depth hp hx) h1 h2 h3 h4
theorem canon_half {p : List UInt8} {r : Rec} (h : lookR (canonL a) p = some r) : lookR (canonL b) p = some r := by
  rw [look_canon ha] at h
  rw [look_canon hb]
  cases h0 : lookR a p with
  | none => rw [h0] at h; cases h
  | some r0 =>
    rw [h0] at h
    have h : canonR a r0 = some r := h
    have hp := ha.path h0
    have e0 := (lookR_some h0).2
    obtain ⟨hu, hall⟩ := under_eq ha hb hlen hv h0
    by_cases hk : r0.kind = 4
    · obtain ⟨w1, w2, w3⟩ := white_parts (ha.fault h0) hk
      have hun : underO a p = false := by
        rcases bool_two (underO a p) with hh | hh
        · rw [canonR_under (by rw [e0]; exact hh), if_pos hk] at h; cases h
        · exact hh
      rw [canonR_not (by rw [e0]; exact hun)] at h
      have hv1 := hv p hp
      rw [view_rec h0] at hv1
      unfold showR at hv1
      rw [if_pos hk] at hv1
      cases h1 : lookR b p with
      | none =>
        unfold viewR at hv1
        rw [h1] at hv1
        have hc : cutsR b p = underO b p := cut_under fun x hx m hm => by
          obtain ⟨m', g1, g2⟩ := hall x hx
          rw [g1] at hm; rw [← Option.some.inj hm]; exact g2
        rw [hc, ← hu, hun] at hv1
        cases hv1
      | some rb =>
        have e1 := (lookR_some h1).2
        rw [view_rec h1] at hv1
        have hk2 : rb.kind = 4 := by
          have := Option.some.inj hv1
          unfold showR at this
          split at this
          · assumption
          · cases this
        obtain ⟨y1, y2, y3⟩ := white_parts (hb.fault h1) hk2
        show canonR b rb = some r
        rw [canonR_not (by rw [e1, ← hu]; exact hun), ← h, hk, hk2, e0, e1, w1, w2, w3, y1, y2, y3]
    · obtain ⟨rb, h1, hk2, hnd⟩ := dir_both ha hb hlen hv h0 hk
      have e1 := (lookR_some h1).2
      simp only [ndOf, Nd.mk.injEq] at hnd
      obtain ⟨n1, n2, n3, n4⟩ := hnd
      refine (congrArg (fun o : Option Rec => o.bind (canonR b)) h1).trans ?_
      show canonR b rb = some r
      rcases bool_two (underO a p) with hun | hun
      · rw [canonR_under (by rw [e0]; exact hun), if_neg hk] at h
        rw [canonR_under (by rw [e1, ← hu]; exact hun), if_neg hk2, ← h, n1, n2, n3, n4]
      · rw [canonR_not (by rw [e0]; exact hun)] at h
        rw [canonR_not (by rw [e1, ← hu]; exact hun), ← h, n1, n2, n3, n4]
        congr 2
        by_cases hd : (cut 47 r0.path).length < 4
        · have hoo : rb.opq = r0.opq := by
            by_cases h3 : r0.kind = 3
            · have hc := cover_eq ha hb hlen hv hp (by rw [← e0]; exact hd) h0 h3 h1 (by omega)
              unfold coverR at hc
              rw [h0, h1, ← hu, hun] at hc
              simpa using hc.symm
            · have g1 : r0.opq = false := by
                rcases bool_two r0.opq with g | g
                · exact absurd (ha.opqk h0 g) h3
                · exact g
              have g2 : rb.opq = false := by
                rcases bool_two rb.opq with g | g
                · exact absurd (hb.opqk h1 g) (by omega)
                · exact g
              rw [g1, g2]
          rw [hoo]
        · simp [hd]
end
/-- THE CANONICAL FORM: layers that make the same of every path have the same. -/
theorem canon_of_view {a b : List Rec} (ha : Sheet a) (hb : Sheet b) (hlen : a.length + b.length < 256) (hv : ∀ p, pathOK p = true → viewR a p = viewR b p) : canonL a = canonL b := by
  refine riseF_uniq (fun r : Rec => r.path) (filterMap_rise (fun _ _ => canonR_path) ha.rise).1 (filterMap_rise (fun _ _ => canonR_path) hb.rise).1 fun p => ?_
  cases h : lookR (canonL a) p with
  | some r => exact h.trans (canon_half ha hb hlen hv h).symm
  | none =>
    cases h' : lookR (canonL b) p with
    | none => exact h.trans h'.symm
    | some r =>
      have := canon_half hb ha (by omega) (fun q hq => (hv q hq).symm) h'
      rw [h] at this; cases this

/-! ### canonical forms and combinations make of each path what they should -/
theorem under_canon {l : List Rec} (hs : Sheet l) : ∀ (n : Nat) (p : List UInt8), (cut 47 p).length ≤ n → pathOK p = true → underO (canonL l) p = underO l p := by
  intro n
  induction n with
  | zero =>
    intro p hn hp
    have h1 : ∀ x ∈ ancs p, False := fun x hx => by have := depth_below (ancs_below hx); omega
    rw [Bool.eq_iff_iff, underO_iff, underO_iff]
    exact ⟨fun ⟨x, hx, _⟩ => (h1 x hx).elim, fun ⟨x, hx, _⟩ => (h1 x hx).elim⟩
  | succ n ih =>
    intro p hn hp
    rw [Bool.eq_iff_iff, underO_iff, underO_iff]
    constructor
    · rintro ⟨x, hx, r, hr, ho⟩
      rw [look_canon hs] at hr
      cases h0 : lookR l x with
      | none => rw [h0] at hr; cases hr
      | some r0 =>
        rw [h0] at hr
        have hr : canonR l r0 = some r := hr
        refine ⟨x, hx, r0, h0, ?_⟩
        unfold canonR at hr
        split at hr
        · split at hr
          · cases hr
          · rw [← Option.some.inj hr] at ho; cases ho
        · rw [← Option.some.inj hr] at ho
          simp only [Bool.and_eq_true] at ho
          exact ho.1
    · rintro ⟨x, hx, r0, h0, ho⟩
      have hd := depth_below (ancs_below hx)
      have hx4 := ancs_depth hp hx
      have hi := ih x (by omega) (ancs_ok hp hx)
      rcases bool_two (underO l x) with hu | hu
      · rw [hu, underO_iff] at hi
        obtain ⟨y, hy, r, hr, hro⟩ := hi
        exact ⟨y, ancs_trans hp hx hy, r, hr, hro⟩
      · have e0 := (lookR_some h0).2
        refine ⟨x, hx, _, by rw [look_canon hs, h0]; exact canonR_not (by rw [e0]; exact hu), ?_⟩
        simp only [Bool.and_eq_true, decide_eq_true_eq]
        exact ⟨ho, by rw [e0]; exact hx4⟩
theorem under_cuts {l : List Rec} {p : List UInt8} (h : underO l p = true) : cutsR l p = true := by
  obtain ⟨x, hx, r, hr, ho⟩ := (underO_iff l p).1 h
  exact (cutsR_iff l p).2 ⟨x, hx, r, hr, by simp [stopsR, ho]⟩
theorem canonR_kind {l : List Rec} {r x : Rec} (h : canonR l r = some x) : x.kind = r.kind ∧ x.path = r.path ∧ x.body = r.body ∧ x.mode = r.mode ∧ (x.opq = true → r.opq = true) := by
  unfold canonR at h
  split at h
  · split at h
    · cases h
    · rw [← Option.some.inj h]; exact ⟨rfl, rfl, rfl, rfl, fun h => by cases h⟩
  · rw [← Option.some.inj h]; exact ⟨rfl, rfl, rfl, rfl, fun h => by simp only [Bool.and_eq_true] at h; exact h.1⟩
theorem cuts_canon {l : List Rec} (hs : Sheet l) {p : List UInt8} (hp : pathOK p = true) : cutsR (canonL l) p = cutsR l p := by
  rw [Bool.eq_iff_iff]
  constructor
  · intro h
    obtain ⟨x, hx, r, hr, ho⟩ := (cutsR_iff _ _).1 h
    rw [look_canon hs] at hr
    cases h0 : lookR l x with
    | none => rw [h0] at hr; cases hr
    | some r0 =>
      rw [h0] at hr
      have hr : canonR l r0 = some r := hr
      obtain ⟨k1, _, _, _, k5⟩ := canonR_kind hr
      refine (cutsR_iff _ _).2 ⟨x, hx, r0, h0, ?_⟩
      unfold stopsR at ho ⊢
      rw [k1] at ho
      rw [Bool.or_eq_true] at ho ⊢
      exact ho.imp id k5
  · intro h
    obtain ⟨x, hx, r0, h0, ho⟩ := (cutsR_iff _ _).1 h
    have e0 := (lookR_some h0).2
    rcases bool_two (underO l x) with hu | hu
    · have hup : underO l p = true := by
        obtain ⟨y, hy, r, hr, hro⟩ := (underO_iff _ _).1 hu
        exact (underO_iff _ _).2 ⟨y, ancs_trans hp hx hy, r, hr, hro⟩
      exact under_cuts (by rw [under_canon hs _ p (Nat.le_refl _) hp]; exact hup)
    · by_cases hk : r0.kind = 3
      · have hop : r0.opq = true := by simpa [stopsR, hk] using ho
        exact under_cuts (by rw [under_canon hs _ p (Nat.le_refl _) hp]; exact (underO_iff _ _).2 ⟨x, hx, r0, h0, hop⟩)
      · refine (cutsR_iff _ _).2 ⟨x, hx, _, by rw [look_canon hs, h0]; exact canonR_not (by rw [e0]; exact hu), ?_⟩
        simp [stopsR, hk]
theorem show_same {r x : Rec} (h1 : x.kind = r.kind) (h2 : x.path = r.path) (h3 : x.body = r.body) (h4 : x.mode = r.mode) : showR x = showR r := by
  unfold showR ndOf; rw [h1, h2, h3, h4]
theorem view_canon {l : List Rec} (hs : Sheet l) {p : List UInt8} (hp : pathOK p = true) : viewR (canonL l) p = viewR l p := by
  have hc := cuts_canon hs hp
  have hu := under_canon hs _ p (Nat.le_refl _) hp
  have hl := look_canon hs p
  unfold viewR
  cases h0 : lookR l p with
  | none =>
    rw [h0] at hl
    have hl : lookR (canonL l) p = none := hl
    rw [hl, hc]
  | some r =>
    rw [h0] at hl
    have hl : lookR (canonL l) p = canonR l r := hl
    have e0 := (lookR_some h0).2
    cases hr : canonR l r with
    | some x =>
      rw [hl, hr]
      obtain ⟨k1, k2, k3, k4, _⟩ := canonR_kind hr
      exact congrArg some (show_same k1 k2 k3 k4)
    | none =>
      rw [hl, hr]
      unfold canonR at hr
      split at hr
      · rename_i hun
        split at hr
        · rename_i hk
          rw [e0] at hun
          have := under_cuts (hu.trans hun)
          simp only [this, if_true]
          unfold showR; rw [if_pos hk]
        · cases hr
      · cases hr
theorem canon_Sheet {l : List Rec} (hs : Sheet l) : Sheet (canonL l) := by
  have hmem : ∀ x ∈ canonL l, ∃ r ∈ l, canonR l r = some x := fun x hx => List.mem_filterMap.1 hx
  refine ⟨(filterMap_rise (fun _ _ => canonR_path) hs.rise).1, fun x hx => ?_, fun x hx hp => ?_⟩
  · obtain ⟨r, hr, e⟩ := hmem x hx
    obtain ⟨k1, k2, k3, k4, k5⟩ := canonR_kind e
    have := recFault_flag (hs.ok r hr) x.opq (fun h => recFault_opq (hs.ok r hr) (k5 h))
    rw [← k1, ← k2, ← k3, ← k4] at this
    exact this
  · obtain ⟨r, hr, e⟩ := hmem x hx
    rw [canonR_path e] at hp ⊢
    obtain ⟨q, hq, e2, hk⟩ := hs.par r hr hp
    cases hc : canonR l q with
    | none =>
      exfalso
      unfold canonR at hc
      split at hc
      · rw [if_neg (by omega)] at hc; cases hc
      · cases hc
    | some y =>
      obtain ⟨k1, k2, _⟩ := canonR_kind hc
      exact ⟨y, List.mem_filterMap.2 ⟨q, hq, hc⟩, by rw [k2, e2], by rw [k1, hk]⟩
/-! two layers -/
theorem look_two {a b : List Rec} (ha : Sheet a) (hb : Sheet b) (p : List UInt8) : lookR (twoR a b) p = match lookR a p, lookR b p with
    | none, none => none | some x, none => if cutsR b p then none else some x | none, some y => some y | some x, some y => some (overR x y) := by
  have h := (twoR_spec ha.rise hb.rise).2 p
  refine h.trans ?_
  cases h1 : lookR a p with
  | none =>
    cases h2 : lookR b p with
    | none => simp only [h1, h2, mrgO]
    | some y => simp only [h1, h2, mrgO]
  | some x =>
    have e := (lookR_some h1).2
    cases h2 : lookR b p with
    | none => simp only [h1, h2, mrgO, e]
    | some y => simp only [h1, h2, mrgO]
theorem overR_kind (x y : Rec) : (overR x y).kind = y.kind ∧ (overR x y).path = y.path ∧ (overR x y).body = y.body ∧ (overR x y).mode = y.mode := by
  unfold overR; split <;> exact ⟨rfl, rfl, rfl, rfl⟩
theorem overR_stops (x y : Rec) : stopsR (overR x y) = (stopsR y || stopsR x) := by
  unfold overR
  split
  · rename_i h; simp [stopsR, h.1]
    rcases bool_two (y.opq) with h2 | h2 <;> simp [h2]
    have := h.2
    simpa [stopsR] using this
  · rename_i h
    rcases bool_two (stopsR x) with h2 | h2
    · have : y.kind ≠ 3 := fun h3 => h ⟨h3, h2⟩
      simp [stopsR, this]
    · rw [h2, Bool.or_false]
theorem cut_anc {l : List Rec} {p x : List UInt8} (hp : pathOK p = true) (hx : x ∈ ancs p) (h : cutsR l x = true) : cutsR l p = true := by
  obtain ⟨y, hy, r, hr, hs⟩ := (cutsR_iff _ _).1 h
  exact (cutsR_iff _ _).2 ⟨y, ancs_trans hp hx hy, r, hr, hs⟩
theorem cuts_two {a b : List Rec} (ha : Sheet a) (hb : Sheet b) {p : List UInt8} (hp : pathOK p = true) : cutsR (twoR a b) p = (cutsR b p || cutsR a p) := by
  rw [Bool.eq_iff_iff, Bool.or_eq_true]
  constructor
  · intro h
    obtain ⟨x, hx, r, hr, hs⟩ := (cutsR_iff _ _).1 h
    rw [look_two ha hb] at hr
    cases h1 : lookR a x with
    | none =>
      cases h2 : lookR b x with
      | none => rw [h1, h2] at hr; cases hr
      | some y => rw [h1, h2] at hr; rw [← Option.some.inj hr] at hs; exact .inl ((cutsR_iff _ _).2 ⟨x, hx, y, h2, hs⟩)
    | some u =>
      cases h2 : lookR b x with
      | none =>
        rw [h1, h2] at hr
        rcases bool_two (cutsR b x) with hc | hc
        · exact .inl (cut_anc hp hx hc)
        · simp only [hc, Bool.false_eq_true, if_false] at hr
          rw [← Option.some.inj hr] at hs
          exact .inr ((cutsR_iff _ _).2 ⟨x, hx, u, h1, hs⟩)
      | some y =>
        rw [h1, h2] at hr
        rw [← Option.some.inj hr, overR_stops, Bool.or_eq_true] at hs
        exact hs.imp (fun h => (cutsR_iff _ _).2 ⟨x, hx, y, h2, h⟩) (fun h => (cutsR_iff _ _).2 ⟨x, hx, u, h1, h⟩)
  · intro h
    rcases bool_two (cutsR b p) with hc | hc
    · obtain ⟨x, hx, r, hr, hs⟩ := (cutsR_iff _ _).1 hc
      cases h1 : lookR a x with
      | none => exact (cutsR_iff _ _).2 ⟨x, hx, r, by rw [look_two ha hb, h1, hr], hs⟩
      | some u => exact (cutsR_iff _ _).2 ⟨x, hx, overR u r, by rw [look_two ha hb, h1, hr], by rw [overR_stops, hs]; rfl⟩
    · have h := h.resolve_left (by rw [hc]; simp)
      obtain ⟨x, hx, r, hr, hs⟩ := (cutsR_iff _ _).1 h
      cases h2 : lookR b x with
      | none =>
        have hcx : cutsR b x = false := by
          rcases bool_two (cutsR b x) with g | g
          · rw [cut_anc hp hx g] at hc; cases hc
          · exact g
        exact (cutsR_iff _ _).2 ⟨x, hx, r, by rw [look_two ha hb, hr, h2]; simp only [hcx, Bool.false_eq_true, if_false], hs⟩
      | some y => exact (cutsR_iff _ _).2 ⟨x, hx, overR r y, by rw [look_two ha hb, hr, h2], by rw [overR_stops, hs]; simp⟩
theorem view_two {a b : List Rec} (ha : Sheet a) (hb : Sheet b) {p : List UInt8} (hp : pathOK p = true) : viewR (twoR a b) p = (viewR b p).or (viewR a p) := by
  have hc := cuts_two ha hb hp
  have hl := look_two ha hb p
  unfold viewR
  cases h1 : lookR a p with
  | none =>
    cases h2 : lookR b p with
    | none =>
      rw [h1, h2] at hl
      rw [hl]
      simp only [hc]
      cases cutsR b p <;> cases cutsR a p <;> rfl
    | some y => rw [h1, h2] at hl; rw [hl]; rfl
  | some x =>
    cases h2 : lookR b p with
    | none =>
      rw [h1, h2] at hl
      rw [hl]
      rcases bool_two (cutsR b p) with g | g
      · simp only [g, if_true, hc, Bool.true_or]; rfl
      · simp only [g, Bool.false_eq_true, if_false]; rfl
    | some y =>
      rw [h1, h2] at hl; rw [hl]
      obtain ⟨k1, k2, k3, k4⟩ := overR_kind x y
      exact congrArg some (show_same k1 k2 k3 k4)
theorem two_Sheet {a b : List Rec} (ha : Sheet a) (hb : Sheet b) : Sheet (twoR a b) := by
  have hr := (twoR_spec ha.rise hb.rise).1
  have hlk : ∀ r ∈ twoR a b, lookR (twoR a b) r.path = some r := fun r h => lookR_mem hr h
  have hdir : ∀ p, (∃ m, lookR (twoR a b) p = some m ∧ m.kind = 3) → ∃ q ∈ twoR a b, q.path = p ∧ q.kind = 3 := fun p ⟨m, h1, h2⟩ => by
    obtain ⟨g1, g2⟩ := lookR_some h1
    exact ⟨m, g1, g2, h2⟩
  refine ⟨hr, fun r hm => ?_, fun r hm hp => hdir _ ?_⟩
  · have h := hlk r hm
    rw [look_two ha hb] at h
    cases h1 : lookR a r.path with
    | none =>
      cases h2 : lookR b r.path with
      | none => rw [h1, h2] at h; cases h
      | some y => rw [h1, h2] at h; rw [← Option.some.inj h]; exact hb.fault h2
    | some x =>
      cases h2 : lookR b r.path with
      | none =>
        rw [h1, h2] at h
        rcases bool_two (cutsR b r.path) with g | g
        · simp [g] at h
        · simp only [g, Bool.false_eq_true, if_false] at h
          rw [← Option.some.inj h]; exact ha.fault h1
      | some y =>
        rw [h1, h2] at h
        rw [← Option.some.inj h]
        unfold overR
        split
        · rename_i hh; exact recFault_flag (hb.fault h2) true fun _ => hh.1
        · exact hb.fault h2
  · have h := hlk r hm
    have hx : parentP r.path ∈ ancs r.path := by rw [ancs_cons hp]; exact List.mem_cons_self
    rw [look_two ha hb] at h
    have hfromb : ∀ y, lookR b r.path = some y → ∃ m, lookR (twoR a b) (parentP r.path) = some m ∧ m.kind = 3 := fun y h2 => by
      obtain ⟨m, g1, g2⟩ := hb.anc h2 hx
      cases h3 : lookR a (parentP r.path) with
      | none => exact ⟨m, by rw [look_two ha hb, h3, g1], g2⟩
      | some z => exact ⟨overR z m, by rw [look_two ha hb, h3, g1], by rw [(overR_kind z m).1]; exact g2⟩
    cases h2 : lookR b r.path with
    | some y => exact hfromb y h2
    | none =>
      cases h1 : lookR a r.path with
      | none => rw [h1, h2] at h; cases h
      | some x =>
        rw [h1, h2] at h
        have hpok := ha.path h1
        rcases bool_two (cutsR b r.path) with g | g
        · simp [g] at h
        · obtain ⟨m, g1, g2⟩ := ha.anc h1 hx
          cases h3 : lookR b (parentP r.path) with
          | none =>
            have hcx : cutsR b (parentP r.path) = false := by
              rcases bool_two (cutsR b (parentP r.path)) with g9 | g9
              · rw [cut_anc hpok hx g9] at g; cases g
              · exact g9
            exact ⟨m, by rw [look_two ha hb, g1, h3]; simp only [hcx, Bool.false_eq_true, if_false], g2⟩
          | some y =>
            have hk : y.kind = 3 := by
              refine Classical.byContradiction fun hk => ?_
              have : cutsR b r.path = true := (cutsR_iff _ _).2 ⟨_, hx, y, h3, by simp [stopsR, hk]⟩
              rw [this] at g; cases g
            exact ⟨overR m y, by rw [look_two ha hb, g1, h3], by rw [(overR_kind m y).1]; exact hk⟩
theorem squash_Sheet {a b : List Rec} (ha : Sheet a) (hb : Sheet b) : Sheet (squashL a b) := canon_Sheet (two_Sheet ha hb)
theorem view_squash {a b : List Rec} (ha : Sheet a) (hb : Sheet b) {p : List UInt8} (hp : pathOK p = true) : viewR (squashL a b) p = (viewR b p).or (viewR a p) := (view_canon (two_Sheet ha hb) hp).trans (view_two ha hb hp)

/-! ### stacks: what they make of each path; one pass gives the same as one after the other -/
def viewN (L : List (List Rec)) (p : List UInt8) : Nat → Option (Option Nd)
  | 0 => none
  | n + 1 => (viewR (L.getD n default) p).or (viewN L p n)
def viewS (L : List (List Rec)) (p : List UInt8) : Option (Option Nd) := viewN L p L.length
theorem viewN_app (L M : List (List Rec)) (p : List UInt8) : ∀ n, n ≤ L.length → viewN (L ++ M) p n = viewN L p n := by
  intro n
  induction n with
  | zero => intro _; rfl
  | succ n ih =>
    intro h
    have e : (L ++ M).getD n default = L.getD n default := by
      rw [List.getD_eq_getElem?_getD, List.getD_eq_getElem?_getD, List.getElem?_append_left (by omega)]
    rw [viewN, viewN, e, ih (by omega)]
theorem viewS_snoc (L : List (List Rec)) (l : List Rec) (p : List UInt8) : viewS (L ++ [l]) p = (viewR l p).or (viewS L p) := by
  unfold viewS
  have e : (L ++ [l]).getD L.length default = l := by simp [List.getD_eq_getElem?_getD]
  rw [List.length_append, List.length_singleton, viewN, e, viewN_app L [l] p _ (Nat.le_refl _)]
theorem viewS_fold (p : List UInt8) : ∀ (n : Nat) (L : List (List Rec)), L.length = n → viewS L p = L.foldl (fun v l => (viewR l p).or v) none := by
  intro n
  induction n with
  | zero => intro L h; have : L = [] := List.eq_nil_of_length_eq_zero h; subst this; rfl
  | succ n ih =>
    intro L h
    obtain ⟨M, l, rfl, hm⟩ := list_snoc n L h
    rw [viewS_snoc, List.foldl_append, ih M hm]; rfl
theorem viewN_at {L : List (List Rec)} {p : List UInt8} {j : Nat} {v : Option Nd} (h : viewR (L.getD j default) p = some v) : ∀ n, j < n → (∀ i, j < i → i < n → viewR (L.getD i default) p = none) → viewN L p n = some v := by
  intro n
  induction n with
  | zero => intro h; omega
  | succ n ih =>
    intro hj hn
    rw [viewN]
    by_cases e : j = n
    · subst e; rw [h]; rfl
    · rw [hn n (by omega) (by omega)]
      exact ih (by omega) fun i h1 h2 => hn i h1 (by omega)
theorem viewN_none {L : List (List Rec)} {p : List UInt8} : ∀ n, (∀ i, i < n → viewR (L.getD i default) p = none) → viewN L p n = none := by
  intro n
  induction n with
  | zero => intro _; rfl
  | succ n ih => intro h; rw [viewN, h n (by omega), ih fun i hi => h i (by omega)]; rfl
theorem Sheet.nil : Sheet [] := ⟨List.Pairwise.nil, by simp, by simp⟩
theorem view_nil (p : List UInt8) : viewR [] p = none := by
  have : cutsR [] p = false := by
    rcases bool_two (cutsR [] p) with h | h
    · obtain ⟨x, _, r, hl, _⟩ := (cutsR_iff [] p).1 h; cases hl
    · exact h
  unfold viewR
  show (if cutsR [] p = true then some none else none) = none
  rw [this]; rfl
theorem fold_squash (p : List UInt8) (hp : pathOK p = true) : ∀ (L : List (List Rec)) (acc : List Rec), (∀ l ∈ L, Sheet l) → Sheet acc → Sheet (L.foldl squashL acc) ∧ viewR (L.foldl squashL acc) p = L.foldl (fun v l => (viewR l p).or v) (viewR acc p) := by
  intro L
  induction L with
  | nil => intro acc _ h; exact ⟨h, rfl⟩
  | cons l L ih =>
    intro acc hL h
    have hl := hL l (by simp)
    obtain ⟨i1, i2⟩ := ih (squashL acc l) (fun x hx => hL x (by simp [hx])) (squash_Sheet h hl)
    exact ⟨i1, by rw [List.foldl_cons, i2, view_squash h hl hp]; rfl⟩
theorem squashAll_Sheet {L : List (List Rec)} (hL : ∀ l ∈ L, Sheet l) : Sheet (squashAllL L) := (fold_squash [97] (by decide +kernel) L [] hL Sheet.nil).1
theorem view_squashAll {L : List (List Rec)} (hL : ∀ l ∈ L, Sheet l) {p : List UInt8} (hp : pathOK p = true) : viewR (squashAllL L) p = viewS L p := by
  rw [viewS_fold p _ L rfl]
  have := (fold_squash p hp L [] hL Sheet.nil).2
  rw [view_nil] at this
  exact this
theorem stack_Sheet {L : List (List Rec)} (h : stackOK L = true) : ∀ l ∈ L, Sheet l := fun l hl => layer_sheet ((stackOK_of h).2 l hl)
/-! winners -/
theorem cutDN_spec (L : List (List Rec)) (p : List UInt8) : ∀ n : Nat, (∀ j, (cutDN L p n).toNat ≤ j → j < n → cutsR (L.getD j default) p = false) ∧ (0 < cutDN L p n → cutsR (L.getD ((cutDN L p n).toNat - 1) default) p = true) := by
  intro n
  induction n with
  | zero => exact ⟨fun j _ h => by omega, fun h => absurd h (by simp [cutDN])⟩
  | succ n ih =>
    rw [cutDN]
    rcases bool_two (cutsR (L.getD n default) p) with hc | hc
    · rw [if_pos hc]
      refine ⟨fun j h1 h2 => by omega, fun _ => ?_⟩
      have : ((n : Int) + 1).toNat - 1 = n := by omega
      rw [this]; exact hc
    · rw [if_neg (by rw [hc]; simp)]
      refine ⟨fun j h1 h2 => ?_, ih.2⟩
      by_cases e : j = n
      · subst e; exact hc
      · exact ih.1 j h1 (by omega)
theorem cutD_above {L : List (List Rec)} {p : List UInt8} {j : Nat} (h1 : (cutD L p).toNat ≤ j) (h2 : j < L.length) : cutsR (L.getD j default) p = false := (cutDN_spec L p L.length).1 j h1 h2
theorem cutD_at {L : List (List Rec)} {p : List UInt8} (h : 0 < cutD L p) : cutsR (L.getD ((cutD L p).toNat - 1) default) p = true := (cutDN_spec L p L.length).2 h
theorem cutD_anc {L : List (List Rec)} {p x : List UInt8} (hp : pathOK p = true) (hx : x ∈ ancs p) : (cutD L x).toNat ≤ (cutD L p).toNat := by
  refine Classical.byContradiction fun h => ?_
  have h0 : 0 < cutD L x := by omega
  have hb := cutD_in L x
  have h1 := cut_anc hp hx (cutD_at h0)
  rw [cutD_above (j := (cutD L x).toNat - 1) (by omega) (by omega)] at h1
  cases h1
theorem lowN_def (L : List (List Rec)) (p : List UInt8) : lowN L p = (cutD L p).toNat - 1 := rfl
/-- What the search for a winner has after some layers. -/
theorem winN_spec (L : List (List Rec)) (p : List UInt8) (lo : Nat) : ∀ n,
    (winN L p lo n = (zeroR, 0, false) ∧ ∀ j, lo ≤ j → j < lo + n → lookR (L.getD j default) p = none) ∨
    ∃ j r, lo ≤ j ∧ j < lo + n ∧ lookR (L.getD j default) p = some r ∧ (winN L p lo n).1 = r ∧ (winN L p lo n).2.1 = (j : Int) + 1 ∧ (∀ i, j < i → i < lo + n → lookR (L.getD i default) p = none) ∧
      ((winN L p lo n).2.2 = true ↔ ∃ i r', lo ≤ i ∧ i < lo + n ∧ lookR (L.getD i default) p = some r' ∧ stopsR r' = true) := by
  intro n
  induction n with
  | zero => exact .inl ⟨rfl, fun j h1 h2 => by omega⟩
  | succ n ih =>
    rw [winN, stepW]
    cases hl : lookR (L.getD (lo + n) default) p with
    | none =>
      have hf : ¬ 0 ≤ findR (L.getD (lo + n) default) p := fun h => (findR_look _ _).1.1 h hl
      rw [if_neg hf]
      rcases ih with ⟨h1, h2⟩ | ⟨j, r, h1, h2, h3, h4, h5, h6, h7⟩
      · refine .inl ⟨h1, fun j a b => ?_⟩
        by_cases e : j = lo + n
        · subst e; exact hl
        · exact h2 j a (by omega)
      · refine .inr ⟨j, r, h1, by omega, h3, h4, h5, fun i a b => ?_, h7.trans ?_⟩
        · by_cases e : i = lo + n
          · subst e; exact hl
          · exact h6 i a (by omega)
        · constructor
          · rintro ⟨i, r', a, b, c, d⟩; exact ⟨i, r', a, by omega, c, d⟩
          · rintro ⟨i, r', a, b, c, d⟩
            by_cases e : i = lo + n
            · subst e; rw [hl] at c; cases c
            · exact ⟨i, r', a, by omega, c, d⟩
    | some r =>
      have hf : 0 ≤ findR (L.getD (lo + n) default) p := (findR_look _ _).1.2 (by rw [hl]; simp)
      rw [if_pos hf, (findR_look _ _).2 r hl]
      refine .inr ⟨lo + n, r, by omega, by omega, hl, rfl, rfl, fun i a b => by omega, ?_⟩
      show ((winN L p lo n).2.2 || stopsR r) = true ↔ _
      rw [Bool.or_eq_true]
      constructor
      · rintro (h | h)
        · rcases ih with ⟨h1, _⟩ | ⟨j, r2, _, _, _, _, _, _, h7⟩
          · rw [h1] at h; cases h
          · obtain ⟨i, r', a, b, c, d⟩ := h7.1 h; exact ⟨i, r', a, by omega, c, d⟩
        · exact ⟨lo + n, r, by omega, by omega, hl, h⟩
      · rintro ⟨i, r', a, b, c, d⟩
        by_cases e : i = lo + n
        · subst e; rw [hl] at c; rw [Option.some.inj c]; exact .inr d
        · left
          rcases ih with ⟨_, h2⟩ | ⟨j, r2, _, _, _, _, _, _, h7⟩
          · rw [h2 i a (by omega)] at c; cases c
          · exact h7.2 ⟨i, r', a, by omega, c, d⟩
/-- The winner of a path: the highest record from the cut on. -/
theorem winner_cases (L : List (List Rec)) (p : List UInt8) :
    (winR L p = none ∧ ∀ j, lowN L p ≤ j → j < L.length → lookR (L.getD j default) p = none) ∨
    ∃ j r x, lowN L p ≤ j ∧ j < L.length ∧ lookR (L.getD j default) p = some r ∧ winR L p = some x ∧ (winner L p).2 = (j : Int) + 1 ∧ (∀ i, j < i → i < L.length → lookR (L.getD i default) p = none) ∧
      x.kind = r.kind ∧ x.path = r.path ∧ x.body = r.body ∧ x.mode = r.mode ∧ (r.kind ≠ 3 → x = r) ∧ (r.kind = 3 → (x.opq = true ↔ ∃ i r', lowN L p ≤ i ∧ i < L.length ∧ lookR (L.getD i default) p = some r' ∧ stopsR r' = true)) := by
  have hlo := lowN_le L p
  have he : lowN L p + (L.length - lowN L p) = L.length := by omega
  rcases winN_spec L p (lowN L p) (L.length - lowN L p) with ⟨h1, h2⟩ | ⟨j, r, h1, h2, h3, h4, h5, h6, h7⟩
  · rw [he] at h2
    refine .inl ⟨?_, h2⟩
    unfold winR winner winner0
    rw [h1]; rfl
  · rw [he] at h2 h6 h7
    have hw : (winner L p).2 = (j : Int) + 1 := h5
    refine .inr ⟨j, r, (winner L p).1, h1, h2, h3, ?_, hw, h6, ?_⟩
    · unfold winR; rw [if_pos (by rw [hw]; omega)]
    · have hx : (winner L p).1 = closeW (winN L p (lowN L p) (L.length - lowN L p)) := rfl
      rw [hx]
      unfold closeW
      by_cases hk : r.kind = 3
      · rw [h4, if_pos hk]
        exact ⟨rfl, rfl, rfl, rfl, fun h => absurd hk h, fun _ => h7⟩
      · rw [h4, if_neg hk]
        exact ⟨rfl, rfl, rfl, rfl, fun _ => rfl, fun h => absurd h hk⟩
theorem getL_mem {L : List (List Rec)} {j : Nat} (h : j < L.length) : L.getD j default ∈ L := by rw [getD_el h]; exact List.getElem_mem h
theorem look_wins (L : List (List Rec)) (p : List UInt8) : lookR (winsL L) p = winR L p := by
  rw [(wins_spec L).2 p]
  by_cases h : p ∈ pathsL L
  · rw [if_pos h]
  · rw [if_neg h]
    rcases winner_cases L p with ⟨h1, _⟩ | ⟨j, r, x, _, h2, h3, _⟩
    · exact h1.symm
    · obtain ⟨g1, g2⟩ := lookR_some h3
      exact absurd (paths_mem.2 ⟨_, getL_mem h2, r, g1, g2⟩) h
theorem cuts_wins {L : List (List Rec)} {p : List UInt8} (hp : pathOK p = true) : cutsR (winsL L) p = decide (0 < cutD L p) := by
  rw [Bool.eq_iff_iff, decide_eq_true_eq]
  have hpos : ∀ i, i < L.length → cutsR (L.getD i default) p = true → 0 < cutD L p := fun i hi hc => by
    refine Classical.byContradiction fun h => ?_
    rw [cutD_above (j := i) (by omega) hi] at hc; cases hc
  constructor
  · intro h
    obtain ⟨y, hy, r, hr, hs⟩ := (cutsR_iff _ _).1 h
    rw [look_wins] at hr
    rcases winner_cases L y with ⟨h1, _⟩ | ⟨j, r0, x, _, h2, h3, h4, _, _, k1, _, _, _, k5, k6⟩
    · rw [h1] at hr; cases hr
    · rw [h4] at hr
      have hr := Option.some.inj hr
      subst hr
      by_cases hk : r0.kind = 3
      · have ho : x.opq = true := by simpa [stopsR, k1, hk] using hs
        obtain ⟨i, r', _, b, c, d⟩ := (k6 hk).1 ho
        exact hpos i b ((cutsR_iff _ _).2 ⟨y, hy, r', c, d⟩)
      · exact hpos j h2 ((cutsR_iff _ _).2 ⟨y, hy, r0, h3, by simp [stopsR, hk]⟩)
  · intro h
    obtain ⟨y, hy, r1, hr1, hs1⟩ := (cutsR_iff _ _).1 (cutD_at h)
    have hle := cutD_anc (L := L) hp hy
    have hin := cutD_in L p
    have hlo : lowN L y ≤ (cutD L p).toNat - 1 := by rw [lowN_def]; omega
    rcases winner_cases L y with ⟨_, h1⟩ | ⟨j, r0, x, h1, h2, h3, h4, _, _, k1, _, _, _, k5, k6⟩
    · rw [h1 _ hlo (by omega)] at hr1; cases hr1
    · refine (cutsR_iff _ _).2 ⟨y, hy, x, by rw [look_wins]; exact h4, ?_⟩
      by_cases hk : r0.kind = 3
      · have := (k6 hk).2 ⟨_, r1, hlo, by omega, hr1, hs1⟩
        simp [stopsR, this]
      · simp [stopsR, k1, hk]
theorem view_wins {L : List (List Rec)} {p : List UInt8} (hp : pathOK p = true) : viewR (winsL L) p = viewS L p := by
  have hcw := cuts_wins (L := L) hp
  have hin := cutD_in L p
  unfold viewS
  rcases winner_cases L p with ⟨h1, h2⟩ | ⟨j, r, x, h1, h2, h3, h4, _, h6, k1, k2, k3, k4, _⟩
  · have hl : viewR (winsL L) p = if cutsR (winsL L) p = true then some none else none := by
      unfold viewR; rw [look_wins, h1]
    rw [hl, hcw]
    by_cases hc : 0 < cutD L p
    · have hat : viewR (L.getD ((cutD L p).toNat - 1) default) p = some none := by
        unfold viewR
        rw [h2 _ (by rw [lowN_def]; omega) (by omega), cutD_at hc]; rfl
      rw [viewN_at hat L.length (by omega) fun i a b => ?_]
      · simp [hc]
      · unfold viewR
        rw [h2 i (by rw [lowN_def]; omega) b, cutD_above (by omega) b]; rfl
    · rw [viewN_none L.length fun i hi => ?_]
      · simp [hc]
      · unfold viewR
        rw [h2 i (by rw [lowN_def]; omega) hi, cutD_above (by omega) hi]; rfl
  · rw [view_rec (by rw [look_wins]; exact h4), show_same k1 k2 k3 k4]
    refine (viewN_at (j := j) (view_rec h3) L.length h2 fun i a b => ?_).symm
    unfold viewR
    rw [h6 i a b, cutD_above (by rw [lowN_def] at h1; omega) b]; rfl
theorem wins_Sheet {L : List (List Rec)} (h : stackOK L = true) : Sheet (winsL L) := by
  have hL := stack_Sheet h
  have hr := (wins_spec L).1
  refine ⟨hr, fun x hx => ?_, fun x hx hp => ?_⟩
  · have hl : lookR (winsL L) x.path = some x := lookR_mem hr hx
    rw [look_wins] at hl
    rcases winner_cases L x.path with ⟨h1, _⟩ | ⟨j, r, y, _, h2, h3, h4, _, _, k1, k2, k3, k4, k5, _⟩
    · rw [h1] at hl; cases hl
    · rw [h4] at hl
      have hl := Option.some.inj hl
      subst hl
      have hf := (hL _ (getL_mem h2)).fault h3
      by_cases hk : r.kind = 3
      · have := recFault_flag hf y.opq fun _ => hk
        rw [← k1, ← k2, ← k3, ← k4] at this
        exact this
      · rw [k5 hk]; exact hf
  · have hl : lookR (winsL L) x.path = some x := lookR_mem hr hx
    rw [look_wins] at hl
    rcases winner_cases L x.path with ⟨h1, _⟩ | ⟨j, r, y, h1, h2, h3, _⟩
    · rw [h1] at hl; cases hl
    · have hS := hL _ (getL_mem h2)
      have hpok := hS.path h3
      have hanc : parentP x.path ∈ ancs x.path := by rw [ancs_cons hp]; exact List.mem_cons_self
      obtain ⟨m0, g1, g2⟩ := hS.anc h3 hanc
      have hle := cutD_anc (L := L) hpok hanc
      rw [lowN_def] at h1
      rcases winner_cases L (parentP x.path) with ⟨_, w2⟩ | ⟨j', m, z, w1, w2, w3, w4, _, w6, k1, k2, _⟩
      · rw [w2 j (by rw [lowN_def]; omega) h2] at g1; cases g1
      · have hjj : j ≤ j' := by
          refine Classical.byContradiction fun hn => ?_
          rw [w6 j (by omega) h2] at g1; cases g1
        have hk : m.kind = 3 := by
          by_cases e : j' = j
          · subst e; rw [g1] at w3; rw [← Option.some.inj w3]; exact g2
          · refine Classical.byContradiction fun hk => ?_
            have hc : cutsR (L.getD j' default) x.path = true := (cutsR_iff _ _).2 ⟨_, hanc, m, w3, by simp [stopsR, hk]⟩
            have q9 : ∀ a b c : Nat, a - 1 ≤ b → b ≤ c → ¬ c = b → a ≤ c := by intro a b c; omega
            rw [cutD_above (j := j') (q9 _ _ _ h1 hjj e) w2] at hc; cases hc
        have hz : lookR (winsL L) (parentP x.path) = some z := by rw [look_wins]; exact w4
        obtain ⟨q1, q2⟩ := lookR_some hz
        exact ⟨z, q1, q2, by rw [k1]; exact hk⟩
/-- THE THEOREM OF ONE PASS. -/
theorem squashAll_merge {L : List (List Rec)} (h : stackOK L = true) : squashAllL L = mergeL L := by
  have h5 := (stackOK_of h).1
  rcases Nat.eq_zero_or_pos L.length with h0 | h0
  · have : L = [] := List.eq_nil_of_length_eq_zero h0
    subst this; rfl
  · obtain ⟨M, l, rfl, hM⟩ := list_snoc (L.length - 1) L (by omega)
    have hL := stack_Sheet h
    have hMs : ∀ x ∈ M, Sheet x := fun x hx => hL x (by simp [hx])
    have hl := hL l (by simp)
    have hS := squashAll_Sheet hMs
    have e : squashAllL (M ++ [l]) = canonL (twoR (squashAllL M) l) := by
      unfold squashAllL; rw [List.foldl_append]; rfl
    rw [e]
    have hlen : (squashAllL M).length ≤ 16 * M.length ∧ ∀ x ∈ M, x.length ≤ 16 := by
      have hx : ∀ x ∈ M, x.length ≤ 16 := fun x hx => layerOK_len ((stackOK_of h).2 x (by simp [hx]))
      refine ⟨?_, hx⟩
      have : ∀ (K : List (List Rec)) (acc : List Rec), (∀ x ∈ K, x.length ≤ 16) → (K.foldl squashL acc).length ≤ acc.length + 16 * K.length := by
        intro K
        induction K with
        | nil => intro acc _; simp
        | cons k K ih =>
          intro acc hk
          have h1 := ih (squashL acc k) fun x hx => hk x (by simp [hx])
          have h2 := squashL_len acc k
          have h3 := hk k (by simp)
          simp only [List.foldl_cons, List.length_cons]; omega
      have h9 := this M [] hx
      rw [List.length_nil, Nat.zero_add] at h9
      exact h9
    have hl16 : l.length ≤ 16 := layerOK_len ((stackOK_of h).2 l (by simp))
    refine canon_of_view (two_Sheet hS hl) (wins_Sheet h) ?_ fun p hp => ?_
    · have h1 := twoR_len (squashAllL M) l
      have h2 := wins_len h
      simp only [List.length_append, List.length_singleton] at h5
      omega
    · rw [view_two hS hl hp, view_squashAll hMs hp, view_wins hp, viewS_snoc]

end Go.UL
