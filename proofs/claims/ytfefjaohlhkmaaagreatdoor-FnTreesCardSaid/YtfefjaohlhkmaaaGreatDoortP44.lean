/- Plain Lean: what the functions compute. -/
import Derived.Test.YtfefjaohlhkmaaaGreatDoortP38
set_option linter.unusedVariables false
set_option linter.unusedSimpArgs false
namespace Go.UL
open Go.RowKit
/-! ### layers and trees that are drawn -/
def putOKb (n : Nat) (l : List Rec) (r : Rec) : Bool := sheetB l && pathOK r.path && decide ((cut 47 r.path).length ≤ n + 1) && decide (l.length ≤ 100)
theorem putOKb_of {n : Nat} {l : List Rec} {r : Rec} (h : putOKb n l r = true) : sheetB l = true ∧ pathOK r.path = true ∧ (cut 47 r.path).length ≤ n + 1 ∧ l.length ≤ 100 := by
  simp only [putOKb, Bool.and_eq_true, decide_eq_true_eq] at h
  exact ⟨h.1.1.1, h.1.1.2, h.1.2, h.2⟩
theorem putOKb_mk {n : Nat} {l : List Rec} {r : Rec} (h1 : sheetB l = true) (h2 : pathOK r.path = true) (h3 : (cut 47 r.path).length ≤ n + 1) (h4 : l.length ≤ 100) : putOKb n l r = true := by simp [putOKb, h1, h2, h3, h4]
def stepP (r x : Rec) (s : List Rec × Bool) : List Rec × Bool :=
  let s1 : List Rec × Bool := if (!s.2 && ltP r.path x.path) = true then (s.1 ++ [r], true) else s
  (if keepR r x = true then s1.1 ++ [x] else s1.1, s1.2)
theorem put_after (r : Rec) : ∀ (l : List Rec) (acc : List Rec), (l.foldl (fun s x => stepP r x s) (acc, true)) = (acc ++ l.filter (keepR r), true) := by
  intro l
  induction l with
  | nil => intro acc; simp
  | cons x l ih =>
    intro acc
    rw [List.foldl_cons]
    have e : stepP r x (acc, true) = (if keepR r x = true then acc ++ [x] else acc, true) := by simp [stepP]
    rw [e, ih]
    rcases bool_two (keepR r x) with h | h <;> simp [h]
theorem put_fold (r : Rec) : ∀ (l : List Rec), Rise (l.map (·.path)) → ∀ (acc : List Rec), (if (l.foldl (fun s x => stepP r x s) (acc, false)).2 = true then (l.foldl (fun s x => stepP r x s) (acc, false)).1 else (l.foldl (fun s x => stepP r x s) (acc, false)).1 ++ [r]) = acc ++ putR1 l r := by
  intro l
  induction l with
  | nil => intro _ acc; simp [putR1]
  | cons x l ih =>
    intro hr acc
    rw [List.map_cons] at hr
    have hgt := rise_lt hr
    rw [List.foldl_cons]
    rcases bool_two (ltP r.path x.path) with h | h
    · have hall : ∀ y ∈ x :: l, ltP r.path y.path = true := by
        intro y hy
        rcases List.mem_cons.1 hy with rfl | hy
        · exact h
        · exact ltP_trans h (hgt _ (List.mem_map_of_mem hy))
      have e : stepP r x (acc, false) = (if keepR r x = true then acc ++ [r] ++ [x] else acc ++ [r], true) := by simp [stepP, h]
      rw [e, put_after]
      have f1 : (x :: l).filter (fun y => keepR r y && ltP y.path r.path) = [] := by
        rw [List.filter_eq_nil_iff]
        intro y hy
        rw [ltP_asymm (hall y hy)]; simp
      have f2 : (x :: l).filter (fun y => keepR r y && ltP r.path y.path) = (x :: l).filter (keepR r) := by
        apply List.filter_congr
        intro y hy
        rw [hall y hy]; simp
      unfold putR1
      rw [f1, f2]
      rcases bool_two (keepR r x) with h2 | h2 <;> simp [h2]
    · have e : stepP r x (acc, false) = (if keepR r x = true then acc ++ [x] else acc, false) := by simp [stepP, h]
      rw [e, ih (rise_tl hr)]
      unfold putR1
      rcases bool_two (keepR r x) with h2 | h2
      · have hne : x.path ≠ r.path := by
          unfold keepR at h2
          intro e
          rw [decide_eq_true e] at h2; simp at h2
        have hlt : ltP x.path r.path = true := by
          rcases bool_two (ltP x.path r.path) with h3 | h3
          · exact h3
          · exact absurd (ltP_tri h3 h) hne
        simp [h2, h, hlt]
      · simp [h2]
theorem put_loop {ρ : Type} (l : List Rec) (r : Rec) (B : List Rec × Bool × Int → Option (Step ρ (List Rec × Bool × Int) (List Rec × Bool)))
    (hB : ∀ (i : Nat) (o : List Rec) (d : Bool), i < l.length → o.length ≤ 2 * i → B (o, d, (i : Int)) = some (.nxt ((stepP r (gt l (i : Int)) (o, d)).1, (stepP r (gt l (i : Int)) (o, d)).2, ((i + 1 : Nat) : Int))))
    (hn : ∀ o d, B (o, d, (l.length : Int)) = some (.brk (o, d))) : loopF B (l.length + 1) ([], false, 0) = some (.inr (l.foldl (fun s x => stepP r x s) ([], false))) := by
  have hlen : ∀ x (s : List Rec × Bool), (stepP r x s).1.length ≤ s.1.length + 2 := by
    intro x s
    unfold stepP
    simp only []
    split <;> split <;> simp
  have key : ∀ (d i k : Nat) (s : List Rec × Bool), i + d = l.length → d < k → s.1.length ≤ 2 * i → loopF B k (s.1, s.2, (i : Int)) = some (.inr ((l.drop i).foldl (fun s x => stepP r x s) s)) := by
    intro d
    induction d with
    | zero =>
      intro i k s hi hk hs
      obtain ⟨k, rfl⟩ : ∃ m, k = m + 1 := ⟨k - 1, by omega⟩
      have : i = l.length := by omega
      subst this
      rw [loopF, hn s.1 s.2, List.drop_length]; rfl
    | succ d ih =>
      intro i k s hi hk hs
      obtain ⟨k, rfl⟩ : ∃ m, k = m + 1 := ⟨k - 1, by omega⟩
      have hlt : i < l.length := by omega
      rw [loopF, hB i s.1 s.2 hlt hs, drop_gt hlt]
      have hl2 := hlen (gt l (i : Int)) (s.1, s.2)
      exact ih (i + 1) k _ (by omega) (by omega) (by simp only [] at hl2 ⊢; omega)
  exact key l.length 0 (l.length + 1) ([], false) (by omega) (by omega) (by simp)
theorem putR1_sheetB {l : List Rec} {r : Rec} (h : sheetB l = true) (hr : pathOK r.path = true) : sheetB (putR1 l r) = true := by
  refine sheetB_mk (fun x hx => ?_) (putR1_rise (sheetB_rise h))
  rcases mem_putR1.1 hx with rfl | ⟨h1, _⟩
  · exact hr
  · exact sheetB_path h x h1
theorem putR_sheetB : ∀ (n : Nat) (l : List Rec) (r : Rec), sheetB l = true → pathOK r.path = true → sheetB (putR n l r) = true := by
  intro n
  induction n with
  | zero => intro l r h hr; exact putR1_sheetB h hr
  | succ n ih =>
    intro l r h hr
    rw [putR]
    split
    · rename_i hc
      exact putR1_sheetB (ih _ _ h (pathOK_parent hr hc.1)) hr
    · exact putR1_sheetB h hr
theorem parent_depth {p : List UInt8} {n : Nat} (h : parentP p ≠ []) (hd : (cut 47 p).length ≤ n + 2) : (cut 47 (parentP p)).length ≤ n + 1 := by
  have := depth_below (below_parent h); omega
theorem hasDir_neg {l : List Rec} {p : List UInt8} (h : findR l p < 0) : hasDir l p = false := by
  unfold hasDir
  rw [decide_eq_false (by omega)]; rfl
theorem hasDir_pos {l : List Rec} {p : List UInt8} (h : ¬ findR l p < 0) : hasDir l p = decide ((gt l (findR l p)).kind = 3) := by
  unfold hasDir
  rw [decide_eq_true (by omega)]; rfl
def spec_l03Put0.b1 (a1 : Rec) (x0_13 : List Rec) : List Rec × Bool × Int → Option (Step (List Rec) (List Rec × Bool × Int) (List Rec × Bool)) :=
  fun q => match q with
  | (x7_47, x8_49, x9_50) => bif (decide (x9_50 < (x0_13.length : Int))) then (bif (!(!x8_49) || (inR x9_50 x0_13.length)) then (bif (!(!x8_49) || (decide (a1.path.length ≤ 1048576))) then (bif (!(!x8_49) || (decide (((gt x0_13 x9_50).path).length ≤ 1048576))) then ((bif ((!x8_49) && (lessL (cut 47 a1.path) (cut 47 ((gt x0_13 x9_50).path)))) then (bif decide ((x7_47.length + ([a1] : List Rec).length) * 56 ≤ 140737488355328) then (some (.inr (x7_47 ++ ([a1] : List Rec), true))) else none) else (some (.inr (x7_47, x8_49))) : Option ((Step (List Rec) (List Rec × Bool × Int) (List Rec × Bool)) ⊕ (List Rec × Bool))).bind fun z => match z with | .inl t => some t | .inr (x7_104, x8_106) => bif inR x9_50 x0_13.length then (bif (!((!decide (((gt x0_13 x9_50).path) = a1.path)) && (!(decide (a1.kind = 3)))) || (inR x9_50 x0_13.length)) then (bif ((!decide (((gt x0_13 x9_50).path) = a1.path)) && ((decide (a1.kind = 3)) || (!((decide (a1.path = []) && !decide (((gt x0_13 x9_50).path) = [])) || belowP ((gt x0_13 x9_50).path) a1.path)))) then (bif inR x9_50 x0_13.length then (bif decide ((x7_104.length + ([gt x0_13 x9_50] : List Rec).length) * 56 ≤ 140737488355328) then (some (.nxt (x7_104 ++ ([gt x0_13 x9_50] : List Rec), x8_106, IntKind.wrap .i64 (x9_50 + 1)))) else none) else none) else (some (.nxt (x7_104, x8_106, IntKind.wrap .i64 (x9_50 + 1))))) else none) else none) else none) else none) else none) else (some (.brk (x7_47, x8_49)))
def spec_l03Put0.sh (k : Nat) (a0 : List Rec) (a1 : Rec) : Option (List Rec) :=
  bif decide (a1.path.length ≤ 4611686018427387904) then ((bif (!decide ((parentP a1.path) = ([] : List UInt8))) then (bif decide (a0.length ≤ 1048576) then (((bif (decide ((findR a0 (parentP a1.path)) < 0)) then some true else (bif inR (findR a0 (parentP a1.path)) a0.length then (some (!decide (((gt a0 (findR a0 (parentP a1.path))).kind) = 3))) else none))).bind fun z20 => bif z20 then (bif decide (False) then (some (.inr ([] : List Rec))) else none) else (some (.inr a0))) else none) else (some (.inr a0)) : Option ((List Rec) ⊕ (List Rec))).bind fun z => match z with | .inl t => some t | .inr x0_13 => (loopF (spec_l03Put0.b1 a1 x0_13) k (([] : List Rec), false, 0)).bind fun z => match z with | .inl t => some t | .inr (x7_54, x8_56) => bif (!x8_56) then (bif decide ((x7_54.length + ([a1] : List Rec).length) * 56 ≤ 140737488355328) then (some (x7_54 ++ ([a1] : List Rec))) else none) else (some x7_54)) else none
theorem spec_l03Put0.body (a0 : List Rec) (a1 : Rec) (hs : sheetB a0 = true) (hp : pathOK a1.path = true) (hl : a0.length ≤ 200) :
    ((loopF (spec_l03Put0.b1 a1 a0) (a0.length + 1) (([] : List Rec), false, 0)).bind fun z => match z with | .inl t => some t | .inr (x7_54, x8_56) => bif (!x8_56) then (bif decide ((x7_54.length + ([a1] : List Rec).length) * 56 ≤ 140737488355328) then (some (x7_54 ++ ([a1] : List Rec))) else none) else (some x7_54)) = some (putR1 a0 a1) := by
  have hp1 := pathOK_small hp
  have hne := pathOK_ne hp
  have hlen : ∀ (l : List Rec) (s : List Rec × Bool), (l.foldl (fun s x => stepP a1 x s) s).1.length ≤ s.1.length + 2 * l.length := by
    intro l
    induction l with
    | nil => intro s; simp
    | cons x l ih =>
      intro s
      rw [List.foldl_cons]
      have h1 := ih (stepP a1 x s)
      have h2 : (stepP a1 x s).1.length ≤ s.1.length + 2 := by
        unfold stepP
        simp only []
        split <;> split <;> simp
      simp only [List.length_cons]; omega
  rw [put_loop a0 a1 (spec_l03Put0.b1 a1 a0) (fun i o d hi ho => by
    have hx := pathOK_small (sheetB_path hs _ (gt_mem (inR_nat hi)))
    have ho2 : ∀ m : Nat, m ≤ o.length + 2 → (decide (m * 56 ≤ 140737488355328)) = true := fun m hm => decide_eq_true (by omega)
    simp only [spec_l03Put0.b1, lt_nat, hi, decide_true, cond_true, inR_nat hi, decide_eq_true hp1, decide_eq_true hx, Bool.or_true, wrap_succ hi (by omega)]
    show ((bif (!d && ltP a1.path (gt a0 (i : Int)).path) then _ else _ : Option _).bind _) = _
    have hk : ((!decide (((gt a0 (i : Int)).path) = a1.path)) && ((decide (a1.kind = 3)) || (!((decide (a1.path = []) && !decide (((gt a0 (i : Int)).path) = [])) || belowP ((gt a0 (i : Int)).path) a1.path)))) = keepR a1 (gt a0 (i : Int)) := by
      rw [decide_eq_false hne]; simp [keepR]
    rw [hk]
    unfold stepP
    rw [ho2 (o.length + [a1].length) (by simp)]
    rcases bool_two (!d && ltP a1.path (gt a0 (i : Int)).path) with h1 | h1
    · rw [h1]
      simp only [cond_true, Option.bind_some, if_true]
      rw [ho2 ((o ++ [a1]).length + [gt a0 (i : Int)].length) (by simp)]
      rcases bool_two (keepR a1 (gt a0 (i : Int))) with h2 | h2 <;> simp [h2]
    · rw [h1]
      simp only [cond_false, Option.bind_some, Bool.false_eq_true, if_false]
      rw [ho2 (o.length + [gt a0 (i : Int)].length) (by simp)]
      rcases bool_two (keepR a1 (gt a0 (i : Int))) with h2 | h2 <;> simp [h2]) (fun o d => by simp [spec_l03Put0.b1])]
  have hf := put_fold a1 a0 (sheetB_rise hs) []
  have hl2 := hlen a0 ([], false)
  obtain ⟨s, hs2⟩ : ∃ s, a0.foldl (fun s x => stepP a1 x s) ([], false) = s := ⟨_, rfl⟩
  rw [hs2] at hf hl2 ⊢
  obtain ⟨o, d⟩ := s
  simp only [List.nil_append, List.length_nil] at hf hl2
  simp only [Option.bind_some]
  have hd : decide ((o.length + [a1].length) * 56 ≤ 140737488355328) = true := decide_eq_true (by simp; omega)
  rw [hd]
  cases d with
  | true => simpa using hf
  | false => simpa using hf
theorem spec_l03Put0.eq (a0 : List Rec) (a1 : Rec) (h : putOKb 0 a0 a1 = true) : ∃ k, spec_l03Put0.sh k a0 a1 = some (putR 0 a0 a1) := by
  obtain ⟨h1, h2, h3, h4⟩ := putOKb_of h
  have hpar : parentP a1.path = [] := by
    by_cases hp : parentP a1.path = []
    · exact hp
    · have := parent_short hp; omega
  have hpl := pathOK_small h2
  have hd : decide (a1.path.length ≤ 4611686018427387904) = true := decide_eq_true (by omega)
  refine ⟨a0.length + 1, ?_⟩
  unfold spec_l03Put0.sh
  simp only [hd, hpar, cond_true, decide_true, Bool.not_true, cond_false, Option.bind_some]
  exact spec_l03Put0.body a0 a1 h1 h2 (by omega)
def spec_l03Put1.b1 (a1 : Rec) (x0_13 : List Rec) : List Rec × Bool × Int → Option (Step (List Rec) (List Rec × Bool × Int) (List Rec × Bool)) :=
  fun q => match q with
  | (x7_47, x8_49, x9_50) => bif (decide (x9_50 < (x0_13.length : Int))) then (bif (!(!x8_49) || (inR x9_50 x0_13.length)) then (bif (!(!x8_49) || (decide (a1.path.length ≤ 1048576))) then (bif (!(!x8_49) || (decide (((gt x0_13 x9_50).path).length ≤ 1048576))) then ((bif ((!x8_49) && (lessL (cut 47 a1.path) (cut 47 ((gt x0_13 x9_50).path)))) then (bif decide ((x7_47.length + ([a1] : List Rec).length) * 56 ≤ 140737488355328) then (some (.inr (x7_47 ++ ([a1] : List Rec), true))) else none) else (some (.inr (x7_47, x8_49))) : Option ((Step (List Rec) (List Rec × Bool × Int) (List Rec × Bool)) ⊕ (List Rec × Bool))).bind fun z => match z with | .inl t => some t | .inr (x7_104, x8_106) => bif inR x9_50 x0_13.length then (bif (!((!decide (((gt x0_13 x9_50).path) = a1.path)) && (!(decide (a1.kind = 3)))) || (inR x9_50 x0_13.length)) then (bif ((!decide (((gt x0_13 x9_50).path) = a1.path)) && ((decide (a1.kind = 3)) || (!((decide (a1.path = []) && !decide (((gt x0_13 x9_50).path) = [])) || belowP ((gt x0_13 x9_50).path) a1.path)))) then (bif inR x9_50 x0_13.length then (bif decide ((x7_104.length + ([gt x0_13 x9_50] : List Rec).length) * 56 ≤ 140737488355328) then (some (.nxt (x7_104 ++ ([gt x0_13 x9_50] : List Rec), x8_106, IntKind.wrap .i64 (x9_50 + 1)))) else none) else none) else (some (.nxt (x7_104, x8_106, IntKind.wrap .i64 (x9_50 + 1))))) else none) else none) else none) else none) else none) else (some (.brk (x7_47, x8_49)))
def spec_l03Put1.sh (k : Nat) (a0 : List Rec) (a1 : Rec) : Option (List Rec) :=
  bif decide (a1.path.length ≤ 4611686018427387904) then ((bif (!decide ((parentP a1.path) = ([] : List UInt8))) then (bif decide (a0.length ≤ 1048576) then (((bif (decide ((findR a0 (parentP a1.path)) < 0)) then some true else (bif inR (findR a0 (parentP a1.path)) a0.length then (some (!decide (((gt a0 (findR a0 (parentP a1.path))).kind) = 3))) else none))).bind fun z20 => bif z20 then (bif decide (putOKb 0 a0 (⟨3, (parentP a1.path), ([] : List UInt8), 493, false⟩ : Rec) = true) then (some (.inr (putR 0 a0 (⟨3, (parentP a1.path), ([] : List UInt8), 493, false⟩ : Rec)))) else none) else (some (.inr a0))) else none) else (some (.inr a0)) : Option ((List Rec) ⊕ (List Rec))).bind fun z => match z with | .inl t => some t | .inr x0_13 => (loopF (spec_l03Put1.b1 a1 x0_13) k (([] : List Rec), false, 0)).bind fun z => match z with | .inl t => some t | .inr (x7_54, x8_56) => bif (!x8_56) then (bif decide ((x7_54.length + ([a1] : List Rec).length) * 56 ≤ 140737488355328) then (some (x7_54 ++ ([a1] : List Rec))) else none) else (some x7_54)) else none
theorem spec_l03Put1.body (a0 : List Rec) (a1 : Rec) (hs : sheetB a0 = true) (hp : pathOK a1.path = true) (hl : a0.length ≤ 200) :
    ((loopF (spec_l03Put1.b1 a1 a0) (a0.length + 1) (([] : List Rec), false, 0)).bind fun z => match z with | .inl t => some t | .inr (x7_54, x8_56) => bif (!x8_56) then (bif decide ((x7_54.length + ([a1] : List Rec).length) * 56 ≤ 140737488355328) then (some (x7_54 ++ ([a1] : List Rec))) else none) else (some x7_54)) = some (putR1 a0 a1) := by
  have hp1 := pathOK_small hp
  have hne := pathOK_ne hp
  have hlen : ∀ (l : List Rec) (s : List Rec × Bool), (l.foldl (fun s x => stepP a1 x s) s).1.length ≤ s.1.length + 2 * l.length := by
    intro l
    induction l with
    | nil => intro s; simp
    | cons x l ih =>
      intro s
      rw [List.foldl_cons]
      have h1 := ih (stepP a1 x s)
      have h2 : (stepP a1 x s).1.length ≤ s.1.length + 2 := by
        unfold stepP
        simp only []
        split <;> split <;> simp
      simp only [List.length_cons]; omega
  rw [put_loop a0 a1 (spec_l03Put1.b1 a1 a0) (fun i o d hi ho => by
    have hx := pathOK_small (sheetB_path hs _ (gt_mem (inR_nat hi)))
    have ho2 : ∀ m : Nat, m ≤ o.length + 2 → (decide (m * 56 ≤ 140737488355328)) = true := fun m hm => decide_eq_true (by omega)
    simp only [spec_l03Put1.b1, lt_nat, hi, decide_true, cond_true, inR_nat hi, decide_eq_true hp1, decide_eq_true hx, Bool.or_true, wrap_succ hi (by omega)]
    show ((bif (!d && ltP a1.path (gt a0 (i : Int)).path) then _ else _ : Option _).bind _) = _
    have hk : ((!decide (((gt a0 (i : Int)).path) = a1.path)) && ((decide (a1.kind = 3)) || (!((decide (a1.path = []) && !decide (((gt a0 (i : Int)).path) = [])) || belowP ((gt a0 (i : Int)).path) a1.path)))) = keepR a1 (gt a0 (i : Int)) := by
      rw [decide_eq_false hne]; simp [keepR]
    rw [hk]
    unfold stepP
    rw [ho2 (o.length + [a1].length) (by simp)]
    rcases bool_two (!d && ltP a1.path (gt a0 (i : Int)).path) with h1 | h1
    · rw [h1]
      simp only [cond_true, Option.bind_some, if_true]
      rw [ho2 ((o ++ [a1]).length + [gt a0 (i : Int)].length) (by simp)]
      rcases bool_two (keepR a1 (gt a0 (i : Int))) with h2 | h2 <;> simp [h2]
    · rw [h1]
      simp only [cond_false, Option.bind_some, Bool.false_eq_true, if_false]
      rw [ho2 (o.length + [gt a0 (i : Int)].length) (by simp)]
      rcases bool_two (keepR a1 (gt a0 (i : Int))) with h2 | h2 <;> simp [h2]) (fun o d => by simp [spec_l03Put1.b1])]
  have hf := put_fold a1 a0 (sheetB_rise hs) []
  have hl2 := hlen a0 ([], false)
  obtain ⟨s, hs2⟩ : ∃ s, a0.foldl (fun s x => stepP a1 x s) ([], false) = s := ⟨_, rfl⟩
  rw [hs2] at hf hl2 ⊢
  obtain ⟨o, d⟩ := s
  simp only [List.nil_append, List.length_nil] at hf hl2
  simp only [Option.bind_some]
  have hd : decide ((o.length + [a1].length) * 56 ≤ 140737488355328) = true := decide_eq_true (by simp; omega)
  rw [hd]
  cases d with
  | true => simpa using hf
  | false => simpa using hf
theorem spec_l03Put1.eq (a0 : List Rec) (a1 : Rec) (h : putOKb 1 a0 a1 = true) : ∃ k, spec_l03Put1.sh k a0 a1 = some (putR 1 a0 a1) := by
  obtain ⟨h1, h2, h3, h4⟩ := putOKb_of h
  have hpl := pathOK_small h2
  have hd : decide (a1.path.length ≤ 4611686018427387904) = true := decide_eq_true (by omega)
  have hd2 : decide (a0.length ≤ 1048576) = true := decide_eq_true (by omega)
  have plain : hasDir a0 (parentP a1.path) = true ∨ parentP a1.path = [] → putR 1 a0 a1 = putR1 a0 a1 := by
    intro hc
    rw [putR, if_neg]
    rintro ⟨c1, c2⟩
    rcases hc with hc | hc
    · rw [hc] at c2; cases c2
    · exact c1 hc
  have made : parentP a1.path ≠ [] → hasDir a0 (parentP a1.path) = false → putOKb 0 a0 ⟨3, parentP a1.path, [], 493, false⟩ = true ∧ ∃ k, ((loopF (spec_l03Put1.b1 a1 (putR 0 a0 ⟨3, parentP a1.path, [], 493, false⟩)) k (([] : List Rec), false, 0)).bind fun z => match z with | .inl t => some t | .inr (x7_54, x8_56) => bif (!x8_56) then (bif decide ((x7_54.length + ([a1] : List Rec).length) * 56 ≤ 140737488355328) then (some (x7_54 ++ ([a1] : List Rec))) else none) else (some x7_54)) = some (putR 1 a0 a1) := by
    intro hp hd
    have hpp := pathOK_parent h2 hp
    have hk := putOKb_mk (n := 0) (l := a0) (r := ⟨3, parentP a1.path, [], 493, false⟩) h1 hpp (parent_depth hp h3) h4
    refine ⟨hk, (putR 0 a0 ⟨3, parentP a1.path, [], 493, false⟩).length + 1, ?_⟩
    have e9 : putR 1 a0 a1 = putR1 (putR 0 a0 ⟨3, parentP a1.path, [], 493, false⟩) a1 := (show _ = putR1 (if parentP a1.path ≠ [] ∧ hasDir a0 (parentP a1.path) = false then _ else a0) a1 from rfl).trans (by rw [if_pos ⟨hp, hd⟩])
    rw [e9]
    have hl := putR_len 0 a0 ⟨3, parentP a1.path, [], 493, false⟩
    exact spec_l03Put1.body _ a1 (putR_sheetB 0 _ _ h1 hpp) h2 (by omega)
  by_cases hp : parentP a1.path = []
  · refine ⟨a0.length + 1, ?_⟩
    rw [plain (.inr hp)]
    unfold spec_l03Put1.sh
    simp only [hd, hp, cond_true, decide_true, Bool.not_true, cond_false, Option.bind_some]
    exact spec_l03Put1.body a0 a1 h1 h2 (by omega)
  · by_cases hf : findR a0 (parentP a1.path) < 0
    · obtain ⟨hk, k, e⟩ := made hp (hasDir_neg hf)
      refine ⟨k, ?_⟩
      unfold spec_l03Put1.sh
      simp only [hd, hd2, decide_eq_false hp, decide_eq_true hf, cond_true, Bool.not_false, Option.bind_some, hk, decide_true]
      exact e
    · have hr := findR_in hf
      by_cases hkd : (gt a0 (findR a0 (parentP a1.path))).kind = 3
      · refine ⟨a0.length + 1, ?_⟩
        rw [plain (.inl (by rw [hasDir_pos hf, decide_eq_true hkd]))]
        unfold spec_l03Put1.sh
        simp only [hd, hd2, decide_eq_false hp, decide_eq_false hf, cond_true, cond_false, Bool.not_false, Option.bind_some, hr, decide_eq_true hkd, Bool.not_true]
        exact spec_l03Put1.body a0 a1 h1 h2 (by omega)
      · obtain ⟨hk, k, e⟩ := made hp (by rw [hasDir_pos hf, decide_eq_false hkd])
        refine ⟨k, ?_⟩
        unfold spec_l03Put1.sh
        simp only [hd, hd2, decide_eq_false hp, decide_eq_false hf, cond_true, cond_false, Bool.not_false, Option.bind_some, hr, decide_eq_false hkd, hk, decide_true]
        exact e
def spec_l03Put.b1 (a1 : Rec) (x0_13 : List Rec) : List Rec × Bool × Int → Option (Step (List Rec) (List Rec × Bool × Int) (List Rec × Bool)) :=
  fun q => match q with
  | (x7_47, x8_49, x9_50) => bif (decide (x9_50 < (x0_13.length : Int))) then (bif (!(!x8_49) || (inR x9_50 x0_13.length)) then (bif (!(!x8_49) || (decide (a1.path.length ≤ 1048576))) then (bif (!(!x8_49) || (decide (((gt x0_13 x9_50).path).length ≤ 1048576))) then ((bif ((!x8_49) && (lessL (cut 47 a1.path) (cut 47 ((gt x0_13 x9_50).path)))) then (bif decide ((x7_47.length + ([a1] : List Rec).length) * 56 ≤ 140737488355328) then (some (.inr (x7_47 ++ ([a1] : List Rec), true))) else none) else (some (.inr (x7_47, x8_49))) : Option ((Step (List Rec) (List Rec × Bool × Int) (List Rec × Bool)) ⊕ (List Rec × Bool))).bind fun z => match z with | .inl t => some t | .inr (x7_104, x8_106) => bif inR x9_50 x0_13.length then (bif (!((!decide (((gt x0_13 x9_50).path) = a1.path)) && (!(decide (a1.kind = 3)))) || (inR x9_50 x0_13.length)) then (bif ((!decide (((gt x0_13 x9_50).path) = a1.path)) && ((decide (a1.kind = 3)) || (!((decide (a1.path = []) && !decide (((gt x0_13 x9_50).path) = [])) || belowP ((gt x0_13 x9_50).path) a1.path)))) then (bif inR x9_50 x0_13.length then (bif decide ((x7_104.length + ([gt x0_13 x9_50] : List Rec).length) * 56 ≤ 140737488355328) then (some (.nxt (x7_104 ++ ([gt x0_13 x9_50] : List Rec), x8_106, IntKind.wrap .i64 (x9_50 + 1)))) else none) else none) else (some (.nxt (x7_104, x8_106, IntKind.wrap .i64 (x9_50 + 1))))) else none) else none) else none) else none) else none) else (some (.brk (x7_47, x8_49)))
def spec_l03Put.sh (k : Nat) (a0 : List Rec) (a1 : Rec) : Option (List Rec) :=
  bif decide (a1.path.length ≤ 4611686018427387904) then ((bif (!decide ((parentP a1.path) = ([] : List UInt8))) then (bif decide (a0.length ≤ 1048576) then (((bif (decide ((findR a0 (parentP a1.path)) < 0)) then some true else (bif inR (findR a0 (parentP a1.path)) a0.length then (some (!decide (((gt a0 (findR a0 (parentP a1.path))).kind) = 3))) else none))).bind fun z20 => bif z20 then (bif decide (putOKb 1 a0 (⟨3, (parentP a1.path), ([] : List UInt8), 493, false⟩ : Rec) = true) then (some (.inr (putR 1 a0 (⟨3, (parentP a1.path), ([] : List UInt8), 493, false⟩ : Rec)))) else none) else (some (.inr a0))) else none) else (some (.inr a0)) : Option ((List Rec) ⊕ (List Rec))).bind fun z => match z with | .inl t => some t | .inr x0_13 => (loopF (spec_l03Put.b1 a1 x0_13) k (([] : List Rec), false, 0)).bind fun z => match z with | .inl t => some t | .inr (x7_54, x8_56) => bif (!x8_56) then (bif decide ((x7_54.length + ([a1] : List Rec).length) * 56 ≤ 140737488355328) then (some (x7_54 ++ ([a1] : List Rec))) else none) else (some x7_54)) else none
theorem spec_l03Put.body (a0 : List Rec) (a1 : Rec) (hs : sheetB a0 = true) (hp : pathOK a1.path = true) (hl : a0.length ≤ 200) :
    ((loopF (spec_l03Put.b1 a1 a0) (a0.length + 1) (([] : List Rec), false, 0)).bind fun z => match z with | .inl t => some t | .inr (x7_54, x8_56) => bif (!x8_56) then (bif decide ((x7_54.length + ([a1] : List Rec).length) * 56 ≤ 140737488355328) then (some (x7_54 ++ ([a1] : List Rec))) else none) else (some x7_54)) = some (putR1 a0 a1) := by
  have hp1 := pathOK_small hp
  have hne := pathOK_ne hp
  have hlen : ∀ (l : List Rec) (s : List Rec × Bool), (l.foldl (fun s x => stepP a1 x s) s).1.length ≤ s.1.length + 2 * l.length := by
    intro l
    induction l with
    | nil => intro s; simp
    | cons x l ih =>
      intro s
      rw [List.foldl_cons]
      have h1 := ih (stepP a1 x s)
      have h2 : (stepP a1 x s).1.length ≤ s.1.length + 2 := by
        unfold stepP
        simp only []
        split <;> split <;> simp
      simp only [List.length_cons]; omega
  rw [put_loop a0 a1 (spec_l03Put.b1 a1 a0) (fun i o d hi ho => by
    have hx := pathOK_small (sheetB_path hs _ (gt_mem (inR_nat hi)))
    have ho2 : ∀ m : Nat, m ≤ o.length + 2 → (decide (m * 56 ≤ 140737488355328)) = true := fun m hm => decide_eq_true (by omega)
    simp only [spec_l03Put.b1, lt_nat, hi, decide_true, cond_true, inR_nat hi, decide_eq_true hp1, decide_eq_true hx, Bool.or_true, wrap_succ hi (by omega)]
    show ((bif (!d && ltP a1.path (gt a0 (i : Int)).path) then _ else _ : Option _).bind _) = _
    have hk : ((!decide (((gt a0 (i : Int)).path) = a1.path)) && ((decide (a1.kind = 3)) || (!((decide (a1.path = []) && !decide (((gt a0 (i : Int)).path) = [])) || belowP ((gt a0 (i : Int)).path) a1.path)))) = keepR a1 (gt a0 (i : Int)) := by
      rw [decide_eq_false hne]; simp [keepR]
    rw [hk]
    unfold stepP
    rw [ho2 (o.length + [a1].length) (by simp)]
    rcases bool_two (!d && ltP a1.path (gt a0 (i : Int)).path) with h1 | h1
    · rw [h1]
      simp only [cond_true, Option.bind_some, if_true]
      rw [ho2 ((o ++ [a1]).length + [gt a0 (i : Int)].length) (by simp)]
      rcases bool_two (keepR a1 (gt a0 (i : Int))) with h2 | h2 <;> simp [h2]
    · rw [h1]
      simp only [cond_false, Option.bind_some, Bool.false_eq_true, if_false]
      rw [ho2 (o.length + [gt a0 (i : Int)].length) (by simp)]
      rcases bool_two (keepR a1 (gt a0 (i : Int))) with h2 | h2 <;> simp [h2]) (fun o d => by simp [spec_l03Put.b1])]
  have hf := put_fold a1 a0 (sheetB_rise hs) []
  have hl2 := hlen a0 ([], false)
  obtain ⟨s, hs2⟩ : ∃ s, a0.foldl (fun s x => stepP a1 x s) ([], false) = s := ⟨_, rfl⟩
  rw [hs2] at hf hl2 ⊢
  obtain ⟨o, d⟩ := s
  simp only [List.nil_append, List.length_nil] at hf hl2
  simp only [Option.bind_some]
  have hd : decide ((o.length + [a1].length) * 56 ≤ 140737488355328) = true := decide_eq_true (by simp; omega)
  rw [hd]
  cases d with
  | true => simpa using hf
  | false => simpa using hf
theorem spec_l03Put.eq (a0 : List Rec) (a1 : Rec) (h : putOKb 2 a0 a1 = true) : ∃ k, spec_l03Put.sh k a0 a1 = some (putR 2 a0 a1) := by
  obtain ⟨h1, h2, h3, h4⟩ := putOKb_of h
  have hpl := pathOK_small h2
  have hd : decide (a1.path.length ≤ 4611686018427387904) = true := decide_eq_true (by omega)
  have hd2 : decide (a0.length ≤ 1048576) = true := decide_eq_true (by omega)
  have plain : hasDir a0 (parentP a1.path) = true ∨ parentP a1.path = [] → putR 2 a0 a1 = putR1 a0 a1 := by
    intro hc
    rw [putR, if_neg]
    rintro ⟨c1, c2⟩
    rcases hc with hc | hc
    · rw [hc] at c2; cases c2
    · exact c1 hc
  have made : parentP a1.path ≠ [] → hasDir a0 (parentP a1.path) = false → putOKb 1 a0 ⟨3, parentP a1.path, [], 493, false⟩ = true ∧ ∃ k, ((loopF (spec_l03Put.b1 a1 (putR 1 a0 ⟨3, parentP a1.path, [], 493, false⟩)) k (([] : List Rec), false, 0)).bind fun z => match z with | .inl t => some t | .inr (x7_54, x8_56) => bif (!x8_56) then (bif decide ((x7_54.length + ([a1] : List Rec).length) * 56 ≤ 140737488355328) then (some (x7_54 ++ ([a1] : List Rec))) else none) else (some x7_54)) = some (putR 2 a0 a1) := by
    intro hp hd
    have hpp := pathOK_parent h2 hp
    have hk := putOKb_mk (n := 1) (l := a0) (r := ⟨3, parentP a1.path, [], 493, false⟩) h1 hpp (parent_depth hp h3) h4
    refine ⟨hk, (putR 1 a0 ⟨3, parentP a1.path, [], 493, false⟩).length + 1, ?_⟩
    have e9 : putR 2 a0 a1 = putR1 (putR 1 a0 ⟨3, parentP a1.path, [], 493, false⟩) a1 := (show _ = putR1 (if parentP a1.path ≠ [] ∧ hasDir a0 (parentP a1.path) = false then _ else a0) a1 from rfl).trans (by rw [if_pos ⟨hp, hd⟩])
    rw [e9]
    have hl := putR_len 1 a0 ⟨3, parentP a1.path, [], 493, false⟩
    exact spec_l03Put.body _ a1 (putR_sheetB 1 _ _ h1 hpp) h2 (by omega)
  by_cases hp : parentP a1.path = []
  · refine ⟨a0.length + 1, ?_⟩
    rw [plain (.inr hp)]
    unfold spec_l03Put.sh
    simp only [hd, hp, cond_true, decide_true, Bool.not_true, cond_false, Option.bind_some]
    exact spec_l03Put.body a0 a1 h1 h2 (by omega)
  · by_cases hf : findR a0 (parentP a1.path) < 0
    · obtain ⟨hk, k, e⟩ := made hp (hasDir_neg hf)
      refine ⟨k, ?_⟩
      unfold spec_l03Put.sh
      simp only [hd, hd2, decide_eq_false hp, decide_eq_true hf, cond_true, Bool.not_false, Option.bind_some, hk, decide_true]
      exact e
    · have hr := findR_in hf
      by_cases hkd : (gt a0 (findR a0 (parentP a1.path))).kind = 3
      · refine ⟨a0.length + 1, ?_⟩
        rw [plain (.inl (by rw [hasDir_pos hf, decide_eq_true hkd]))]
        unfold spec_l03Put.sh
        simp only [hd, hd2, decide_eq_false hp, decide_eq_false hf, cond_true, cond_false, Bool.not_false, Option.bind_some, hr, decide_eq_true hkd, Bool.not_true]
        exact spec_l03Put.body a0 a1 h1 h2 (by omega)
      · obtain ⟨hk, k, e⟩ := made hp (by rw [hasDir_pos hf, decide_eq_false hkd])
        refine ⟨k, ?_⟩
        unfold spec_l03Put.sh
        simp only [hd, hd2, decide_eq_false hp, decide_eq_false hf, cond_true, cond_false, Bool.not_false, Option.bind_some, hr, decide_eq_false hkd, hk, decide_true]
        exact e
theorem Sheet.bool {l : List Rec} (h : Sheet l) : sheetB l = true := sheetB_mk (fun x hx => recFault_path (h.ok x hx)) h.rise
theorem mem_putR : ∀ (n : Nat) (l : List Rec) (r x : Rec), x ∈ putR n l r → x = r ∨ x ∈ l ∨ (x.kind = 3 ∧ (cut 47 x.path).length ≤ (cut 47 r.path).length) := by
  intro n
  induction n with
  | zero =>
    intro l r x hx
    rcases mem_putR1.1 hx with h | ⟨h, _⟩
    · exact .inl h
    · exact .inr (.inl h)
  | succ n ih =>
    intro l r x hx
    rw [putR] at hx
    rcases mem_putR1.1 hx with h | ⟨h, _⟩
    · exact .inl h
    · split at h
      · rename_i hc
        have hd := depth_below (below_parent hc.1)
        rcases ih _ _ _ h with h2 | h2 | ⟨h2, h3⟩
        · subst h2; exact .inr (.inr ⟨rfl, Nat.le_of_lt hd⟩)
        · exact .inr (.inl h2)
        · exact .inr (.inr ⟨h2, Nat.le_trans h3 (Nat.le_of_lt hd)⟩)
      · exact .inr (.inl h)
/-- A layer as it is drawn. -/
structure Lay (l : List Rec) : Prop where
  sheet : Sheet l
  len : l.length ≤ 16
  deep : ∀ r ∈ l, (cut 47 r.path).length ≤ 3
theorem Lay.nil : Lay [] := ⟨Sheet.nil, by simp, by simp⟩
theorem put_ok {l : List Rec} {r : Rec} (hl : Lay l) (hr : recFault r = 0) (hd : (cut 47 r.path).length ≤ 3) : putOKb 2 l r = true ∧ ((putR 2 l r).length ≤ 16 → Lay (putR 2 l r)) := by
  have h16 := hl.len
  refine ⟨putOKb_mk hl.sheet.bool (recFault_path hr) (by omega) (by omega), fun h => ⟨(putR_Sheet 2 l r hl.sheet hr (by omega)).1, h, fun x hx => ?_⟩⟩
  rcases mem_putR 2 l r x hx with rfl | h2 | ⟨_, h2⟩
  · exact hd
  · exact hl.deep x h2
  · omega
/-! trees -/
theorem no_white {r : Rec} (h : recFault r = 0) : recFault ⟨if r.kind = 4 then 3 else r.kind, r.path, r.body, r.mode, false⟩ = 0 := by
  by_cases hk : r.kind = 4
  · obtain ⟨h1, h2, h3, h4, h5⟩ := (recFault_parts r).1 h
    rw [if_pos hk]
    have hb : r.body = [] := by
      have : ((decide (r.kind = 3) || decide (r.kind = 4)) && !decide (r.body = [])) = false := (Bool.or_eq_false_iff.1 h4).1
      rw [decide_eq_true hk] at this
      simpa using this
    have hm : r.mode = 0 := by
      have : ((decide (r.kind = 2) || decide (r.kind = 4)) && !decide (r.mode = 0)) = false := (Bool.or_eq_false_iff.1 h5).2
      rw [decide_eq_true hk] at this
      simpa using this
    rw [hb, hm]
    exact fault_mk (by decide) h2 (by decide) (by decide) (by decide)
  · rw [if_neg hk]; exact recFault_flag h false (by simp)
def draw_tree.b1 (a0 : List Int) : List Rec × Int × DSrc → Option (Step (List Nd × DSrc) (List Rec × Int × DSrc) (List Rec × DSrc)) :=
  fun q => match q with
  | (x3_21, x4_23, y24) => bif (decide (0 < x4_23)) then (((draw_path.sh 4 a0 y24)).bind fun z48 => ((draw_record.sh a0 z48.2 z48.1)).bind fun z55 => bif (decide (z55.1.kind = 4)) then (bif decide (putOKb 2 x3_21 (⟨3, z55.1.path, z55.1.body, z55.1.mode, false⟩ : Rec) = true) then (bif (decide (((putR 2 x3_21 (⟨3, z55.1.path, z55.1.body, z55.1.mode, false⟩ : Rec)).length : Int) ≤ 16)) then (some (.nxt ((putR 2 x3_21 (⟨3, z55.1.path, z55.1.body, z55.1.mode, false⟩ : Rec)), IntKind.wrap .i64 (x4_23 - 1), z55.2))) else (some (.nxt (x3_21, IntKind.wrap .i64 (x4_23 - 1), z55.2)))) else none) else (bif decide (putOKb 2 x3_21 (⟨z55.1.kind, z55.1.path, z55.1.body, z55.1.mode, false⟩ : Rec) = true) then (bif (decide (((putR 2 x3_21 (⟨z55.1.kind, z55.1.path, z55.1.body, z55.1.mode, false⟩ : Rec)).length : Int) ≤ 16)) then (some (.nxt ((putR 2 x3_21 (⟨z55.1.kind, z55.1.path, z55.1.body, z55.1.mode, false⟩ : Rec)), IntKind.wrap .i64 (x4_23 - 1), z55.2))) else (some (.nxt (x3_21, IntKind.wrap .i64 (x4_23 - 1), z55.2)))) else none)) else (some (.brk (x3_21, y24)))
def draw_tree.b2 (x3_28 : List Rec) : List Nd × Int → Option (Step (List Nd × DSrc) (List Nd × Int) (List Nd)) :=
  fun q => match q with
  | (x7_100, x8_102) => bif (decide (x8_102 < (x3_28.length : Int))) then (bif inR x8_102 x3_28.length then (bif decide ((x7_100.length + ([(ndOf (gt x3_28 x8_102))] : List Nd).length) * 48 ≤ 140737488355328) then (some (.nxt (x7_100 ++ ([(ndOf (gt x3_28 x8_102))] : List Nd), IntKind.wrap .i64 (x8_102 + 1)))) else none) else none) else (some (.brk x7_100))
def draw_tree.sh (k : Nat) (a0 : List Int) (a1 : DSrc) : Option (List Nd × DSrc) :=
  ((draw_room.sh a0 a1 7)).bind fun z7 => ((draw_next.sh a0 z7.2 (IntKind.wrap .i64 (z7.1 + 2)))).bind fun z14 => (loopF (draw_tree.b1 a0) k (([] : List Rec), z14.1, z14.2)).bind fun z => match z with | .inl t => some t | .inr (x3_28, y30) => (loopF (draw_tree.b2 x3_28) k (([] : List Nd), 0)).bind fun z => match z with | .inl t => some t | .inr x7_106 => some (x7_106, y30)
theorem draw_tree.eq (a0 : List Int) (a1 : DSrc) {r : List Nd × DSrc} (H : draw_tree.sh 24 a0 a1 = some r) : ∃ k, draw_tree.sh k a0 a1 = some r := ⟨24, H⟩
theorem tree_loop {code : List Int} (hc : ∀ x ∈ code, okB x) (hl : code.length ≤ 1048577) : ∀ (i : Nat) (k : Nat) (n : Int) (l : List Rec) (s : DSrc), n + 24 * i ≤ 400000000 → i < k → Lay l → (∀ r ∈ l, r.kind ≠ 4) → SrcOK n s →
    ∃ l' s', loopF (draw_tree.b1 code) k (l, (i : Int), s) = some (.inr (l', s')) ∧ Lay l' ∧ (∀ r ∈ l', r.kind ≠ 4) ∧ SrcOK (n + 24 * i) s' := by
  intro i
  induction i with
  | zero =>
    intro k n l s hn hk hs hw hS
    obtain ⟨k, rfl⟩ : ∃ k', k = k' + 1 := ⟨k - 1, by omega⟩
    exact ⟨l, s, by simp [loopF, draw_tree.b1], hs, hw, hS.mono (by omega)⟩
  | succ i ih =>
    intro k n l s hn hk hs hwt hS
    obtain ⟨k, rfl⟩ : ∃ k', k = k' + 1 := ⟨k - 1, by omega⟩
    have hd : decide ((0 : Int) < ((i + 1 : Nat) : Int)) = true := decide_eq_true (by omega)
    have hbig : (i : Int) ≤ 400000000 := by have := hS.p0; have := hS.p1; omega
    have hw : IntKind.wrap .i64 (((i + 1 : Nat) : Int) - 1) = (i : Int) := by rw [show ((i + 1 : Nat) : Int) - 1 = (i : Int) by omega]; exact wrap_small (by omega) (by omega)
    obtain ⟨t, s1, e1, hs1, ht⟩ := path_ok hc hl (by omega) hS
    obtain ⟨r, s2, e2, hs2, hr, hrp⟩ := record_ok hc hl (by omega) hs1 ht.ok
    obtain ⟨q, hq⟩ : ∃ q : Rec, q = ⟨if r.kind = 4 then 3 else r.kind, r.path, r.body, r.mode, false⟩ := ⟨_, rfl⟩
    have hqf : recFault q = 0 := by rw [hq]; exact no_white hr
    have hqk : q.kind ≠ 4 := by
      rw [hq]
      show (if r.kind = 4 then (3 : Int) else r.kind) ≠ 4
      split
      · decide
      · assumption
    obtain ⟨p1, p2⟩ := put_ok hs hqf (by rw [hq]; show (cut 47 r.path).length ≤ 3; rw [hrp]; exact ht.parts.1)
    have p3 : ∀ x ∈ putR 2 l q, x.kind ≠ 4 := by
      intro x hx
      rcases mem_putR 2 l q x hx with rfl | h2 | ⟨h2, _⟩
      · exact hqk
      · exact hwt x h2
      · rw [h2]; decide
    have hstep : draw_tree.b1 code (l, ((i + 1 : Nat) : Int), s) = bif decide (((putR 2 l q).length : Int) ≤ 16) then some (.nxt (putR 2 l q, (i : Int), s2)) else some (.nxt (l, (i : Int), s2)) := by
      by_cases h4 : r.kind = 4
      · rw [if_pos h4] at hq
        subst hq
        simp only [draw_tree.b1, hd, cond_true, e1, e2, Option.bind_some, hw, p1, decide_true, decide_eq_true h4]
      · rw [if_neg h4] at hq
        subst hq
        simp only [draw_tree.b1, hd, cond_true, cond_false, e1, e2, Option.bind_some, hw, p1, decide_true, decide_eq_false h4]
    rw [loopF, hstep]
    by_cases hlen : ((putR 2 l q).length : Int) ≤ 16
    · obtain ⟨l', s', e, q1, q2, q3⟩ := ih k (n + 24) (putR 2 l q) s2 (by omega) (by omega) (p2 (by omega)) p3 (hs2.mono (by omega))
      rw [decide_eq_true hlen]
      exact ⟨l', s', e, q1, q2, q3.mono (by omega)⟩
    · obtain ⟨l', s', e, q1, q2, q3⟩ := ih k (n + 24) l s2 (by omega) (by omega) hs hwt (hs2.mono (by omega))
      rw [decide_eq_false hlen]
      exact ⟨l', s', e, q1, q2, q3.mono (by omega)⟩
theorem foldl_map_snoc {α β : Type} (f : α → β) : ∀ (l : List α) (acc : List β), l.foldl (fun s x => s ++ [f x]) acc = acc ++ l.map f := by
  intro l
  induction l with
  | nil => intro acc; simp
  | cons x l ih => intro acc; simp [ih]
theorem tree_ok {code : List Int} (hc : ∀ x ∈ code, okB x) (hl : code.length ≤ 1048577) {n : Int} (hn : n ≤ 300000000) {s : DSrc} (h : SrcOK n s) : Dr (draw_tree.sh 24 code s) (n + 300) (fun t => Wood t ∧ t.length ≤ 16) := by
  unfold draw_tree.sh
  obtain ⟨m, s1, e, hs1, hm0, hm1⟩ := room_ok hl h (m := 7) (by omega)
  rw [e]; simp only [Option.bind_some]
  rw [wrap_small (n := m + 2) (by omega) (by omega)]
  obtain ⟨i, s2, e, hs2, hi0, hi1⟩ := next_ok hc hl (by omega) hs1 (m := m + 2) (by omega)
  rw [e]; simp only [Option.bind_some]
  obtain ⟨j, rfl⟩ : ∃ j : Nat, i = j := ⟨i.toNat, by omega⟩
  obtain ⟨l', s', e, q1, q2, q3⟩ := tree_loop hc hl j 24 (n + 3) [] s2 (by omega) (by omega) Lay.nil (by simp) hs2
  rw [e]; simp only [Option.bind_some]
  have h16 := q1.len
  obtain ⟨e2, _⟩ := foldI_runK (ρ := List Nd × DSrc) l' (fun (s : List Nd) x => s ++ [ndOf x]) (fun i s => s.length = i) (draw_tree.b2 l') 24 (by omega) (fun i s hi hs => by
    have hd : decide ((s.length + ([ndOf (gt l' (i : Int))] : List Nd).length) * 48 ≤ 140737488355328) = true := decide_eq_true (by simp; omega)
    refine ⟨?_, by simp [hs]⟩
    simp only [draw_tree.b2, lt_nat, hi, decide_true, cond_true, inR_nat hi, hd, wrap_succ hi (by omega)]
    rfl) (fun s => by simp [draw_tree.b2]) [] rfl
  rw [e2]
  simp only [Option.bind_some]
  rw [foldl_map_snoc]
  exact ⟨_, _, rfl, q3.mono (by omega), sheet_wood q1.sheet q2, by simpa using h16⟩
def spec_TreeDrawn.sh (a0 : List Int) : Option (List Nd) :=
  ((spec_l00Source.sh a0)).bind fun z1 => ((draw_tree.sh 24 a0 z1)).bind fun z8 => some z8.1
theorem spec_TreeDrawn.eq (a0 : List Int) {r : List Nd} (H : spec_TreeDrawn.sh a0 = some r) : spec_TreeDrawn.sh a0 = some r := H
theorem treeDrawn_ok {code : List Int} (hc : ∀ x ∈ code, okB x) (hl : code.length ≤ 1048577) : ∃ t, spec_TreeDrawn.sh code = some t ∧ Wood t ∧ t.length ≤ 16 := by
  obtain ⟨s, e, hs⟩ := source_ok code
  obtain ⟨t, s', e2, _, h⟩ := tree_ok hc hl (by omega) hs
  exact ⟨t, by simp [spec_TreeDrawn.sh, e, e2], h⟩

/-! ### layers that are like others -/
/-! ### what the functions answer for what is drawn -/
theorem small_paths {l : List Rec} (h : Sheet l) : ∀ x ∈ l, x.path.length ≤ 1048576 := fun x hx => pathOK_small (recFault_path (h.ok x hx))
theorem small_pathsT {t : List Nd} (h : Wood t) : ∀ x ∈ t, x.path.length ≤ 1048576 := wood_paths h
theorem rt_ok {l : List Rec} {t : List Nd} (hl : Sheet l) (h16 : l.length ≤ 16) (ht : Wood t) (h24 : t.length ≤ 24) : rtCode l t = 0 := by
  have n1 : ¬ 4096 < l.length := by omega
  have n2 : ¬ 4096 < t.length := by omega
  simp [rtCode, n1, n2, sheet_layer hl h16, treeOK_of ht h24]
theorem apply_eq {l : List Rec} {t : List Nd} (hl : Sheet l) (h16 : l.length ≤ 16) (ht : Wood t) (h24 : t.length ≤ 24) : applyOf l t = fitT (applyL l t) := by simp [applyOf, rt_ok hl h16 ht h24]
theorem fit_ok {t : List Nd} (h : t.length ≤ 24) : fitT t = (t, 0) := by
  have : ¬ 24 < t.length := by omega
  simp [fitT, this]
theorem look_neg {t : List Nd} {p : List UInt8} (h : lookT t p = none) : findN t p < 0 := by
  have := (findN_look t p).1
  exact Classical.byContradiction fun hn => (this.1 (by omega)) h
theorem look_pos {t : List Nd} {p : List UInt8} {x : Nd} (h : lookT t p = some x) : 0 ≤ findN t p ∧ gt t (findN t p) = x ∧ inR (findN t p) t.length = true := by
  have h1 := (findN_look t p).1.2 (by rw [h]; simp)
  exact ⟨h1, (findN_look t p).2 x h, findN_inR (by omega)⟩
theorem apply_look {l : List Rec} {t : List Nd} (hl : Sheet l) (ht : Wood t) (p : List UInt8) : lookT (applyL l t) p = seenL l t p := (applyL_spec t ht l.length l rfl hl).2.1 p
theorem loop_pass {T : Type} {b : Int → Option (Step T Int Unit)} (n : Nat) (hb : ∀ i : Nat, i < n → b i = some (.nxt ((i : Int) + 1))) (hn : b n = some (.brk ())) (k : Nat) (hk : n < k) : loopF b k 0 = some (.inr ()) := by
  rw [loop_scan0 n (fun _ => (none : Option T)) (fun i hi => by rw [hb i hi]; rfl) hn k hk]
  have : (List.range n).findSome? (fun _ => (none : Option T)) = none := by simp
  rw [this]
/-! ### two layers as one: the law -/
theorem faultL_ok {l : List Rec} (h : Sheet l) (h16 : l.length ≤ 16) : (layerFaultL l).2 = 0 := by
  have n1 : ¬ 4096 < l.length := by omega
  simp [layerFaultL, n1, sheet_layer h h16]
/-! ### layers and their canonical forms: the law -/

/-! ### trees: the law -/
theorem place_Wood {t : List Nd} {n : Nd} (ht : Wood t) (hn : nodeOK n = true) (hno : lookT t n.path = none) (hp : parentP n.path ≠ [] → ∃ m ∈ t, m.path = parentP n.path ∧ m.kind = 3) : Wood (placeL t n) ∧ ∀ q, lookT (placeL t n) q = if q = n.path then some n else lookT t q := by
  have hnot : n.path ∉ t.map (fun x : Nd => x.path) := fun hm => (mem_look (fun n : Nd => n.path)).1 hm hno
  obtain ⟨h1, h2⟩ := place_spec ht.rise hnot
  have hmem : ∀ x, x ∈ placeL t n ↔ x = n ∨ x ∈ t := by
    intro x
    unfold placeL
    simp only [List.mem_append, List.mem_cons, List.mem_filter]
    constructor
    · rintro (⟨h, _⟩ | h | ⟨h, _⟩)
      · exact .inr h
      · exact .inl h
      · exact .inr h
    · rintro (h | h)
      · exact .inr (.inl h)
      · rcases bool_two (ltP x.path n.path) with hc | hc
        · exact .inl ⟨h, hc⟩
        · exact .inr (.inr ⟨h, by rw [hc]; rfl⟩)
  refine ⟨⟨h1, fun x hx => ?_, fun x hx hpx => ?_⟩, h2⟩
  · rcases (hmem x).1 hx with rfl | h
    · exact hn
    · exact ht.ok x h
  · rcases (hmem x).1 hx with rfl | h
    · obtain ⟨m, a, b, c⟩ := hp hpx
      exact ⟨m, (hmem m).2 (.inr a), b, c⟩
    · obtain ⟨m, a, b, c⟩ := ht.par x h hpx
      exact ⟨m, (hmem m).2 (.inr a), b, c⟩
/-- What adding a node comes to. -/
theorem add_cases {t : List Nd} {n : Nd} (ht : Wood t) (h16 : t.length ≤ 16) (hn : nodeOK n = true) :
    (addNode t n).1 = t ∧ (addNode t n).2 ≠ 0 ∨ (addNode t n = (placeL t n, 0) ∧ lookT t n.path = none ∧ Wood (placeL t n) ∧ (placeL t n).length = t.length + 1 ∧ ∀ q, lookT (placeL t n) q = if q = n.path then some n else lookT t q) := by
  have n1 : ¬ 4096 < t.length := by omega
  have hp := nodeOK_path hn
  have n2 : ¬ t.length = 24 := by omega
  unfold addNode
  rw [if_neg n1, treeOK_of ht (by omega), hn]
  simp only [Bool.not_true, Bool.or_self, Bool.false_eq_true, if_false, if_neg n2]
  by_cases c1 : (resolveT t n.path).2 = 0
  · rw [if_pos c1]; exact .inl ⟨rfl, by show (18 : Int) ≠ 0; decide⟩
  · rw [if_neg c1]
    by_cases c2 : (resolveT t n.path).2 = 13
    · rw [if_pos c2]; exact .inl ⟨rfl, by show (13 : Int) ≠ 0; decide⟩
    · rw [if_neg c2]
      rcases bool_two (isDirN t (parentP n.path)) with c3 | c3
      · rw [c3]
        simp only [Bool.not_true, Bool.false_eq_true, if_false]
        have hno : lookT t n.path = none := by
          cases hl : lookT t n.path with
          | none => rfl
          | some m => exact absurd (by rw [resolve_there ht hp hl]) c1
        obtain ⟨w1, w2⟩ := place_Wood ht hn hno fun hpp => by
          obtain ⟨m, hm, hk⟩ := (isDirN_look hpp).1 c3
          obtain ⟨a, b⟩ := look_some hm
          exact ⟨m, a, b, hk⟩
        exact .inr ⟨trivial, hno, w1, placeL_len t n, w2⟩
      · rw [c3]; exact .inl ⟨rfl, by show (12 : Int) ≠ 0; decide⟩
theorem askT_ok {t : List Nd} {p : List UInt8} (ht : Wood t) (h24 : t.length ≤ 24) (hp : pathOK p = true) : askT t p = 0 := by
  have n1 : ¬ 4096 < t.length := by omega
  have := pathOK_len hp
  have n2 : ¬ 65536 < p.length := by omega
  simp [askT, n1, n2, treeOK_of ht h24]
theorem white_ok {p : List UInt8} (hp : pathOK p = true) : recFault ⟨4, p, [], 0, false⟩ = 0 := fault_mk (by decide) hp (by simp) (by simp) (by decide)
theorem remove_cases {t : List Nd} {p : List UInt8} (ht : Wood t) (h24 : t.length ≤ 24) (hp : pathOK p = true) :
    ((removeNode t p).1 = t ∧ (removeNode t p).2 ≠ 0) ∨ (removeNode t p = (without t p true, 0)) := by
  unfold removeNode
  rw [if_neg (by rw [askT_ok ht h24 hp]; simp), if_neg (by rw [hp]; simp)]
  by_cases h : (findNd t p).2 ≠ 0
  · rw [if_pos h]; exact .inl ⟨rfl, h⟩
  · rw [if_neg h]; exact .inr rfl
theorem found {t : List Nd} {p : List UInt8} {m : Nd} (ht : Wood t) (hp : pathOK p = true) (hm : lookT t p = some m) : findNd t p = (m, 0) := by
  rw [resolve_down hp, resolve_there ht hp hm]
  simp [(look_pos hm).2.1]
theorem map_look (t : List Nd) (p : List UInt8) : lookR (t.map recOf) p = (lookT t p).map recOf := by
  induction t with
  | nil => rfl
  | cons x t ih =>
    rw [List.map_cons]
    show lookF (fun r : Rec => r.path) (recOf x :: t.map recOf) p = (lookF (fun n : Nd => n.path) (x :: t) p).map recOf
    rw [lookF_cons, lookF_cons]
    have hx : (recOf x).path = x.path := rfl
    rw [hx]
    by_cases h : x.path = p
    · rw [if_pos h, if_pos h]; rfl
    · rw [if_neg h, if_neg h]; exact ih
theorem tree_layer {t : List Nd} (ht : Wood t) : Sheet (t.map recOf) := by
  refine ⟨by rw [List.map_map]; exact ht.rise, fun r hr => ?_, fun r hr hp => ?_⟩
  · obtain ⟨n, hn, rfl⟩ := List.mem_map.1 hr
    exact (nodeOK_fault (ht.ok n hn)).1
  · obtain ⟨n, hn, rfl⟩ := List.mem_map.1 hr
    obtain ⟨m, a, b, c⟩ := ht.par n hn hp
    exact ⟨recOf m, List.mem_map.2 ⟨m, a, rfl⟩, b, c⟩
theorem tree_apply {t : List Nd} (ht : Wood t) : applyL (t.map recOf) [] = t := by
  have hl := tree_layer ht
  have h0 : Wood [] := ⟨by simp [Rise], by simp, by simp⟩
  refine wood_eq (apply_wood hl h0) ht fun p _ => ?_
  rw [apply_look hl h0]
  unfold seenL
  rw [map_look]
  cases h : lookT t p with
  | none =>
    simp only [Option.map_none]
    split <;> rfl
  | some n =>
    have hk := (nodeOK_fault (ht.ok n (look_some h).1)).2
    have hk2 : (recOf n).kind ≠ 4 := hk
    simp only [Option.map_some, showR, if_neg hk2]; rfl
def law_FnTrees.b1 (z11 : List Nd) (y42 : Nd) (z204 : List Nd) (z216 : Int) : Int → Option (Step (Bool) (Int) (Unit)) :=
  fun x26_254 => ((bif (decide (x26_254 < (((addNode z11 y42).1).length : Int))) then (some (decide (z216 = 0))) else some false)).bind fun z272 => bif z272 then (bif inR x26_254 ((addNode z11 y42).1).length then (bif (!(!(decide (((gt ((addNode z11 y42).1) x26_254).path) = y42.path))) || (inR x26_254 ((addNode z11 y42).1).length)) then (bif inR x26_254 ((addNode z11 y42).1).length then (bif decide (z204.length ≤ 4611686018427387904) then ((some (findN z204 ((gt ((addNode z11 y42).1) x26_254).path))).bind fun z322 => bif (decide ((decide (0 ≤ z322)) = ((decide (((gt ((addNode z11 y42).1) x26_254).path) = y42.path)) || (isBelow ((gt ((addNode z11 y42).1) x26_254).path) y42.path)))) then (some (.ret false)) else (some (.nxt (IntKind.wrap .i64 (x26_254 + 1))))) else none) else none) else none) else none) else (some (.brk ()))
def law_FnTrees.sh (k : Nat) (a0 : List Int) (a1 : List Int) : Option (Bool) :=
  ((bif (decide (1048576 < (a0.length : Int))) then some true else (some (decide (1048576 < (a1.length : Int)))))).bind fun z2 => bif z2 then (some true) else (((spec_TreeDrawn.sh a0)).bind fun z11 => ((spec_RecordDrawn.sh a1)).bind fun z17 => (bif (decide (z17.kind = 4)) then (some (.inr (⟨3, z17.path, z17.body, z17.mode⟩ : Nd))) else (some (.inr (⟨z17.kind, z17.path, z17.body, z17.mode⟩ : Nd))) : Option ((Bool) ⊕ (Nd))).bind fun z => match z with | .inl t => some t | .inr y42 => bif decide (z11.length ≤ 1048576) then (bif decide (∀ x ∈ z11, x.path.length ≤ 1048576) then (bif decide (y42.path.length ≤ 1048576) then (bif decide (z11.length ≤ 1048576) then (bif decide (∀ x ∈ z11, x.path.length ≤ 1048576) then (bif decide (y42.path.length ≤ 1048576) then (((bif (!decide (((addNode z11 y42).2) = ((addNode z11 y42).2))) then some true else (bif decide (((addNode z11 y42).1).length ≤ 4611686018427387904) then (some (!(decide (((addNode z11 y42).1) = ((addNode z11 y42).1))))) else none))).bind fun z68 => ((bif z68 then some true else (bif decide (((addNode z11 y42).1).length ≤ 1048576) then (bif decide (∀ x ∈ ((addNode z11 y42).1), x.path.length ≤ 1048576) then (some (!(treeOK ((addNode z11 y42).1)))) else none) else none))).bind fun z77 => ((bif z77 then some true else (bif decide (z11.length ≤ 1048576) then (bif decide (∀ x ∈ z11, x.path.length ≤ 1048576) then (some (!(treeOK z11))) else none) else none))).bind fun z86 => bif z86 then (some false) else (bif decide (((addNode z11 y42).1).length ≤ 1048576) then (bif decide (∀ x ∈ ((addNode z11 y42).1), x.path.length ≤ 1048576) then ((some ((listDir ((addNode z11 y42).1) ((parentOf y42.path).1)).1)).bind fun z101 => (some ((listDir ((addNode z11 y42).1) ((parentOf y42.path).1)).2)).bind fun z103 => bif decide (((addNode z11 y42).1).length ≤ 1048576) then (bif decide (∀ x ∈ ((addNode z11 y42).1), x.path.length ≤ 1048576) then ((some ((listDir ((addNode z11 y42).1) ((parentOf y42.path).1)).1)).bind fun z111 => (some ((listDir ((addNode z11 y42).1) ((parentOf y42.path).1)).2)).bind fun z113 => bif decide (((addNode z11 y42).1).length ≤ 1048576) then (bif decide (∀ x ∈ ((addNode z11 y42).1), x.path.length ≤ 1048576) then ((some ((findNode ((addNode z11 y42).1) y42.path).1)).bind fun z121 => (some ((findNode ((addNode z11 y42).1) y42.path).2)).bind fun z123 => bif decide (((addNode z11 y42).1).length ≤ 1048576) then (bif decide (∀ x ∈ ((addNode z11 y42).1), x.path.length ≤ 1048576) then ((some ((findNode ((addNode z11 y42).1) y42.path).1)).bind fun z138 => (some ((findNode ((addNode z11 y42).1) y42.path).2)).bind fun z140 => ((bif (!decide (z103 = z113)) then some true else (bif decide (z101.length ≤ 4611686018427387904) then (some (!(decide (z101 = z111)))) else none))).bind fun z152 => ((bif (z152 || (!decide (z123 = z140))) then some true else (some (!decide (z121 = z138))))).bind fun z167 => ((bif z167 then some true else (((bif (decide (((addNode z11 y42).2) = 0)) then (((bif (!decide (z140 = 0)) then some true else (some (!decide (z138 = y42))))).bind fun z178 => ((bif z178 then some true else (some (!decide ((((addNode z11 y42).1).length : Int) = (IntKind.wrap .i64 ((z11.length : Int) + 1))))))).bind fun z187 => some z187) else some false)).bind fun z177 => some z177))).bind fun z176 => bif z176 then (some false) else (bif decide (((addNode z11 y42).1).length ≤ 1048576) then (bif decide (∀ x ∈ ((addNode z11 y42).1), x.path.length ≤ 1048576) then ((some ((removeNode ((addNode z11 y42).1) y42.path).1)).bind fun z204 => (some ((removeNode ((addNode z11 y42).1) y42.path).2)).bind fun z206 => bif decide (((addNode z11 y42).1).length ≤ 1048576) then (bif decide (∀ x ∈ ((addNode z11 y42).1), x.path.length ≤ 1048576) then ((some ((removeNode ((addNode z11 y42).1) y42.path).1)).bind fun z214 => (some ((removeNode ((addNode z11 y42).1) y42.path).2)).bind fun z216 => ((bif (!decide (z206 = z216)) then some true else (bif decide (z204.length ≤ 4611686018427387904) then (some (!(decide (z204 = z214)))) else none))).bind fun z221 => ((bif z221 then some true else (((bif (!decide (z216 = 0)) then (bif decide (z204.length ≤ 4611686018427387904) then (some (!(decide (z204 = ((addNode z11 y42).1))))) else none) else some false)).bind fun z231 => some z231))).bind fun z230 => ((bif z230 then some true else (((bif (decide (((addNode z11 y42).2) = 0)) then (bif decide (z204.length ≤ 4611686018427387904) then (some (!(decide (z204 = z11)))) else none) else some false)).bind fun z243 => some z243))).bind fun z242 => bif z242 then (some false) else ((loopF (law_FnTrees.b1 z11 y42 z204 z216) k 0).bind fun z => match z with | .inl t => some t | .inr _ => bif decide (z11.length ≤ 1048576) then (bif decide (∀ x ∈ z11, x.path.length ≤ 1048576) then (bif decide (z11.length ≤ 1048576) then (bif decide (∀ x ∈ z11, x.path.length ≤ 1048576) then (bif decide (((layerOfT z11).1).length ≤ 1048576) then (bif decide (([] : List Nd).length ≤ 1048576) then (bif decide (∀ x ∈ ((layerOfT z11).1), x.path.length ≤ 1048576) then (bif decide (∀ x ∈ ([] : List Nd), x.path.length ≤ 1048576) then ((some ((applyOf ((layerOfT z11).1) ([] : List Nd)).1)).bind fun z344 => (some ((applyOf ((layerOfT z11).1) ([] : List Nd)).2)).bind fun z346 => ((bif (decide (((layerOfT z11).2) = ((layerOfT z11).2))) then (some (decide (((layerOfT z11).2) = 0))) else some false)).bind fun z351 => ((bif z351 then (bif decide (((layerOfT z11).1).length ≤ 1048576) then (bif decide (((layerOfT z11).1).length ≤ 1048576) then (bif decide (∀ x ∈ ((layerOfT z11).1), x.path.length ≤ 1048576) then (bif decide (∀ x ∈ ((layerOfT z11).1), x.path.length ≤ 1048576) then (some (sameLayer ((layerOfT z11).1) ((layerOfT z11).1))) else none) else none) else none) else none) else some false)).bind fun z360 => ((bif (z360 && (decide (z346 = 0))) then (bif decide (z344.length ≤ 1048576) then (bif decide (z11.length ≤ 1048576) then (bif decide (∀ x ∈ z344, x.path.length ≤ 1048576) then (bif decide (∀ x ∈ z11, x.path.length ≤ 1048576) then (some (sameTree z344 z11)) else none) else none) else none) else none) else some false)).bind fun z375 => some z375) else none) else none) else none) else none) else none) else none) else none) else none)) else none) else none) else none) else none)) else none) else none) else none) else none) else none) else none) else none) else none)) else none) else none) else none) else none) else none) else none)
theorem without_same {t : List Nd} {n : Nd} (ht : Wood t) (hn : nodeOK n = true) (hno : lookT t n.path = none) (hw : Wood (placeL t n)) (hl : ∀ q, lookT (placeL t n) q = if q = n.path then some n else lookT t q) : without (placeL t n) n.path true = t := by
  have hp := nodeOK_path hn
  have hne := pathOK_ne hp
  have hd : doS (placeL t n) ⟨4, n.path, [], 0, false⟩ = without (placeL t n) n.path true := by simp [doS]
  have hx : Wood (without (placeL t n) n.path true) := by
    rw [← hd]
    refine doS_wood hw (white_ok hp) fun hpp => ?_
    have hm : n ∈ placeL t n := (look_some (by rw [hl, if_pos rfl] : lookT (placeL t n) n.path = some n)).1
    obtain ⟨m, a, b, c⟩ := hw.par n hm hpp
    exact ⟨m, a, b, c⟩
  refine wood_eq hx ht fun q _ => ?_
  rw [without_look hw.rise hne, hl]
  by_cases hq : q = n.path
  · subst hq; simp [hno]
  · rcases bool_two (belowP q n.path) with h | h
    · rw [h]
      simp only [Bool.true_or, if_true]
      exact (none_below ht h fun m hm e => by
        have := lookT_mem ht.rise hm
        rw [e, hno] at this; cases this).symm
    · simp [h, hq]
theorem law_FnTrees.loop {t x : List Nd} {n : Nd} {z : List Nd} {c : Int} (hx : Wood x) (h24 : x.length ≤ 24) (hn : pathOK n.path = true) (ha : (addNode t n).1 = x) (hz : c = 0 → z = without x n.path true) (hzl : z.length ≤ 24) : loopF (law_FnTrees.b1 t n z c) 100 0 = some (.inr ()) := by
  by_cases hc : c = 0
  · obtain rfl := hz hc
    refine loop_pass x.length (fun i hi => ?_) (by simp [law_FnTrees.b1, ha]) 100 (by omega)
    have hmem := gt_mem (inR_nat hi)
    obtain ⟨y, hy⟩ : ∃ y, gt x (i : Int) = y := ⟨_, rfl⟩
    rw [hy] at hmem
    have hlk := lookT_mem hx.rise hmem
    have hyo := nodeOK_path (hx.ok y hmem)
    have hd : decide ((without x n.path true).length ≤ 4611686018427387904) = true := decide_eq_true (by omega)
    have hw := without_look hx.rise (pathOK_ne hn) true y.path
    simp only [law_FnTrees.b1, ha, lt_nat, hi, decide_true, cond_true, inR_nat hi, hy, hc, Option.bind_some, Bool.or_true, hd, isBelow_of hyo hn, wrap_succ hi (by omega)]
    by_cases he : y.path = n.path
    · rw [he] at hw
      simp only [decide_true, Bool.true_and, Bool.or_true, if_true] at hw
      have h1 := look_neg hw
      have h2 : ¬ 0 ≤ findN (without x n.path true) n.path := by omega
      simp [he, h2]
    · rcases bool_two (belowP y.path n.path) with hb | hb
      · rw [hb] at hw
        simp only [Bool.true_or, if_true] at hw
        have h1 := look_neg hw
        have h2 : ¬ 0 ≤ findN (without x n.path true) y.path := by omega
        simp [hb, h2]
      · rw [hb, hlk] at hw
        simp only [he, decide_false, Bool.and_false, Bool.or_self, Bool.false_eq_true, if_false] at hw
        have h1 := (look_pos hw).1
        simp [he, hb, h1]
  · rw [loopF]
    have : law_FnTrees.b1 t n z c 0 = some (.brk ()) := by
      simp only [law_FnTrees.b1, ha, decide_eq_false hc]
      cases hh : decide ((0 : Int) < (x.length : Int)) <;> rfl
    rw [this]; rfl
theorem law_FnTrees.eq (a0 a1 : List Int) (h2 : ∀ x ∈ a0, okB x) (h3 : a0.length ≤ 9223372036854775807) (h4 : ∀ x ∈ a1, okB x) (h5 : a1.length ≤ 9223372036854775807) : ∃ k, law_FnTrees.sh k a0 a1 = some true := by
  refine ⟨100, ?_⟩
  unfold law_FnTrees.sh
  rcases guard_of a0 a1 with hg | ⟨hg, l0, l1⟩
  · rw [hg]; rfl
  · rw [hg]
    obtain ⟨t, e1, ht, ht16⟩ := treeDrawn_ok h2 (by omega)
    obtain ⟨r, e2, hr, hrp⟩ := recordDrawn_ok h4 (by omega)
    obtain ⟨n, hn, e3⟩ : ∃ n : Nd, nodeOK n = true ∧ (bif (decide (r.kind = 4)) then (some (.inr (⟨3, r.path, r.body, r.mode⟩ : Nd))) else (some (.inr (⟨r.kind, r.path, r.body, r.mode⟩ : Nd))) : Option ((Bool) ⊕ (Nd))) = some (.inr n) := by
      have hw := no_white hr
      by_cases hk : r.kind = 4
      · rw [if_pos hk] at hw
        exact ⟨⟨3, r.path, r.body, r.mode⟩, nodeOK_ndOf (r := ⟨3, r.path, r.body, r.mode, false⟩) hw (show (3 : Int) ≠ 4 by decide), by rw [decide_eq_true hk]; rfl⟩
      · rw [if_neg hk] at hw
        exact ⟨⟨r.kind, r.path, r.body, r.mode⟩, nodeOK_ndOf (r := ⟨r.kind, r.path, r.body, r.mode, false⟩) hw hk, by rw [decide_eq_false hk]; rfl⟩
    have hp := nodeOK_path hn
    have hpl := pathOK_len hp
    have hL := tree_layer ht
    have hL16 : (t.map recOf).length ≤ 16 := by simpa using ht16
    have dt : decide (t.length ≤ 1048576) = true := decide_eq_true (by omega)
    have pt : decide (∀ x ∈ t, x.path.length ≤ 1048576) = true := decide_eq_true (small_pathsT ht)
    have dp : decide (n.path.length ≤ 1048576) = true := decide_eq_true (by omega)
    obtain ⟨x, hxe⟩ : ∃ x, (addNode t n).1 = x := ⟨_, rfl⟩
    obtain ⟨c, hce⟩ : ∃ c, (addNode t n).2 = c := ⟨_, rfl⟩
    have hcase := add_cases ht ht16 hn
    have hx : Wood x ∧ x.length ≤ 17 ∧ (c = 0 → x.length = t.length + 1 ∧ lookT x n.path = some n ∧ without x n.path true = t) := by
      rcases hcase with ⟨h1, h2⟩ | ⟨h1, h2, h3, h4, h5⟩
      · rw [hxe] at h1; rw [hce] at h2; subst h1
        exact ⟨ht, by omega, fun h => absurd h h2⟩
      · rw [h1] at hxe hce
        simp only [] at hxe hce
        subst hxe
        exact ⟨h3, by omega, fun _ => ⟨h4, by rw [h5, if_pos rfl], without_same ht hn h2 h3 h5⟩⟩
    obtain ⟨hxw, hx17, hx0⟩ := hx
    have dx : decide (x.length ≤ 1048576) = true := decide_eq_true (by omega)
    have dx2 : decide (x.length ≤ 4611686018427387904) = true := decide_eq_true (by omega)
    have px : decide (∀ y ∈ x, y.path.length ≤ 1048576) = true := decide_eq_true (small_pathsT hxw)
    have hll := listDir_len x (parentOf n.path).1
    have dl : decide ((listDir x (parentOf n.path).1).1.length ≤ 4611686018427387904) = true := decide_eq_true (by omega)
    obtain ⟨z, hz⟩ : ∃ z, (removeNode x n.path).1 = z := ⟨_, rfl⟩
    obtain ⟨d, hd⟩ : ∃ d, (removeNode x n.path).2 = d := ⟨_, rfl⟩
    have hrl := removeNode_len x n.path
    rw [hz] at hrl
    have dz : decide (z.length ≤ 4611686018427387904) = true := decide_eq_true (by omega)
    have hrem : (d ≠ 0 → z = x) ∧ (d = 0 → z = without x n.path true) := by
      rcases remove_cases hxw (by omega) hp with ⟨h1, h2⟩ | h1
      · rw [hz] at h1; rw [hd] at h2
        exact ⟨fun _ => h1, fun h => absurd h h2⟩
      · rw [h1] at hz hd
        simp only [] at hz hd
        exact ⟨fun h => absurd hd.symm h, fun _ => hz.symm⟩
    have hloop := law_FnTrees.loop (t := t) (n := n) (c := d) hxw (by omega) hp hxe hrem.2 (by omega : z.length ≤ 24)
    have hfind : c = 0 → findNode x n.path = (n, 0) := fun h => by
      unfold findNode
      rw [if_neg (by rw [askT_ok hxw (by omega) hp]; simp), if_neg (by rw [hp]; simp)]
      exact found hxw hp (hx0 h).2.1
    have hd0 : c = 0 → d = 0 := fun h => by
      rw [← hd]
      unfold removeNode
      rw [if_neg (by rw [askT_ok hxw (by omega) hp]; simp), if_neg (by rw [hp]; simp), found hxw hp (hx0 h).2.1]
      simp
    have k1 : ((bif (decide (c = 0)) then (((bif (!decide ((findNode x n.path).2 = 0)) then some true else (some (!decide ((findNode x n.path).1 = n))))).bind fun z178 => ((bif z178 then some true else (some (!decide ((x.length : Int) = (IntKind.wrap .i64 ((t.length : Int) + 1))))))).bind fun z187 => some z187) else some false)).bind (fun z177 => some z177) = some false := by
      by_cases h : c = 0
      · have h9 : (x.length : Int) = IntKind.wrap .i64 ((t.length : Int) + 1) := by
          rw [wrap_small (n := (t.length : Int) + 1) (by omega) (by omega)]
          have := (hx0 h).1; omega
        rw [hfind h, decide_eq_true h, decide_eq_true h9]; simp
      · rw [decide_eq_false h]; rfl
    have k2 : ((bif (!decide (d = 0)) then (some (!(decide (z = x)))) else some false)).bind (fun z231 => some z231) = some false := by
      by_cases h : d = 0
      · rw [decide_eq_true h]; rfl
      · rw [decide_eq_false h, decide_eq_true (hrem.1 h)]; rfl
    have k3 : ((bif (decide (c = 0)) then (some (!(decide (z = t)))) else some false)).bind (fun z243 => some z243) = some false := by
      by_cases h : c = 0
      · have : z = t := by rw [hrem.2 (hd0 h)]; exact (hx0 h).2.2
        rw [decide_eq_true h, decide_eq_true this]; rfl
      · rw [decide_eq_false h]; rfl
    have n1 : ¬ 4096 < t.length := by omega
    have n2 : ¬ 16 < t.length := by omega
    have hlo : layerOfT t = (t.map recOf, 0) := by simp [layerOfT, n1, n2, treeOK_of ht (by omega)]
    have h0 : Wood [] := ⟨by simp [Rise], by simp, by simp⟩
    have hap : applyOf (t.map recOf) [] = (t, 0) := by rw [apply_eq hL hL16 h0 (by simp), tree_apply ht, fit_ok (by omega)]
    have dL : decide ((t.map recOf).length ≤ 1048576) = true := decide_eq_true (by omega)
    have pL : decide (∀ y ∈ t.map recOf, y.path.length ≤ 1048576) = true := decide_eq_true (small_paths hL)
    have dn : decide (([] : List Nd).length ≤ 1048576) = true := decide_eq_true (by simp)
    have pn : decide (∀ y ∈ ([] : List Nd), y.path.length ≤ 1048576) = true := decide_eq_true (by simp)
    have hsl : sameLayer (t.map recOf) (t.map recOf) = true := by simp [sameLayer, faultL_ok hL hL16]
    have hst : sameTree t t = true := by simp [sameTree, treeOK_of ht (by omega)]
    simp only [e1, e2, e3, dt, pt, dp, hxe, hce, dx, dx2, px, treeOK_of hxw (by omega : x.length ≤ 24), treeOK_of ht (by omega : t.length ≤ 24), dl, hz, hd, dz, decide_true, cond_true, Bool.not_true, cond_false, Option.bind_some, Bool.or_self]
    rw [k1]
    simp only [Option.bind_some, cond_false]
    rw [k2]
    simp only [Option.bind_some, cond_false]
    rw [k3]
    simp only [Option.bind_some, cond_false, hloop, hlo, hap, dL, pL, dn, pn, hsl, hst, dt, pt, cond_true, decide_true, Bool.and_self]

end Go.UL
