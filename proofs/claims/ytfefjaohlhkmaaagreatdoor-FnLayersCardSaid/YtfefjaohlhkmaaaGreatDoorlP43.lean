/- Plain Lean: what the functions compute. -/
import Derived.Test.YtfefjaohlhkmaaaGreatDoorlP37
set_option linter.unusedVariables false
set_option linter.unusedSimpArgs false
namespace Go.UL
open Go.RowKit
/-! ### what the laws compare with; paths -/
theorem same_loop {α : Type} [DecidableEq α] [Inhabited α] (a b : List α) (hl : a.length = b.length) (B : Int → Option (Step Bool Int Unit)) (hb : ∀ i : Nat, i < a.length → B i = some (sc (if !decide (a.getD i default = b.getD i default) then some false else none : Option Bool) ((i : Int) + 1))) (hn : B a.length = some (.brk ())) :
    (loopF B (a.length + 1) 0).bind (fun z => match z with | .inl t => some t | .inr _ => some true) = some (decide (a = b)) := by
  rw [loop_scan0 a.length _ hb hn (a.length + 1) (by omega), list_ne_any a b hl]
  by_cases he : a = b <;> simp [he]
theorem same_sh {α : Type} [DecidableEq α] [Inhabited α] (a b : List α) (h : a.length ≤ 4611686018427387904) (B : Int → Option (Step Bool Int Unit)) (hB : ∀ i : Nat, i < a.length → i < b.length → B i = bif (!decide (a.getD i default = b.getD i default)) then some (.ret false) else some (.nxt ((i : Int) + 1))) (hn : B a.length = some (.brk ())) :
    (bif (!decide ((a.length : Int) = (b.length : Int))) then some false else ((loopF B (a.length + 1) 0).bind fun z => match z with | .inl t => some t | .inr _ => some true)) = some (decide (a = b)) := by
  by_cases hl : a.length = b.length
  · have : (a.length : Int) = (b.length : Int) := by omega
    rw [decide_eq_true this]
    simp only [Bool.not_true, cond_false]
    refine same_loop a b hl B (fun i hi => ?_) hn
    rw [hB i hi (by omega)]
    by_cases he : a.getD i default = b.getD i default
    · simp only [he, decide_true, Bool.not_true, Bool.false_eq_true, if_false, cond_false, sc_none]
    · simp only [he, decide_false, Bool.not_false, if_true, cond_true, sc_some]
  · have h1 : ¬ (a.length : Int) = (b.length : Int) := by omega
    have h2 : a ≠ b := fun e => hl (by rw [e])
    simp [h1, h2]
def laws_sameRecords.b1 (a0 : List Rec) (a1 : List Rec) : Int → Option (Step (Bool) (Int) (Unit)) :=
  fun x5_2 => bif (decide (x5_2 < (a0.length : Int))) then (bif inR x5_2 a0.length then (bif inR x5_2 a1.length then (bif (!decide ((gt a0 x5_2) = (gt a1 x5_2))) then (some (.ret false)) else (some (.nxt (IntKind.wrap .i64 (x5_2 + 1))))) else none) else none) else (some (.brk ()))
def laws_sameRecords.sh (k : Nat) (a0 : List Rec) (a1 : List Rec) : Option (Bool) :=
  bif (!decide ((a0.length : Int) = (a1.length : Int))) then (some false) else ((loopF (laws_sameRecords.b1 a0 a1) k 0).bind fun z => match z with | .inl t => some t | .inr _ => some true)
theorem laws_sameRecords.eq (a0 a1 : List Rec) (h : a0.length ≤ 4611686018427387904) : ∃ k, laws_sameRecords.sh k a0 a1 = some (decide (a0 = a1)) := by
  refine ⟨a0.length + 1, same_sh a0 a1 h _ (fun i hi hi2 => ?_) (by simp [laws_sameRecords.b1])⟩
  simp only [laws_sameRecords.b1, lt_nat, hi, decide_true, cond_true, inR_nat hi, inR_nat hi2, getD_gt, wrap_succ hi h]
  rfl
def laws_sameNodes.b1 (a0 : List Nd) (a1 : List Nd) : Int → Option (Step (Bool) (Int) (Unit)) :=
  fun x5_2 => bif (decide (x5_2 < (a0.length : Int))) then (bif inR x5_2 a0.length then (bif inR x5_2 a1.length then (bif (!decide ((gt a0 x5_2) = (gt a1 x5_2))) then (some (.ret false)) else (some (.nxt (IntKind.wrap .i64 (x5_2 + 1))))) else none) else none) else (some (.brk ()))
def laws_sameNodes.sh (k : Nat) (a0 : List Nd) (a1 : List Nd) : Option (Bool) :=
  bif (!decide ((a0.length : Int) = (a1.length : Int))) then (some false) else ((loopF (laws_sameNodes.b1 a0 a1) k 0).bind fun z => match z with | .inl t => some t | .inr _ => some true)
theorem laws_sameNodes.eq (a0 a1 : List Nd) (h : a0.length ≤ 4611686018427387904) : ∃ k, laws_sameNodes.sh k a0 a1 = some (decide (a0 = a1)) := by
  refine ⟨a0.length + 1, same_sh a0 a1 h _ (fun i hi hi2 => ?_) (by simp [laws_sameNodes.b1])⟩
  simp only [laws_sameNodes.b1, lt_nat, hi, decide_true, cond_true, inR_nat hi, inR_nat hi2, getD_gt, wrap_succ hi h]
  rfl
/-! ### layers and trees that are drawn -/
def putOKb (n : Nat) (l : List Rec) (r : Rec) : Bool := sheetB l && pathOK r.path && decide ((cut 47 r.path).length ≤ n + 1) && decide (l.length ≤ 100)
theorem putOKb_of {n : Nat} {l : List Rec} {r : Rec} (h : putOKb n l r = true) : sheetB l = true ∧ pathOK r.path = true ∧ (cut 47 r.path).length ≤ n + 1 ∧ l.length ≤ 100 := by
  simp only [putOKb, Bool.and_eq_true, decide_eq_true_eq] at h
  exact ⟨h.1.1.1, h.1.1.2, h.1.2, h.2⟩
theorem putOKb_mk {n : Nat} {l : List Rec} {r : Rec} (h1 : sheetB l = true) (h2 : pathOK r.path = true) (h3 : (cut 47 r.path).length ≤ n + 1) (h4 : l.length ≤ 100) : putOKb n l r = true := by simp [putOKb, h1, h2, h3, h4]
def stepP (r x : Rec) (s : List Rec × Bool) : List Rec × Bool :=
  let s1 : List Rec × Bool := if (!s.2 && ltP r.path x.path) = true then (s.1 ++ [r], true) else s
  (if keepR r x = true then s1.1 ++ [x] else s1.1, s1.2)
theorem put_after (r : Rec) : ∀ (l : List Rec) (acc : List Rec), (l.foldl (fun s x => stepP r x s) (acc, true)) = (acc ++ l.filter (keepR r), true) := by
  intro l
  induction l with
  | nil => intro acc; simp
  | cons x l ih =>
    intro acc
    rw [List.foldl_cons]
    have e : stepP r x (acc, true) = (if keepR r x = true then acc ++ [x] else acc, true) := by simp [stepP]
    rw [e, ih]
    rcases bool_two (keepR r x) with h | h <;> simp [h]
theorem put_fold (r : Rec) : ∀ (l : List Rec), Rise (l.map (·.path)) → ∀ (acc : List Rec), (if (l.foldl (fun s x => stepP r x s) (acc, false)).2 = true then (l.foldl (fun s x => stepP r x s) (acc, false)).1 else (l.foldl (fun s x => stepP r x s) (acc, false)).1 ++ [r]) = acc ++ putR1 l r := by
  intro l
  induction l with
  | nil => intro _ acc; simp [putR1]
  | cons x l ih =>
    intro hr acc
    rw [List.map_cons] at hr
    have hgt := rise_lt hr
    rw [List.foldl_cons]
    rcases bool_two (ltP r.path x.path) with h | h
    · have hall : ∀ y ∈ x :: l, ltP r.path y.path = true := by
        intro y hy
        rcases List.mem_cons.1 hy with rfl | hy
        · exact h
        · exact ltP_trans h (hgt _ (List.mem_map_of_mem hy))
      have e : stepP r x (acc, false) = (if keepR r x = true then acc ++ [r] ++ [x] else acc ++ [r], true) := by simp [stepP, h]
      rw [e, put_after]
      have f1 : (x :: l).filter (fun y => keepR r y && ltP y.path r.path) = [] := by
        rw [List.filter_eq_nil_iff]
        intro y hy
        rw [ltP_asymm (hall y hy)]; simp
      have f2 : (x :: l).filter (fun y => keepR r y && ltP r.path y.path) = (x :: l).filter (keepR r) := by
        apply List.filter_congr
        intro y hy
        rw [hall y hy]; simp
      unfold putR1
      rw [f1, f2]
      rcases bool_two (keepR r x) with h2 | h2 <;> simp [h2]
    · have e : stepP r x (acc, false) = (if keepR r x = true then acc ++ [x] else acc, false) := by simp [stepP, h]
      rw [e, ih (rise_tl hr)]
      unfold putR1
      rcases bool_two (keepR r x) with h2 | h2
      · have hne : x.path ≠ r.path := by
          unfold keepR at h2
          intro e
          rw [decide_eq_true e] at h2; simp at h2
        have hlt : ltP x.path r.path = true := by
          rcases bool_two (ltP x.path r.path) with h3 | h3
          · exact h3
          · exact absurd (ltP_tri h3 h) hne
        simp [h2, h, hlt]
      · simp [h2]
theorem put_loop {ρ : Type} (l : List Rec) (r : Rec) (B : List Rec × Bool × Int → Option (Step ρ (List Rec × Bool × Int) (List Rec × Bool)))
    (hB : ∀ (i : Nat) (o : List Rec) (d : Bool), i < l.length → o.length ≤ 2 * i → B (o, d, (i : Int)) = some (.nxt ((stepP r (gt l (i : Int)) (o, d)).1, (stepP r (gt l (i : Int)) (o, d)).2, ((i + 1 : Nat) : Int))))
    (hn : ∀ o d, B (o, d, (l.length : Int)) = some (.brk (o, d))) : loopF B (l.length + 1) ([], false, 0) = some (.inr (l.foldl (fun s x => stepP r x s) ([], false))) := by
  have hlen : ∀ x (s : List Rec × Bool), (stepP r x s).1.length ≤ s.1.length + 2 := by
    intro x s
    unfold stepP
    simp only []
    split <;> split <;> simp
  have key : ∀ (d i k : Nat) (s : List Rec × Bool), i + d = l.length → d < k → s.1.length ≤ 2 * i → loopF B k (s.1, s.2, (i : Int)) = some (.inr ((l.drop i).foldl (fun s x => stepP r x s) s)) := by
    intro d
    induction d with
    | zero =>
      intro i k s hi hk hs
      obtain ⟨k, rfl⟩ : ∃ m, k = m + 1 := ⟨k - 1, by omega⟩
      have : i = l.length := by omega
      subst this
      rw [loopF, hn s.1 s.2, List.drop_length]; rfl
    | succ d ih =>
      intro i k s hi hk hs
      obtain ⟨k, rfl⟩ : ∃ m, k = m + 1 := ⟨k - 1, by omega⟩
      have hlt : i < l.length := by omega
      rw [loopF, hB i s.1 s.2 hlt hs, drop_gt hlt]
      have hl2 := hlen (gt l (i : Int)) (s.1, s.2)
      exact ih (i + 1) k _ (by omega) (by omega) (by simp only [] at hl2 ⊢; omega)
  exact key l.length 0 (l.length + 1) ([], false) (by omega) (by omega) (by simp)
theorem putR1_sheetB {l : List Rec} {r : Rec} (h : sheetB l = true) (hr : pathOK r.path = true) : sheetB (putR1 l r) = true := by
  refine sheetB_mk (fun x hx => ?_) (putR1_rise (sheetB_rise h))
  rcases mem_putR1.1 hx with rfl | ⟨h1, _⟩
  · exact hr
  · exact sheetB_path h x h1
theorem putR_sheetB : ∀ (n : Nat) (l : List Rec) (r : Rec), sheetB l = true → pathOK r.path = true → sheetB (putR n l r) = true := by
  intro n
  induction n with
  | zero => intro l r h hr; exact putR1_sheetB h hr
  | succ n ih =>
    intro l r h hr
    rw [putR]
    split
    · rename_i hc
      exact putR1_sheetB (ih _ _ h (pathOK_parent hr hc.1)) hr
    · exact putR1_sheetB h hr
theorem parent_depth {p : List UInt8} {n : Nat} (h : parentP p ≠ []) (hd : (cut 47 p).length ≤ n + 2) : (cut 47 (parentP p)).length ≤ n + 1 := by
  have := depth_below (below_parent h); omega
theorem hasDir_neg {l : List Rec} {p : List UInt8} (h : findR l p < 0) : hasDir l p = false := by
  unfold hasDir
  rw [decide_eq_false (by omega)]; rfl
theorem hasDir_pos {l : List Rec} {p : List UInt8} (h : ¬ findR l p < 0) : hasDir l p = decide ((gt l (findR l p)).kind = 3) := by
  unfold hasDir
  rw [decide_eq_true (by omega)]; rfl
def spec_l03Put0.b1 (a1 : Rec) (x0_13 : List Rec) : List Rec × Bool × Int → Option (Step (List Rec) (List Rec × Bool × Int) (List Rec × Bool)) :=
  fun q => match q with
  | (x7_47, x8_49, x9_50) => bif (decide (x9_50 < (x0_13.length : Int))) then (bif (!(!x8_49) || (inR x9_50 x0_13.length)) then (bif (!(!x8_49) || (decide (a1.path.length ≤ 1048576))) then (bif (!(!x8_49) || (decide (((gt x0_13 x9_50).path).length ≤ 1048576))) then ((bif ((!x8_49) && (lessL (cut 47 a1.path) (cut 47 ((gt x0_13 x9_50).path)))) then (bif decide ((x7_47.length + ([a1] : List Rec).length) * 56 ≤ 140737488355328) then (some (.inr (x7_47 ++ ([a1] : List Rec), true))) else none) else (some (.inr (x7_47, x8_49))) : Option ((Step (List Rec) (List Rec × Bool × Int) (List Rec × Bool)) ⊕ (List Rec × Bool))).bind fun z => match z with | .inl t => some t | .inr (x7_104, x8_106) => bif inR x9_50 x0_13.length then (bif (!((!decide (((gt x0_13 x9_50).path) = a1.path)) && (!(decide (a1.kind = 3)))) || (inR x9_50 x0_13.length)) then (bif ((!decide (((gt x0_13 x9_50).path) = a1.path)) && ((decide (a1.kind = 3)) || (!((decide (a1.path = []) && !decide (((gt x0_13 x9_50).path) = [])) || belowP ((gt x0_13 x9_50).path) a1.path)))) then (bif inR x9_50 x0_13.length then (bif decide ((x7_104.length + ([gt x0_13 x9_50] : List Rec).length) * 56 ≤ 140737488355328) then (some (.nxt (x7_104 ++ ([gt x0_13 x9_50] : List Rec), x8_106, IntKind.wrap .i64 (x9_50 + 1)))) else none) else none) else (some (.nxt (x7_104, x8_106, IntKind.wrap .i64 (x9_50 + 1))))) else none) else none) else none) else none) else none) else (some (.brk (x7_47, x8_49)))
def spec_l03Put0.sh (k : Nat) (a0 : List Rec) (a1 : Rec) : Option (List Rec) :=
  bif decide (a1.path.length ≤ 4611686018427387904) then ((bif (!decide ((parentP a1.path) = ([] : List UInt8))) then (bif decide (a0.length ≤ 1048576) then (((bif (decide ((findR a0 (parentP a1.path)) < 0)) then some true else (bif inR (findR a0 (parentP a1.path)) a0.length then (some (!decide (((gt a0 (findR a0 (parentP a1.path))).kind) = 3))) else none))).bind fun z20 => bif z20 then (bif decide (False) then (some (.inr ([] : List Rec))) else none) else (some (.inr a0))) else none) else (some (.inr a0)) : Option ((List Rec) ⊕ (List Rec))).bind fun z => match z with | .inl t => some t | .inr x0_13 => (loopF (spec_l03Put0.b1 a1 x0_13) k (([] : List Rec), false, 0)).bind fun z => match z with | .inl t => some t | .inr (x7_54, x8_56) => bif (!x8_56) then (bif decide ((x7_54.length + ([a1] : List Rec).length) * 56 ≤ 140737488355328) then (some (x7_54 ++ ([a1] : List Rec))) else none) else (some x7_54)) else none
theorem spec_l03Put0.body (a0 : List Rec) (a1 : Rec) (hs : sheetB a0 = true) (hp : pathOK a1.path = true) (hl : a0.length ≤ 200) :
    ((loopF (spec_l03Put0.b1 a1 a0) (a0.length + 1) (([] : List Rec), false, 0)).bind fun z => match z with | .inl t => some t | .inr (x7_54, x8_56) => bif (!x8_56) then (bif decide ((x7_54.length + ([a1] : List Rec).length) * 56 ≤ 140737488355328) then (some (x7_54 ++ ([a1] : List Rec))) else none) else (some x7_54)) = some (putR1 a0 a1) := by
  have hp1 := pathOK_small hp
  have hne := pathOK_ne hp
  have hlen : ∀ (l : List Rec) (s : List Rec × Bool), (l.foldl (fun s x => stepP a1 x s) s).1.length ≤ s.1.length + 2 * l.length := by
    intro l
    induction l with
    | nil => intro s; simp
    | cons x l ih =>
      intro s
      rw [List.foldl_cons]
      have h1 := ih (stepP a1 x s)
      have h2 : (stepP a1 x s).1.length ≤ s.1.length + 2 := by
        unfold stepP
        simp only []
        split <;> split <;> simp
      simp only [List.length_cons]; omega
  rw [put_loop a0 a1 (spec_l03Put0.b1 a1 a0) (fun i o d hi ho => by
    have hx := pathOK_small (sheetB_path hs _ (gt_mem (inR_nat hi)))
    have ho2 : ∀ m : Nat, m ≤ o.length + 2 → (decide (m * 56 ≤ 140737488355328)) = true := fun m hm => decide_eq_true (by omega)
    simp only [spec_l03Put0.b1, lt_nat, hi, decide_true, cond_true, inR_nat hi, decide_eq_true hp1, decide_eq_true hx, Bool.or_true, wrap_succ hi (by omega)]
    show ((bif (!d && ltP a1.path (gt a0 (i : Int)).path) then _ else _ : Option _).bind _) = _
    have hk : ((!decide (((gt a0 (i : Int)).path) = a1.path)) && ((decide (a1.kind = 3)) || (!((decide (a1.path = []) && !decide (((gt a0 (i : Int)).path) = [])) || belowP ((gt a0 (i : Int)).path) a1.path)))) = keepR a1 (gt a0 (i : Int)) := by
      rw [decide_eq_false hne]; simp [keepR]
    rw [hk]
    unfold stepP
    rw [ho2 (o.length + [a1].length) (by simp)]
    rcases bool_two (!d && ltP a1.path (gt a0 (i : Int)).path) with h1 | h1
    · rw [h1]
      simp only [cond_true, Option.bind_some, if_true]
      rw [ho2 ((o ++ [a1]).length + [gt a0 (i : Int)].length) (by simp)]
      rcases bool_two (keepR a1 (gt a0 (i : Int))) with h2 | h2 <;> simp [h2]
    · rw [h1]
      simp only [cond_false, Option.bind_some, Bool.false_eq_true, if_false]
      rw [ho2 (o.length + [gt a0 (i : Int)].length) (by simp)]
      rcases bool_two (keepR a1 (gt a0 (i : Int))) with h2 | h2 <;> simp [h2]) (fun o d => by simp [spec_l03Put0.b1])]
  have hf := put_fold a1 a0 (sheetB_rise hs) []
  have hl2 := hlen a0 ([], false)
  obtain ⟨s, hs2⟩ : ∃ s, a0.foldl (fun s x => stepP a1 x s) ([], false) = s := ⟨_, rfl⟩
  rw [hs2] at hf hl2 ⊢
  obtain ⟨o, d⟩ := s
  simp only [List.nil_append, List.length_nil] at hf hl2
  simp only [Option.bind_some]
  have hd : decide ((o.length + [a1].length) * 56 ≤ 140737488355328) = true := decide_eq_true (by simp; omega)
  rw [hd]
  cases d with
  | true => simpa using hf
  | false => simpa using hf
theorem spec_l03Put0.eq (a0 : List Rec) (a1 : Rec) (h : putOKb 0 a0 a1 = true) : ∃ k, spec_l03Put0.sh k a0 a1 = some (putR 0 a0 a1) := by
  obtain ⟨h1, h2, h3, h4⟩ := putOKb_of h
  have hpar : parentP a1.path = [] := by
    by_cases hp : parentP a1.path = []
    · exact hp
    · have := parent_short hp; omega
  have hpl := pathOK_small h2
  have hd : decide (a1.path.length ≤ 4611686018427387904) = true := decide_eq_true (by omega)
  refine ⟨a0.length + 1, ?_⟩
  unfold spec_l03Put0.sh
  simp only [hd, hpar, cond_true, decide_true, Bool.not_true, cond_false, Option.bind_some]
  exact spec_l03Put0.body a0 a1 h1 h2 (by omega)
def spec_l03Put1.b1 (a1 : Rec) (x0_13 : List Rec) : List Rec × Bool × Int → Option (Step (List Rec) (List Rec × Bool × Int) (List Rec × Bool)) :=
  fun q => match q with
  | (x7_47, x8_49, x9_50) => bif (decide (x9_50 < (x0_13.length : Int))) then (bif (!(!x8_49) || (inR x9_50 x0_13.length)) then (bif (!(!x8_49) || (decide (a1.path.length ≤ 1048576))) then (bif (!(!x8_49) || (decide (((gt x0_13 x9_50).path).length ≤ 1048576))) then ((bif ((!x8_49) && (lessL (cut 47 a1.path) (cut 47 ((gt x0_13 x9_50).path)))) then (bif decide ((x7_47.length + ([a1] : List Rec).length) * 56 ≤ 140737488355328) then (some (.inr (x7_47 ++ ([a1] : List Rec), true))) else none) else (some (.inr (x7_47, x8_49))) : Option ((Step (List Rec) (List Rec × Bool × Int) (List Rec × Bool)) ⊕ (List Rec × Bool))).bind fun z => match z with | .inl t => some t | .inr (x7_104, x8_106) => bif inR x9_50 x0_13.length then (bif (!((!decide (((gt x0_13 x9_50).path) = a1.path)) && (!(decide (a1.kind = 3)))) || (inR x9_50 x0_13.length)) then (bif ((!decide (((gt x0_13 x9_50).path) = a1.path)) && ((decide (a1.kind = 3)) || (!((decide (a1.path = []) && !decide (((gt x0_13 x9_50).path) = [])) || belowP ((gt x0_13 x9_50).path) a1.path)))) then (bif inR x9_50 x0_13.length then (bif decide ((x7_104.length + ([gt x0_13 x9_50] : List Rec).length) * 56 ≤ 140737488355328) then (some (.nxt (x7_104 ++ ([gt x0_13 x9_50] : List Rec), x8_106, IntKind.wrap .i64 (x9_50 + 1)))) else none) else none) else (some (.nxt (x7_104, x8_106, IntKind.wrap .i64 (x9_50 + 1))))) else none) else none) else none) else none) else none) else (some (.brk (x7_47, x8_49)))
def spec_l03Put1.sh (k : Nat) (a0 : List Rec) (a1 : Rec) : Option (List Rec) :=
  bif decide (a1.path.length ≤ 4611686018427387904) then ((bif (!decide ((parentP a1.path) = ([] : List UInt8))) then (bif decide (a0.length ≤ 1048576) then (((bif (decide ((findR a0 (parentP a1.path)) < 0)) then some true else (bif inR (findR a0 (parentP a1.path)) a0.length then (some (!decide (((gt a0 (findR a0 (parentP a1.path))).kind) = 3))) else none))).bind fun z20 => bif z20 then (bif decide (putOKb 0 a0 (⟨3, (parentP a1.path), ([] : List UInt8), 493, false⟩ : Rec) = true) then (some (.inr (putR 0 a0 (⟨3, (parentP a1.path), ([] : List UInt8), 493, false⟩ : Rec)))) else none) else (some (.inr a0))) else none) else (some (.inr a0)) : Option ((List Rec) ⊕ (List Rec))).bind fun z => match z with | .inl t => some t | .inr x0_13 => (loopF (spec_l03Put1.b1 a1 x0_13) k (([] : List Rec), false, 0)).bind fun z => match z with | .inl t => some t | .inr (x7_54, x8_56) => bif (!x8_56) then (bif decide ((x7_54.length + ([a1] : List Rec).length) * 56 ≤ 140737488355328) then (some (x7_54 ++ ([a1] : List Rec))) else none) else (some x7_54)) else none
theorem spec_l03Put1.body (a0 : List Rec) (a1 : Rec) (hs : sheetB a0 = true) (hp : pathOK a1.path = true) (hl : a0.length ≤ 200) :
    ((loopF (spec_l03Put1.b1 a1 a0) (a0.length + 1) (([] : List Rec), false, 0)).bind fun z => match z with | .inl t => some t | .inr (x7_54, x8_56) => bif (!x8_56) then (bif decide ((x7_54.length + ([a1] : List Rec).length) * 56 ≤ 140737488355328) then (some (x7_54 ++ ([a1] : List Rec))) else none) else (some x7_54)) = some (putR1 a0 a1) := by
  have hp1 := pathOK_small hp
  have hne := pathOK_ne hp
  have hlen : ∀ (l : List Rec) (s : List Rec × Bool), (l.foldl (fun s x => stepP a1 x s) s).1.length ≤ s.1.length + 2 * l.length := by
    intro l
    induction l with
    | nil => intro s; simp
    | cons x l ih =>
      intro s
      rw [List.foldl_cons]
      have h1 := ih (stepP a1 x s)
      have h2 : (stepP a1 x s).1.length ≤ s.1.length + 2 := by
        unfold stepP
        simp only []
        split <;> split <;> simp
      simp only [List.length_cons]; omega
  rw [put_loop a0 a1 (spec_l03Put1.b1 a1 a0) (fun i o d hi ho => by
    have hx := pathOK_small (sheetB_path hs _ (gt_mem (inR_nat hi)))
    have ho2 : ∀ m : Nat, m ≤ o.length + 2 → (decide (m * 56 ≤ 140737488355328)) = true := fun m hm => decide_eq_true (by omega)
    simp only [spec_l03Put1.b1, lt_nat, hi, decide_true, cond_true, inR_nat hi, decide_eq_true hp1, decide_eq_true hx, Bool.or_true, wrap_succ hi (by omega)]
    show ((bif (!d && ltP a1.path (gt a0 (i : Int)).path) then _ else _ : Option _).bind _) = _
    have hk : ((!decide (((gt a0 (i : Int)).path) = a1.path)) && ((decide (a1.kind = 3)) || (!((decide (a1.path = []) && !decide (((gt a0 (i : Int)).path) = [])) || belowP ((gt a0 (i : Int)).path) a1.path)))) = keepR a1 (gt a0 (i : Int)) := by
      rw [decide_eq_false hne]; simp [keepR]
    rw [hk]
    unfold stepP
    rw [ho2 (o.length + [a1].length) (by simp)]
    rcases bool_two (!d && ltP a1.path (gt a0 (i : Int)).path) with h1 | h1
    · rw [h1]
      simp only [cond_true, Option.bind_some, if_true]
      rw [ho2 ((o ++ [a1]).length + [gt a0 (i : Int)].length) (by simp)]
      rcases bool_two (keepR a1 (gt a0 (i : Int))) with h2 | h2 <;> simp [h2]
    · rw [h1]
      simp only [cond_false, Option.bind_some, Bool.false_eq_true, if_false]
      rw [ho2 (o.length + [gt a0 (i : Int)].length) (by simp)]
      rcases bool_two (keepR a1 (gt a0 (i : Int))) with h2 | h2 <;> simp [h2]) (fun o d => by simp [spec_l03Put1.b1])]
  have hf := put_fold a1 a0 (sheetB_rise hs) []
  have hl2 := hlen a0 ([], false)
  obtain ⟨s, hs2⟩ : ∃ s, a0.foldl (fun s x => stepP a1 x s) ([], false) = s := ⟨_, rfl⟩
  rw [hs2] at hf hl2 ⊢
  obtain ⟨o, d⟩ := s
  simp only [List.nil_append, List.length_nil] at hf hl2
  simp only [Option.bind_some]
  have hd : decide ((o.length + [a1].length) * 56 ≤ 140737488355328) = true := decide_eq_true (by simp; omega)
  rw [hd]
  cases d with
  | true => simpa using hf
  | false => simpa using hf
theorem spec_l03Put1.eq (a0 : List Rec) (a1 : Rec) (h : putOKb 1 a0 a1 = true) : ∃ k, spec_l03Put1.sh k a0 a1 = some (putR 1 a0 a1) := by
  obtain ⟨h1, h2, h3, h4⟩ := putOKb_of h
  have hpl := pathOK_small h2
  have hd : decide (a1.path.length ≤ 4611686018427387904) = true := decide_eq_true (by omega)
  have hd2 : decide (a0.length ≤ 1048576) = true := decide_eq_true (by omega)
  have plain : hasDir a0 (parentP a1.path) = true ∨ parentP a1.path = [] → putR 1 a0 a1 = putR1 a0 a1 := by
    intro hc
    rw [putR, if_neg]
    rintro ⟨c1, c2⟩
    rcases hc with hc | hc
    · rw [hc] at c2; cases c2
    · exact c1 hc
  have made : parentP a1.path ≠ [] → hasDir a0 (parentP a1.path) = false → putOKb 0 a0 ⟨3, parentP a1.path, [], 493, false⟩ = true ∧ ∃ k, ((loopF (spec_l03Put1.b1 a1 (putR 0 a0 ⟨3, parentP a1.path, [], 493, false⟩)) k (([] : List Rec), false, 0)).bind fun z => match z with | .inl t => some t | .inr (x7_54, x8_56) => bif (!x8_56) then (bif decide ((x7_54.length + ([a1] : List Rec).length) * 56 ≤ 140737488355328) then (some (x7_54 ++ ([a1] : List Rec))) else none) else (some x7_54)) = some (putR 1 a0 a1) := by
    intro hp hd
    have hpp := pathOK_parent h2 hp
    have hk := putOKb_mk (n := 0) (l := a0) (r := ⟨3, parentP a1.path, [], 493, false⟩) h1 hpp (parent_depth hp h3) h4
    refine ⟨hk, (putR 0 a0 ⟨3, parentP a1.path, [], 493, false⟩).length + 1, ?_⟩
    have e9 : putR 1 a0 a1 = putR1 (putR 0 a0 ⟨3, parentP a1.path, [], 493, false⟩) a1 := (show _ = putR1 (if parentP a1.path ≠ [] ∧ hasDir a0 (parentP a1.path) = false then _ else a0) a1 from rfl).trans (by rw [if_pos ⟨hp, hd⟩])
    rw [e9]
    have hl := putR_len 0 a0 ⟨3, parentP a1.path, [], 493, false⟩
    exact spec_l03Put1.body _ a1 (putR_sheetB 0 _ _ h1 hpp) h2 (by omega)
  by_cases hp : parentP a1.path = []
  · refine ⟨a0.length + 1, ?_⟩
    rw [plain (.inr hp)]
    unfold spec_l03Put1.sh
    simp only [hd, hp, cond_true, decide_true, Bool.not_true, cond_false, Option.bind_some]
    exact spec_l03Put1.body a0 a1 h1 h2 (by omega)
  · by_cases hf : findR a0 (parentP a1.path) < 0
    · obtain ⟨hk, k, e⟩ := made hp (hasDir_neg hf)
      refine ⟨k, ?_⟩
      unfold spec_l03Put1.sh
      simp only [hd, hd2, decide_eq_false hp, decide_eq_true hf, cond_true, Bool.not_false, Option.bind_some, hk, decide_true]
      exact e
    · have hr := findR_in hf
      by_cases hkd : (gt a0 (findR a0 (parentP a1.path))).kind = 3
      · refine ⟨a0.length + 1, ?_⟩
        rw [plain (.inl (by rw [hasDir_pos hf, decide_eq_true hkd]))]
        unfold spec_l03Put1.sh
        simp only [hd, hd2, decide_eq_false hp, decide_eq_false hf, cond_true, cond_false, Bool.not_false, Option.bind_some, hr, decide_eq_true hkd, Bool.not_true]
        exact spec_l03Put1.body a0 a1 h1 h2 (by omega)
      · obtain ⟨hk, k, e⟩ := made hp (by rw [hasDir_pos hf, decide_eq_false hkd])
        refine ⟨k, ?_⟩
        unfold spec_l03Put1.sh
        simp only [hd, hd2, decide_eq_false hp, decide_eq_false hf, cond_true, cond_false, Bool.not_false, Option.bind_some, hr, decide_eq_false hkd, hk, decide_true]
        exact e
def spec_l03Put.b1 (a1 : Rec) (x0_13 : List Rec) : List Rec × Bool × Int → Option (Step (List Rec) (List Rec × Bool × Int) (List Rec × Bool)) :=
  fun q => match q with
  | (x7_47, x8_49, x9_50) => bif (decide (x9_50 < (x0_13.length : Int))) then (bif (!(!x8_49) || (inR x9_50 x0_13.length)) then (bif (!(!x8_49) || (decide (a1.path.length ≤ 1048576))) then (bif (!(!x8_49) || (decide (((gt x0_13 x9_50).path).length ≤ 1048576))) then ((bif ((!x8_49) && (lessL (cut 47 a1.path) (cut 47 ((gt x0_13 x9_50).path)))) then (bif decide ((x7_47.length + ([a1] : List Rec).length) * 56 ≤ 140737488355328) then (some (.inr (x7_47 ++ ([a1] : List Rec), true))) else none) else (some (.inr (x7_47, x8_49))) : Option ((Step (List Rec) (List Rec × Bool × Int) (List Rec × Bool)) ⊕ (List Rec × Bool))).bind fun z => match z with | .inl t => some t | .inr (x7_104, x8_106) => bif inR x9_50 x0_13.length then (bif (!((!decide (((gt x0_13 x9_50).path) = a1.path)) && (!(decide (a1.kind = 3)))) || (inR x9_50 x0_13.length)) then (bif ((!decide (((gt x0_13 x9_50).path) = a1.path)) && ((decide (a1.kind = 3)) || (!((decide (a1.path = []) && !decide (((gt x0_13 x9_50).path) = [])) || belowP ((gt x0_13 x9_50).path) a1.path)))) then (bif inR x9_50 x0_13.length then (bif decide ((x7_104.length + ([gt x0_13 x9_50] : List Rec).length) * 56 ≤ 140737488355328) then (some (.nxt (x7_104 ++ ([gt x0_13 x9_50] : List Rec), x8_106, IntKind.wrap .i64 (x9_50 + 1)))) else none) else none) else (some (.nxt (x7_104, x8_106, IntKind.wrap .i64 (x9_50 + 1))))) else none) else none) else none) else none) else none) else (some (.brk (x7_47, x8_49)))
def spec_l03Put.sh (k : Nat) (a0 : List Rec) (a1 : Rec) : Option (List Rec) :=
  bif decide (a1.path.length ≤ 4611686018427387904) then ((bif (!decide ((parentP a1.path) = ([] : List UInt8))) then (bif decide (a0.length ≤ 1048576) then (((bif (decide ((findR a0 (parentP a1.path)) < 0)) then some true else (bif inR (findR a0 (parentP a1.path)) a0.length then (some (!decide (((gt a0 (findR a0 (parentP a1.path))).kind) = 3))) else none))).bind fun z20 => bif z20 then (bif decide (putOKb 1 a0 (⟨3, (parentP a1.path), ([] : List UInt8), 493, false⟩ : Rec) = true) then (some (.inr (putR 1 a0 (⟨3, (parentP a1.path), ([] : List UInt8), 493, false⟩ : Rec)))) else none) else (some (.inr a0))) else none) else (some (.inr a0)) : Option ((List Rec) ⊕ (List Rec))).bind fun z => match z with | .inl t => some t | .inr x0_13 => (loopF (spec_l03Put.b1 a1 x0_13) k (([] : List Rec), false, 0)).bind fun z => match z with | .inl t => some t | .inr (x7_54, x8_56) => bif (!x8_56) then (bif decide ((x7_54.length + ([a1] : List Rec).length) * 56 ≤ 140737488355328) then (some (x7_54 ++ ([a1] : List Rec))) else none) else (some x7_54)) else none
theorem spec_l03Put.body (a0 : List Rec) (a1 : Rec) (hs : sheetB a0 = true) (hp : pathOK a1.path = true) (hl : a0.length ≤ 200) :
    ((loopF (spec_l03Put.b1 a1 a0) (a0.length + 1) (([] : List Rec), false, 0)).bind fun z => match z with | .inl t => some t | .inr (x7_54, x8_56) => bif (!x8_56) then (bif decide ((x7_54.length + ([a1] : List Rec).length) * 56 ≤ 140737488355328) then (some (x7_54 ++ ([a1] : List Rec))) else none) else (some x7_54)) = some (putR1 a0 a1) := by
  have hp1 := pathOK_small hp
  have hne := pathOK_ne hp
  have hlen : ∀ (l : List Rec) (s : List Rec × Bool), (l.foldl (fun s x => stepP a1 x s) s).1.length ≤ s.1.length + 2 * l.length := by
    intro l
    induction l with
    | nil => intro s; simp
    | cons x l ih =>
      intro s
      rw [List.foldl_cons]
      have h1 := ih (stepP a1 x s)
      have h2 : (stepP a1 x s).1.length ≤ s.1.length + 2 := by
        unfold stepP
        simp only []
        split <;> split <;> simp
      simp only [List.length_cons]; omega
  rw [put_loop a0 a1 (spec_l03Put.b1 a1 a0) (fun i o d hi ho => by
    have hx := pathOK_small (sheetB_path hs _ (gt_mem (inR_nat hi)))
    have ho2 : ∀ m : Nat, m ≤ o.length + 2 → (decide (m * 56 ≤ 140737488355328)) = true := fun m hm => decide_eq_true (by omega)
    simp only [spec_l03Put.b1, lt_nat, hi, decide_true, cond_true, inR_nat hi, decide_eq_true hp1, decide_eq_true hx, Bool.or_true, wrap_succ hi (by omega)]
    show ((bif (!d && ltP a1.path (gt a0 (i : Int)).path) then _ else _ : Option _).bind _) = _
    have hk : ((!decide (((gt a0 (i : Int)).path) = a1.path)) && ((decide (a1.kind = 3)) || (!((decide (a1.path = []) && !decide (((gt a0 (i : Int)).path) = [])) || belowP ((gt a0 (i : Int)).path) a1.path)))) = keepR a1 (gt a0 (i : Int)) := by
      rw [decide_eq_false hne]; simp [keepR]
    rw [hk]
    unfold stepP
    rw [ho2 (o.length + [a1].length) (by simp)]
    rcases bool_two (!d && ltP a1.path (gt a0 (i : Int)).path) with h1 | h1
    · rw [h1]
      simp only [cond_true, Option.bind_some, if_true]
      rw [ho2 ((o ++ [a1]).length + [gt a0 (i : Int)].length) (by simp)]
      rcases bool_two (keepR a1 (gt a0 (i : Int))) with h2 | h2 <;> simp [h2]
    · rw [h1]
      simp only [cond_false, Option.bind_some, Bool.false_eq_true, if_false]
      rw [ho2 (o.length + [gt a0 (i : Int)].length) (by simp)]
      rcases bool_two (keepR a1 (gt a0 (i : Int))) with h2 | h2 <;> simp [h2]) (fun o d => by simp [spec_l03Put.b1])]
  have hf := put_fold a1 a0 (sheetB_rise hs) []
  have hl2 := hlen a0 ([], false)
  obtain ⟨s, hs2⟩ : ∃ s, a0.foldl (fun s x => stepP a1 x s) ([], false) = s := ⟨_, rfl⟩
  rw [hs2] at hf hl2 ⊢
  obtain ⟨o, d⟩ := s
  simp only [List.nil_append, List.length_nil] at hf hl2
  simp only [Option.bind_some]
  have hd : decide ((o.length + [a1].length) * 56 ≤ 140737488355328) = true := decide_eq_true (by simp; omega)
  rw [hd]
  cases d with
  | true => simpa using hf
  | false => simpa using hf
theorem spec_l03Put.eq (a0 : List Rec) (a1 : Rec) (h : putOKb 2 a0 a1 = true) : ∃ k, spec_l03Put.sh k a0 a1 = some (putR 2 a0 a1) := by
  obtain ⟨h1, h2, h3, h4⟩ := putOKb_of h
  have hpl := pathOK_small h2
  have hd : decide (a1.path.length ≤ 4611686018427387904) = true := decide_eq_true (by omega)
  have hd2 : decide (a0.length ≤ 1048576) = true := decide_eq_true (by omega)
  have plain : hasDir a0 (parentP a1.path) = true ∨ parentP a1.path = [] → putR 2 a0 a1 = putR1 a0 a1 := by
    intro hc
    rw [putR, if_neg]
    rintro ⟨c1, c2⟩
    rcases hc with hc | hc
    · rw [hc] at c2; cases c2
    · exact c1 hc
  have made : parentP a1.path ≠ [] → hasDir a0 (parentP a1.path) = false → putOKb 1 a0 ⟨3, parentP a1.path, [], 493, false⟩ = true ∧ ∃ k, ((loopF (spec_l03Put.b1 a1 (putR 1 a0 ⟨3, parentP a1.path, [], 493, false⟩)) k (([] : List Rec), false, 0)).bind fun z => match z with | .inl t => some t | .inr (x7_54, x8_56) => bif (!x8_56) then (bif decide ((x7_54.length + ([a1] : List Rec).length) * 56 ≤ 140737488355328) then (some (x7_54 ++ ([a1] : List Rec))) else none) else (some x7_54)) = some (putR 2 a0 a1) := by
    intro hp hd
    have hpp := pathOK_parent h2 hp
    have hk := putOKb_mk (n := 1) (l := a0) (r := ⟨3, parentP a1.path, [], 493, false⟩) h1 hpp (parent_depth hp h3) h4
    refine ⟨hk, (putR 1 a0 ⟨3, parentP a1.path, [], 493, false⟩).length + 1, ?_⟩
    have e9 : putR 2 a0 a1 = putR1 (putR 1 a0 ⟨3, parentP a1.path, [], 493, false⟩) a1 := (show _ = putR1 (if parentP a1.path ≠ [] ∧ hasDir a0 (parentP a1.path) = false then _ else a0) a1 from rfl).trans (by rw [if_pos ⟨hp, hd⟩])
    rw [e9]
    have hl := putR_len 1 a0 ⟨3, parentP a1.path, [], 493, false⟩
    exact spec_l03Put.body _ a1 (putR_sheetB 1 _ _ h1 hpp) h2 (by omega)
  by_cases hp : parentP a1.path = []
  · refine ⟨a0.length + 1, ?_⟩
    rw [plain (.inr hp)]
    unfold spec_l03Put.sh
    simp only [hd, hp, cond_true, decide_true, Bool.not_true, cond_false, Option.bind_some]
    exact spec_l03Put.body a0 a1 h1 h2 (by omega)
  · by_cases hf : findR a0 (parentP a1.path) < 0
    · obtain ⟨hk, k, e⟩ := made hp (hasDir_neg hf)
      refine ⟨k, ?_⟩
      unfold spec_l03Put.sh
      simp only [hd, hd2, decide_eq_false hp, decide_eq_true hf, cond_true, Bool.not_false, Option.bind_some, hk, decide_true]
      exact e
    · have hr := findR_in hf
      by_cases hkd : (gt a0 (findR a0 (parentP a1.path))).kind = 3
      · refine ⟨a0.length + 1, ?_⟩
        rw [plain (.inl (by rw [hasDir_pos hf, decide_eq_true hkd]))]
        unfold spec_l03Put.sh
        simp only [hd, hd2, decide_eq_false hp, decide_eq_false hf, cond_true, cond_false, Bool.not_false, Option.bind_some, hr, decide_eq_true hkd, Bool.not_true]
        exact spec_l03Put.body a0 a1 h1 h2 (by omega)
      · obtain ⟨hk, k, e⟩ := made hp (by rw [hasDir_pos hf, decide_eq_false hkd])
        refine ⟨k, ?_⟩
        unfold spec_l03Put.sh
        simp only [hd, hd2, decide_eq_false hp, decide_eq_false hf, cond_true, cond_false, Bool.not_false, Option.bind_some, hr, decide_eq_false hkd, hk, decide_true]
        exact e
theorem Sheet.bool {l : List Rec} (h : Sheet l) : sheetB l = true := sheetB_mk (fun x hx => recFault_path (h.ok x hx)) h.rise
theorem mem_putR : ∀ (n : Nat) (l : List Rec) (r x : Rec), x ∈ putR n l r → x = r ∨ x ∈ l ∨ (x.kind = 3 ∧ (cut 47 x.path).length ≤ (cut 47 r.path).length) := by
  intro n
  induction n with
  | zero =>
    intro l r x hx
    rcases mem_putR1.1 hx with h | ⟨h, _⟩
    · exact .inl h
    · exact .inr (.inl h)
  | succ n ih =>
    intro l r x hx
    rw [putR] at hx
    rcases mem_putR1.1 hx with h | ⟨h, _⟩
    · exact .inl h
    · split at h
      · rename_i hc
        have hd := depth_below (below_parent hc.1)
        rcases ih _ _ _ h with h2 | h2 | ⟨h2, h3⟩
        · subst h2; exact .inr (.inr ⟨rfl, Nat.le_of_lt hd⟩)
        · exact .inr (.inl h2)
        · exact .inr (.inr ⟨h2, Nat.le_trans h3 (Nat.le_of_lt hd)⟩)
      · exact .inr (.inl h)
/-- A layer as it is drawn. -/
structure Lay (l : List Rec) : Prop where
  sheet : Sheet l
  len : l.length ≤ 16
  deep : ∀ r ∈ l, (cut 47 r.path).length ≤ 3
theorem Lay.nil : Lay [] := ⟨Sheet.nil, by simp, by simp⟩
theorem put_ok {l : List Rec} {r : Rec} (hl : Lay l) (hr : recFault r = 0) (hd : (cut 47 r.path).length ≤ 3) : putOKb 2 l r = true ∧ ((putR 2 l r).length ≤ 16 → Lay (putR 2 l r)) := by
  have h16 := hl.len
  refine ⟨putOKb_mk hl.sheet.bool (recFault_path hr) (by omega) (by omega), fun h => ⟨(putR_Sheet 2 l r hl.sheet hr (by omega)).1, h, fun x hx => ?_⟩⟩
  rcases mem_putR 2 l r x hx with rfl | h2 | ⟨_, h2⟩
  · exact hd
  · exact hl.deep x h2
  · omega
def draw_layer.b1 (a0 : List Int) : List Rec × Int × DSrc → Option (Step (List Rec × DSrc) (List Rec × Int × DSrc) (List Rec × DSrc)) :=
  fun q => match q with
  | (x3_21, x4_23, y24) => bif (decide (0 < x4_23)) then (((draw_path.sh 4 a0 y24)).bind fun z48 => ((draw_record.sh a0 z48.2 z48.1)).bind fun z55 => bif decide (putOKb 2 x3_21 z55.1 = true) then (bif (decide (((putR 2 x3_21 z55.1).length : Int) ≤ 16)) then (some (.nxt ((putR 2 x3_21 z55.1), IntKind.wrap .i64 (x4_23 - 1), z55.2))) else (some (.nxt (x3_21, IntKind.wrap .i64 (x4_23 - 1), z55.2)))) else none) else (some (.brk (x3_21, y24)))
def draw_layer.sh (k : Nat) (a0 : List Int) (a1 : DSrc) : Option (List Rec × DSrc) :=
  ((draw_room.sh a0 a1 6)).bind fun z7 => ((draw_next.sh a0 z7.2 (IntKind.wrap .i64 (z7.1 + 3)))).bind fun z14 => (loopF (draw_layer.b1 a0) k (([] : List Rec), z14.1, z14.2)).bind fun z => match z with | .inl t => some t | .inr (x3_28, y30) => some (x3_28, y30)
theorem draw_layer.eq (a0 : List Int) (a1 : DSrc) {r : List Rec × DSrc} (H : draw_layer.sh 12 a0 a1 = some r) : ∃ k, draw_layer.sh k a0 a1 = some r := ⟨12, H⟩
theorem layer_loop {code : List Int} (hc : ∀ x ∈ code, okB x) (hl : code.length ≤ 1048577) : ∀ (i : Nat) (k : Nat) (n : Int) (l : List Rec) (s : DSrc), n + 24 * i ≤ 400000000 → i < k → Lay l → SrcOK n s →
    ∃ l' s', loopF (draw_layer.b1 code) k (l, (i : Int), s) = some (.inr (l', s')) ∧ Lay l' ∧ SrcOK (n + 24 * i) s' := by
  intro i
  induction i with
  | zero =>
    intro k n l s hn hk hs hS
    obtain ⟨k, rfl⟩ : ∃ k', k = k' + 1 := ⟨k - 1, by omega⟩
    exact ⟨l, s, by simp [loopF, draw_layer.b1], hs, hS.mono (by omega)⟩
  | succ i ih =>
    intro k n l s hn hk hs hS
    obtain ⟨k, rfl⟩ : ∃ k', k = k' + 1 := ⟨k - 1, by omega⟩
    have hd : decide ((0 : Int) < ((i + 1 : Nat) : Int)) = true := decide_eq_true (by omega)
    have hbig : (i : Int) ≤ 400000000 := by have := hS.p0; have := hS.p1; omega
    have hw : IntKind.wrap .i64 (((i + 1 : Nat) : Int) - 1) = (i : Int) := by rw [show ((i + 1 : Nat) : Int) - 1 = (i : Int) by omega]; exact wrap_small (by omega) (by omega)
    obtain ⟨t, s1, e1, hs1, ht⟩ := path_ok hc hl (by omega) hS
    obtain ⟨r, s2, e2, hs2, hr, hrp⟩ := record_ok hc hl (by omega) hs1 ht.ok
    obtain ⟨p1, p2⟩ := put_ok hs hr (by rw [hrp]; exact ht.parts.1)
    rw [loopF]
    simp only [draw_layer.b1, hd, cond_true, e1, e2, Option.bind_some, hw, p1, decide_true]
    by_cases hlen : ((putR 2 l r).length : Int) ≤ 16
    · obtain ⟨l', s', e, q1, q3⟩ := ih k (n + 24) (putR 2 l r) s2 (by omega) (by omega) (p2 (by omega)) (hs2.mono (by omega))
      rw [decide_eq_true hlen]
      exact ⟨l', s', e, q1, q3.mono (by omega)⟩
    · obtain ⟨l', s', e, q1, q3⟩ := ih k (n + 24) l s2 (by omega) (by omega) hs (hs2.mono (by omega))
      rw [decide_eq_false hlen]
      exact ⟨l', s', e, q1, q3.mono (by omega)⟩
theorem layer_ok {code : List Int} (hc : ∀ x ∈ code, okB x) (hl : code.length ≤ 1048577) {n : Int} (hn : n ≤ 300000000) {s : DSrc} (h : SrcOK n s) : Dr (draw_layer.sh 12 code s) (n + 300) Lay := by
  unfold draw_layer.sh
  obtain ⟨m, s1, e, hs1, hm0, hm1⟩ := room_ok hl h (m := 6) (by omega)
  rw [e]; simp only [Option.bind_some]
  rw [wrap_small (n := m + 3) (by omega) (by omega)]
  obtain ⟨i, s2, e, hs2, hi0, hi1⟩ := next_ok hc hl (by omega) hs1 (m := m + 3) (by omega)
  rw [e]; simp only [Option.bind_some]
  obtain ⟨j, rfl⟩ : ∃ j : Nat, i = j := ⟨i.toNat, by omega⟩
  obtain ⟨l', s', e, q1, q3⟩ := layer_loop hc hl j 12 (n + 3) [] s2 (by omega) (by omega) Lay.nil hs2
  rw [e]; simp only [Option.bind_some]
  exact ⟨_, _, rfl, q3.mono (by omega), q1⟩
def spec_LayerDrawn.sh (a0 : List Int) : Option (List Rec) :=
  ((spec_l00Source.sh a0)).bind fun z1 => ((draw_layer.sh 12 a0 z1)).bind fun z8 => some z8.1
theorem spec_LayerDrawn.eq (a0 : List Int) {r : List Rec} (H : spec_LayerDrawn.sh a0 = some r) : spec_LayerDrawn.sh a0 = some r := H
theorem layerDrawn_ok {code : List Int} (hc : ∀ x ∈ code, okB x) (hl : code.length ≤ 1048577) : ∃ l, spec_LayerDrawn.sh code = some l ∧ Lay l := by
  obtain ⟨s, e, hs⟩ := source_ok code
  obtain ⟨l, s', e2, _, h⟩ := layer_ok hc hl (by omega) hs
  exact ⟨l, by simp [spec_LayerDrawn.sh, e, e2], h⟩
/-! trees -/
theorem no_white {r : Rec} (h : recFault r = 0) : recFault ⟨if r.kind = 4 then 3 else r.kind, r.path, r.body, r.mode, false⟩ = 0 := by
  by_cases hk : r.kind = 4
  · obtain ⟨h1, h2, h3, h4, h5⟩ := (recFault_parts r).1 h
    rw [if_pos hk]
    have hb : r.body = [] := by
      have : ((decide (r.kind = 3) || decide (r.kind = 4)) && !decide (r.body = [])) = false := (Bool.or_eq_false_iff.1 h4).1
      rw [decide_eq_true hk] at this
      simpa using this
    have hm : r.mode = 0 := by
      have : ((decide (r.kind = 2) || decide (r.kind = 4)) && !decide (r.mode = 0)) = false := (Bool.or_eq_false_iff.1 h5).2
      rw [decide_eq_true hk] at this
      simpa using this
    rw [hb, hm]
    exact fault_mk (by decide) h2 (by decide) (by decide) (by decide)
  · rw [if_neg hk]; exact recFault_flag h false (by simp)
def draw_tree.b1 (a0 : List Int) : List Rec × Int × DSrc → Option (Step (List Nd × DSrc) (List Rec × Int × DSrc) (List Rec × DSrc)) :=
  fun q => match q with
  | (x3_21, x4_23, y24) => bif (decide (0 < x4_23)) then (((draw_path.sh 4 a0 y24)).bind fun z48 => ((draw_record.sh a0 z48.2 z48.1)).bind fun z55 => bif (decide (z55.1.kind = 4)) then (bif decide (putOKb 2 x3_21 (⟨3, z55.1.path, z55.1.body, z55.1.mode, false⟩ : Rec) = true) then (bif (decide (((putR 2 x3_21 (⟨3, z55.1.path, z55.1.body, z55.1.mode, false⟩ : Rec)).length : Int) ≤ 16)) then (some (.nxt ((putR 2 x3_21 (⟨3, z55.1.path, z55.1.body, z55.1.mode, false⟩ : Rec)), IntKind.wrap .i64 (x4_23 - 1), z55.2))) else (some (.nxt (x3_21, IntKind.wrap .i64 (x4_23 - 1), z55.2)))) else none) else (bif decide (putOKb 2 x3_21 (⟨z55.1.kind, z55.1.path, z55.1.body, z55.1.mode, false⟩ : Rec) = true) then (bif (decide (((putR 2 x3_21 (⟨z55.1.kind, z55.1.path, z55.1.body, z55.1.mode, false⟩ : Rec)).length : Int) ≤ 16)) then (some (.nxt ((putR 2 x3_21 (⟨z55.1.kind, z55.1.path, z55.1.body, z55.1.mode, false⟩ : Rec)), IntKind.wrap .i64 (x4_23 - 1), z55.2))) else (some (.nxt (x3_21, IntKind.wrap .i64 (x4_23 - 1), z55.2)))) else none)) else (some (.brk (x3_21, y24)))
def draw_tree.b2 (x3_28 : List Rec) : List Nd × Int → Option (Step (List Nd × DSrc) (List Nd × Int) (List Nd)) :=
  fun q => match q with
  | (x7_100, x8_102) => bif (decide (x8_102 < (x3_28.length : Int))) then (bif inR x8_102 x3_28.length then (bif decide ((x7_100.length + ([(ndOf (gt x3_28 x8_102))] : List Nd).length) * 48 ≤ 140737488355328) then (some (.nxt (x7_100 ++ ([(ndOf (gt x3_28 x8_102))] : List Nd), IntKind.wrap .i64 (x8_102 + 1)))) else none) else none) else (some (.brk x7_100))
def draw_tree.sh (k : Nat) (a0 : List Int) (a1 : DSrc) : Option (List Nd × DSrc) :=
  ((draw_room.sh a0 a1 7)).bind fun z7 => ((draw_next.sh a0 z7.2 (IntKind.wrap .i64 (z7.1 + 2)))).bind fun z14 => (loopF (draw_tree.b1 a0) k (([] : List Rec), z14.1, z14.2)).bind fun z => match z with | .inl t => some t | .inr (x3_28, y30) => (loopF (draw_tree.b2 x3_28) k (([] : List Nd), 0)).bind fun z => match z with | .inl t => some t | .inr x7_106 => some (x7_106, y30)
theorem draw_tree.eq (a0 : List Int) (a1 : DSrc) {r : List Nd × DSrc} (H : draw_tree.sh 24 a0 a1 = some r) : ∃ k, draw_tree.sh k a0 a1 = some r := ⟨24, H⟩
theorem tree_loop {code : List Int} (hc : ∀ x ∈ code, okB x) (hl : code.length ≤ 1048577) : ∀ (i : Nat) (k : Nat) (n : Int) (l : List Rec) (s : DSrc), n + 24 * i ≤ 400000000 → i < k → Lay l → (∀ r ∈ l, r.kind ≠ 4) → SrcOK n s →
    ∃ l' s', loopF (draw_tree.b1 code) k (l, (i : Int), s) = some (.inr (l', s')) ∧ Lay l' ∧ (∀ r ∈ l', r.kind ≠ 4) ∧ SrcOK (n + 24 * i) s' := by
  intro i
  induction i with
  | zero =>
    intro k n l s hn hk hs hw hS
    obtain ⟨k, rfl⟩ : ∃ k', k = k' + 1 := ⟨k - 1, by omega⟩
    exact ⟨l, s, by simp [loopF, draw_tree.b1], hs, hw, hS.mono (by omega)⟩
  | succ i ih =>
    intro k n l s hn hk hs hwt hS
    obtain ⟨k, rfl⟩ : ∃ k', k = k' + 1 := ⟨k - 1, by omega⟩
    have hd : decide ((0 : Int) < ((i + 1 : Nat) : Int)) = true := decide_eq_true (by omega)
    have hbig : (i : Int) ≤ 400000000 := by have := hS.p0; have := hS.p1; omega
    have hw : IntKind.wrap .i64 (((i + 1 : Nat) : Int) - 1) = (i : Int) := by rw [show ((i + 1 : Nat) : Int) - 1 = (i : Int) by omega]; exact wrap_small (by omega) (by omega)
    obtain ⟨t, s1, e1, hs1, ht⟩ := path_ok hc hl (by omega) hS
    obtain ⟨r, s2, e2, hs2, hr, hrp⟩ := record_ok hc hl (by omega) hs1 ht.ok
    obtain ⟨q, hq⟩ : ∃ q : Rec, q = ⟨if r.kind = 4 then 3 else r.kind, r.path, r.body, r.mode, false⟩ := ⟨_, rfl⟩
    have hqf : recFault q = 0 := by rw [hq]; exact no_white hr
    have hqk : q.kind ≠ 4 := by
      rw [hq]
      show (if r.kind = 4 then (3 : Int) else r.kind) ≠ 4
      split
      · decide
      · assumption
    obtain ⟨p1, p2⟩ := put_ok hs hqf (by rw [hq]; show (cut 47 r.path).length ≤ 3; rw [hrp]; exact ht.parts.1)
    have p3 : ∀ x ∈ putR 2 l q, x.kind ≠ 4 := by
      intro x hx
      rcases mem_putR 2 l q x hx with rfl | h2 | ⟨h2, _⟩
      · exact hqk
      · exact hwt x h2
      · rw [h2]; decide
    have hstep : draw_tree.b1 code (l, ((i + 1 : Nat) : Int), s) = bif decide (((putR 2 l q).length : Int) ≤ 16) then some (.nxt (putR 2 l q, (i : Int), s2)) else some (.nxt (l, (i : Int), s2)) := by
      by_cases h4 : r.kind = 4
      · rw [if_pos h4] at hq
        subst hq
        simp only [draw_tree.b1, hd, cond_true, e1, e2, Option.bind_some, hw, p1, decide_true, decide_eq_true h4]
      · rw [if_neg h4] at hq
        subst hq
        simp only [draw_tree.b1, hd, cond_true, cond_false, e1, e2, Option.bind_some, hw, p1, decide_true, decide_eq_false h4]
    rw [loopF, hstep]
    by_cases hlen : ((putR 2 l q).length : Int) ≤ 16
    · obtain ⟨l', s', e, q1, q2, q3⟩ := ih k (n + 24) (putR 2 l q) s2 (by omega) (by omega) (p2 (by omega)) p3 (hs2.mono (by omega))
      rw [decide_eq_true hlen]
      exact ⟨l', s', e, q1, q2, q3.mono (by omega)⟩
    · obtain ⟨l', s', e, q1, q2, q3⟩ := ih k (n + 24) l s2 (by omega) (by omega) hs hwt (hs2.mono (by omega))
      rw [decide_eq_false hlen]
      exact ⟨l', s', e, q1, q2, q3.mono (by omega)⟩
theorem foldl_map_snoc {α β : Type} (f : α → β) : ∀ (l : List α) (acc : List β), l.foldl (fun s x => s ++ [f x]) acc = acc ++ l.map f := by
  intro l
  induction l with
  | nil => intro acc; simp
  | cons x l ih => intro acc; simp [ih]
theorem tree_ok {code : List Int} (hc : ∀ x ∈ code, okB x) (hl : code.length ≤ 1048577) {n : Int} (hn : n ≤ 300000000) {s : DSrc} (h : SrcOK n s) : Dr (draw_tree.sh 24 code s) (n + 300) (fun t => Wood t ∧ t.length ≤ 16) := by
  unfold draw_tree.sh
  obtain ⟨m, s1, e, hs1, hm0, hm1⟩ := room_ok hl h (m := 7) (by omega)
  rw [e]; simp only [Option.bind_some]
  rw [wrap_small (n := m + 2) (by omega) (by omega)]
  obtain ⟨i, s2, e, hs2, hi0, hi1⟩ := next_ok hc hl (by omega) hs1 (m := m + 2) (by omega)
  rw [e]; simp only [Option.bind_some]
  obtain ⟨j, rfl⟩ : ∃ j : Nat, i = j := ⟨i.toNat, by omega⟩
  obtain ⟨l', s', e, q1, q2, q3⟩ := tree_loop hc hl j 24 (n + 3) [] s2 (by omega) (by omega) Lay.nil (by simp) hs2
  rw [e]; simp only [Option.bind_some]
  have h16 := q1.len
  obtain ⟨e2, _⟩ := foldI_runK (ρ := List Nd × DSrc) l' (fun (s : List Nd) x => s ++ [ndOf x]) (fun i s => s.length = i) (draw_tree.b2 l') 24 (by omega) (fun i s hi hs => by
    have hd : decide ((s.length + ([ndOf (gt l' (i : Int))] : List Nd).length) * 48 ≤ 140737488355328) = true := decide_eq_true (by simp; omega)
    refine ⟨?_, by simp [hs]⟩
    simp only [draw_tree.b2, lt_nat, hi, decide_true, cond_true, inR_nat hi, hd, wrap_succ hi (by omega)]
    rfl) (fun s => by simp [draw_tree.b2]) [] rfl
  rw [e2]
  simp only [Option.bind_some]
  rw [foldl_map_snoc]
  exact ⟨_, _, rfl, q3.mono (by omega), sheet_wood q1.sheet q2, by simpa using h16⟩
def spec_TreeDrawn.sh (a0 : List Int) : Option (List Nd) :=
  ((spec_l00Source.sh a0)).bind fun z1 => ((draw_tree.sh 24 a0 z1)).bind fun z8 => some z8.1
theorem spec_TreeDrawn.eq (a0 : List Int) {r : List Nd} (H : spec_TreeDrawn.sh a0 = some r) : spec_TreeDrawn.sh a0 = some r := H
theorem treeDrawn_ok {code : List Int} (hc : ∀ x ∈ code, okB x) (hl : code.length ≤ 1048577) : ∃ t, spec_TreeDrawn.sh code = some t ∧ Wood t ∧ t.length ≤ 16 := by
  obtain ⟨s, e, hs⟩ := source_ok code
  obtain ⟨t, s', e2, _, h⟩ := tree_ok hc hl (by omega) hs
  exact ⟨t, by simp [spec_TreeDrawn.sh, e, e2], h⟩

/-! ### layers that are like others -/
theorem canonL_lenle (l : List Rec) : (canonL l).length ≤ l.length := by
  unfold canonL; exact List.length_filterMap_le _ _

/-! ### what the functions answer for what is drawn -/
theorem small_paths {l : List Rec} (h : Sheet l) : ∀ x ∈ l, x.path.length ≤ 1048576 := fun x hx => pathOK_small (recFault_path (h.ok x hx))
theorem small_pathsT {t : List Nd} (h : Wood t) : ∀ x ∈ t, x.path.length ≤ 1048576 := wood_paths h
theorem rt_ok {l : List Rec} {t : List Nd} (hl : Sheet l) (h16 : l.length ≤ 16) (ht : Wood t) (h24 : t.length ≤ 24) : rtCode l t = 0 := by
  have n1 : ¬ 4096 < l.length := by omega
  have n2 : ¬ 4096 < t.length := by omega
  simp [rtCode, n1, n2, sheet_layer hl h16, treeOK_of ht h24]
theorem apply_eq {l : List Rec} {t : List Nd} (hl : Sheet l) (h16 : l.length ≤ 16) (ht : Wood t) (h24 : t.length ≤ 24) : applyOf l t = fitT (applyL l t) := by simp [applyOf, rt_ok hl h16 ht h24]
theorem atPath_ok {f : List Rec → List UInt8 → Bool} {l : List Rec} {p : List UInt8} (hl : Sheet l) (h16 : l.length ≤ 16) (hp : pathOK p = true) : atPath f l p = (f l p, 0) := by
  have hpl := pathOK_len hp
  have n1 : ¬ 4096 < l.length := by omega
  have n2 : ¬ 65536 < p.length := by omega
  simp [atPath, n1, n2, sheet_layer hl h16, hp]
theorem cuts_ok {l : List Rec} {p : List UInt8} (hl : Sheet l) (h16 : l.length ≤ 16) (hp : pathOK p = true) : cutsOf l p = (cutsR l p, 0) := atPath_ok hl h16 hp
theorem under_ok {l : List Rec} {p : List UInt8} (hl : Sheet l) (h16 : l.length ≤ 16) (hp : pathOK p = true) : underOpq l p = (underO l p, 0) := atPath_ok hl h16 hp
/-! ### two layers as one: the law -/
theorem canonOf_ok {l : List Rec} (h : Sheet l) (h16 : l.length ≤ 16) : canonOf l = (canonL l, 0) := by
  have n1 : ¬ 4096 < l.length := by omega
  simp [canonOf, n1, sheet_layer h h16]
theorem faultL_ok {l : List Rec} (h : Sheet l) (h16 : l.length ≤ 16) : (layerFaultL l).2 = 0 := by
  have n1 : ¬ 4096 < l.length := by omega
  simp [layerFaultL, n1, sheet_layer h h16]
theorem isCanon_ok {l : List Rec} (h : Sheet l) (h16 : l.length ≤ 16) (hc : canonL l = l) : isCanon l = true := by simp [isCanon, faultL_ok h h16, hc]
theorem fitT_small (t : List Nd) : (fitT t).1.length ≤ 24 := fitT_len t

/-! ### layers and their canonical forms: the law -/
def law_FnLayers.sh (a0 : List Int) (a1 : List Int) : Option (Bool) :=
  ((bif (decide (1048576 < (a0.length : Int))) then some true else (some (decide (1048576 < (a1.length : Int)))))).bind fun z2 => bif z2 then (some true) else (((spec_LayerDrawn.sh a0)).bind fun z11 => ((spec_TreeDrawn.sh a1)).bind fun z17 => bif decide (z11.length ≤ 1048576) then (bif decide (∀ x ∈ z11, x.path.length ≤ 1048576) then (bif decide (z11.length ≤ 1048576) then (bif decide (∀ x ∈ z11, x.path.length ≤ 1048576) then (bif decide (z11.length ≤ 1048576) then (bif decide (∀ x ∈ z11, x.path.length ≤ 1048576) then (bif decide (((canonOf z11).1).length ≤ 1048576) then (bif decide (∀ x ∈ ((canonOf z11).1), x.path.length ≤ 1048576) then (((bif (!decide (((layerFaultL z11).2) = 0)) then some true else (some (!decide (((layerFaultL z11).1) = 0))))).bind fun z46 => ((bif z46 then some true else (some (!decide (((canonOf z11).2) = 0))))).bind fun z55 => ((bif z55 then some true else (bif decide (((canonOf z11).1).length ≤ 4611686018427387904) then (some (!(decide (((canonOf z11).1) = ((canonOf z11).1))))) else none))).bind fun z64 => ((bif z64 then some true else (some (!decide (((canonOf ((canonOf z11).1)).2) = 0))))).bind fun z73 => ((bif z73 then some true else (bif decide (((canonOf ((canonOf z11).1)).1).length ≤ 4611686018427387904) then (some (!(decide (((canonOf ((canonOf z11).1)).1) = ((canonOf z11).1))))) else none))).bind fun z82 => ((bif z82 then some true else (bif decide (z11.length ≤ 1048576) then (bif decide (∀ x ∈ z11, x.path.length ≤ 1048576) then (some (!(decide ((layerFaultL z11).2 = 0)))) else none) else none))).bind fun z91 => ((bif z91 then some true else (bif decide (((canonOf z11).1).length ≤ 1048576) then (bif decide (∀ x ∈ ((canonOf z11).1), x.path.length ≤ 1048576) then (some (!(isCanon ((canonOf z11).1)))) else none) else none))).bind fun z100 => ((bif z100 then some true else (bif decide (z11.length ≤ 1048576) then (bif decide (∀ x ∈ z11, x.path.length ≤ 1048576) then (bif decide (z11.length ≤ 1048576) then (bif decide (∀ x ∈ z11, x.path.length ≤ 1048576) then (some (!decide ((isCanon z11) = (isCanon z11)))) else none) else none) else none) else none))).bind fun z109 => bif z109 then (some false) else (bif decide (z11.length ≤ 1048576) then (bif decide (z17.length ≤ 1048576) then (bif decide (∀ x ∈ z11, x.path.length ≤ 1048576) then (bif decide (∀ x ∈ z17, x.path.length ≤ 1048576) then (bif decide (z11.length ≤ 1048576) then (bif decide (z17.length ≤ 1048576) then (bif decide (∀ x ∈ z11, x.path.length ≤ 1048576) then (bif decide (∀ x ∈ z17, x.path.length ≤ 1048576) then (bif decide (((canonOf z11).1).length ≤ 1048576) then (bif decide (z17.length ≤ 1048576) then (bif decide (∀ x ∈ ((canonOf z11).1), x.path.length ≤ 1048576) then (bif decide (∀ x ∈ z17, x.path.length ≤ 1048576) then (((bif (!decide (((applyOf z11 z17).2) = ((applyOf z11 z17).2))) then some true else (bif decide (((applyOf z11 z17).1).length ≤ 4611686018427387904) then (some (!(decide (((applyOf z11 z17).1) = ((applyOf z11 z17).1))))) else none))).bind fun z145 => ((bif z145 then some true else (some (!decide (((applyOf ((canonOf z11).1) z17).2) = ((applyOf z11 z17).2)))))).bind fun z154 => ((bif z154 then some true else (bif decide (((applyOf ((canonOf z11).1) z17).1).length ≤ 4611686018427387904) then (some (!(decide (((applyOf ((canonOf z11).1) z17).1) = ((applyOf z11 z17).1))))) else none))).bind fun z163 => bif z163 then (some false) else (((spec_PathDrawn.sh a1)).bind fun z172 => bif decide (z11.length ≤ 1048576) then (bif decide (∀ x ∈ z11, x.path.length ≤ 1048576) then (bif decide (z11.length ≤ 1048576) then (bif decide (∀ x ∈ z11, x.path.length ≤ 1048576) then (bif decide (z11.length ≤ 1048576) then (bif decide (∀ x ∈ z11, x.path.length ≤ 1048576) then (bif decide (z11.length ≤ 1048576) then (bif decide (∀ x ∈ z11, x.path.length ≤ 1048576) then (bif decide (z11.length ≤ 1048576) then (bif decide (∀ x ∈ z11, x.path.length ≤ 1048576) then (bif decide (z11.length ≤ 1048576) then (bif decide (∀ x ∈ z11, x.path.length ≤ 1048576) then (((bif (!decide (((findRec z11 z172).2) = ((findRec z11 z172).2))) then some true else (some (!decide (((findRec z11 z172).1) = ((findRec z11 z172).1)))))).bind fun z219 => ((bif z219 then some true else (some (!decide (((underOpq z11 z172).2) = 0))))).bind fun z228 => ((bif z228 then some true else (some (!decide (((underOpq z11 z172).1) = ((underOpq z11 z172).1)))))).bind fun z237 => ((bif z237 then some true else (some (!decide (((cutsOf z11 z172).2) = 0))))).bind fun z246 => ((bif z246 then some true else (some (!decide (((cutsOf z11 z172).1) = ((cutsOf z11 z172).1)))))).bind fun z255 => ((bif z255 then some true else (((bif ((underOpq z11 z172).1) then (some (!((cutsOf z11 z172).1))) else some false)).bind fun z265 => some z265))).bind fun z264 => bif z264 then (some false) else (bif decide ((([] : List Rec).length + z11.length) * 56 ≤ 140737488355328) then (bif (decide (0 < ((([] : List Rec) ++ z11).length : Int))) then (((laws_at.sh a1 0 ((([] : List Rec) ++ z11).length : Int))).bind fun z289 => ((spec_RecordDrawn.sh a1)).bind fun z293 => bif inR z289 (([] : List Rec) ++ z11).length then (bif decide ((setI (([] : List Rec) ++ z11) z289 z293).length ≤ 1048576) then (bif decide (∀ x ∈ (setI (([] : List Rec) ++ z11) z289 z293), x.path.length ≤ 1048576) then ((some ((layerFaultL (setI (([] : List Rec) ++ z11) z289 z293)).1)).bind fun z310 => (some ((layerFaultL (setI (([] : List Rec) ++ z11) z289 z293)).2)).bind fun z312 => bif decide ((setI (([] : List Rec) ++ z11) z289 z293).length ≤ 1048576) then (bif decide (∀ x ∈ (setI (([] : List Rec) ++ z11) z289 z293), x.path.length ≤ 1048576) then ((some ((layerFaultL (setI (([] : List Rec) ++ z11) z289 z293)).1)).bind fun z318 => (some ((layerFaultL (setI (([] : List Rec) ++ z11) z289 z293)).2)).bind fun z320 => ((bif (decide (z312 = z320)) then (some (decide (z310 = z318))) else some false)).bind fun z323 => ((bif z323 then (bif decide ((setI (([] : List Rec) ++ z11) z289 z293).length ≤ 1048576) then (bif decide (∀ x ∈ (setI (([] : List Rec) ++ z11) z289 z293), x.path.length ≤ 1048576) then (some (decide ((decide ((layerFaultL (setI (([] : List Rec) ++ z11) z289 z293)).2 = 0)) = (decide (z320 = 0))))) else none) else none) else some false)).bind fun z332 => some z332) else none) else none) else none) else none) else none) else (bif decide ((([] : List Rec) ++ z11).length ≤ 1048576) then (bif decide (∀ x ∈ (([] : List Rec) ++ z11), x.path.length ≤ 1048576) then (bif decide ((([] : List Rec) ++ z11).length ≤ 1048576) then (bif decide (∀ x ∈ (([] : List Rec) ++ z11), x.path.length ≤ 1048576) then (((bif (decide (((layerFaultL (([] : List Rec) ++ z11)).2) = ((layerFaultL (([] : List Rec) ++ z11)).2))) then (some (decide (((layerFaultL (([] : List Rec) ++ z11)).1) = ((layerFaultL (([] : List Rec) ++ z11)).1)))) else some false)).bind fun z349 => ((bif z349 then (bif decide ((([] : List Rec) ++ z11).length ≤ 1048576) then (bif decide (∀ x ∈ (([] : List Rec) ++ z11), x.path.length ≤ 1048576) then (some (decide ((decide ((layerFaultL (([] : List Rec) ++ z11)).2 = 0)) = (decide (((layerFaultL (([] : List Rec) ++ z11)).2) = 0))))) else none) else none) else some false)).bind fun z358 => some z358) else none) else none) else none) else none)) else none)) else none) else none) else none) else none) else none) else none) else none) else none) else none) else none) else none) else none)) else none) else none) else none) else none) else none) else none) else none) else none) else none) else none) else none) else none)) else none) else none) else none) else none) else none) else none) else none) else none)
theorem law_FnLayers.eq (a0 a1 : List Int) (h2 : ∀ x ∈ a0, okB x) (h3 : a0.length ≤ 9223372036854775807) (h4 : ∀ x ∈ a1, okB x) (h5 : a1.length ≤ 9223372036854775807) : law_FnLayers.sh a0 a1 = some true := by
  unfold law_FnLayers.sh
  rcases guard_of a0 a1 with hg | ⟨hg, l0, l1⟩
  · rw [hg]; rfl
  · rw [hg]
    obtain ⟨l, e1, hL⟩ := layerDrawn_ok h2 (by omega)
    obtain ⟨t, e2, ht, ht16⟩ := treeDrawn_ok h4 (by omega)
    obtain ⟨p, e3, hpp⟩ := pathDrawn_ok h4 (by omega)
    obtain ⟨r, e4, hrf, hrp⟩ := recordDrawn_ok h4 (by omega)
    have hl := hL.sheet
    have h16 := hL.len
    have hp := hpp.ok
    have hpl := pathOK_len hp
    have hc := canon_Sheet hl
    have hc16 := Nat.le_trans (canonL_lenle l) h16
    have hid := canon_idem hl (by omega)
    have dl : decide (l.length ≤ 1048576) = true := decide_eq_true (by omega)
    have dc : decide ((canonL l).length ≤ 1048576) = true := decide_eq_true (by omega)
    have dc2 : decide ((canonL l).length ≤ 4611686018427387904) = true := decide_eq_true (by omega)
    have dt : decide (t.length ≤ 1048576) = true := decide_eq_true (by omega)
    have pl : decide (∀ x ∈ l, x.path.length ≤ 1048576) = true := decide_eq_true (small_paths hl)
    have pc : decide (∀ x ∈ canonL l, x.path.length ≤ 1048576) = true := decide_eq_true (small_paths hc)
    have pt : decide (∀ x ∈ t, x.path.length ≤ 1048576) = true := decide_eq_true (small_pathsT ht)
    have hf : layerFaultL l = (0, 0) := by
      have n1 : ¬ 4096 < l.length := by omega
      have h0 := sheet_layer hl h16
      have : layerFault l = (0, 0) := by
        unfold layerFault at h0 ⊢
        split
        · rename_i x hx
          rw [hx] at h0
          obtain ⟨i, _, hi⟩ := List.exists_of_findSome?_eq_some hx
          split at hi
          · cases hi
          · rename_i hne
            obtain rfl := Option.some.inj hi
            exact absurd h0 hne
        · rfl
      simp [layerFaultL, n1, this]
    have hap : applyOf (canonL l) t = applyOf l t := by rw [apply_eq hc hc16 ht (by omega), apply_eq hl h16 ht (by omega), apply_canon hl ht]
    have hfl := fitT_small (applyL l t)
    have d3 : decide ((fitT (applyL l t)).1.length ≤ 4611686018427387904) = true := decide_eq_true (by omega)
    simp only [e1, e2, e3, e4, dl, dt, pl, pt, cond_false, cond_true, Option.bind_some, canonOf_ok hl h16, canonOf_ok hc hc16, hid, dc, dc2, pc, hf, decide_true, Bool.not_true, isCanon_ok hc hc16 hid, hap, apply_eq hl h16 ht (by omega), d3, under_ok hl h16 hp, cuts_ok hl h16 hp]
    have hu : ((bif underO l p then some (!cutsR l p) else some false).bind fun z265 => some z265) = some false := by
      cases h : underO l p with
      | true => rw [under_cuts h]; rfl
      | false => rfl
    rw [hu]
    simp only [Option.bind_some, cond_false, List.nil_append]
    have d4 : decide ((([] : List Rec).length + l.length) * 56 ≤ 140737488355328) = true := decide_eq_true (by simp; omega)
    simp only [d4, cond_true]
    by_cases h0 : (0 : Int) < (l.length : Int)
    · obtain ⟨i, e5, hi0, hi1⟩ := at_ok h4 l1 (i := 0) (n := (l.length : Int)) (by omega) (by omega) h0
      have hi : inR i l.length = true := inR_mk hi0 hi1
      have d5 : decide ((setI l i r).length ≤ 1048576) = true := decide_eq_true (by rw [setI_len]; omega)
      have p5 : decide (∀ x ∈ setI l i r, x.path.length ≤ 1048576) = true := decide_eq_true fun x hx => by
        rcases List.mem_or_eq_of_mem_set hx with h | h
        · exact small_paths hl x h
        · rw [h]; exact pathOK_small (recFault_path hrf)
      simp only [decide_eq_true h0, cond_true, e5, Option.bind_some, hi, d5, p5, decide_true]
    · simp only [decide_eq_false h0, cond_false, dl, pl, cond_true, decide_true, Option.bind_some]

end Go.UL
