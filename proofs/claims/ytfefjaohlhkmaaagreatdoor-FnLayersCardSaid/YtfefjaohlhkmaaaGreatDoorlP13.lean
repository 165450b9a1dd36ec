/- Plain Lean: what the functions compute. -/
import Derived.Test.YtfefjaohlhkmaaaGreatDoorlP7
set_option linter.unusedVariables false
set_option linter.unusedSimpArgs false
namespace Go.UL
open Go.RowKit
/-! ### what is wrong with a layer -/
/-- What is wrong with the record at place i, if nothing is wrong ahead of it. -/
def codeAt (l : List Rec) (i : Nat) : Int :=
  if i = 16 then 6 else if recFault (l.getD i default) ≠ 0 then recFault (l.getD i default)
  else if 0 < i ∧ (l.getD i default).path = (l.getD (i - 1) default).path then 18
  else if 0 < i ∧ lessL (cut 47 (l.getD (i - 1) default).path) (cut 47 (l.getD i default).path) = false then 11
  else if parentP (l.getD i default).path = [] then 0
  else if findR (l.take i) (parentP (l.getD i default).path) < 0 then 12
  else if (gt l (findR (l.take i) (parentP (l.getD i default).path))).kind ≠ 3 then 13 else 0
def layerFault (l : List Rec) : Int × Int := match (List.range l.length).findSome? (fun i => if codeAt l i = 0 then none else some ((i : Int), codeAt l i)) with
  | some x => x
  | none => (0, 0)
def layerFaultL (l : List Rec) : Int × Int := if 4096 < l.length then (0, 2) else layerFault l
theorem gt_nat {α : Type} [Inhabited α] (l : List α) (i : Nat) : gt l (i : Int) = l.getD i default := rfl
theorem getD_mem {l : List Rec} {i : Nat} (h : i < l.length) : l.getD i default ∈ l := by
  have : l.getD i default = l[i] := by simp [List.getD_eq_getElem?_getD, List.getElem?_eq_getElem h]
  rw [this]; exact List.getElem_mem h
theorem findR_take {l : List Rec} {p : List UInt8} {i : Nat} (hi : i ≤ l.length) (h : ¬ findR (l.take i) p < 0) : inR (findR (l.take i) p) l.length = true := by
  have h1 : findR (l.take i) p < (l.take i).length := findI_lt _ _
  have h2 : (l.take i).length ≤ i := by simp; omega
  exact inR_mk (by omega) (by omega)
def spec_l03Fault.b1 (a0 : List Rec) : Int → Option (Step (Int × Int) (Int) (Unit)) :=
  fun x4_1 => bif (decide (x4_1 < (a0.length : Int))) then (bif (decide (x4_1 = 16)) then (some (.ret (x4_1, 6))) else (bif inR x4_1 a0.length then (bif (!decide ((recFault (gt a0 x4_1)) = 0)) then (some (.ret (x4_1, (recFault (gt a0 x4_1))))) else (bif (!(decide (0 < x4_1)) || (inR x4_1 a0.length)) then (bif (!(decide (0 < x4_1)) || (inR (IntKind.wrap .i64 (x4_1 - 1)) a0.length)) then (bif ((decide (0 < x4_1)) && (decide (((gt a0 x4_1).path) = ((gt a0 (IntKind.wrap .i64 (x4_1 - 1))).path)))) then (some (.ret (x4_1, 18))) else (bif (!(decide (0 < x4_1)) || (inR (IntKind.wrap .i64 (x4_1 - 1)) a0.length)) then (bif (!(decide (0 < x4_1)) || (inR x4_1 a0.length)) then (bif (!(decide (0 < x4_1)) || (decide (((gt a0 (IntKind.wrap .i64 (x4_1 - 1))).path).length ≤ 1048576))) then (bif (!(decide (0 < x4_1)) || (decide (((gt a0 x4_1).path).length ≤ 1048576))) then (bif ((decide (0 < x4_1)) && (!(lessL (cut 47 ((gt a0 (IntKind.wrap .i64 (x4_1 - 1))).path)) (cut 47 ((gt a0 x4_1).path))))) then (some (.ret (x4_1, 11))) else (bif inR x4_1 a0.length then (bif decide (((gt a0 x4_1).path).length ≤ 4611686018427387904) then (bif (decide ((parentP ((gt a0 x4_1).path)) = ([] : List UInt8))) then (some (.nxt (IntKind.wrap .i64 (x4_1 + 1)))) else (bif inS 0 x4_1 (a0.length : Int) then (bif decide ((sub a0 0 x4_1).length ≤ 1048576) then (bif (decide ((findR (sub a0 0 x4_1) (parentP ((gt a0 x4_1).path))) < 0)) then (some (.ret (x4_1, 12))) else (bif inR (findR (sub a0 0 x4_1) (parentP ((gt a0 x4_1).path))) a0.length then (bif (!decide (((gt a0 (findR (sub a0 0 x4_1) (parentP ((gt a0 x4_1).path)))).kind) = 3)) then (some (.ret (x4_1, 13))) else (some (.nxt (IntKind.wrap .i64 (x4_1 + 1))))) else none)) else none) else none)) else none) else none)) else none) else none) else none) else none)) else none) else none)) else none)) else (some (.brk ()))
def spec_l03Fault.sh (k : Nat) (a0 : List Rec) : Option (Int × Int) :=
  (loopF (spec_l03Fault.b1 a0) k 0).bind fun z => match z with | .inl t => some t | .inr _ => some (0, 0)
theorem spec_l03Fault.eq (a0 : List Rec) (h0 : a0.length ≤ 1048576) (h1 : ∀ x ∈ a0, x.path.length ≤ 1048576) : ∃ k, spec_l03Fault.sh k a0 = some ((layerFault a0).1, (layerFault a0).2) := by
  refine ⟨a0.length + 1, ?_⟩
  unfold spec_l03Fault.sh
  have hb : ∀ i : Nat, i < a0.length → spec_l03Fault.b1 a0 i = some (sc (if codeAt a0 i = 0 then none else some ((i : Int), codeAt a0 i) : Option (Int × Int)) ((i : Int) + 1)) := by
    intro i hi
    have hp := h1 _ (getD_mem hi)
    have hp2 : (a0.getD i default).path.length ≤ 4611686018427387904 := by omega
    simp only [spec_l03Fault.b1, lt_nat, hi, decide_true, cond_true, inR_nat hi, gt_nat, wrap_succ hi (by omega), Bool.or_true, hp, hp2]
    have e16 : decide ((i : Int) = 16) = decide (i = 16) := by rw [decide_eq_decide]; omega
    rw [e16]
    unfold codeAt
    obtain ⟨r, hr⟩ : ∃ r, a0.getD i default = r := ⟨_, rfl⟩
    simp only [hr] at hp hp2 ⊢
    by_cases h16 : i = 16
    · subst h16; simp
    · simp only [h16, decide_false, cond_false, if_false]
      by_cases hf : recFault r = 0
      · simp only [hf, decide_true, Bool.not_true, cond_false, ne_eq, not_true_eq_false, if_false]
        by_cases hz : i = 0
        · subst hz
          simp only [Int.natCast_zero, Int.lt_irrefl, decide_false, Bool.not_false, Bool.true_or, cond_true, Bool.false_and, cond_false, Nat.lt_irrefl, false_and, if_false]
          by_cases hpp : parentP r.path = []
          · simp [hpp]
          · simp only [hpp, decide_false, cond_false, if_false]
            have hs : sub a0 0 ((0 : Nat) : Int) = a0.take 0 := rfl
            simp only [Int.natCast_zero] at hs
            rw [inS_mk (l := 0) (h := 0) (n := (a0.length : Int)) (by omega) (by omega) (by omega)]
            simp only [hs]
            simp [findR, findI]
        · have hi1 : i - 1 < a0.length := by omega
          have hw : IntKind.wrap .i64 ((i : Int) - 1) = ((i - 1 : Nat) : Int) := by rw [wrap_small (by omega) (by omega)]; omega
          have hpos : (0 : Int) < (i : Int) := by omega
          have hpos' : 0 < i := by omega
          have hp3 := h1 _ (getD_mem hi1)
          simp only [hw, gt_nat, inR_nat hi1, hpos, hpos', hp3, decide_true, Bool.not_true, Bool.false_or, Bool.or_true, cond_true, Bool.true_and, true_and]
          obtain ⟨q, hq0⟩ : ∃ q, a0.getD (i - 1) default = q := ⟨_, rfl⟩
          simp only [hq0]
          by_cases hq : r.path = q.path
          · simp [hq]
          · simp only [hq, decide_false, cond_false, if_false]
            cases hL : lessL (cut 47 q.path) (cut 47 r.path) with
            | false => simp
            | true =>
              simp only [Bool.not_true, cond_false, Bool.true_eq_false, if_false]
              by_cases hpp : parentP r.path = []
              · simp [hpp]
              · simp only [hpp, decide_false, cond_false, if_false]
                have hs : sub a0 0 (i : Int) = a0.take i := by simp [sub]
                have hl : (a0.take i).length ≤ 1048576 := by simp; omega
                rw [inS_mk (l := 0) (h := (i : Int)) (n := (a0.length : Int)) (by omega) (by omega) (by omega)]
                simp only [hs, cond_true, hl, decide_true]
                by_cases hk : findR (a0.take i) (parentP r.path) < 0
                · simp [hk]
                · simp only [hk, decide_false, cond_false, if_false, findR_take (Nat.le_of_lt hi) hk, cond_true]
                  by_cases hd : (gt a0 (findR (a0.take i) (parentP r.path))).kind = 3
                  · simp [hd]
                  · simp [hd]
      · simp [hf]
  have hn : spec_l03Fault.b1 a0 a0.length = some (.brk ()) := by simp [spec_l03Fault.b1]
  rw [loop_scan0 a0.length _ hb hn _ (by omega)]
  unfold layerFault
  cases (List.range a0.length).findSome? _ <;> rfl
def spec_LayerFault.sh (a0 : List Rec) : Option (Int × Int) :=
  bif (decide (4096 < (a0.length : Int))) then (some (0, 2)) else (bif decide (a0.length ≤ 1048576) then (bif decide (∀ x ∈ a0, x.path.length ≤ 1048576) then (some ((layerFault a0).1, (layerFault a0).2)) else none) else none)
theorem len4096 (l : List Rec) : decide ((4096 : Int) < (l.length : Int)) = decide (4096 < l.length) := by rw [decide_eq_decide]; omega
theorem spec_LayerFault.eq (a0 : List Rec) (h0 : a0.length ≤ 1048576) (h1 : ∀ x ∈ a0, x.path.length ≤ 1048576) : spec_LayerFault.sh a0 = some ((layerFaultL a0).1, (layerFaultL a0).2) := by
  unfold spec_LayerFault.sh layerFaultL
  rw [len4096]
  by_cases h : 4096 < a0.length
  · simp [h]
  · simp only [h, h0, decide_false, decide_true, cond_false, cond_true, if_false, decide_eq_true h1]
def spec_l03OK.sh (a0 : List Rec) : Option (Bool) :=
  bif decide (a0.length ≤ 1048576) then (bif decide (∀ x ∈ a0, x.path.length ≤ 1048576) then (some (decide (((layerFault a0).2) = 0))) else none) else none
theorem spec_l03OK.eq (a0 : List Rec) (h0 : a0.length ≤ 1048576) (h1 : ∀ x ∈ a0, x.path.length ≤ 1048576) : spec_l03OK.sh a0 = some (decide ((layerFault a0).2 = 0)) := by
  simp only [spec_l03OK.sh, h0, decide_true, cond_true, decide_eq_true h1]
def faultAt (l : List Rec) (i : Int) : Int :=
  if 16 ≤ i then 6 else if recFault (gt l i) ≠ 0 then recFault (gt l i) else if 0 < i ∧ (gt l (i - 1)).path = (gt l i).path then 18
  else if 0 < i ∧ pathLess (gt l (i - 1)).path (gt l i).path = false then 11 else if parentP (gt l i).path = [] then 0
  else if findR (l.take i.toNat) (parentP (gt l i).path) < 0 then 12 else if (gt l (findR (l.take i.toNat) (parentP (gt l i).path))).kind ≠ 3 then 13 else 0
def impl_faultAt.sh (a0 : List Rec) (a1 : Int) : Option (Int) :=
  bif inR a1 a0.length then (bif decide (((gt a0 a1).path).length ≤ 1048576) then ((bif (!decide ((parentP ((gt a0 a1).path)) = ([] : List UInt8))) then (bif inS 0 a1 (a0.length : Int) then (bif decide ((sub a0 0 a1).length ≤ 1048576) then (some (.inr (findR (sub a0 0 a1) (parentP ((gt a0 a1).path))))) else none) else none) else (some (.inr 0)) : Option ((Int) ⊕ (Int))).bind fun z => match z with | .inl t => some t | .inr x6_19 => bif (!(decide (0 < a1)) || (inR (if ((IntKind.wrap .i64 (a1 - 1)) < 0 : Prop) then 0 else (IntKind.wrap .i64 (a1 - 1))) a0.length)) then (bif (!(decide (0 < a1)) || (inR (if ((IntKind.wrap .i64 (a1 - 1)) < 0 : Prop) then 0 else (IntKind.wrap .i64 (a1 - 1))) a0.length)) then (bif decide (((gt a0 a1).path).length ≤ 1048576) then (bif (!(!decide ((parentP ((gt a0 a1).path)) = ([] : List UInt8))) || (inR (if (x6_19 < 0 : Prop) then 0 else x6_19) a0.length)) then (bif decide (([.inl (!(decide (recFault (gt a0 a1) = 0))), .inr (recFault (gt a0 a1)), .inl ((decide (0 < a1)) && (decide (((gt a0 (if ((IntKind.wrap .i64 (a1 - 1)) < 0 : Prop) then 0 else (IntKind.wrap .i64 (a1 - 1)))).path) = ((gt a0 a1).path)))), .inr 18, .inl ((decide (0 < a1)) && (!(pathLess ((gt a0 (if ((IntKind.wrap .i64 (a1 - 1)) < 0 : Prop) then 0 else (IntKind.wrap .i64 (a1 - 1)))).path) ((gt a0 a1).path)))), .inr 11, .inl (decide (x6_19 < 0)), .inr 12, .inl ((!decide ((parentP ((gt a0 a1).path)) = ([] : List UInt8))) && (!decide (((gt a0 (if (x6_19 < 0 : Prop) then 0 else x6_19)).kind) = 3))), .inr 13] : List (Bool ⊕ Int)).length ≤ 4611686018427387904) then (bif decide (([.inl (decide (16 ≤ a1)), .inr 6, .inl true, .inr (firstOf ([.inl (!(decide (recFault (gt a0 a1) = 0))), .inr (recFault (gt a0 a1)), .inl ((decide (0 < a1)) && (decide (((gt a0 (if ((IntKind.wrap .i64 (a1 - 1)) < 0 : Prop) then 0 else (IntKind.wrap .i64 (a1 - 1)))).path) = ((gt a0 a1).path)))), .inr 18, .inl ((decide (0 < a1)) && (!(pathLess ((gt a0 (if ((IntKind.wrap .i64 (a1 - 1)) < 0 : Prop) then 0 else (IntKind.wrap .i64 (a1 - 1)))).path) ((gt a0 a1).path)))), .inr 11, .inl (decide (x6_19 < 0)), .inr 12, .inl ((!decide ((parentP ((gt a0 a1).path)) = ([] : List UInt8))) && (!decide (((gt a0 (if (x6_19 < 0 : Prop) then 0 else x6_19)).kind) = 3))), .inr 13] : List (Bool ⊕ Int)))] : List (Bool ⊕ Int)).length ≤ 4611686018427387904) then (some (firstOf ([.inl (decide (16 ≤ a1)), .inr 6, .inl true, .inr (firstOf ([.inl (!(decide (recFault (gt a0 a1) = 0))), .inr (recFault (gt a0 a1)), .inl ((decide (0 < a1)) && (decide (((gt a0 (if ((IntKind.wrap .i64 (a1 - 1)) < 0 : Prop) then 0 else (IntKind.wrap .i64 (a1 - 1)))).path) = ((gt a0 a1).path)))), .inr 18, .inl ((decide (0 < a1)) && (!(pathLess ((gt a0 (if ((IntKind.wrap .i64 (a1 - 1)) < 0 : Prop) then 0 else (IntKind.wrap .i64 (a1 - 1)))).path) ((gt a0 a1).path)))), .inr 11, .inl (decide (x6_19 < 0)), .inr 12, .inl ((!decide ((parentP ((gt a0 a1).path)) = ([] : List UInt8))) && (!decide (((gt a0 (if (x6_19 < 0 : Prop) then 0 else x6_19)).kind) = 3))), .inr 13] : List (Bool ⊕ Int)))] : List (Bool ⊕ Int)))) else none) else none) else none) else none) else none) else none) else none) else none
theorem firstOf_c (b : Bool) (n : Int) (l : List (Bool ⊕ Int)) : firstOf (.inl b :: .inr n :: l) = if b then n else firstOf l := rfl
theorem impl_faultAt.eq (a0 : List Rec) (a1 : Int) (h0 : a0.length ≤ 1048576) (h1 : ∀ x ∈ a0, x.path.length ≤ 1048576) (h2 : inR a1 a0.length = true) : impl_faultAt.sh a0 a1 = some (faultAt a0 a1) := by
  obtain ⟨i, rfl⟩ : ∃ i : Nat, a1 = i := ⟨a1.toNat, by have := inR_lo h2; omega⟩
  have hi : i < a0.length := by have := inR_hi h2; omega
  have hp := h1 _ (getD_mem hi)
  obtain ⟨r, hr⟩ : ∃ r, a0.getD i default = r := ⟨_, rfl⟩
  have hs : sub a0 0 (i : Int) = a0.take i := by simp [sub]
  have hl : (a0.take i).length ≤ 1048576 := by simp; omega
  have hm : (if (IntKind.wrap .i64 ((i : Int) - 1) < 0 : Prop) then (0 : Int) else IntKind.wrap .i64 ((i : Int) - 1)) = ((i - 1 : Nat) : Int) := by
    rw [wrap_small (by omega) (by omega)]; split <;> omega
  have hi1 : i - 1 < a0.length := by omega
  obtain ⟨q, hq⟩ : ∃ q, a0.getD (i - 1) default = q := ⟨_, rfl⟩
  have hq2 : ∀ _ : 0 < i, gt a0 ((i : Int) - 1) = q := fun h => by
    have : ((i : Int) - 1) = ((i - 1 : Nat) : Int) := by omega
    rw [this, gt_nat, hq]
  rw [hr] at hp
  have e16 : decide ((16 : Int) ≤ (i : Int)) = decide (16 ≤ i) := by rw [decide_eq_decide]; omega
  have epos : decide ((0 : Int) < (i : Int)) = decide (0 < i) := by rw [decide_eq_decide]; omega
  have e16' : ((16 : Int) ≤ (i : Int)) = (16 ≤ i) := propext (by omega)
  have epos' : ((0 : Int) < (i : Int)) = (0 < i) := propext (by omega)
  unfold impl_faultAt.sh faultAt
  simp only [inR_nat hi, gt_nat, hr, hp, hs, hl, hm, hq, inR_nat hi1, e16, epos, decide_true, cond_true, Bool.or_true, Int.toNat_natCast, inS_mk (l := 0) (h := (i : Int)) (n := (a0.length : Int)) (by omega) (by omega) (by omega), firstOf_c, List.length_cons, List.length_nil]
  simp only [e16', epos']
  by_cases hpp : parentP r.path = []
  · have h00 : inR (if (0 : Int) < 0 then 0 else 0) a0.length = true := inR_mk (by omega) (by simp; omega)
    by_cases c0 : 0 < i
    · simp only [hq2 c0]
      by_cases c16 : 16 ≤ i <;> by_cases cf : recFault r = 0 <;> by_cases cq : q.path = r.path <;> cases cl : pathLess q.path r.path <;> simp [hpp, c16, cf, cq, cl, c0, firstOf]
    · by_cases c16 : 16 ≤ i <;> by_cases cf : recFault r = 0 <;> simp [hpp, c16, cf, c0, firstOf]
  · by_cases ck : findR (a0.take i) (parentP r.path) < 0
    · have h00 : inR 0 a0.length = true := inR_mk (by omega) (by omega)
      by_cases c0 : 0 < i
      · simp only [hq2 c0]
        by_cases c16 : 16 ≤ i <;> by_cases cf : recFault r = 0 <;> by_cases cq : q.path = r.path <;> cases cl : pathLess q.path r.path <;> simp [hpp, c16, cf, cq, cl, c0, ck, h00]
      · by_cases c16 : 16 ≤ i <;> by_cases cf : recFault r = 0 <;> simp [hpp, c16, cf, c0, ck, h00]
    · have hk := findR_take (Nat.le_of_lt hi) ck
      by_cases cd : (gt a0 (findR (a0.take i) (parentP r.path))).kind = 3
      · by_cases c0 : 0 < i
        · simp only [hq2 c0]
          by_cases c16 : 16 ≤ i <;> by_cases cf : recFault r = 0 <;> by_cases cq : q.path = r.path <;> cases cl : pathLess q.path r.path <;> simp [hpp, c16, cf, cq, cl, c0, ck, hk, cd, firstOf]
        · by_cases c16 : 16 ≤ i <;> by_cases cf : recFault r = 0 <;> simp [hpp, c16, cf, c0, ck, hk, cd, firstOf]
      · by_cases c0 : 0 < i
        · simp only [hq2 c0]
          by_cases c16 : 16 ≤ i <;> by_cases cf : recFault r = 0 <;> by_cases cq : q.path = r.path <;> cases cl : pathLess q.path r.path <;> simp [hpp, c16, cf, cq, cl, c0, ck, hk, cd, firstOf]
        · by_cases c16 : 16 ≤ i <;> by_cases cf : recFault r = 0 <;> simp [hpp, c16, cf, c0, ck, hk, cd, firstOf]

/-! ### layers: both ways agree -/
theorem recFault_path {r : Rec} (h : recFault r = 0) : pathOK r.path = true := by
  unfold recFault at h
  split at h
  · cases h
  · split at h
    · cases h
    · rename_i h2; simpa using h2
theorem codeAt_rec {l : List Rec} {i : Nat} (h : codeAt l i = 0) : recFault (l.getD i default) = 0 := by
  unfold codeAt at h
  split at h
  · cases h
  · split at h
    · rename_i h1; exact absurd h h1
    · rename_i h1; simpa using h1
theorem faultAt_code (l : List Rec) (i : Nat) (hp : ∀ j, j < i → codeAt l j = 0) : faultAt l (i : Int) = codeAt l i := by
  have h16 : ¬ 16 < i := fun h => by have := hp 16 h; simp [codeAt] at this
  unfold faultAt codeAt
  have e : ((16 : Int) ≤ (i : Int)) = (i = 16) := propext (by omega)
  have epos : ((0 : Int) < (i : Int)) = (0 < i) := propext (by omega)
  simp only [e, epos, gt_nat, Int.toNat_natCast]
  by_cases c16 : i = 16
  · simp [c16]
  · simp only [c16, if_false]
    obtain ⟨r, hr⟩ : ∃ r, l.getD i default = r := ⟨_, rfl⟩
    simp only [hr]
    by_cases cf : recFault r = 0
    · simp only [cf, ne_eq, not_true_eq_false, if_false]
      by_cases c0 : 0 < i
      · have hg : gt l ((i : Int) - 1) = l.getD (i - 1) default := by
          have : ((i : Int) - 1) = ((i - 1 : Nat) : Int) := by omega
          rw [this, gt_nat]
        obtain ⟨q, hq⟩ : ∃ q, l.getD (i - 1) default = q := ⟨_, rfl⟩
        have hqok : pathOK q.path = true := by rw [← hq]; exact recFault_path (codeAt_rec (hp (i - 1) (by omega)))
        have hrok := recFault_path cf
        have e1 : pathLess q.path r.path = lessL (cut 47 q.path) (cut 47 r.path) := by simp [pathLess, hqok, hrok]
        have e2 : (q.path = r.path) = (r.path = q.path) := propext ⟨Eq.symm, Eq.symm⟩
        simp only [hg, hq, e1, e2, c0, true_and]
      · simp only [c0, false_and, if_false]
    · simp only [cf, ne_eq, not_false_eq_true, if_true]
def impl_fault.b1 (a0 : List Rec) : Int → Option (Step (Int × Int) (Int) (Unit)) :=
  fun x8_1 => bif (decide (x8_1 < (a0.length : Int))) then (bif decide (a0.length ≤ 1048576) then (bif decide (∀ x ∈ a0, x.path.length ≤ 1048576) then (bif decide (inR x8_1 a0.length = true) then (bif (!decide ((faultAt a0 x8_1) = 0)) then (some (.ret (x8_1, (faultAt a0 x8_1)))) else (some (.nxt (IntKind.wrap .i64 (x8_1 + 1))))) else none) else none) else none) else (some (.brk ()))
def impl_fault.sh (k : Nat) (a0 : List Rec) : Option (Int × Int) :=
  (loopF (impl_fault.b1 a0) k 0).bind fun z => match z with | .inl t => some t | .inr _ => some (0, 0)
theorem impl_fault.eq (a0 : List Rec) (h0 : a0.length ≤ 1048576) (h1 : ∀ x ∈ a0, x.path.length ≤ 1048576) : ∃ k, impl_fault.sh k a0 = some ((layerFault a0).1, (layerFault a0).2) := by
  refine ⟨a0.length + 1, ?_⟩
  unfold impl_fault.sh
  have hb : ∀ i : Nat, i < a0.length → impl_fault.b1 a0 i = some (sc (if faultAt a0 i = 0 then none else some ((i : Int), faultAt a0 i) : Option (Int × Int)) ((i : Int) + 1)) := by
    intro i hi
    simp only [impl_fault.b1, lt_nat, hi, decide_true, cond_true, inR_nat hi, h0, decide_eq_true h1, wrap_succ hi (by omega)]
    by_cases hf : faultAt a0 i = 0 <;> simp [hf]
  have hn : impl_fault.b1 a0 a0.length = some (.brk ()) := by simp [impl_fault.b1]
  rw [loop_scan0 a0.length _ hb hn _ (by omega)]
  have hag := find_agree_lt (f := fun i => if codeAt a0 i = 0 then none else some ((i : Int), codeAt a0 i)) (g := fun i => if faultAt a0 i = 0 then none else some ((i : Int), faultAt a0 i)) a0.length a0.length 0 (by omega) (fun j hj => by omega) (fun i _ hp => by
    have : faultAt a0 i = codeAt a0 i := faultAt_code a0 i fun j hj => by
      have := hp j hj
      by_cases h : codeAt a0 j = 0
      · exact h
      · simp [h] at this
    simp only [this])
  rw [List.range_eq_range', hag, ← List.range_eq_range']
  unfold layerFault
  cases (List.range a0.length).findSome? _ <;> rfl
def impl_LayerFault.sh (a0 : List Rec) : Option (Int × Int) :=
  bif (decide (4096 < a0.length)) then (some (0, 2)) else (bif decide (a0.length ≤ 1048576) then (bif decide (∀ x ∈ a0, x.path.length ≤ 1048576) then (some ((layerFault a0).1, (layerFault a0).2)) else none) else none)
theorem impl_LayerFault.eq (a0 : List Rec) (h0 : a0.length ≤ 1048576) (h1 : ∀ x ∈ a0, x.path.length ≤ 1048576) : impl_LayerFault.sh a0 = some ((layerFaultL a0).1, (layerFaultL a0).2) := by
  unfold impl_LayerFault.sh layerFaultL
  by_cases h : 4096 < a0.length
  · simp [h]
  · simp only [h, h0, decide_false, decide_true, cond_false, cond_true, if_false, decide_eq_true h1]
def impl_LayerOK.sh (a0 : List Rec) : Option (Bool) :=
  bif decide (a0.length ≤ 1048576) then (bif decide (∀ x ∈ a0, x.path.length ≤ 1048576) then (some (decide (((layerFaultL a0).2) = 0))) else none) else none
theorem impl_LayerOK.eq (a0 : List Rec) (h0 : a0.length ≤ 1048576) (h1 : ∀ x ∈ a0, x.path.length ≤ 1048576) : impl_LayerOK.sh a0 = some (decide ((layerFaultL a0).2 = 0)) := by
  simp only [impl_LayerOK.sh, h0, decide_true, cond_true, decide_eq_true h1]
/-! ### a record of a path -/
def findRec (l : List Rec) (p : List UInt8) : Rec × Int :=
  if decide (4096 < l.length) || decide (65536 < p.length) then (zeroR, 2) else if (layerFault l).2 ≠ 0 then (zeroR, 1) else if findR l p < 0 then (zeroR, 5) else (gt l (findR l p), 0)
theorem findR_in {l : List Rec} {p : List UInt8} (h : ¬ findR l p < 0) : inR (findR l p) l.length = true := (findI_get _ l (by unfold findR at h; omega)).1
def spec_FindRecord.sh (a0 : List Rec) (a1 : List UInt8) : Option (Rec × Int) :=
  bif ((decide (4096 < (a0.length : Int))) || (decide (65536 < (a1.length : Int)))) then (some ((⟨0, ([] : List UInt8), ([] : List UInt8), 0, false⟩ : Rec), 2)) else (bif decide (a0.length ≤ 1048576) then (bif decide (∀ x ∈ a0, x.path.length ≤ 1048576) then (bif (!(decide ((layerFault a0).2 = 0))) then (some ((⟨0, ([] : List UInt8), ([] : List UInt8), 0, false⟩ : Rec), 1)) else (bif decide (a0.length ≤ 1048576) then (bif (decide ((findR a0 a1) < 0)) then (some ((⟨0, ([] : List UInt8), ([] : List UInt8), 0, false⟩ : Rec), 5)) else (bif inR (findR a0 a1) a0.length then (some ((gt a0 (findR a0 a1)), 0)) else none)) else none)) else none) else none)
theorem spec_FindRecord.eq (a0 : List Rec) (a1 : List UInt8) (h0 : a0.length ≤ 1048576) (h1 : ∀ x ∈ a0, x.path.length ≤ 1048576) : spec_FindRecord.sh a0 a1 = some ((findRec a0 a1).1, (findRec a0 a1).2) := by
  unfold spec_FindRecord.sh findRec
  rw [len4096, len_dec]
  by_cases h : (decide (4096 < a0.length) || decide (65536 < a1.length)) = true
  · simp only [h, cond_true, if_true, zeroR]
  · simp only [h, h0, decide_true, cond_false, cond_true, if_false, decide_eq_true h1, Bool.false_eq_true]
    by_cases hf : (layerFault a0).2 = 0
    · simp only [hf, decide_true, Bool.not_true, cond_false, ne_eq, not_true_eq_false, if_false]
      by_cases hk : findR a0 a1 < 0
      · simp [hk, zeroR]
      · simp [hk, findR_in hk]
    · simp [hf, zeroR]
def impl_FindRecord.sh (a0 : List Rec) (a1 : List UInt8) : Option (Rec × Int) :=
  bif decide (a0.length ≤ 1048576) then (bif decide (([a1] : List (List UInt8)).length ≤ 4611686018427387904) then (bif decide (a0.length ≤ 1048576) then (bif decide (∀ x ∈ a0, x.path.length ≤ 1048576) then (bif decide (([.inl ((([a1] : List (List UInt8)).any fun t => decide (65536 < t.length)) || (decide (4096 < a0.length))), .inr 2, .inl (!(decide ((layerFaultL a0).2 = 0))), .inr 1, .inl (decide ((findR a0 a1) < 0)), .inr 5] : List (Bool ⊕ Int)).length ≤ 4611686018427387904) then ((some (firstOf ([.inl ((([a1] : List (List UInt8)).any fun t => decide (65536 < t.length)) || (decide (4096 < a0.length))), .inr 2, .inl (!(decide ((layerFaultL a0).2 = 0))), .inr 1, .inl (decide ((findR a0 a1) < 0)), .inr 5] : List (Bool ⊕ Int)))).bind fun z38 => bif (!decide (z38 = 0)) then (some ((⟨0, ([] : List UInt8), ([] : List UInt8), 0, false⟩ : Rec), z38)) else (bif inR (findR a0 a1) a0.length then (some ((gt a0 (findR a0 a1)), 0)) else none)) else none) else none) else none) else none) else none
theorem impl_FindRecord.eq (a0 : List Rec) (a1 : List UInt8) (h0 : a0.length ≤ 1048576) (h1 : ∀ x ∈ a0, x.path.length ≤ 1048576) : impl_FindRecord.sh a0 a1 = some ((findRec a0 a1).1, (findRec a0 a1).2) := by
  unfold impl_FindRecord.sh findRec layerFaultL
  simp only [h0, decide_true, cond_true, decide_eq_true h1, firstOf_c, List.length_cons, List.length_nil, firstOf, anyB, anyI, List.any_cons, List.any_nil, Bool.or_false]
  rw [Bool.or_comm (decide (65536 < a1.length))]
  by_cases h : 4096 < a0.length
  · simp [h, zeroR]
  · by_cases h2 : 65536 < a1.length
    · simp [h, h2, zeroR]
    · by_cases hf : (layerFault a0).2 = 0
      · by_cases hk : findR a0 a1 < 0
        · simp [h, h2, hf, hk, zeroR]
        · simp [h, h2, hf, hk, findR_in hk]
      · simp [h, h2, hf, zeroR]
/-! ### equal layers -/
/-! ### nodes -/
/-- Where the node of a path stands, -1 if nowhere. -/
def findN (l : List Nd) (p : List UInt8) : Int := findI (fun r => decide (r.path = p)) l
def spec_l04At.b1 (a0 : List Nd) (a1 : List UInt8) : Int → Option (Step (Int) (Int) (Unit)) :=
  fun x5_1 => bif (decide (x5_1 < (a0.length : Int))) then (bif inR x5_1 a0.length then (bif (decide (((gt a0 x5_1).path) = a1)) then (some (.ret x5_1)) else (some (.nxt (IntKind.wrap .i64 (x5_1 + 1))))) else none) else (some (.brk ()))
def spec_l04At.sh (k : Nat) (a0 : List Nd) (a1 : List UInt8) : Option (Int) :=
  (loopF (spec_l04At.b1 a0 a1) k 0).bind fun z => match z with | .inl t => some t | .inr _ => some (-1)
theorem spec_l04At.eq (a0 : List Nd) (a1 : List UInt8) (h : a0.length ≤ 1048576) : ∃ k, spec_l04At.sh k a0 a1 = some (findN a0 a1) := by
  refine ⟨a0.length + 1, ?_⟩
  unfold spec_l04At.sh findN
  rw [findI_run (fun r : Nd => decide (r.path = a1)) a0 (spec_l04At.b1 a0 a1) (fun i hi => by
    simp only [spec_l04At.b1, lt_nat, hi, decide_true, cond_true, inR_nat hi, getD_gt, wrap_succ hi (by omega)]
    rfl) (by simp [spec_l04At.b1])]
  by_cases hm : findI (fun r : Nd => decide (r.path = a1)) a0 = -1
  · simp [hm]
  · simp [hm]
def impl_at_1.sh (a0 : Nd) (a1 : List UInt8) : Option (Bool) :=
  some (decide (a0.path = a1))
theorem impl_at_1.eq (a0 : Nd) (a1 : List UInt8) : impl_at_1.sh a0 a1 = some (decide (a0.path = a1)) := rfl
def slices_IndexFuncN.b1 (a0 : List Nd) (a1 : Nd → Option Bool) : Int → Option (Step (Int) (Int) (Unit)) :=
  fun x8_1 => bif (decide (x8_1 < (a0.length : Int))) then (bif inR x8_1 a0.length then ((a1 (gt a0 x8_1)).bind fun z22 => bif z22 then (some (.ret x8_1)) else (some (.nxt (IntKind.wrap .i64 (x8_1 + 1))))) else none) else (some (.brk ()))
def slices_IndexFuncN.sh (k : Nat) (a0 : List Nd) (a1 : Nd → Option Bool) : Option (Int) :=
  (loopF (slices_IndexFuncN.b1 a0 a1) k 0).bind fun z => match z with | .inl t => some t | .inr _ => some (-1)
theorem slices_IndexFuncN.eq (a0 : List Nd) (a1 : Nd → Option Bool) (h : a0.length ≤ 4611686018427387904) {r : Int} (H : idxO a1 a0 = some r) : ∃ k, slices_IndexFuncN.sh k a0 a1 = some r := by
  refine ⟨a0.length + 1, ?_⟩
  have := idxO_find a0 a0.length 0 (by omega) r (by simpa using H) (slices_IndexFuncN.b1 a0 a1) (fun i hi => by
    simp only [slices_IndexFuncN.b1, lt_nat, hi, decide_true, cond_true, inR_nat hi, getD_gt, wrap_succ hi h]) (by simp [slices_IndexFuncN.b1]) (a0.length + 1) (by omega)
  simp only [Int.natCast_zero] at this
  unfold slices_IndexFuncN.sh
  rw [this]
  by_cases hr : r = -1
  · simp [hr]
  · simp [hr]
def impl_at.sh (a0 : List Nd) (a1 : List UInt8) : Option (Int) :=
  bif decide (a0.length ≤ 4611686018427387904) then (((idxO (fun (x0_ : Nd) => some (decide (x0_.path = a1))) a0)).bind fun z12 => some z12) else none
theorem impl_at.eq (a0 : List Nd) (a1 : List UInt8) (h : a0.length ≤ 1048576) : impl_at.sh a0 a1 = some (findN a0 a1) := by
  have h1 : a0.length ≤ 4611686018427387904 := by omega
  have h2 := idxO_some (p := fun (x0_ : Nd) => some (decide (x0_.path = a1))) (q := fun r => decide (r.path = a1)) (l := a0) (fun _ _ => rfl)
  simp only [impl_at.sh, h1, decide_true, cond_true, h2, Option.bind_some, findN]

/-! ### trees -/
def recOf (n : Nd) : Rec := ⟨n.kind, n.path, n.body, n.mode, false⟩
def ndOf (r : Rec) : Nd := ⟨r.kind, r.path, r.body, r.mode⟩
def nodeOK (n : Nd) : Bool := decide (recFault (recOf n) = 0) && !decide (n.kind = 4)
def isDirN (t : List Nd) (p : List UInt8) : Bool := decide (p = []) || (decide (0 ≤ findN t p) && decide ((gt t (findN t p)).kind = 3))
/-- The node at place i stands well, behind those ahead of it. -/
def nodeAtOK (l : List Nd) (i : Nat) : Bool :=
  nodeOK (l.getD i default) && (decide (i = 0) || lessL (cut 47 (l.getD (i - 1) default).path) (cut 47 (l.getD i default).path)) && isDirN (l.take i) (parentP (l.getD i default).path)
def treeOK (l : List Nd) : Bool := decide (l.length ≤ 24) && (List.range l.length).all (nodeAtOK l)
theorem find_false (n : Nat) (bad : Nat → Bool) : (List.range n).findSome? (fun i => if bad i then some false else none) = if (List.range n).all (fun i => !bad i) then none else some false := by
  generalize List.range n = l
  induction l with
  | nil => rfl
  | cons x l ih =>
    rcases bool_two (bad x) with hb | hb
    · simp [hb]
    · have : List.findSome? (fun i => if bad i = true then some false else none) (x :: l) = List.findSome? (fun i => if bad i = true then some false else none) l := by simp [hb]
      rw [this, ih]
      simp [hb]
theorem nodeOK_path {n : Nd} (h : nodeOK n = true) : pathOK n.path = true := by
  simp only [nodeOK, Bool.and_eq_true, decide_eq_true_eq] at h
  exact recFault_path h.1
theorem gtake {α : Type} [Inhabited α] (l : List α) (i : Nat) (k : Int) (h0 : 0 ≤ k) (h : k < (l.take i).length) : gt (l.take i) k = gt l k := by
  obtain ⟨n, rfl⟩ : ∃ n : Nat, k = n := ⟨k.toNat, by omega⟩
  have : n < i ∧ n < l.length := by simp at h; omega
  simp only [getD_gt, List.getD_eq_getElem?_getD, List.getElem?_take, this.1, if_true]
theorem findN_lt (l : List Nd) (p : List UInt8) : findN l p < l.length := findI_lt _ _
theorem findN_take {l : List Nd} {p : List UInt8} {i : Nat} (hi : i ≤ l.length) (h : ¬ findN (l.take i) p < 0) : inR (findN (l.take i) p) l.length = true := by
  have h1 := findN_lt (l.take i) p
  have h2 : (l.take i).length ≤ i := by simp; omega
  exact inR_mk (by omega) (by omega)
theorem getN_mem {l : List Nd} {i : Nat} (h : i < l.length) : l.getD i default ∈ l := by
  have : l.getD i default = l[i] := by simp [List.getD_eq_getElem?_getD, List.getElem?_eq_getElem h]
  rw [this]; exact List.getElem_mem h
def spec_l04Record.sh (a0 : Nd) : Option (Rec) :=
  some (⟨a0.kind, a0.path, a0.body, a0.mode, false⟩ : Rec)
theorem spec_l04Record.eq (a0 : Nd) : spec_l04Record.sh a0 = some (recOf a0) := rfl
def spec_l04OK.b1 (a0 : List Nd) : Int → Option (Step (Bool) (Int) (Unit)) :=
  fun x3_2 => bif (decide (x3_2 < (a0.length : Int))) then (bif inR x3_2 a0.length then (bif (!(!(decide (((gt a0 x3_2).kind) = 4))) || (inR x3_2 a0.length)) then (bif (!((!((decide (((gt a0 x3_2).kind) = 4)) || (!(decide (recFault (recOf (gt a0 x3_2)) = 0))))) && (decide (0 < x3_2))) || (inR (IntKind.wrap .i64 (x3_2 - 1)) a0.length)) then (bif (!((!((decide (((gt a0 x3_2).kind) = 4)) || (!(decide (recFault (recOf (gt a0 x3_2)) = 0))))) && (decide (0 < x3_2))) || (inR x3_2 a0.length)) then (bif (!((!((decide (((gt a0 x3_2).kind) = 4)) || (!(decide (recFault (recOf (gt a0 x3_2)) = 0))))) && (decide (0 < x3_2))) || (decide (((gt a0 (IntKind.wrap .i64 (x3_2 - 1))).path).length ≤ 1048576))) then (bif (!((!((decide (((gt a0 x3_2).kind) = 4)) || (!(decide (recFault (recOf (gt a0 x3_2)) = 0))))) && (decide (0 < x3_2))) || (decide (((gt a0 x3_2).path).length ≤ 1048576))) then (bif (((decide (((gt a0 x3_2).kind) = 4)) || (!(decide (recFault (recOf (gt a0 x3_2)) = 0)))) || ((decide (0 < x3_2)) && (!(lessL (cut 47 ((gt a0 (IntKind.wrap .i64 (x3_2 - 1))).path)) (cut 47 ((gt a0 x3_2).path)))))) then (some (.ret false)) else (bif inR x3_2 a0.length then (bif decide (((gt a0 x3_2).path).length ≤ 4611686018427387904) then (bif (!decide ((parentP ((gt a0 x3_2).path)) = ([] : List UInt8))) then (bif inS 0 x3_2 (a0.length : Int) then (bif decide ((sub a0 0 x3_2).length ≤ 1048576) then (((bif (decide ((findN (sub a0 0 x3_2) (parentP ((gt a0 x3_2).path))) < 0)) then some true else (bif inR (findN (sub a0 0 x3_2) (parentP ((gt a0 x3_2).path))) a0.length then (some (!decide (((gt a0 (findN (sub a0 0 x3_2) (parentP ((gt a0 x3_2).path)))).kind) = 3))) else none))).bind fun z103 => bif z103 then (some (.ret false)) else (some (.nxt (IntKind.wrap .i64 (x3_2 + 1))))) else none) else none) else (some (.nxt (IntKind.wrap .i64 (x3_2 + 1))))) else none) else none)) else none) else none) else none) else none) else none) else none) else (some (.brk ()))
def spec_l04OK.sh (k : Nat) (a0 : List Nd) : Option (Bool) :=
  bif (decide (24 < (a0.length : Int))) then (some false) else ((loopF (spec_l04OK.b1 a0) k 0).bind fun z => match z with | .inl t => some t | .inr _ => some true)
theorem spec_l04OK.eq (a0 : List Nd) (h1 : ∀ x ∈ a0, x.path.length ≤ 1048576) : ∃ k, spec_l04OK.sh k a0 = some (treeOK a0) := by
  refine ⟨a0.length + 1, ?_⟩
  unfold spec_l04OK.sh
  by_cases hl : a0.length ≤ 24
  · have hl' : ¬ (24 : Int) < (a0.length : Int) := by omega
    simp only [hl', decide_false, cond_false]
    have hb : ∀ i : Nat, i < a0.length → spec_l04OK.b1 a0 i = some (sc (if !nodeAtOK a0 i then some false else none : Option Bool) ((i : Int) + 1)) := by
      intro i hi
      have hp := h1 _ (getN_mem hi)
      have hp2 : (a0.getD i default).path.length ≤ 4611686018427387904 := by omega
      have hs : sub a0 0 ((i : Nat) : Int) = a0.take i := by simp [sub]
      have hle : (a0.take i).length ≤ 1048576 := by simp; omega
      simp only [spec_l04OK.b1, lt_nat, hi, decide_true, cond_true, inR_nat hi, gt_nat, wrap_succ hi (by omega), Bool.or_true, hp, hp2, hs, hle, inS_mk (l := 0) (h := (i : Int)) (n := (a0.length : Int)) (by omega) (by omega) (by omega)]
      unfold nodeAtOK isDirN nodeOK
      obtain ⟨r, hr⟩ : ∃ r, a0.getD i default = r := ⟨_, rfl⟩
      simp only [hr] at hp hp2 ⊢
      cases c4 : decide (r.kind = 4) with
      | true => simp
      | false =>
        by_cases cf : recFault (recOf r) = 0
        · have key : ∀ q : Nd, (bif (decide (0 < (i : Int)) && !lessL (cut 47 q.path) (cut 47 r.path)) then some (Step.ret false) else
              bif !decide (parentP r.path = []) then
                ((bif decide (findN (a0.take i) (parentP r.path) < 0) then some true else bif inR (findN (a0.take i) (parentP r.path)) a0.length then some (!decide ((gt a0 (findN (a0.take i) (parentP r.path))).kind = 3)) else none).bind fun z => bif z then some (Step.ret false) else some (Step.nxt ((i : Int) + 1)))
              else some (Step.nxt ((i : Int) + 1))) =
              some (sc (if !((decide (i = 0) || lessL (cut 47 q.path) (cut 47 r.path)) && (decide (parentP r.path = []) || (decide (0 ≤ findN (a0.take i) (parentP r.path)) && decide ((gt (a0.take i) (findN (a0.take i) (parentP r.path))).kind = 3)))) then some false else none : Option Bool) ((i : Int) + 1) : Step Bool Int Unit) := by
            intro q
            have e0 : decide (0 < (i : Int)) = !decide (i = 0) := by by_cases h : i = 0 <;> simp [h]; omega
            rw [e0]
            cases lessL (cut 47 q.path) (cut 47 r.path) <;> cases decide (i = 0) <;> try simp
            all_goals
              by_cases hpp : parentP r.path = []
              · simp [hpp]
              · by_cases hk : findN (a0.take i) (parentP r.path) < 0
                · have hk2 : ¬ 0 ≤ findN (a0.take i) (parentP r.path) := by omega
                  simp [hpp, hk, hk2]
                · have hk2 : 0 ≤ findN (a0.take i) (parentP r.path) := by omega
                  rw [gtake a0 i _ hk2 (findN_lt _ _)]
                  by_cases h3 : (gt a0 (findN (a0.take i) (parentP r.path))).kind = 3 <;> simp [hpp, hk, hk2, findN_take (by omega : i ≤ a0.length) hk, h3]
          by_cases hz : i = 0
          · subst hz
            have := key default
            simpa [cf] using this
          · have hi1 : i - 1 < a0.length := by omega
            have hw : IntKind.wrap .i64 ((i : Int) - 1) = ((i - 1 : Nat) : Int) := by rw [wrap_small (by omega) (by omega)]; omega
            have hp3 := h1 _ (getN_mem hi1)
            have := key (a0.getD (i - 1) default)
            simp only [hw, gt_nat, inR_nat hi1, hp3, cf, decide_true, Bool.not_true, Bool.or_true, Bool.or_false, Bool.false_or, cond_true, cond_false, Bool.not_false, Bool.true_and]
            exact this
        · simp [cf]
    rw [loop_scan0 a0.length _ hb (by simp [spec_l04OK.b1]) _ (by omega), find_false]
    have e : (fun i => !!nodeAtOK a0 i) = nodeAtOK a0 := by funext i; simp
    simp only [treeOK, hl, decide_true, Bool.true_and, e]
    cases (List.range a0.length).all (nodeAtOK a0) <;> simp
  · have hl' : (24 : Int) < (a0.length : Int) := by omega
    simp [hl', treeOK, hl]
def impl_Node_record.sh (a0 : Nd) : Option (Rec) :=
  some (⟨a0.kind, a0.path, a0.body, a0.mode, false⟩ : Rec)
theorem impl_Node_record.eq (a0 : Nd) : impl_Node_record.sh a0 = some (recOf a0) := rfl
def impl_nodeOK.sh (a0 : Nd) : Option (Bool) :=
  some ((decide (recFault (recOf a0) = 0)) && (!decide (a0.kind = 4)))
theorem impl_nodeOK.eq (a0 : Nd) : impl_nodeOK.sh a0 = some (nodeOK a0) := rfl
def impl_isDir.sh (a0 : List Nd) (a1 : List UInt8) : Option (Bool) :=
  bif decide (a0.length ≤ 1048576) then (((bif (decide (a1 = ([] : List UInt8))) then some true else (((bif (decide (0 ≤ (findN a0 a1))) then (bif inR (findN a0 a1) a0.length then (some (decide (((gt a0 (findN a0 a1)).kind) = 3))) else none) else some false)).bind fun z6 => some z6))).bind fun z5 => some z5) else none
theorem impl_isDir.eq (a0 : List Nd) (a1 : List UInt8) (h0 : a0.length ≤ 1048576) : impl_isDir.sh a0 a1 = some (isDirN a0 a1) := by
  unfold impl_isDir.sh isDirN
  simp only [h0, decide_true, cond_true]
  by_cases hp : a1 = []
  · simp [hp]
  · by_cases hk : 0 ≤ findN a0 a1
    · simp [hp, hk, inR_mk hk (findN_lt a0 a1)]
    · simp [hp, hk]
def impl_TreeOK.b1 (a0 : List Nd) : Int → Option (Step (Bool) (Int) (Unit)) :=
  fun x7_1 => bif (decide (x7_1 < (a0.length : Int))) then (bif inR x7_1 a0.length then (bif (!((!((decide (24 ≤ x7_1)) || (!(nodeOK (gt a0 x7_1))))) && (decide (0 < x7_1))) || (inR (IntKind.wrap .i64 (x7_1 - 1)) a0.length)) then (bif (!(!(((decide (24 ≤ x7_1)) || (!(nodeOK (gt a0 x7_1)))) || ((decide (0 < x7_1)) && (!(pathLess ((gt a0 (IntKind.wrap .i64 (x7_1 - 1))).path) ((gt a0 x7_1).path)))))) || (inS 0 x7_1 (a0.length : Int))) then (bif (!(!(((decide (24 ≤ x7_1)) || (!(nodeOK (gt a0 x7_1)))) || ((decide (0 < x7_1)) && (!(pathLess ((gt a0 (IntKind.wrap .i64 (x7_1 - 1))).path) ((gt a0 x7_1).path)))))) || (decide (((gt a0 x7_1).path).length ≤ 1048576))) then (bif (!(!(((decide (24 ≤ x7_1)) || (!(nodeOK (gt a0 x7_1)))) || ((decide (0 < x7_1)) && (!(pathLess ((gt a0 (IntKind.wrap .i64 (x7_1 - 1))).path) ((gt a0 x7_1).path)))))) || (decide ((sub a0 0 x7_1).length ≤ 1048576))) then (bif ((((decide (24 ≤ x7_1)) || (!(nodeOK (gt a0 x7_1)))) || ((decide (0 < x7_1)) && (!(pathLess ((gt a0 (IntKind.wrap .i64 (x7_1 - 1))).path) ((gt a0 x7_1).path))))) || (!(isDirN (sub a0 0 x7_1) (parentP ((gt a0 x7_1).path))))) then (some (.ret false)) else (some (.nxt (IntKind.wrap .i64 (x7_1 + 1))))) else none) else none) else none) else none) else none) else (some (.brk ()))
def impl_TreeOK.sh (k : Nat) (a0 : List Nd) : Option (Bool) :=
  (loopF (impl_TreeOK.b1 a0) k 0).bind fun z => match z with | .inl t => some t | .inr _ => some true
theorem impl_TreeOK.eq (a0 : List Nd) (h0 : a0.length ≤ 1048576) (h1 : ∀ x ∈ a0, x.path.length ≤ 1048576) : ∃ k, impl_TreeOK.sh k a0 = some (treeOK a0) := by
  refine ⟨a0.length + 1, ?_⟩
  unfold impl_TreeOK.sh
  have hb : ∀ i : Nat, i < a0.length → impl_TreeOK.b1 a0 i = some (sc (if (decide (24 ≤ i) || !nodeOK (a0.getD i default)) || (!decide (i = 0) && !pathLess (a0.getD (i - 1) default).path (a0.getD i default).path) || !isDirN (a0.take i) (parentP (a0.getD i default).path) then some false else none : Option Bool) ((i : Int) + 1)) := by
    intro i hi
    have hp := h1 _ (getN_mem hi)
    have hs : sub a0 0 ((i : Nat) : Int) = a0.take i := by simp [sub]
    have hle : (a0.take i).length ≤ 1048576 := by simp; omega
    have e24 : decide ((24 : Int) ≤ (i : Int)) = decide (24 ≤ i) := by rw [decide_eq_decide]; omega
    have e0 : decide (0 < (i : Int)) = !decide (i = 0) := by by_cases h : i = 0 <;> simp [h]; omega
    simp only [impl_TreeOK.b1, lt_nat, hi, decide_true, cond_true, inR_nat hi, gt_nat, wrap_succ hi (by omega), Bool.or_true, hp, hs, hle, inS_mk (l := 0) (h := (i : Int)) (n := (a0.length : Int)) (by omega) (by omega) (by omega), e24, e0]
    by_cases hz : i = 0
    · subst hz
      simp only [Bool.not_true, Bool.false_and, Bool.and_false, Bool.not_false, Bool.true_or, cond_true, Bool.or_false, decide_true]
      cases (decide (24 ≤ 0) || !nodeOK (a0.getD 0 default)) || !isDirN (a0.take 0) (parentP (a0.getD 0 default).path) <;> simp
    · have hi1 : i - 1 < a0.length := by omega
      have hw : IntKind.wrap .i64 ((i : Int) - 1) = ((i - 1 : Nat) : Int) := by rw [wrap_small (by omega) (by omega)]; omega
      simp only [hw, gt_nat, inR_nat hi1, Bool.or_true, cond_true]
      cases (decide (24 ≤ i) || !nodeOK (a0.getD i default)) || (!decide (i = 0) && !pathLess (a0.getD (i - 1) default).path (a0.getD i default).path) || !isDirN (a0.take i) (parentP (a0.getD i default).path) <;> simp
  rw [loop_scan0 a0.length _ hb (by simp [impl_TreeOK.b1]) _ (by omega), find_false]
  have e : (List.range a0.length).all (fun i => !((decide (24 ≤ i) || !nodeOK (a0.getD i default)) || (!decide (i = 0) && !pathLess (a0.getD (i - 1) default).path (a0.getD i default).path) || !isDirN (a0.take i) (parentP (a0.getD i default).path))) = treeOK a0 := by
    unfold treeOK
    rw [Bool.eq_iff_iff]
    simp only [List.all_eq_true, List.mem_range, Bool.and_eq_true, decide_eq_true_eq, Bool.not_eq_true', Bool.or_eq_false_iff, decide_eq_false_iff_not, Bool.not_eq_false', Bool.and_eq_false_iff]
    constructor
    · intro h
      have hn : ∀ i, i < a0.length → nodeOK (a0.getD i default) = true := fun i hi => (h i hi).1.1.2
      refine ⟨?_, fun i hi => ?_⟩
      · by_cases hc : a0.length ≤ 24
        · exact hc
        · exact absurd (h 24 (by omega)).1.1.1 (by omega)
      · have hi' := h i hi
        unfold nodeAtOK
        rw [hi'.1.1.2, hi'.2]
        rcases hi'.1.2 with h2 | h2
        · simp [h2]
        · simp only [pathLess, Bool.and_eq_true] at h2
          rw [h2.2]; simp
    · rintro ⟨hl, h⟩ i hi
      have hi' := h i hi
      unfold nodeAtOK at hi'
      simp only [Bool.and_eq_true, Bool.or_eq_true, decide_eq_true_eq] at hi'
      refine ⟨⟨⟨by omega, hi'.1.1⟩, ?_⟩, hi'.2⟩
      by_cases hz : i = 0
      · exact Or.inl hz
      · right
        have hprev := h (i - 1) (by omega)
        unfold nodeAtOK at hprev
        simp only [Bool.and_eq_true] at hprev
        rcases hi'.1.2 with h2 | h2
        · exact absurd h2 hz
        · rw [pathLess, nodeOK_path hprev.1.1, nodeOK_path hi'.1.1, h2]; rfl
  rw [e]
  cases treeOK a0 <;> simp
/-! ### lists that are collected -/
/-- A loop that collects. -/
theorem collect_run {α β T : Type} (xs : List α) (g : α → Option β) (b : List β × Int → Option (Step T (List β × Int) (List β)))
    (hb : ∀ (i : Nat) (h : i < xs.length) (acc : List β), acc.length ≤ i → b (acc, (i : Int)) = some (.nxt (acc ++ (g xs[i]).toList, (i : Int) + 1))) (hn : ∀ acc : List β, b (acc, (xs.length : Int)) = some (.brk acc)) :
    loopF b (xs.length + 1) ([], 0) = some (.inr (xs.filterMap g)) := by
  have key : ∀ d i k (acc : List β), i + d = xs.length → d < k → acc.length ≤ i → loopF b k (acc, (i : Int)) = some (.inr (acc ++ (xs.drop i).filterMap g)) := by
    intro d
    induction d with
    | zero =>
      intro i k acc hi hk _
      obtain ⟨k, rfl⟩ : ∃ j, k = j + 1 := ⟨k - 1, by omega⟩
      have : i = xs.length := by omega
      subst this
      simp [loopF, hn]
    | succ d ih =>
      intro i k acc hi hk ha
      obtain ⟨k, rfl⟩ : ∃ j, k = j + 1 := ⟨k - 1, by omega⟩
      have hlt : i < xs.length := by omega
      rw [loopF, hb i hlt acc ha]
      simp only [Option.bind_some]
      have hl : (acc ++ (g xs[i]).toList).length ≤ i + 1 := by cases g xs[i] <;> simp <;> omega
      have := ih (i + 1) k (acc ++ (g xs[i]).toList) (by omega) (by omega) hl
      rw [Int.natCast_add, Int.natCast_one] at this
      have e : (xs.drop i).filterMap g = (g xs[i]).toList ++ (xs.drop (i + 1)).filterMap g := by
        rw [List.drop_eq_getElem_cons hlt, List.filterMap_cons]
        cases g xs[i] <;> rfl
      rw [e, ← List.append_assoc]
      exact this
  have := key xs.length 0 (xs.length + 1) [] (by omega) (by omega) (by simp)
  simpa using this
theorem filterMap_if {α β : Type} (q : α → Bool) (f : α → β) (l : List α) : l.filterMap (fun x => if q x then some (f x) else none) = (l.filter q).map f := by
  induction l with
  | nil => rfl
  | cons x l ih =>
    rcases bool_two (q x) with h | h <;> simp [h, ih]
theorem getD_el {α : Type} [Inhabited α] {l : List α} {i : Nat} (h : i < l.length) : l.getD i default = l[i] := by simp [List.getD_eq_getElem?_getD, List.getElem?_eq_getElem h]
/-! ### what is above -/
theorem parentP_lt {t : List UInt8} (h : t ≠ []) : (parentP t).length < t.length := by
  have h1 := lastSlash_lt t
  have h2 := lastSlash_ge t
  have h3 : 0 < t.length := by cases t with | nil => exact absurd rfl h | cons _ _ => simp
  simp [parentP]; omega
def ancsF : Nat → List UInt8 → List (List UInt8)
  | 0, _ => []
  | n + 1, t => if parentP t = [] then [] else parentP t :: ancsF n (parentP t)
/-- All that is above a path, from below. -/
def ancs (t : List UInt8) : List (List UInt8) := ancsF t.length t
theorem parentP_nil : parentP [] = [] := rfl
theorem ancsF_succ : ∀ (c : Nat) (v : List UInt8), v.length ≤ c → ancsF c v = ancsF (c + 1) v := by
  intro c
  induction c with
  | zero => intro v hv; have : v = [] := List.eq_nil_of_length_eq_zero (by omega); subst this; simp [ancsF, parentP_nil]
  | succ c ihc =>
    intro v hv
    rw [ancsF, ancsF]
    by_cases hpv : parentP v = []
    · simp [hpv]
    · simp only [hpv, if_false]
      have hvne : v ≠ [] := by intro e; subst e; exact hpv parentP_nil
      have := parentP_lt hvne
      rw [ihc (parentP v) (by omega)]
theorem ancsF_enough (d : Nat) (t : List UInt8) : ancsF (t.length + d) t = ancs t := by
  induction d with
  | zero => rfl
  | succ d ih => rw [← ih, show t.length + (d + 1) = (t.length + d) + 1 by omega]; exact (ancsF_succ _ _ (by omega)).symm
theorem ancs_eq (t : List UInt8) : ancs t = if parentP t = [] then [] else parentP t :: ancs (parentP t) := by
  have h := ancsF_enough 1 t
  rw [← h, ancsF]
  by_cases hp : parentP t = []
  · simp [hp]
  · simp only [hp, if_false]
    have hne : t ≠ [] := by intro e; subst e; exact hp parentP_nil
    have := parentP_lt hne
    have h2 := ancsF_enough (t.length - (parentP t).length) (parentP t)
    rw [show (parentP t).length + (t.length - (parentP t).length) = t.length by omega] at h2
    rw [h2]
theorem ancs_bound : ∀ (n : Nat) (t : List UInt8), t.length ≤ n → (ancs t).length ≤ t.length ∧ ∀ x ∈ ancs t, x.length ≤ t.length ∧ x ≠ [] := by
  intro n
  induction n with
  | zero => intro t h; have : t = [] := List.eq_nil_of_length_eq_zero (by omega); subst this; exact ⟨by decide, by intro x hx; have e : ancs [] = [] := rfl; rw [e] at hx; cases hx⟩
  | succ n ih =>
    intro t h
    rw [ancs_eq]
    by_cases hp : parentP t = []
    · simp [hp]
    · have hne : t ≠ [] := by intro e; subst e; exact hp parentP_nil
      have hlt := parentP_lt hne
      obtain ⟨h1, h2⟩ := ih (parentP t) (by omega)
      simp only [hp, if_false, List.length_cons, List.mem_cons]
      refine ⟨by omega, ?_⟩
      rintro x (rfl | hx)
      · exact ⟨by omega, hp⟩
      · have := h2 x hx; exact ⟨by omega, this.2⟩
theorem ancs_len (t : List UInt8) : (ancs t).length ≤ t.length := (ancs_bound _ t (Nat.le_refl _)).1
/-- A loop over what is above. -/
theorem anc_run (q : List UInt8 → Bool) (b : List UInt8 → Option (Step Bool (List UInt8) Unit)) (hb : ∀ x : List UInt8, x ≠ [] → x.length ≤ 1048576 → b x = some (if q x then .ret true else .nxt (parentP x))) (hn : b [] = some (.brk ())) :
    ∀ (n : Nat) (t : List UInt8) (k : Nat), (parentP t).length ≤ n → n < k → (parentP t).length ≤ 1048576 → loopF b k (parentP t) = some (if (ancs t).any q then .inl true else .inr ()) := by
  intro n
  induction n with
  | zero =>
    intro t k h hk _
    obtain ⟨k, rfl⟩ : ∃ j, k = j + 1 := ⟨k - 1, by omega⟩
    have hp : parentP t = [] := List.eq_nil_of_length_eq_zero (by omega)
    rw [ancs_eq, hp, loopF, hn]; simp
  | succ n ih =>
    intro t k h hk hl
    obtain ⟨k, rfl⟩ : ∃ j, k = j + 1 := ⟨k - 1, by omega⟩
    by_cases hp : parentP t = []
    · rw [ancs_eq, hp, loopF, hn]; simp
    · rw [ancs_eq, loopF, hb _ hp hl]
      have hlt := parentP_lt hp
      simp only [hp, if_false, List.any_cons]
      rcases bool_two (q (parentP t)) with hq | hq
      · simp [hq]
      · simp only [hq, Bool.false_eq_true, if_false, Option.bind_some, Bool.false_or]
        exact ih (parentP t) k (by omega) (by omega) (by omega)
def stopsR (r : Rec) : Bool := !decide (r.kind = 3) || r.opq
def underO (l : List Rec) (p : List UInt8) : Bool := (ancs p).any fun x => decide (0 ≤ findR l x) && (gt l (findR l x)).opq
def cutsR (l : List Rec) (p : List UInt8) : Bool := (ancs p).any fun x => decide (0 ≤ findR l x) && stopsR (gt l (findR l x))
def aboveO (l : List Rec) (h : Rec → Option Bool) (p : List UInt8) : Option Bool := (h (gt l (findR l p))).bind fun z => some (decide (0 ≤ findR l p) && z)
theorem findR_inR {l : List Rec} {p : List UInt8} (h : 0 ≤ findR l p) : inR (findR l p) l.length = true := findR_in (by omega)
def spec_l03Under.b1 (a0 : List Rec) : List UInt8 → Option (Step (Bool) (List UInt8) (Unit)) :=
  fun x5_4 => bif (!decide (x5_4 = ([] : List UInt8))) then (bif decide (a0.length ≤ 1048576) then (((bif (decide (0 ≤ (findR a0 x5_4))) then (bif inR (findR a0 x5_4) a0.length then (some ((gt a0 (findR a0 x5_4)).opq)) else none) else some false)).bind fun z26 => bif z26 then (some (.ret true)) else (bif decide (x5_4.length ≤ 4611686018427387904) then (some (.nxt (parentP x5_4))) else none)) else none) else (some (.brk ()))
def spec_l03Under.sh (k : Nat) (a0 : List Rec) (a1 : List UInt8) : Option (Bool) :=
  bif decide (a1.length ≤ 4611686018427387904) then ((loopF (spec_l03Under.b1 a0) k (parentP a1)).bind fun z => match z with | .inl t => some t | .inr _ => some false) else none
theorem spec_l03Under.eq (a0 : List Rec) (a1 : List UInt8) (h0 : a0.length ≤ 1048576) (h1 : a1.length ≤ 1048576) : ∃ k, spec_l03Under.sh k a0 a1 = some (underO a0 a1) := by
  refine ⟨a1.length + 1, ?_⟩
  have hl := parentP_len a1
  have h2 : a1.length ≤ 4611686018427387904 := by omega
  unfold spec_l03Under.sh
  rw [anc_run (fun x => decide (0 ≤ findR a0 x) && (gt a0 (findR a0 x)).opq) (spec_l03Under.b1 a0) (fun x hx hx2 => by
    have h3 : x.length ≤ 4611686018427387904 := by omega
    simp only [spec_l03Under.b1, hx, decide_false, Bool.not_false, cond_true, h0, decide_true, h3]
    by_cases hk : 0 ≤ findR a0 x
    · simp only [hk, decide_true, cond_true, findR_inR hk, Bool.true_and, Option.bind_some]
      cases (gt a0 (findR a0 x)).opq <;> simp
    · simp [hk]) (by simp [spec_l03Under.b1]) a1.length a1 (a1.length + 1) hl (by omega) (by omega)]
  simp only [h2, decide_true, cond_true, Option.bind_some]
  unfold underO
  cases (ancs a1).any fun x => decide (0 ≤ findR a0 x) && (gt a0 (findR a0 x)).opq <;> simp
def spec_l06Stops.sh (a0 : Rec) : Option (Bool) :=
  some ((!decide (a0.kind = 3)) || a0.opq)
theorem spec_l06Stops.eq (a0 : Rec) : spec_l06Stops.sh a0 = some (stopsR a0) := rfl
def spec_l06Cuts.b1 (a0 : List Rec) : List UInt8 → Option (Step (Bool) (List UInt8) (Unit)) :=
  fun x5_4 => bif (!decide (x5_4 = ([] : List UInt8))) then (bif decide (a0.length ≤ 1048576) then (((bif (decide (0 ≤ (findR a0 x5_4))) then (bif inR (findR a0 x5_4) a0.length then (some (stopsR (gt a0 (findR a0 x5_4)))) else none) else some false)).bind fun z26 => bif z26 then (some (.ret true)) else (bif decide (x5_4.length ≤ 4611686018427387904) then (some (.nxt (parentP x5_4))) else none)) else none) else (some (.brk ()))
def spec_l06Cuts.sh (k : Nat) (a0 : List Rec) (a1 : List UInt8) : Option (Bool) :=
  bif decide (a1.length ≤ 4611686018427387904) then ((loopF (spec_l06Cuts.b1 a0) k (parentP a1)).bind fun z => match z with | .inl t => some t | .inr _ => some false) else none
theorem spec_l06Cuts.eq (a0 : List Rec) (a1 : List UInt8) (h0 : a0.length ≤ 1048576) (h1 : a1.length ≤ 1048576) : ∃ k, spec_l06Cuts.sh k a0 a1 = some (cutsR a0 a1) := by
  refine ⟨a1.length + 1, ?_⟩
  have hl := parentP_len a1
  have h2 : a1.length ≤ 4611686018427387904 := by omega
  unfold spec_l06Cuts.sh
  rw [anc_run (fun x => decide (0 ≤ findR a0 x) && stopsR (gt a0 (findR a0 x))) (spec_l06Cuts.b1 a0) (fun x hx hx2 => by
    have h3 : x.length ≤ 4611686018427387904 := by omega
    simp only [spec_l06Cuts.b1, hx, decide_false, Bool.not_false, cond_true, h0, decide_true, h3]
    by_cases hk : 0 ≤ findR a0 x
    · simp only [hk, decide_true, cond_true, findR_inR hk, Bool.true_and, Option.bind_some]
      cases stopsR (gt a0 (findR a0 x)) <;> simp
    · simp [hk]) (by simp [spec_l06Cuts.b1]) a1.length a1 (a1.length + 1) hl (by omega) (by omega)]
  simp only [h2, decide_true, cond_true, Option.bind_some]
  unfold cutsR
  cases (ancs a1).any fun x => decide (0 ≤ findR a0 x) && stopsR (gt a0 (findR a0 x)) <;> simp
def impl_ancestors.b1  : List UInt8 × List (List UInt8) → Option (Step (List (List UInt8)) (List UInt8 × List (List UInt8)) (List (List UInt8))) :=
  fun q => match q with
  | (x0_10, x3_11) => bif (!decide (x0_10 = ([] : List UInt8))) then (bif decide ((x3_11.length + ([x0_10] : List (List UInt8)).length) * 16 ≤ 140737488355328) then (bif decide (x0_10.length ≤ 1048576) then (some (.nxt ((parentP x0_10), x3_11 ++ ([x0_10] : List (List UInt8))))) else none) else none) else (some (.brk x3_11))
def impl_ancestors.sh (k : Nat) (a0 : List UInt8) : Option (List (List UInt8)) :=
  bif decide (a0.length ≤ 1048576) then ((loopF (impl_ancestors.b1) k ((parentP a0), ([] : List (List UInt8)))).bind fun z => match z with | .inl t => some t | .inr x3_16 => some x3_16) else none
theorem impl_ancestors.eq (a0 : List UInt8) (h0 : a0.length ≤ 1048576) : ∃ k, impl_ancestors.sh k a0 = some (ancs a0) := by
  refine ⟨a0.length + 1, ?_⟩
  have key : ∀ (n : Nat) (t : List UInt8) (k : Nat) (acc : List (List UInt8)), (parentP t).length ≤ n → n < k → acc.length + (parentP t).length ≤ 1048576 → loopF impl_ancestors.b1 k (parentP t, acc) = some (.inr (acc ++ ancs t)) := by
    intro n
    induction n with
    | zero =>
      intro t k acc h hk _
      obtain ⟨k, rfl⟩ : ∃ j, k = j + 1 := ⟨k - 1, by omega⟩
      have hp : parentP t = [] := List.eq_nil_of_length_eq_zero (by omega)
      rw [ancs_eq, hp, loopF]; simp [impl_ancestors.b1]
    | succ n ih =>
      intro t k acc h hk hl
      obtain ⟨k, rfl⟩ : ∃ j, k = j + 1 := ⟨k - 1, by omega⟩
      by_cases hp : parentP t = []
      · rw [ancs_eq, hp, loopF]; simp [impl_ancestors.b1]
      · have hlt := parentP_lt hp
        have e1 : (acc.length + ([parentP t] : List (List UInt8)).length) * 16 ≤ 140737488355328 := by simp; omega
        have e2 : (parentP t).length ≤ 1048576 := by omega
        rw [ancs_eq t, loopF]
        simp only [impl_ancestors.b1, hp, decide_false, Bool.not_false, cond_true, e1, e2, decide_true, if_false, Option.bind_some]
        have := ih (parentP t) k (acc ++ [parentP t]) (by omega) (by omega) (by simp; omega)
        rw [show loopF impl_ancestors.b1 k (parentP (parentP t), acc ++ [parentP t]) = _ from this]
        simp
  have hl := parentP_len a0
  unfold impl_ancestors.sh
  rw [key a0.length a0 (a0.length + 1) [] hl (by omega) (by simp; omega)]
  simp [h0]
def impl_above_1.sh (a0 : List UInt8) (a1 : List Rec) (a2 : Rec → Option Bool) : Option (Bool) :=
  bif decide (a1.length ≤ 1048576) then (bif (!(decide (0 ≤ (findR a1 a0))) || (inR (findR a1 a0) a1.length)) then ((a2 (gt a1 (findR a1 a0))).bind fun z7 => some ((decide (0 ≤ (findR a1 a0))) && z7)) else none) else none
theorem impl_above_1.eq (a0 : List UInt8) (a1 : List Rec) (a2 : Rec → Option Bool) (h0 : a1.length ≤ 1048576) {r : Bool} (H : aboveO a1 a2 a0 = some r) : impl_above_1.sh a0 a1 a2 = some r := by
  unfold impl_above_1.sh
  have h1 : (!decide (0 ≤ findR a1 a0) || inR (findR a1 a0) a1.length) = true := by
    by_cases hk : 0 ≤ findR a1 a0
    · simp [findR_inR hk]
    · simp [hk]
  rw [h1]
  simp only [h0, decide_true, cond_true]
  exact H
def impl_above.sh (a0 : List Rec) (a1 : List UInt8) (a2 : Rec → Option Bool) : Option (Bool) :=
  bif decide (a1.length ≤ 1048576) then (bif decide ((ancs a1).length ≤ 4611686018427387904) then (((anyO (fun (x0_ : List UInt8) => bif decide (a0.length ≤ 1048576) then (aboveO a0 a2 x0_) else none) (ancs a1))).bind fun z23 => some z23) else none) else none
theorem impl_above.eq (a0 : List Rec) (a1 : List UInt8) (a2 : Rec → Option Bool) (h0 : a0.length ≤ 1048576) (h1 : a1.length ≤ 1048576) {r : Bool} (H : anyO (aboveO a0 a2) (ancs a1) = some r) : impl_above.sh a0 a1 a2 = some r := by
  have hl := ancs_len a1
  have h2 : (ancs a1).length ≤ 4611686018427387904 := by omega
  unfold impl_above.sh
  simp only [h0, h1, h2, decide_true, cond_true]
  rw [show (anyO (fun (x0_ : List UInt8) => aboveO a0 a2 x0_) (ancs a1)) = some r from H]; rfl
theorem anyO_above (l : List Rec) (q : Rec → Bool) (p : List UInt8) : anyO (aboveO l (fun x => some (q x))) (ancs p) = some ((ancs p).any fun x => decide (0 ≤ findR l x) && q (gt l (findR l x))) := anyO_some fun x _ => rfl
def impl_underOpaque_1.sh (a0 : Rec) : Option (Bool) :=
  some a0.opq
theorem impl_underOpaque_1.eq (a0 : Rec) : impl_underOpaque_1.sh a0 = some a0.opq := rfl
def impl_underOpaque.sh (a0 : List Rec) (a1 : List UInt8) : Option (Bool) :=
  bif decide (a0.length ≤ 1048576) then (bif decide (a1.length ≤ 1048576) then (((anyO (aboveO a0 (fun (x0_ : Rec) => some x0_.opq)) (ancs a1))).bind fun z7 => some z7) else none) else none
theorem impl_underOpaque.eq (a0 : List Rec) (a1 : List UInt8) (h0 : a0.length ≤ 1048576) (h1 : a1.length ≤ 1048576) : impl_underOpaque.sh a0 a1 = some (underO a0 a1) := by
  unfold impl_underOpaque.sh
  simp only [h0, h1, decide_true, cond_true, anyO_above a0 (fun x => x.opq) a1, Option.bind_some]; rfl
def impl_stops.sh (a0 : Rec) : Option (Bool) :=
  some ((!decide (a0.kind = 3)) || a0.opq)
theorem impl_stops.eq (a0 : Rec) : impl_stops.sh a0 = some (stopsR a0) := rfl
def impl_cuts.sh (a0 : List Rec) (a1 : List UInt8) : Option (Bool) :=
  bif decide (a0.length ≤ 1048576) then (bif decide (a1.length ≤ 1048576) then (((anyO (aboveO a0 (fun (x0_ : Rec) => some (stopsR x0_))) (ancs a1))).bind fun z7 => some z7) else none) else none
theorem impl_cuts.eq (a0 : List Rec) (a1 : List UInt8) (h0 : a0.length ≤ 1048576) (h1 : a1.length ≤ 1048576) : impl_cuts.sh a0 a1 = some (cutsR a0 a1) := by
  unfold impl_cuts.sh
  simp only [h0, h1, decide_true, cond_true, anyO_above a0 stopsR a1, Option.bind_some]; rfl
/-- What is asked of a layer at a path. -/
def atPath (f : List Rec → List UInt8 → Bool) (l : List Rec) (p : List UInt8) : Bool × Int :=
  if decide (4096 < l.length) || decide (65536 < p.length) then (false, 2) else if (layerFault l).2 ≠ 0 then (false, 1) else if !pathOK p then (false, 10) else (f l p, 0)
def underOpq := atPath underO
def cutsOf := atPath cutsR
theorem pathOK_small {p : List UInt8} (h : pathOK p = true) : p.length ≤ 1048576 := by have := pathOK_len h; omega
def spec_UnderOpaque.sh (a0 : List Rec) (a1 : List UInt8) : Option (Bool × Int) :=
  bif ((decide (4096 < (a0.length : Int))) || (decide (65536 < (a1.length : Int)))) then (some (false, 2)) else (bif decide (a0.length ≤ 1048576) then (bif decide (∀ x ∈ a0, x.path.length ≤ 1048576) then (bif (!(decide ((layerFault a0).2 = 0))) then (some (false, 1)) else (bif (!(pathOK a1)) then (some (false, 10)) else (bif decide (a0.length ≤ 1048576) then (bif decide (a1.length ≤ 1048576) then (some ((underO a0 a1), 0)) else none) else none))) else none) else none)
theorem spec_UnderOpaque.eq (a0 : List Rec) (a1 : List UInt8) (h0 : a0.length ≤ 1048576) (h1 : ∀ x ∈ a0, x.path.length ≤ 1048576) : spec_UnderOpaque.sh a0 a1 = some ((underOpq a0 a1).1, (underOpq a0 a1).2) := by
  unfold spec_UnderOpaque.sh underOpq atPath
  rw [len4096, len_dec]
  by_cases h : (decide (4096 < a0.length) || decide (65536 < a1.length)) = true
  · simp only [h, cond_true, if_true]
  · simp only [h, h0, decide_true, cond_false, cond_true, if_false, decide_eq_true h1, Bool.false_eq_true]
    by_cases hf : (layerFault a0).2 = 0
    · rcases bool_two (pathOK a1) with hp | hp
      · simp [hf, hp, pathOK_small hp]
      · simp [hf, hp]
    · simp [hf]
def spec_Cuts.sh (a0 : List Rec) (a1 : List UInt8) : Option (Bool × Int) :=
  bif ((decide (4096 < (a0.length : Int))) || (decide (65536 < (a1.length : Int)))) then (some (false, 2)) else (bif decide (a0.length ≤ 1048576) then (bif decide (∀ x ∈ a0, x.path.length ≤ 1048576) then (bif (!(decide ((layerFault a0).2 = 0))) then (some (false, 1)) else (bif (!(pathOK a1)) then (some (false, 10)) else (bif decide (a0.length ≤ 1048576) then (bif decide (a1.length ≤ 1048576) then (some ((cutsR a0 a1), 0)) else none) else none))) else none) else none)
theorem spec_Cuts.eq (a0 : List Rec) (a1 : List UInt8) (h0 : a0.length ≤ 1048576) (h1 : ∀ x ∈ a0, x.path.length ≤ 1048576) : spec_Cuts.sh a0 a1 = some ((cutsOf a0 a1).1, (cutsOf a0 a1).2) := by
  unfold spec_Cuts.sh cutsOf atPath
  rw [len4096, len_dec]
  by_cases h : (decide (4096 < a0.length) || decide (65536 < a1.length)) = true
  · simp only [h, cond_true, if_true]
  · simp only [h, h0, decide_true, cond_false, cond_true, if_false, decide_eq_true h1, Bool.false_eq_true]
    by_cases hf : (layerFault a0).2 = 0
    · rcases bool_two (pathOK a1) with hp | hp
      · simp [hf, hp, pathOK_small hp]
      · simp [hf, hp]
    · simp [hf]
def impl_UnderOpaque.sh (a0 : List Rec) (a1 : List UInt8) : Option (Bool × Int) :=
  bif decide (([a1] : List (List UInt8)).length ≤ 4611686018427387904) then (bif decide (a0.length ≤ 1048576) then (bif decide (∀ x ∈ a0, x.path.length ≤ 1048576) then (bif decide (([.inl ((([a1] : List (List UInt8)).any fun t => decide (65536 < t.length)) || (decide (4096 < a0.length))), .inr 2, .inl (!(decide ((layerFaultL a0).2 = 0))), .inr 1, .inl (!(pathOK a1)), .inr 10] : List (Bool ⊕ Int)).length ≤ 4611686018427387904) then ((some (firstOf ([.inl ((([a1] : List (List UInt8)).any fun t => decide (65536 < t.length)) || (decide (4096 < a0.length))), .inr 2, .inl (!(decide ((layerFaultL a0).2 = 0))), .inr 1, .inl (!(pathOK a1)), .inr 10] : List (Bool ⊕ Int)))).bind fun z31 => bif (!decide (z31 = 0)) then (some (false, z31)) else (bif decide (a0.length ≤ 1048576) then (bif decide (a1.length ≤ 1048576) then (some ((underO a0 a1), 0)) else none) else none)) else none) else none) else none) else none
theorem impl_UnderOpaque.eq (a0 : List Rec) (a1 : List UInt8) (h0 : a0.length ≤ 1048576) (h1 : ∀ x ∈ a0, x.path.length ≤ 1048576) : impl_UnderOpaque.sh a0 a1 = some ((underOpq a0 a1).1, (underOpq a0 a1).2) := by
  unfold impl_UnderOpaque.sh underOpq atPath layerFaultL
  simp only [h0, decide_true, cond_true, decide_eq_true h1, firstOf_c, List.length_cons, List.length_nil, firstOf, anyB, anyI, List.any_cons, List.any_nil, Bool.or_false]
  rw [Bool.or_comm (decide (65536 < a1.length))]
  by_cases h : 4096 < a0.length
  · simp [h]
  · by_cases h2 : 65536 < a1.length
    · simp [h, h2]
    · by_cases hf : (layerFault a0).2 = 0
      · rcases bool_two (pathOK a1) with hp | hp
        · simp [h, h2, hf, hp, pathOK_small hp]
        · simp [h, h2, hf, hp]
      · simp [h, h2, hf]
def impl_Cuts.sh (a0 : List Rec) (a1 : List UInt8) : Option (Bool × Int) :=
  bif decide (([a1] : List (List UInt8)).length ≤ 4611686018427387904) then (bif decide (a0.length ≤ 1048576) then (bif decide (∀ x ∈ a0, x.path.length ≤ 1048576) then (bif decide (([.inl ((([a1] : List (List UInt8)).any fun t => decide (65536 < t.length)) || (decide (4096 < a0.length))), .inr 2, .inl (!(decide ((layerFaultL a0).2 = 0))), .inr 1, .inl (!(pathOK a1)), .inr 10] : List (Bool ⊕ Int)).length ≤ 4611686018427387904) then ((some (firstOf ([.inl ((([a1] : List (List UInt8)).any fun t => decide (65536 < t.length)) || (decide (4096 < a0.length))), .inr 2, .inl (!(decide ((layerFaultL a0).2 = 0))), .inr 1, .inl (!(pathOK a1)), .inr 10] : List (Bool ⊕ Int)))).bind fun z31 => bif (!decide (z31 = 0)) then (some (false, z31)) else (bif decide (a0.length ≤ 1048576) then (bif decide (a1.length ≤ 1048576) then (some ((cutsR a0 a1), 0)) else none) else none)) else none) else none) else none) else none
theorem impl_Cuts.eq (a0 : List Rec) (a1 : List UInt8) (h0 : a0.length ≤ 1048576) (h1 : ∀ x ∈ a0, x.path.length ≤ 1048576) : impl_Cuts.sh a0 a1 = some ((cutsOf a0 a1).1, (cutsOf a0 a1).2) := by
  unfold impl_Cuts.sh cutsOf atPath layerFaultL
  simp only [h0, decide_true, cond_true, decide_eq_true h1, firstOf_c, List.length_cons, List.length_nil, firstOf, anyB, anyI, List.any_cons, List.any_nil, Bool.or_false]
  rw [Bool.or_comm (decide (65536 < a1.length))]
  by_cases h : 4096 < a0.length
  · simp [h]
  · by_cases h2 : 65536 < a1.length
    · simp [h, h2]
    · by_cases hf : (layerFault a0).2 = 0
      · rcases bool_two (pathOK a1) with hp | hp
        · simp [h, h2, hf, hp, pathOK_small hp]
        · simp [h, h2, hf, hp]
      · simp [h, h2, hf]

/-! ### right layers -/
theorem layerFault_zero {l : List Rec} (h : (layerFault l).2 = 0) : ∀ i, i < l.length → codeAt l i = 0 := by
  unfold layerFault at h
  cases hf : (List.range l.length).findSome? (fun i => if codeAt l i = 0 then none else some ((i : Int), codeAt l i)) with
  | none =>
    intro i hi
    have := List.findSome?_eq_none_iff.1 hf i (List.mem_range.2 hi)
    by_cases hc : codeAt l i = 0
    · exact hc
    · simp [hc] at this
  | some x =>
    rw [hf] at h
    obtain ⟨i, _, hi⟩ := List.exists_of_findSome?_eq_some hf
    by_cases hc : codeAt l i = 0
    · simp [hc] at hi
    · simp only [hc, if_false, Option.some.injEq] at hi
      subst hi
      exact absurd h hc
theorem layerFault_of {l : List Rec} (h : ∀ i, i < l.length → codeAt l i = 0) : layerFault l = (0, 0) := by
  unfold layerFault
  have : (List.range l.length).findSome? (fun i => if codeAt l i = 0 then none else some ((i : Int), codeAt l i)) = none := by
    apply List.findSome?_eq_none_iff.2
    intro i hi
    simp [h i (List.mem_range.1 hi)]
  rw [this]
theorem layerOK_rec {l : List Rec} (h : (layerFault l).2 = 0) : ∀ x ∈ l, recFault x = 0 := by
  intro x hx
  obtain ⟨i, hi, rfl⟩ := List.getElem_of_mem hx
  have := codeAt_rec (layerFault_zero h i hi)
  rwa [getD_el hi] at this
theorem layerOK_path {l : List Rec} (h : (layerFault l).2 = 0) : ∀ x ∈ l, pathOK x.path = true := fun x hx => recFault_path (layerOK_rec h x hx)
theorem layerOK_len {l : List Rec} (h : (layerFault l).2 = 0) : l.length ≤ 16 := by
  by_cases hc : l.length ≤ 16
  · exact hc
  · have := layerFault_zero h 16 (by omega)
    simp [codeAt] at this
theorem pathOK_depth {p : List UInt8} (h : pathOK p = true) : (cut 47 p).length ≤ 4 := by
  simp only [pathOK, Bool.and_eq_true, decide_eq_true_eq] at h
  exact h.2.1
/-! ### the canonical form -/
def canonR (l : List Rec) (r : Rec) : Option Rec :=
  if underO l r.path then (if r.kind = 4 then none else some ⟨r.kind, r.path, r.body, r.mode, false⟩) else some ⟨r.kind, r.path, r.body, r.mode, r.opq && decide ((cut 47 r.path).length < 4)⟩
def canonL (l : List Rec) : List Rec := l.filterMap (canonR l)
theorem canonL_len (l : List Rec) : (canonL l).length ≤ l.length := List.length_filterMap_le _ _
def spec_l03Canon.b1 (a0 : List Rec) : List Rec × Int → Option (Step (List Rec) (List Rec × Int) (List Rec)) :=
  fun q => match q with
  | (x3_7, x4_9) => bif (decide (x4_9 < (a0.length : Int))) then (bif inR x4_9 a0.length then (bif decide (a0.length ≤ 1048576) then (bif decide (((gt a0 x4_9).path).length ≤ 1048576) then (bif (!(underO a0 ((gt a0 x4_9).path))) then (((bif ((gt a0 x4_9).opq) then (bif decide (((gt a0 x4_9).path).length ≤ 1048576) then (some (decide (((cut 47 ((gt a0 x4_9).path)).length : Int) < 4))) else none) else some false)).bind fun z49 => bif decide ((x3_7.length + ([(⟨(gt a0 x4_9).kind, (gt a0 x4_9).path, (gt a0 x4_9).body, (gt a0 x4_9).mode, z49⟩ : Rec)] : List Rec).length) * 56 ≤ 140737488355328) then (some (.nxt (x3_7 ++ ([(⟨(gt a0 x4_9).kind, (gt a0 x4_9).path, (gt a0 x4_9).body, (gt a0 x4_9).mode, z49⟩ : Rec)] : List Rec), IntKind.wrap .i64 (x4_9 + 1)))) else none) else (bif (!decide (((gt a0 x4_9).kind) = 4)) then (bif decide ((x3_7.length + ([(⟨(gt a0 x4_9).kind, (gt a0 x4_9).path, (gt a0 x4_9).body, (gt a0 x4_9).mode, false⟩ : Rec)] : List Rec).length) * 56 ≤ 140737488355328) then (some (.nxt (x3_7 ++ ([(⟨(gt a0 x4_9).kind, (gt a0 x4_9).path, (gt a0 x4_9).body, (gt a0 x4_9).mode, false⟩ : Rec)] : List Rec), IntKind.wrap .i64 (x4_9 + 1)))) else none) else (some (.nxt (x3_7, IntKind.wrap .i64 (x4_9 + 1)))))) else none) else none) else none) else (some (.brk x3_7))
def spec_l03Canon.sh (k : Nat) (a0 : List Rec) : Option (List Rec) :=
  (loopF (spec_l03Canon.b1 a0) k (([] : List Rec), 0)).bind fun z => match z with | .inl t => some t | .inr x3_13 => some x3_13
theorem spec_l03Canon.eq (a0 : List Rec) (h0 : a0.length ≤ 1048576) (h1 : ∀ x ∈ a0, pathOK x.path = true) : ∃ k, spec_l03Canon.sh k a0 = some (canonL a0) := by
  refine ⟨a0.length + 1, ?_⟩
  unfold spec_l03Canon.sh
  rw [collect_run a0 (canonR a0) (spec_l03Canon.b1 a0) (fun i hi acc ha => by
    have hp := pathOK_small (h1 _ (List.getElem_mem hi))
    have e1 : ∀ z : Rec, (acc.length + ([z] : List Rec).length) * 56 ≤ 140737488355328 := fun z => by simp; omega
    have e4 : decide (((cut 47 a0[i].path).length : Int) < 4) = decide ((cut 47 a0[i].path).length < 4) := by rw [decide_eq_decide]; omega
    simp only [spec_l03Canon.b1, lt_nat, hi, decide_true, cond_true, inR_nat hi, getD_gt, getD_el hi, h0, hp, e1, e4, wrap_succ hi (by omega), canonR]
    rcases bool_two (underO a0 a0[i].path) with hu | hu
    · by_cases hk : a0[i].kind = 4 <;> simp [hu, hk]
    · rcases bool_two a0[i].opq with ho | ho <;> simp [hu, ho]) (fun acc => by simp [spec_l03Canon.b1])]
  simp [canonL]
def impl_canonical.b1 (a0 : List Rec) : List Rec × Int → Option (Step (List Rec) (List Rec × Int) (List Rec)) :=
  fun q => match q with
  | (x3_7, x10_9) => bif (decide (x10_9 < (a0.length : Int))) then (bif inR x10_9 a0.length then (bif decide (a0.length ≤ 1048576) then (bif decide (((gt a0 x10_9).path).length ≤ 1048576) then (bif ((underO a0 ((gt a0 x10_9).path)) && (decide (((gt a0 x10_9).kind) = 4))) then (some (.nxt (x3_7, IntKind.wrap .i64 (x10_9 + 1)))) else (((bif (underO a0 ((gt a0 x10_9).path)) then some true else (bif decide (((gt a0 x10_9).path).length ≤ 1048576) then (some (decide (((cut 47 ((gt a0 x10_9).path)).length : Int) = 4))) else none))).bind fun z55 => bif z55 then (bif decide ((x3_7.length + ([(⟨(gt a0 x10_9).kind, (gt a0 x10_9).path, (gt a0 x10_9).body, (gt a0 x10_9).mode, false⟩ : Rec)] : List Rec).length) * 56 ≤ 140737488355328) then (some (.nxt (x3_7 ++ ([(⟨(gt a0 x10_9).kind, (gt a0 x10_9).path, (gt a0 x10_9).body, (gt a0 x10_9).mode, false⟩ : Rec)] : List Rec), IntKind.wrap .i64 (x10_9 + 1)))) else none) else (bif decide ((x3_7.length + ([(gt a0 x10_9)] : List Rec).length) * 56 ≤ 140737488355328) then (some (.nxt (x3_7 ++ ([(gt a0 x10_9)] : List Rec), IntKind.wrap .i64 (x10_9 + 1)))) else none))) else none) else none) else none) else (some (.brk x3_7))
def impl_canonical.sh (k : Nat) (a0 : List Rec) : Option (List Rec) :=
  (loopF (impl_canonical.b1 a0) k (([] : List Rec), 0)).bind fun z => match z with | .inl t => some t | .inr x3_13 => some x3_13
theorem impl_canonical.eq (a0 : List Rec) (h0 : a0.length ≤ 1048576) (h1 : ∀ x ∈ a0, pathOK x.path = true) : ∃ k, impl_canonical.sh k a0 = some (canonL a0) := by
  refine ⟨a0.length + 1, ?_⟩
  unfold impl_canonical.sh
  rw [collect_run a0 (canonR a0) (impl_canonical.b1 a0) (fun i hi acc ha => by
    have hpo := h1 _ (List.getElem_mem hi)
    have hp := pathOK_small hpo
    have hd := pathOK_depth hpo
    have e1 : ∀ z : Rec, (acc.length + ([z] : List Rec).length) * 56 ≤ 140737488355328 := fun z => by simp; omega
    have e4 : decide (((cut 47 a0[i].path).length : Int) = 4) = !decide ((cut 47 a0[i].path).length < 4) := by
      by_cases h : (cut 47 a0[i].path).length < 4
      · have : ¬ ((cut 47 a0[i].path).length : Int) = 4 := by omega
        simp [h, this]
      · have : ((cut 47 a0[i].path).length : Int) = 4 := by omega
        simp [h, this]
    simp only [impl_canonical.b1, lt_nat, hi, decide_true, cond_true, inR_nat hi, getD_gt, getD_el hi, h0, hp, e1, e4, wrap_succ hi (by omega), canonR]
    rcases bool_two (underO a0 a0[i].path) with hu | hu
    · by_cases hk : a0[i].kind = 4 <;> simp [hu, hk]
    · by_cases h4 : (cut 47 a0[i].path).length < 4 <;> simp [hu, h4]) (fun acc => by simp [impl_canonical.b1])]
  simp [canonL]
def isCanon (l : List Rec) : Bool := decide ((layerFaultL l).2 = 0) && decide (canonL l = l)
def spec_IsCanonical.sh (a0 : List Rec) : Option (Bool) :=
  bif (decide (4096 < (a0.length : Int))) then (some false) else (bif decide (a0.length ≤ 1048576) then (bif decide (∀ x ∈ a0, x.path.length ≤ 1048576) then (((bif (decide ((layerFault a0).2 = 0)) then (bif decide (a0.length ≤ 1048576) then (bif decide (∀ x ∈ a0, pathOK x.path = true) then (bif decide (a0.length ≤ 1048576) then (some (decide (a0 = (canonL a0)))) else none) else none) else none) else some false)).bind fun z7 => some z7) else none) else none)
theorem spec_IsCanonical.eq (a0 : List Rec) (h0 : a0.length ≤ 1048576) (h1 : ∀ x ∈ a0, x.path.length ≤ 1048576) : spec_IsCanonical.sh a0 = some (isCanon a0) := by
  unfold spec_IsCanonical.sh isCanon layerFaultL
  rw [len4096]
  by_cases h : 4096 < a0.length
  · simp [h]
  · simp only [h, h0, decide_eq_true h1, decide_false, decide_true, cond_false, cond_true, if_false]
    by_cases hf : (layerFault a0).2 = 0
    · have e : decide (a0 = canonL a0) = decide (canonL a0 = a0) := by rw [decide_eq_decide]; exact ⟨Eq.symm, Eq.symm⟩
      simp [hf, decide_eq_true (layerOK_path hf), e]
    · simp [hf]
def impl_IsCanonical.sh (a0 : List Rec) : Option (Bool) :=
  bif decide (a0.length ≤ 1048576) then (bif decide (∀ x ∈ a0, x.path.length ≤ 1048576) then (((bif (decide ((layerFaultL a0).2 = 0)) then (bif decide (a0.length ≤ 1048576) then (bif decide (∀ x ∈ a0, pathOK x.path = true) then (bif decide ((canonL a0).length ≤ 1048576) then (some (decide ((canonL a0) = a0))) else none) else none) else none) else some false)).bind fun z6 => some z6) else none) else none
theorem impl_IsCanonical.eq (a0 : List Rec) (h0 : a0.length ≤ 1048576) (h1 : ∀ x ∈ a0, x.path.length ≤ 1048576) : impl_IsCanonical.sh a0 = some (isCanon a0) := by
  unfold impl_IsCanonical.sh isCanon
  by_cases hf : (layerFaultL a0).2 = 0
  · have hf2 : (layerFault a0).2 = 0 := by
      unfold layerFaultL at hf
      split at hf
      · cases hf
      · exact hf
    have := canonL_len a0
    have h2 : (canonL a0).length ≤ 1048576 := by omega
    simp [h0, decide_eq_true h1, hf, decide_eq_true (layerOK_path hf2), h2]
  · simp [h0, decide_eq_true h1, hf]
/-! ### two layers -/
/-! ### trees as layers -/
def impl_isLongListN.sh (a0 : List Nd) : Option (Bool) :=
  some (decide (4096 < (a0.length : Int)))
theorem impl_isLongListN.eq (a0 : List Nd) : impl_isLongListN.sh a0 = some (decide (4096 < a0.length)) := by
  have : (4096 : Int) < (a0.length : Int) ↔ 4096 < a0.length := by omega
  simp [impl_isLongListN.sh, this]
/-! ### marks -/
def canonOf (l : List Rec) : List Rec × Int := if 4096 < l.length then ([], 2) else if (layerFault l).2 ≠ 0 then ([], 1) else (canonL l, 0)
def spec_Canonical.sh (a0 : List Rec) : Option (List Rec × Int) :=
  bif (decide (4096 < (a0.length : Int))) then (some (([] : List Rec), 2)) else (bif decide (a0.length ≤ 1048576) then (bif decide (∀ x ∈ a0, x.path.length ≤ 1048576) then (bif (!(decide ((layerFault a0).2 = 0))) then (some (([] : List Rec), 1)) else (bif decide (a0.length ≤ 1048576) then (bif decide (∀ x ∈ a0, pathOK x.path = true) then (some ((canonL a0), 0)) else none) else none)) else none) else none)
theorem spec_Canonical.eq (a0 : List Rec) (h0 : a0.length ≤ 1048576) (h1 : ∀ x ∈ a0, x.path.length ≤ 1048576) : spec_Canonical.sh a0 = some ((canonOf a0).1, (canonOf a0).2) := by
  unfold spec_Canonical.sh canonOf
  rw [len4096]
  by_cases h : 4096 < a0.length
  · simp [h]
  · by_cases hf : (layerFault a0).2 = 0
    · simp [h, h0, decide_eq_true h1, hf, decide_eq_true (layerOK_path hf)]
    · simp [h, h0, decide_eq_true h1, hf]
def impl_Canonical.sh (a0 : List Rec) : Option (List Rec × Int) :=
  bif decide (a0.length ≤ 1048576) then (bif decide (∀ x ∈ a0, x.path.length ≤ 1048576) then (bif decide (([.inl (decide (4096 < a0.length)), .inr 2, .inl (!(decide ((layerFaultL a0).2 = 0))), .inr 1] : List (Bool ⊕ Int)).length ≤ 4611686018427387904) then ((some (firstOf ([.inl (decide (4096 < a0.length)), .inr 2, .inl (!(decide ((layerFaultL a0).2 = 0))), .inr 1] : List (Bool ⊕ Int)))).bind fun z16 => bif (!decide (z16 = 0)) then (some ([], z16)) else (bif decide (a0.length ≤ 1048576) then (bif decide (∀ x ∈ a0, pathOK x.path = true) then (some ((canonL a0), 0)) else none) else none)) else none) else none) else none
theorem impl_Canonical.eq (a0 : List Rec) (h0 : a0.length ≤ 1048576) (h1 : ∀ x ∈ a0, x.path.length ≤ 1048576) : impl_Canonical.sh a0 = some ((canonOf a0).1, (canonOf a0).2) := by
  unfold impl_Canonical.sh canonOf layerFaultL
  simp only [h0, decide_true, cond_true, decide_eq_true h1, firstOf_c, List.length_cons, List.length_nil, firstOf, anyB, anyI]
  by_cases h : 4096 < a0.length
  · simp [h]
  · by_cases hf : (layerFault a0).2 = 0
    · simp [h, hf, decide_eq_true (layerOK_path hf)]
    · simp [h, hf]
end Go.UL
