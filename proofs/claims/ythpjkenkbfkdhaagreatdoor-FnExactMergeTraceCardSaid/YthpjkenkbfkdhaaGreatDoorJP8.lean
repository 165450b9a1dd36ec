/- Plain Lean: what the functions compute. -/
import Derived.Test.YthpjkenkbfkdhaaGreatDoorJP7
set_option linter.unusedVariables false
set_option linter.unusedSimpArgs false
namespace Go.UL
open Go.RowKit
/-! ### what is wrong with a layer -/
/-- What is wrong with the record at place i, if nothing is wrong ahead of it. -/
def codeAt (l : List Rec) (i : Nat) : Int :=
  if i = 16 then 6 else if recFault (l.getD i default) ≠ 0 then recFault (l.getD i default)
  else if 0 < i ∧ (l.getD i default).path = (l.getD (i - 1) default).path then 18
  else if 0 < i ∧ lessL (cut 47 (l.getD (i - 1) default).path) (cut 47 (l.getD i default).path) = false then 11
  else if parentP (l.getD i default).path = [] then 0
  else if findR (l.take i) (parentP (l.getD i default).path) < 0 then 12
  else if (gt l (findR (l.take i) (parentP (l.getD i default).path))).kind ≠ 3 then 13 else 0
def layerFault (l : List Rec) : Int × Int := match (List.range l.length).findSome? (fun i => if codeAt l i = 0 then none else some ((i : Int), codeAt l i)) with
  | some x => x
  | none => (0, 0)
def layerFaultL (l : List Rec) : Int × Int := if 4096 < l.length then (0, 2) else layerFault l
theorem gt_nat {α : Type} [Inhabited α] (l : List α) (i : Nat) : gt l (i : Int) = l.getD i default := rfl
theorem getD_mem {l : List Rec} {i : Nat} (h : i < l.length) : l.getD i default ∈ l := by
  have : l.getD i default = l[i] := by simp [List.getD_eq_getElem?_getD, List.getElem?_eq_getElem h]
  rw [this]; exact List.getElem_mem h
theorem findR_take {l : List Rec} {p : List UInt8} {i : Nat} (hi : i ≤ l.length) (h : ¬ findR (l.take i) p < 0) : inR (findR (l.take i) p) l.length = true := by
  have h1 : findR (l.take i) p < (l.take i).length := findI_lt _ _
  have h2 : (l.take i).length ≤ i := by simp; omega
  exact inR_mk (by omega) (by omega)
def spec_l03Fault.b1 (a0 : List Rec) : Int → Option (Step (Int × Int) (Int) (Unit)) :=
  fun x4_1 => bif (decide (x4_1 < (a0.length : Int))) then (bif (decide (x4_1 = 16)) then (some (.ret (x4_1, 6))) else (bif inR x4_1 a0.length then (bif (!decide ((recFault (gt a0 x4_1)) = 0)) then (some (.ret (x4_1, (recFault (gt a0 x4_1))))) else (bif (!(decide (0 < x4_1)) || (inR x4_1 a0.length)) then (bif (!(decide (0 < x4_1)) || (inR (IntKind.wrap .i64 (x4_1 - 1)) a0.length)) then (bif ((decide (0 < x4_1)) && (decide (((gt a0 x4_1).path) = ((gt a0 (IntKind.wrap .i64 (x4_1 - 1))).path)))) then (some (.ret (x4_1, 18))) else (bif (!(decide (0 < x4_1)) || (inR (IntKind.wrap .i64 (x4_1 - 1)) a0.length)) then (bif (!(decide (0 < x4_1)) || (inR x4_1 a0.length)) then (bif (!(decide (0 < x4_1)) || (decide (((gt a0 (IntKind.wrap .i64 (x4_1 - 1))).path).length ≤ 1048576))) then (bif (!(decide (0 < x4_1)) || (decide (((gt a0 x4_1).path).length ≤ 1048576))) then (bif ((decide (0 < x4_1)) && (!(lessL (cut 47 ((gt a0 (IntKind.wrap .i64 (x4_1 - 1))).path)) (cut 47 ((gt a0 x4_1).path))))) then (some (.ret (x4_1, 11))) else (bif inR x4_1 a0.length then (bif decide (((gt a0 x4_1).path).length ≤ 4611686018427387904) then (bif (decide ((parentP ((gt a0 x4_1).path)) = ([] : List UInt8))) then (some (.nxt (IntKind.wrap .i64 (x4_1 + 1)))) else (bif inS 0 x4_1 (a0.length : Int) then (bif decide ((sub a0 0 x4_1).length ≤ 1048576) then (bif (decide ((findR (sub a0 0 x4_1) (parentP ((gt a0 x4_1).path))) < 0)) then (some (.ret (x4_1, 12))) else (bif inR (findR (sub a0 0 x4_1) (parentP ((gt a0 x4_1).path))) a0.length then (bif (!decide (((gt a0 (findR (sub a0 0 x4_1) (parentP ((gt a0 x4_1).path)))).kind) = 3)) then (some (.ret (x4_1, 13))) else (some (.nxt (IntKind.wrap .i64 (x4_1 + 1))))) else none)) else none) else none)) else none) else none)) else none) else none) else none) else none)) else none) else none)) else none)) else (some (.brk ()))
def spec_l03Fault.sh (k : Nat) (a0 : List Rec) : Option (Int × Int) :=
  (loopF (spec_l03Fault.b1 a0) k 0).bind fun z => match z with | .inl t => some t | .inr _ => some (0, 0)
theorem spec_l03Fault.eq (a0 : List Rec) (h0 : a0.length ≤ 1048576) (h1 : ∀ x ∈ a0, x.path.length ≤ 1048576) : ∃ k, spec_l03Fault.sh k a0 = some ((layerFault a0).1, (layerFault a0).2) := by
  refine ⟨a0.length + 1, ?_⟩
  unfold spec_l03Fault.sh
  have hb : ∀ i : Nat, i < a0.length → spec_l03Fault.b1 a0 i = some (sc (if codeAt a0 i = 0 then none else some ((i : Int), codeAt a0 i) : Option (Int × Int)) ((i : Int) + 1)) := by
    intro i hi
    have hp := h1 _ (getD_mem hi)
    have hp2 : (a0.getD i default).path.length ≤ 4611686018427387904 := by omega
    simp only [spec_l03Fault.b1, lt_nat, hi, decide_true, cond_true, inR_nat hi, gt_nat, wrap_succ hi (by omega), Bool.or_true, hp, hp2]
    have e16 : decide ((i : Int) = 16) = decide (i = 16) := by rw [decide_eq_decide]; omega
    rw [e16]
    unfold codeAt
    obtain ⟨r, hr⟩ : ∃ r, a0.getD i default = r := ⟨_, rfl⟩
    simp only [hr] at hp hp2 ⊢
    by_cases h16 : i = 16
    · subst h16; simp
    · simp only [h16, decide_false, cond_false, if_false]
      by_cases hf : recFault r = 0
      · simp only [hf, decide_true, Bool.not_true, cond_false, ne_eq, not_true_eq_false, if_false]
        by_cases hz : i = 0
        · subst hz
          simp only [Int.natCast_zero, Int.lt_irrefl, decide_false, Bool.not_false, Bool.true_or, cond_true, Bool.false_and, cond_false, Nat.lt_irrefl, false_and, if_false]
          by_cases hpp : parentP r.path = []
          · simp [hpp]
          · simp only [hpp, decide_false, cond_false, if_false]
            have hs : sub a0 0 ((0 : Nat) : Int) = a0.take 0 := rfl
            simp only [Int.natCast_zero] at hs
            rw [inS_mk (l := 0) (h := 0) (n := (a0.length : Int)) (by omega) (by omega) (by omega)]
            simp only [hs]
            simp [findR, findI]
        · have hi1 : i - 1 < a0.length := by omega
          have hw : IntKind.wrap .i64 ((i : Int) - 1) = ((i - 1 : Nat) : Int) := by rw [wrap_small (by omega) (by omega)]; omega
          have hpos : (0 : Int) < (i : Int) := by omega
          have hpos' : 0 < i := by omega
          have hp3 := h1 _ (getD_mem hi1)
          simp only [hw, gt_nat, inR_nat hi1, hpos, hpos', hp3, decide_true, Bool.not_true, Bool.false_or, Bool.or_true, cond_true, Bool.true_and, true_and]
          obtain ⟨q, hq0⟩ : ∃ q, a0.getD (i - 1) default = q := ⟨_, rfl⟩
          simp only [hq0]
          by_cases hq : r.path = q.path
          · simp [hq]
          · simp only [hq, decide_false, cond_false, if_false]
            cases hL : lessL (cut 47 q.path) (cut 47 r.path) with
            | false => simp
            | true =>
              simp only [Bool.not_true, cond_false, Bool.true_eq_false, if_false]
              by_cases hpp : parentP r.path = []
              · simp [hpp]
              · simp only [hpp, decide_false, cond_false, if_false]
                have hs : sub a0 0 (i : Int) = a0.take i := by simp [sub]
                have hl : (a0.take i).length ≤ 1048576 := by simp; omega
                rw [inS_mk (l := 0) (h := (i : Int)) (n := (a0.length : Int)) (by omega) (by omega) (by omega)]
                simp only [hs, cond_true, hl, decide_true]
                by_cases hk : findR (a0.take i) (parentP r.path) < 0
                · simp [hk]
                · simp only [hk, decide_false, cond_false, if_false, findR_take (Nat.le_of_lt hi) hk, cond_true]
                  by_cases hd : (gt a0 (findR (a0.take i) (parentP r.path))).kind = 3
                  · simp [hd]
                  · simp [hd]
      · simp [hf]
  have hn : spec_l03Fault.b1 a0 a0.length = some (.brk ()) := by simp [spec_l03Fault.b1]
  rw [loop_scan0 a0.length _ hb hn _ (by omega)]
  unfold layerFault
  cases (List.range a0.length).findSome? _ <;> rfl
def spec_l03OK.sh (a0 : List Rec) : Option (Bool) :=
  bif decide (a0.length ≤ 1048576) then (bif decide (∀ x ∈ a0, x.path.length ≤ 1048576) then (some (decide (((layerFault a0).2) = 0))) else none) else none
theorem spec_l03OK.eq (a0 : List Rec) (h0 : a0.length ≤ 1048576) (h1 : ∀ x ∈ a0, x.path.length ≤ 1048576) : spec_l03OK.sh a0 = some (decide ((layerFault a0).2 = 0)) := by
  simp only [spec_l03OK.sh, h0, decide_true, cond_true, decide_eq_true h1]
def faultAt (l : List Rec) (i : Int) : Int :=
  if 16 ≤ i then 6 else if recFault (gt l i) ≠ 0 then recFault (gt l i) else if 0 < i ∧ (gt l (i - 1)).path = (gt l i).path then 18
  else if 0 < i ∧ pathLess (gt l (i - 1)).path (gt l i).path = false then 11 else if parentP (gt l i).path = [] then 0
  else if findR (l.take i.toNat) (parentP (gt l i).path) < 0 then 12 else if (gt l (findR (l.take i.toNat) (parentP (gt l i).path))).kind ≠ 3 then 13 else 0
def impl_faultAt.sh (a0 : List Rec) (a1 : Int) : Option (Int) :=
  bif inR a1 a0.length then (bif decide (((gt a0 a1).path).length ≤ 1048576) then ((bif (!decide ((parentP ((gt a0 a1).path)) = ([] : List UInt8))) then (bif inS 0 a1 (a0.length : Int) then (bif decide ((sub a0 0 a1).length ≤ 1048576) then (some (.inr (findR (sub a0 0 a1) (parentP ((gt a0 a1).path))))) else none) else none) else (some (.inr 0)) : Option ((Int) ⊕ (Int))).bind fun z => match z with | .inl t => some t | .inr x6_19 => bif (!(decide (0 < a1)) || (inR (if ((IntKind.wrap .i64 (a1 - 1)) < 0 : Prop) then 0 else (IntKind.wrap .i64 (a1 - 1))) a0.length)) then (bif (!(decide (0 < a1)) || (inR (if ((IntKind.wrap .i64 (a1 - 1)) < 0 : Prop) then 0 else (IntKind.wrap .i64 (a1 - 1))) a0.length)) then (bif decide (((gt a0 a1).path).length ≤ 1048576) then (bif (!(!decide ((parentP ((gt a0 a1).path)) = ([] : List UInt8))) || (inR (if (x6_19 < 0 : Prop) then 0 else x6_19) a0.length)) then (bif decide (([.inl (!(decide (recFault (gt a0 a1) = 0))), .inr (recFault (gt a0 a1)), .inl ((decide (0 < a1)) && (decide (((gt a0 (if ((IntKind.wrap .i64 (a1 - 1)) < 0 : Prop) then 0 else (IntKind.wrap .i64 (a1 - 1)))).path) = ((gt a0 a1).path)))), .inr 18, .inl ((decide (0 < a1)) && (!(pathLess ((gt a0 (if ((IntKind.wrap .i64 (a1 - 1)) < 0 : Prop) then 0 else (IntKind.wrap .i64 (a1 - 1)))).path) ((gt a0 a1).path)))), .inr 11, .inl (decide (x6_19 < 0)), .inr 12, .inl ((!decide ((parentP ((gt a0 a1).path)) = ([] : List UInt8))) && (!decide (((gt a0 (if (x6_19 < 0 : Prop) then 0 else x6_19)).kind) = 3))), .inr 13] : List (Bool ⊕ Int)).length ≤ 4611686018427387904) then (bif decide (([.inl (decide (16 ≤ a1)), .inr 6, .inl true, .inr (firstOf ([.inl (!(decide (recFault (gt a0 a1) = 0))), .inr (recFault (gt a0 a1)), .inl ((decide (0 < a1)) && (decide (((gt a0 (if ((IntKind.wrap .i64 (a1 - 1)) < 0 : Prop) then 0 else (IntKind.wrap .i64 (a1 - 1)))).path) = ((gt a0 a1).path)))), .inr 18, .inl ((decide (0 < a1)) && (!(pathLess ((gt a0 (if ((IntKind.wrap .i64 (a1 - 1)) < 0 : Prop) then 0 else (IntKind.wrap .i64 (a1 - 1)))).path) ((gt a0 a1).path)))), .inr 11, .inl (decide (x6_19 < 0)), .inr 12, .inl ((!decide ((parentP ((gt a0 a1).path)) = ([] : List UInt8))) && (!decide (((gt a0 (if (x6_19 < 0 : Prop) then 0 else x6_19)).kind) = 3))), .inr 13] : List (Bool ⊕ Int)))] : List (Bool ⊕ Int)).length ≤ 4611686018427387904) then (some (firstOf ([.inl (decide (16 ≤ a1)), .inr 6, .inl true, .inr (firstOf ([.inl (!(decide (recFault (gt a0 a1) = 0))), .inr (recFault (gt a0 a1)), .inl ((decide (0 < a1)) && (decide (((gt a0 (if ((IntKind.wrap .i64 (a1 - 1)) < 0 : Prop) then 0 else (IntKind.wrap .i64 (a1 - 1)))).path) = ((gt a0 a1).path)))), .inr 18, .inl ((decide (0 < a1)) && (!(pathLess ((gt a0 (if ((IntKind.wrap .i64 (a1 - 1)) < 0 : Prop) then 0 else (IntKind.wrap .i64 (a1 - 1)))).path) ((gt a0 a1).path)))), .inr 11, .inl (decide (x6_19 < 0)), .inr 12, .inl ((!decide ((parentP ((gt a0 a1).path)) = ([] : List UInt8))) && (!decide (((gt a0 (if (x6_19 < 0 : Prop) then 0 else x6_19)).kind) = 3))), .inr 13] : List (Bool ⊕ Int)))] : List (Bool ⊕ Int)))) else none) else none) else none) else none) else none) else none) else none) else none
theorem firstOf_c (b : Bool) (n : Int) (l : List (Bool ⊕ Int)) : firstOf (.inl b :: .inr n :: l) = if b then n else firstOf l := rfl
theorem impl_faultAt.eq (a0 : List Rec) (a1 : Int) (h0 : a0.length ≤ 1048576) (h1 : ∀ x ∈ a0, x.path.length ≤ 1048576) (h2 : inR a1 a0.length = true) : impl_faultAt.sh a0 a1 = some (faultAt a0 a1) := by
  obtain ⟨i, rfl⟩ : ∃ i : Nat, a1 = i := ⟨a1.toNat, by have := inR_lo h2; omega⟩
  have hi : i < a0.length := by have := inR_hi h2; omega
  have hp := h1 _ (getD_mem hi)
  obtain ⟨r, hr⟩ : ∃ r, a0.getD i default = r := ⟨_, rfl⟩
  have hs : sub a0 0 (i : Int) = a0.take i := by simp [sub]
  have hl : (a0.take i).length ≤ 1048576 := by simp; omega
  have hm : (if (IntKind.wrap .i64 ((i : Int) - 1) < 0 : Prop) then (0 : Int) else IntKind.wrap .i64 ((i : Int) - 1)) = ((i - 1 : Nat) : Int) := by
    rw [wrap_small (by omega) (by omega)]; split <;> omega
  have hi1 : i - 1 < a0.length := by omega
  obtain ⟨q, hq⟩ : ∃ q, a0.getD (i - 1) default = q := ⟨_, rfl⟩
  have hq2 : ∀ _ : 0 < i, gt a0 ((i : Int) - 1) = q := fun h => by
    have : ((i : Int) - 1) = ((i - 1 : Nat) : Int) := by omega
    rw [this, gt_nat, hq]
  rw [hr] at hp
  have e16 : decide ((16 : Int) ≤ (i : Int)) = decide (16 ≤ i) := by rw [decide_eq_decide]; omega
  have epos : decide ((0 : Int) < (i : Int)) = decide (0 < i) := by rw [decide_eq_decide]; omega
  have e16' : ((16 : Int) ≤ (i : Int)) = (16 ≤ i) := propext (by omega)
  have epos' : ((0 : Int) < (i : Int)) = (0 < i) := propext (by omega)
  unfold impl_faultAt.sh faultAt
  simp only [inR_nat hi, gt_nat, hr, hp, hs, hl, hm, hq, inR_nat hi1, e16, epos, decide_true, cond_true, Bool.or_true, Int.toNat_natCast, inS_mk (l := 0) (h := (i : Int)) (n := (a0.length : Int)) (by omega) (by omega) (by omega), firstOf_c, List.length_cons, List.length_nil]
  simp only [e16', epos']
  by_cases hpp : parentP r.path = []
  · have h00 : inR (if (0 : Int) < 0 then 0 else 0) a0.length = true := inR_mk (by omega) (by simp; omega)
    by_cases c0 : 0 < i
    · simp only [hq2 c0]
      by_cases c16 : 16 ≤ i <;> by_cases cf : recFault r = 0 <;> by_cases cq : q.path = r.path <;> cases cl : pathLess q.path r.path <;> simp [hpp, c16, cf, cq, cl, c0, firstOf]
    · by_cases c16 : 16 ≤ i <;> by_cases cf : recFault r = 0 <;> simp [hpp, c16, cf, c0, firstOf]
  · by_cases ck : findR (a0.take i) (parentP r.path) < 0
    · have h00 : inR 0 a0.length = true := inR_mk (by omega) (by omega)
      by_cases c0 : 0 < i
      · simp only [hq2 c0]
        by_cases c16 : 16 ≤ i <;> by_cases cf : recFault r = 0 <;> by_cases cq : q.path = r.path <;> cases cl : pathLess q.path r.path <;> simp [hpp, c16, cf, cq, cl, c0, ck, h00]
      · by_cases c16 : 16 ≤ i <;> by_cases cf : recFault r = 0 <;> simp [hpp, c16, cf, c0, ck, h00]
    · have hk := findR_take (Nat.le_of_lt hi) ck
      by_cases cd : (gt a0 (findR (a0.take i) (parentP r.path))).kind = 3
      · by_cases c0 : 0 < i
        · simp only [hq2 c0]
          by_cases c16 : 16 ≤ i <;> by_cases cf : recFault r = 0 <;> by_cases cq : q.path = r.path <;> cases cl : pathLess q.path r.path <;> simp [hpp, c16, cf, cq, cl, c0, ck, hk, cd, firstOf]
        · by_cases c16 : 16 ≤ i <;> by_cases cf : recFault r = 0 <;> simp [hpp, c16, cf, c0, ck, hk, cd, firstOf]
      · by_cases c0 : 0 < i
        · simp only [hq2 c0]
          by_cases c16 : 16 ≤ i <;> by_cases cf : recFault r = 0 <;> by_cases cq : q.path = r.path <;> cases cl : pathLess q.path r.path <;> simp [hpp, c16, cf, cq, cl, c0, ck, hk, cd, firstOf]
        · by_cases c16 : 16 ≤ i <;> by_cases cf : recFault r = 0 <;> simp [hpp, c16, cf, c0, ck, hk, cd, firstOf]

end Go.UL
