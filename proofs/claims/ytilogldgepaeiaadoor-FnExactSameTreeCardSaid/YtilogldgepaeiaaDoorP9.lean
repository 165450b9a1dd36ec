/- Plain Lean: what the functions compute. -/
import Derived.Test.YtilogldgepaeiaaDoorP8
set_option linter.unusedVariables false
set_option linter.unusedSimpArgs false
namespace Go.UL
open Go.RowKit
/-! ### layers: both ways agree -/
theorem recFault_path {r : Rec} (h : recFault r = 0) : pathOK r.path = true := by
  unfold recFault at h
  split at h
  · cases h
  · split at h
    · cases h
    · rename_i h2; simpa using h2
theorem codeAt_rec {l : List Rec} {i : Nat} (h : codeAt l i = 0) : recFault (l.getD i default) = 0 := by
  unfold codeAt at h
  split at h
  · cases h
  · split at h
    · rename_i h1; exact absurd h h1
    · rename_i h1; simpa using h1
theorem faultAt_code (l : List Rec) (i : Nat) (hp : ∀ j, j < i → codeAt l j = 0) : faultAt l (i : Int) = codeAt l i := by
  have h16 : ¬ 16 < i := fun h => by have := hp 16 h; simp [codeAt] at this
  unfold faultAt codeAt
  have e : ((16 : Int) ≤ (i : Int)) = (i = 16) := propext (by omega)
  have epos : ((0 : Int) < (i : Int)) = (0 < i) := propext (by omega)
  simp only [e, epos, gt_nat, Int.toNat_natCast]
  by_cases c16 : i = 16
  · simp [c16]
  · simp only [c16, if_false]
    obtain ⟨r, hr⟩ : ∃ r, l.getD i default = r := ⟨_, rfl⟩
    simp only [hr]
    by_cases cf : recFault r = 0
    · simp only [cf, ne_eq, not_true_eq_false, if_false]
      by_cases c0 : 0 < i
      · have hg : gt l ((i : Int) - 1) = l.getD (i - 1) default := by
          have : ((i : Int) - 1) = ((i - 1 : Nat) : Int) := by omega
          rw [this, gt_nat]
        obtain ⟨q, hq⟩ : ∃ q, l.getD (i - 1) default = q := ⟨_, rfl⟩
        have hqok : pathOK q.path = true := by rw [← hq]; exact recFault_path (codeAt_rec (hp (i - 1) (by omega)))
        have hrok := recFault_path cf
        have e1 : pathLess q.path r.path = lessL (cut 47 q.path) (cut 47 r.path) := by simp [pathLess, hqok, hrok]
        have e2 : (q.path = r.path) = (r.path = q.path) := propext ⟨Eq.symm, Eq.symm⟩
        simp only [hg, hq, e1, e2, c0, true_and]
      · simp only [c0, false_and, if_false]
    · simp only [cf, ne_eq, not_false_eq_true, if_true]
def impl_fault.b1 (a0 : List Rec) : Int → Option (Step (Int × Int) (Int) (Unit)) :=
  fun x8_1 => bif (decide (x8_1 < (a0.length : Int))) then (bif decide (a0.length ≤ 1048576) then (bif decide (∀ x ∈ a0, x.path.length ≤ 1048576) then (bif decide (inR x8_1 a0.length = true) then (bif (!decide ((faultAt a0 x8_1) = 0)) then (some (.ret (x8_1, (faultAt a0 x8_1)))) else (some (.nxt (IntKind.wrap .i64 (x8_1 + 1))))) else none) else none) else none) else (some (.brk ()))
def impl_fault.sh (k : Nat) (a0 : List Rec) : Option (Int × Int) :=
  (loopF (impl_fault.b1 a0) k 0).bind fun z => match z with | .inl t => some t | .inr _ => some (0, 0)
theorem impl_fault.eq (a0 : List Rec) (h0 : a0.length ≤ 1048576) (h1 : ∀ x ∈ a0, x.path.length ≤ 1048576) : ∃ k, impl_fault.sh k a0 = some ((layerFault a0).1, (layerFault a0).2) := by
  refine ⟨a0.length + 1, ?_⟩
  unfold impl_fault.sh
  have hb : ∀ i : Nat, i < a0.length → impl_fault.b1 a0 i = some (sc (if faultAt a0 i = 0 then none else some ((i : Int), faultAt a0 i) : Option (Int × Int)) ((i : Int) + 1)) := by
    intro i hi
    simp only [impl_fault.b1, lt_nat, hi, decide_true, cond_true, inR_nat hi, h0, decide_eq_true h1, wrap_succ hi (by omega)]
    by_cases hf : faultAt a0 i = 0 <;> simp [hf]
  have hn : impl_fault.b1 a0 a0.length = some (.brk ()) := by simp [impl_fault.b1]
  rw [loop_scan0 a0.length _ hb hn _ (by omega)]
  have hag := find_agree_lt (f := fun i => if codeAt a0 i = 0 then none else some ((i : Int), codeAt a0 i)) (g := fun i => if faultAt a0 i = 0 then none else some ((i : Int), faultAt a0 i)) a0.length a0.length 0 (by omega) (fun j hj => by omega) (fun i _ hp => by
    have : faultAt a0 i = codeAt a0 i := faultAt_code a0 i fun j hj => by
      have := hp j hj
      by_cases h : codeAt a0 j = 0
      · exact h
      · simp [h] at this
    simp only [this])
  rw [List.range_eq_range', hag, ← List.range_eq_range']
  unfold layerFault
  cases (List.range a0.length).findSome? _ <;> rfl
def impl_LayerFault.sh (a0 : List Rec) : Option (Int × Int) :=
  bif (decide (4096 < a0.length)) then (some (0, 2)) else (bif decide (a0.length ≤ 1048576) then (bif decide (∀ x ∈ a0, x.path.length ≤ 1048576) then (some ((layerFault a0).1, (layerFault a0).2)) else none) else none)
theorem impl_LayerFault.eq (a0 : List Rec) (h0 : a0.length ≤ 1048576) (h1 : ∀ x ∈ a0, x.path.length ≤ 1048576) : impl_LayerFault.sh a0 = some ((layerFaultL a0).1, (layerFaultL a0).2) := by
  unfold impl_LayerFault.sh layerFaultL
  by_cases h : 4096 < a0.length
  · simp [h]
  · simp only [h, h0, decide_false, decide_true, cond_false, cond_true, if_false, decide_eq_true h1]
def impl_LayerOK.sh (a0 : List Rec) : Option (Bool) :=
  bif decide (a0.length ≤ 1048576) then (bif decide (∀ x ∈ a0, x.path.length ≤ 1048576) then (some (decide (((layerFaultL a0).2) = 0))) else none) else none
theorem impl_LayerOK.eq (a0 : List Rec) (h0 : a0.length ≤ 1048576) (h1 : ∀ x ∈ a0, x.path.length ≤ 1048576) : impl_LayerOK.sh a0 = some (decide ((layerFaultL a0).2 = 0)) := by
  simp only [impl_LayerOK.sh, h0, decide_true, cond_true, decide_eq_true h1]
/-- What a law's first test tells of a list of records. -/
theorem sz_of {l : List Rec} {a : Int} (h : ¬ szRecS l a < 0) (h0 : 0 ≤ a) (ha : a ≤ 1048576) : l.length ≤ 1048576 ∧ (∀ x ∈ l, x.path.length ≤ 1048576) ∧ (∀ x ∈ l, x.body.length ≤ 1048576) ∧ 0 ≤ szRecS l a ∧ szRecS l a ≤ 1048576 := by
  have := szRecS_le h h0
  refine ⟨by omega, fun x hx => ?_, fun x hx => ?_, by omega, by omega⟩
  · have := (this.2.2.2 x hx).1; omega
  · have := (this.2.2.2 x hx).2; omega
def law_LayerFault.sh (a0 : List Rec) : Option (Bool) :=
  bif decide ((0 : Int) ≤ 1048576) then (bif decide ((1048576 : Int) ≤ 1048576) then (bif decide (a0.length ≤ 9223372036854775807) then (bif decide (∀ x ∈ a0, okRec x) then (bif (decide ((szRecS a0 1048576) < 0)) then (some true) else (bif decide (a0.length ≤ 1048576) then (bif decide (a0.length ≤ 1048576) then (bif decide (∀ x ∈ a0, x.path.length ≤ 1048576) then (bif decide (a0.length ≤ 1048576) then (bif decide (a0.length ≤ 1048576) then (bif decide (∀ x ∈ a0, x.path.length ≤ 1048576) then (bif ((!decide (((layerFaultL a0).1) = ((layerFaultL a0).1))) || (!decide (((layerFaultL a0).2) = ((layerFaultL a0).2)))) then (some false) else (bif decide (a0.length ≤ 1048576) then (bif decide (a0.length ≤ 4611686018427387904) then (bif (!(decide (a0 = a0))) then (some false) else (some true)) else none) else none)) else none) else none) else none) else none) else none) else none)) else none) else none) else none) else none
theorem law_LayerFault.eq (a0 : List Rec) (h2 : ∀ x ∈ a0, okRec x) (h3 : a0.length ≤ 9223372036854775807) : law_LayerFault.sh a0 = some true := by
  unfold law_LayerFault.sh
  by_cases hs : szRecS a0 1048576 < 0
  · simp [h3, decide_eq_true h2, hs]
  · obtain ⟨h4, h5, h6, _⟩ := sz_of hs (by omega) (by omega)
    have h7 : a0.length ≤ 4611686018427387904 := by omega
    simp [h3, decide_eq_true h2, hs, h4, decide_eq_true h5, h7]
def law_LayerOK.sh (a0 : List Rec) : Option (Bool) :=
  bif decide ((0 : Int) ≤ 1048576) then (bif decide ((1048576 : Int) ≤ 1048576) then (bif decide (a0.length ≤ 9223372036854775807) then (bif decide (∀ x ∈ a0, okRec x) then (bif (decide ((szRecS a0 1048576) < 0)) then (some true) else (bif decide (a0.length ≤ 1048576) then (bif decide (a0.length ≤ 1048576) then (bif decide (∀ x ∈ a0, x.path.length ≤ 1048576) then (bif decide (a0.length ≤ 1048576) then (bif decide (a0.length ≤ 1048576) then (bif decide (∀ x ∈ a0, x.path.length ≤ 1048576) then (bif (!decide ((decide ((layerFaultL a0).2 = 0)) = (decide ((layerFaultL a0).2 = 0)))) then (some false) else (bif decide (a0.length ≤ 1048576) then (bif decide (a0.length ≤ 4611686018427387904) then (bif (!(decide (a0 = a0))) then (some false) else (some true)) else none) else none)) else none) else none) else none) else none) else none) else none)) else none) else none) else none) else none
theorem law_LayerOK.eq (a0 : List Rec) (h2 : ∀ x ∈ a0, okRec x) (h3 : a0.length ≤ 9223372036854775807) : law_LayerOK.sh a0 = some true := by
  unfold law_LayerOK.sh
  by_cases hs : szRecS a0 1048576 < 0
  · simp [h3, decide_eq_true h2, hs]
  · obtain ⟨h4, h5, h6, _⟩ := sz_of hs (by omega) (by omega)
    have h7 : a0.length ≤ 4611686018427387904 := by omega
    simp [h3, decide_eq_true h2, hs, h4, decide_eq_true h5, h7]
def sizeOfL (l : List Rec) : Int × Int := if 4096 < l.length then (0, 2) else if (layerFault l).2 ≠ 0 then (0, 1) else (l.foldl (fun n r => n + ((r.path.length : Int) + r.body.length + 4)) 0, 0)
theorem fold_bound (l : List Rec) (h1 : ∀ x ∈ l, x.path.length ≤ 1048576) (h2 : ∀ x ∈ l, x.body.length ≤ 1048576) : ∀ a : Int, a ≤ l.foldl (fun n r => n + ((r.path.length : Int) + r.body.length + 4)) a ∧ l.foldl (fun n r => n + ((r.path.length : Int) + r.body.length + 4)) a ≤ a + l.length * 2097156 := by
  induction l with
  | nil => intro a; simp
  | cons x l ih =>
    intro a
    have := ih (fun y hy => h1 y (by simp [hy])) (fun y hy => h2 y (by simp [hy])) (a + ((x.path.length : Int) + x.body.length + 4))
    have e1 := h1 x (by simp)
    have e2 := h2 x (by simp)
    simp only [List.foldl_cons, List.length_cons]
    constructor
    · omega
    · have := this.2; push_cast; omega
def spec_SizeOf.b1 (a0 : List Rec) : Int × Int → Option (Step (Int × Int) (Int × Int) (Int)) :=
  fun q => match q with
  | (x4_7, x5_8) => bif (decide (x5_8 < (a0.length : Int))) then (bif inR x5_8 a0.length then (bif inR x5_8 a0.length then (some (.nxt (IntKind.wrap .i64 (x4_7 + (IntKind.wrap .i64 ((IntKind.wrap .i64 (4 + (((gt a0 x5_8).path).length : Int))) + (((gt a0 x5_8).body).length : Int)))), IntKind.wrap .i64 (x5_8 + 1)))) else none) else none) else (some (.brk x4_7))
def spec_SizeOf.sh (k : Nat) (a0 : List Rec) : Option (Int × Int) :=
  bif (decide (4096 < (a0.length : Int))) then (some (0, 2)) else (bif decide (a0.length ≤ 1048576) then (bif decide (∀ x ∈ a0, x.path.length ≤ 1048576) then (bif (!(decide ((layerFault a0).2 = 0))) then (some (0, 1)) else ((loopF (spec_SizeOf.b1 a0) k (0, 0)).bind fun z => match z with | .inl t => some t | .inr x4_12 => some (x4_12, 0))) else none) else none)
theorem size_run (a0 : List Rec) (h0 : a0.length ≤ 1048576) (h1 : ∀ x ∈ a0, x.path.length ≤ 1048576) (h2 : ∀ x ∈ a0, x.body.length ≤ 1048576) (i : Nat) (hi : i < a0.length) :
    0 ≤ (a0.take i).foldl (fun n r => n + ((r.path.length : Int) + r.body.length + 4)) 0 ∧ (a0.take i).foldl (fun n r => n + ((r.path.length : Int) + r.body.length + 4)) 0 ≤ 2199027449856 ∧ a0[i].path.length ≤ 1048576 ∧ a0[i].body.length ≤ 1048576 := by
  have := fold_bound (a0.take i) (fun x hx => h1 x (List.mem_of_mem_take hx)) (fun x hx => h2 x (List.mem_of_mem_take hx)) 0
  have hl : (a0.take i).length ≤ 1048576 := by simp; omega
  refine ⟨this.1, ?_, h1 _ (List.getElem_mem hi), h2 _ (List.getElem_mem hi)⟩
  have h3 : ((a0.take i).length : Int) * 2097156 ≤ 1048576 * 2097156 := by omega
  have := this.2
  omega
theorem spec_SizeOf.eq (a0 : List Rec) (h0 : a0.length ≤ 1048576) (h1 : ∀ x ∈ a0, x.path.length ≤ 1048576) (h2 : ∀ x ∈ a0, x.body.length ≤ 1048576) : ∃ k, spec_SizeOf.sh k a0 = some ((sizeOfL a0).1, (sizeOfL a0).2) := by
  refine ⟨a0.length + 1, ?_⟩
  unfold spec_SizeOf.sh sizeOfL
  rw [len4096]
  by_cases h : 4096 < a0.length
  · simp [h]
  · simp only [h, h0, decide_false, decide_true, cond_false, cond_true, if_false, decide_eq_true h1]
    by_cases hf : (layerFault a0).2 = 0
    · simp only [hf, decide_true, Bool.not_true, cond_false, ne_eq, not_true_eq_false, if_false]
      rw [fold_run a0 (fun n r => n + ((r.path.length : Int) + r.body.length + 4)) 0 (spec_SizeOf.b1 a0) (fun i hi => by
        obtain ⟨b1, b2, b3, b4⟩ := size_run a0 h0 h1 h2 i hi
        have hg : a0.getD i default = a0[i] := by simp [List.getD_eq_getElem?_getD, List.getElem?_eq_getElem hi]
        simp only [spec_SizeOf.b1, lt_nat, hi, decide_true, cond_true, inR_nat hi, getD_gt, hg, wrap_succ hi (by omega)]
        rw [wrap_small (n := 4 + (a0[i].path.length : Int)) (by omega) (by omega), wrap_small (n := 4 + (a0[i].path.length : Int) + (a0[i].body.length : Int)) (by omega) (by omega), wrap_small (by omega) (by omega)]
        congr 3; omega) (by simp [spec_SizeOf.b1])]
      rfl
    · simp [hf]
def impl_SizeOf.b1 (a0 : List Rec) : Int × Int → Option (Step (Int × Int) (Int × Int) (Int)) :=
  fun q => match q with
  | (x5_19, x24_20) => bif (decide (x24_20 < (a0.length : Int))) then (bif inR x24_20 a0.length then (some (.nxt (IntKind.wrap .i64 (x5_19 + (IntKind.wrap .i64 ((IntKind.wrap .i64 ((((gt a0 x24_20).path).length : Int) + (((gt a0 x24_20).body).length : Int))) + 4))), IntKind.wrap .i64 (x24_20 + 1)))) else none) else (some (.brk x5_19))
def impl_SizeOf.sh (k : Nat) (a0 : List Rec) : Option (Int × Int) :=
  bif decide (a0.length ≤ 1048576) then (bif decide (∀ x ∈ a0, x.path.length ≤ 1048576) then (bif decide (([.inl (decide (4096 < a0.length)), .inr 2, .inl (!(decide ((layerFaultL a0).2 = 0))), .inr 1] : List (Bool ⊕ Int)).length ≤ 4611686018427387904) then ((some (firstOf ([.inl (decide (4096 < a0.length)), .inr 2, .inl (!(decide ((layerFaultL a0).2 = 0))), .inr 1] : List (Bool ⊕ Int)))).bind fun z16 => bif (!decide (z16 = 0)) then (some (0, z16)) else ((loopF (impl_SizeOf.b1 a0) k (0, 0)).bind fun z => match z with | .inl t => some t | .inr x5_24 => some (x5_24, 0))) else none) else none) else none
theorem impl_SizeOf.eq (a0 : List Rec) (h0 : a0.length ≤ 1048576) (h1 : ∀ x ∈ a0, x.path.length ≤ 1048576) (h2 : ∀ x ∈ a0, x.body.length ≤ 1048576) : ∃ k, impl_SizeOf.sh k a0 = some ((sizeOfL a0).1, (sizeOfL a0).2) := by
  refine ⟨a0.length + 1, ?_⟩
  unfold impl_SizeOf.sh sizeOfL layerFaultL
  simp only [h0, decide_true, cond_true, decide_eq_true h1, firstOf_c, List.length_cons, List.length_nil, firstOf, anyB, anyI]
  by_cases h : 4096 < a0.length
  · simp [h]
  · by_cases hf : (layerFault a0).2 = 0
    · simp only [h, hf, decide_false, decide_true, Bool.not_true, cond_false, ne_eq, not_true_eq_false, if_false, Bool.false_eq_true, Option.bind_some, cond_true]
      rw [fold_run a0 (fun n r => n + ((r.path.length : Int) + r.body.length + 4)) 0 (impl_SizeOf.b1 a0) (fun i hi => by
        obtain ⟨b1, b2, b3, b4⟩ := size_run a0 h0 h1 h2 i hi
        have hg : a0.getD i default = a0[i] := by simp [List.getD_eq_getElem?_getD, List.getElem?_eq_getElem hi]
        simp only [impl_SizeOf.b1, lt_nat, hi, decide_true, cond_true, inR_nat hi, getD_gt, hg, wrap_succ hi (by omega)]
        rw [wrap_small (n := (a0[i].path.length : Int) + (a0[i].body.length : Int)) (by omega) (by omega), wrap_small (n := (a0[i].path.length : Int) + (a0[i].body.length : Int) + 4) (by omega) (by omega), wrap_small (by omega) (by omega)]) (by simp [impl_SizeOf.b1])]
      rfl
    · simp [h, hf]
def law_SizeOf.sh (a0 : List Rec) : Option (Bool) :=
  bif decide ((0 : Int) ≤ 1048576) then (bif decide ((1048576 : Int) ≤ 1048576) then (bif decide (a0.length ≤ 9223372036854775807) then (bif decide (∀ x ∈ a0, okRec x) then (bif (decide ((szRecS a0 1048576) < 0)) then (some true) else (bif decide (a0.length ≤ 1048576) then (bif decide (a0.length ≤ 1048576) then (bif decide (∀ x ∈ a0, x.path.length ≤ 1048576) then (bif decide (∀ x ∈ a0, x.body.length ≤ 1048576) then (bif decide (a0.length ≤ 1048576) then (bif decide (a0.length ≤ 1048576) then (bif decide (∀ x ∈ a0, x.path.length ≤ 1048576) then (bif decide (∀ x ∈ a0, x.body.length ≤ 1048576) then (bif ((!decide (((sizeOfL a0).1) = ((sizeOfL a0).1))) || (!decide (((sizeOfL a0).2) = ((sizeOfL a0).2)))) then (some false) else (bif decide (a0.length ≤ 1048576) then (bif decide (a0.length ≤ 4611686018427387904) then (bif (!(decide (a0 = a0))) then (some false) else (some true)) else none) else none)) else none) else none) else none) else none) else none) else none) else none) else none)) else none) else none) else none) else none
theorem law_SizeOf.eq (a0 : List Rec) (h2 : ∀ x ∈ a0, okRec x) (h3 : a0.length ≤ 9223372036854775807) : law_SizeOf.sh a0 = some true := by
  unfold law_SizeOf.sh
  by_cases hs : szRecS a0 1048576 < 0
  · simp [h3, decide_eq_true h2, hs]
  · obtain ⟨h4, h5, h6, _⟩ := sz_of hs (by omega) (by omega)
    have h7 : a0.length ≤ 4611686018427387904 := by omega
    simp [h3, decide_eq_true h2, hs, h4, decide_eq_true h5, decide_eq_true h6, h7]
/-! ### a record of a path -/
def findRec (l : List Rec) (p : List UInt8) : Rec × Int :=
  if decide (4096 < l.length) || decide (65536 < p.length) then (zeroR, 2) else if (layerFault l).2 ≠ 0 then (zeroR, 1) else if findR l p < 0 then (zeroR, 5) else (gt l (findR l p), 0)
theorem findR_in {l : List Rec} {p : List UInt8} (h : ¬ findR l p < 0) : inR (findR l p) l.length = true := (findI_get _ l (by unfold findR at h; omega)).1
def spec_FindRecord.sh (a0 : List Rec) (a1 : List UInt8) : Option (Rec × Int) :=
  bif ((decide (4096 < (a0.length : Int))) || (decide (65536 < (a1.length : Int)))) then (some ((⟨0, ([] : List UInt8), ([] : List UInt8), 0, false⟩ : Rec), 2)) else (bif decide (a0.length ≤ 1048576) then (bif decide (∀ x ∈ a0, x.path.length ≤ 1048576) then (bif (!(decide ((layerFault a0).2 = 0))) then (some ((⟨0, ([] : List UInt8), ([] : List UInt8), 0, false⟩ : Rec), 1)) else (bif decide (a0.length ≤ 1048576) then (bif (decide ((findR a0 a1) < 0)) then (some ((⟨0, ([] : List UInt8), ([] : List UInt8), 0, false⟩ : Rec), 5)) else (bif inR (findR a0 a1) a0.length then (some ((gt a0 (findR a0 a1)), 0)) else none)) else none)) else none) else none)
theorem spec_FindRecord.eq (a0 : List Rec) (a1 : List UInt8) (h0 : a0.length ≤ 1048576) (h1 : ∀ x ∈ a0, x.path.length ≤ 1048576) : spec_FindRecord.sh a0 a1 = some ((findRec a0 a1).1, (findRec a0 a1).2) := by
  unfold spec_FindRecord.sh findRec
  rw [len4096, len_dec]
  by_cases h : (decide (4096 < a0.length) || decide (65536 < a1.length)) = true
  · simp only [h, cond_true, if_true, zeroR]
  · simp only [h, h0, decide_true, cond_false, cond_true, if_false, decide_eq_true h1, Bool.false_eq_true]
    by_cases hf : (layerFault a0).2 = 0
    · simp only [hf, decide_true, Bool.not_true, cond_false, ne_eq, not_true_eq_false, if_false]
      by_cases hk : findR a0 a1 < 0
      · simp [hk, zeroR]
      · simp [hk, findR_in hk]
    · simp [hf, zeroR]
def impl_FindRecord.sh (a0 : List Rec) (a1 : List UInt8) : Option (Rec × Int) :=
  bif decide (a0.length ≤ 1048576) then (bif decide (([a1] : List (List UInt8)).length ≤ 4611686018427387904) then (bif decide (a0.length ≤ 1048576) then (bif decide (∀ x ∈ a0, x.path.length ≤ 1048576) then (bif decide (([.inl ((([a1] : List (List UInt8)).any fun t => decide (65536 < t.length)) || (decide (4096 < a0.length))), .inr 2, .inl (!(decide ((layerFaultL a0).2 = 0))), .inr 1, .inl (decide ((findR a0 a1) < 0)), .inr 5] : List (Bool ⊕ Int)).length ≤ 4611686018427387904) then ((some (firstOf ([.inl ((([a1] : List (List UInt8)).any fun t => decide (65536 < t.length)) || (decide (4096 < a0.length))), .inr 2, .inl (!(decide ((layerFaultL a0).2 = 0))), .inr 1, .inl (decide ((findR a0 a1) < 0)), .inr 5] : List (Bool ⊕ Int)))).bind fun z38 => bif (!decide (z38 = 0)) then (some ((⟨0, ([] : List UInt8), ([] : List UInt8), 0, false⟩ : Rec), z38)) else (bif inR (findR a0 a1) a0.length then (some ((gt a0 (findR a0 a1)), 0)) else none)) else none) else none) else none) else none) else none
theorem impl_FindRecord.eq (a0 : List Rec) (a1 : List UInt8) (h0 : a0.length ≤ 1048576) (h1 : ∀ x ∈ a0, x.path.length ≤ 1048576) : impl_FindRecord.sh a0 a1 = some ((findRec a0 a1).1, (findRec a0 a1).2) := by
  unfold impl_FindRecord.sh findRec layerFaultL
  simp only [h0, decide_true, cond_true, decide_eq_true h1, firstOf_c, List.length_cons, List.length_nil, firstOf, anyB, anyI, List.any_cons, List.any_nil, Bool.or_false]
  rw [Bool.or_comm (decide (65536 < a1.length))]
  by_cases h : 4096 < a0.length
  · simp [h, zeroR]
  · by_cases h2 : 65536 < a1.length
    · simp [h, h2, zeroR]
    · by_cases hf : (layerFault a0).2 = 0
      · by_cases hk : findR a0 a1 < 0
        · simp [h, h2, hf, hk, zeroR]
        · simp [h, h2, hf, hk, findR_in hk]
      · simp [h, h2, hf, zeroR]
def law_FindRecord.sh (a0 : List Rec) (a1 : List UInt8) : Option (Bool) :=
  bif (decide (1048576 < (a1.length : Int))) then (some true) else (bif decide ((0 : Int) ≤ 1048576) then (bif decide ((1048576 : Int) ≤ 1048576) then (bif decide (a0.length ≤ 9223372036854775807) then (bif decide (∀ x ∈ a0, okRec x) then (bif (decide ((szRecS a0 1048576) < 0)) then (some true) else (bif decide (a0.length ≤ 1048576) then (bif decide (a0.length ≤ 1048576) then (bif decide (∀ x ∈ a0, x.path.length ≤ 1048576) then (bif decide (a0.length ≤ 1048576) then (bif decide (a0.length ≤ 1048576) then (bif decide (∀ x ∈ a0, x.path.length ≤ 1048576) then (bif ((!(decide (((findRec a0 a1).1) = ((findRec a0 a1).1)))) || (!decide (((findRec a0 a1).2) = ((findRec a0 a1).2)))) then (some false) else (bif decide (a0.length ≤ 1048576) then (bif decide (a0.length ≤ 4611686018427387904) then (bif (!(decide (a0 = a0))) then (some false) else (some true)) else none) else none)) else none) else none) else none) else none) else none) else none)) else none) else none) else none) else none)
theorem law_FindRecord.eq (a0 : List Rec) (a1 : List UInt8) (h2 : ∀ x ∈ a0, okRec x) (h3 : a0.length ≤ 9223372036854775807) : law_FindRecord.sh a0 a1 = some true := by
  unfold law_FindRecord.sh
  by_cases ha : (1048576 : Int) < (a1.length : Int)
  · simp [ha]
  · by_cases hs : szRecS a0 1048576 < 0
    · simp [ha, h3, decide_eq_true h2, hs]
    · obtain ⟨h4, h5, h6, _⟩ := sz_of hs (by omega) (by omega)
      have h7 : a0.length ≤ 4611686018427387904 := by omega
      simp [ha, h3, decide_eq_true h2, hs, h4, decide_eq_true h5, h7]
/-! ### equal layers -/
def sameLayer (a b : List Rec) : Bool := (decide ((layerFaultL a).2 = 0) && decide ((layerFaultL b).2 = 0)) && decide (a = b)
def spec_SameLayer.sh (a0 : List Rec) (a1 : List Rec) : Option (Bool) :=
  bif ((decide (4096 < (a0.length : Int))) || (decide (4096 < (a1.length : Int)))) then (some false) else (bif decide (a0.length ≤ 1048576) then (bif decide (∀ x ∈ a0, x.path.length ≤ 1048576) then (((bif (decide ((layerFault a0).2 = 0)) then (bif decide (a1.length ≤ 1048576) then (bif decide (∀ x ∈ a1, x.path.length ≤ 1048576) then (some (decide ((layerFault a1).2 = 0))) else none) else none) else some false)).bind fun z13 => ((bif z13 then (bif decide (a0.length ≤ 1048576) then (some (decide (a0 = a1))) else none) else some false)).bind fun z22 => some z22) else none) else none)
theorem spec_SameLayer.eq (a0 a1 : List Rec) (h0 : a0.length ≤ 1048576) (h1 : a1.length ≤ 1048576) (h2 : ∀ x ∈ a0, x.path.length ≤ 1048576) (h3 : ∀ x ∈ a1, x.path.length ≤ 1048576) : spec_SameLayer.sh a0 a1 = some (sameLayer a0 a1) := by
  unfold spec_SameLayer.sh sameLayer layerFaultL
  rw [len4096, len4096]
  by_cases h : 4096 < a0.length
  · simp [h]
  · by_cases h' : 4096 < a1.length
    · simp [h, h']
    · simp only [h, h', h0, h1, decide_eq_true h2, decide_eq_true h3, decide_false, decide_true, Bool.or_self, cond_false, cond_true, if_false]
      by_cases f0 : (layerFault a0).2 = 0 <;> by_cases f1 : (layerFault a1).2 = 0 <;> simp [f0, f1]
def impl_SameLayer.sh (a0 : List Rec) (a1 : List Rec) : Option (Bool) :=
  bif decide (a0.length ≤ 1048576) then (bif decide (∀ x ∈ a0, x.path.length ≤ 1048576) then (((bif (decide ((layerFaultL a0).2 = 0)) then (bif decide (a1.length ≤ 1048576) then (bif decide (∀ x ∈ a1, x.path.length ≤ 1048576) then (some (decide ((layerFaultL a1).2 = 0))) else none) else none) else some false)).bind fun z6 => ((bif z6 then (bif decide (a0.length ≤ 1048576) then (some (decide (a0 = a1))) else none) else some false)).bind fun z15 => some z15) else none) else none
theorem impl_SameLayer.eq (a0 a1 : List Rec) (h0 : a0.length ≤ 1048576) (h1 : a1.length ≤ 1048576) (h2 : ∀ x ∈ a0, x.path.length ≤ 1048576) (h3 : ∀ x ∈ a1, x.path.length ≤ 1048576) : impl_SameLayer.sh a0 a1 = some (sameLayer a0 a1) := by
  unfold impl_SameLayer.sh sameLayer
  simp only [h0, h1, decide_eq_true h2, decide_eq_true h3, decide_true, cond_true]
  by_cases f0 : (layerFaultL a0).2 = 0 <;> by_cases f1 : (layerFaultL a1).2 = 0 <;> simp [f0, f1]
def law_SameLayer.sh (a0 : List Rec) (a1 : List Rec) : Option (Bool) :=
  bif decide ((0 : Int) ≤ 1048576) then (bif decide ((1048576 : Int) ≤ 1048576) then (bif decide (a0.length ≤ 9223372036854775807) then (bif decide (∀ x ∈ a0, okRec x) then (bif (decide ((szRecS a0 1048576) < 0)) then (some true) else (bif decide ((0 : Int) ≤ (szRecS a0 1048576)) then (bif decide (((szRecS a0 1048576) : Int) ≤ 1048576) then (bif decide (a1.length ≤ 9223372036854775807) then (bif decide (∀ x ∈ a1, okRec x) then (bif (decide ((szRecS a1 (szRecS a0 1048576)) < 0)) then (some true) else (bif decide (a0.length ≤ 1048576) then (bif decide (a1.length ≤ 1048576) then (bif decide (a0.length ≤ 1048576) then (bif decide (a1.length ≤ 1048576) then (bif decide (∀ x ∈ a0, x.path.length ≤ 1048576) then (bif decide (∀ x ∈ a1, x.path.length ≤ 1048576) then (bif decide (a0.length ≤ 1048576) then (bif decide (a1.length ≤ 1048576) then (bif decide (a0.length ≤ 1048576) then (bif decide (a1.length ≤ 1048576) then (bif decide (∀ x ∈ a0, x.path.length ≤ 1048576) then (bif decide (∀ x ∈ a1, x.path.length ≤ 1048576) then (bif (!decide ((sameLayer a0 a1) = (sameLayer a0 a1))) then (some false) else (bif decide (a0.length ≤ 1048576) then (bif decide (a0.length ≤ 4611686018427387904) then (bif (!(decide (a0 = a0))) then (some false) else (bif decide (a1.length ≤ 1048576) then (bif decide (a1.length ≤ 4611686018427387904) then (bif (!(decide (a1 = a1))) then (some false) else (some true)) else none) else none)) else none) else none)) else none) else none) else none) else none) else none) else none) else none) else none) else none) else none) else none) else none)) else none) else none) else none) else none)) else none) else none) else none) else none
theorem law_SameLayer.eq (a0 a1 : List Rec) (h2 : ∀ x ∈ a0, okRec x) (h3 : a0.length ≤ 9223372036854775807) (h4 : ∀ x ∈ a1, okRec x) (h5 : a1.length ≤ 9223372036854775807) : law_SameLayer.sh a0 a1 = some true := by
  unfold law_SameLayer.sh
  by_cases hs : szRecS a0 1048576 < 0
  · simp [h3, decide_eq_true h2, hs]
  · obtain ⟨k1, k2, k3, k4, k5⟩ := sz_of hs (by omega) (by omega)
    by_cases ht : szRecS a1 (szRecS a0 1048576) < 0
    · simp [h3, h5, decide_eq_true h2, decide_eq_true h4, hs, ht, k4, k5]
    · obtain ⟨m1, m2, m3, m4, m5⟩ := sz_of ht k4 k5
      have h7 : a0.length ≤ 4611686018427387904 := by omega
      have h8 : a1.length ≤ 4611686018427387904 := by omega
      simp [h3, h5, decide_eq_true h2, decide_eq_true h4, hs, ht, k4, k5, k1, m1, decide_eq_true k2, decide_eq_true m2, h7, h8]

end Go.UL
