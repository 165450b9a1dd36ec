/- Plain Lean: what the functions compute. -/
import Derived.Test.YthpjkenkbfkdhaaGreatDoorJP8
set_option linter.unusedVariables false
set_option linter.unusedSimpArgs false
namespace Go.UL
open Go.RowKit
/-! ### layers: both ways agree -/
theorem recFault_path {r : Rec} (h : recFault r = 0) : pathOK r.path = true := by
  unfold recFault at h
  split at h
  · cases h
  · split at h
    · cases h
    · rename_i h2; simpa using h2
theorem codeAt_rec {l : List Rec} {i : Nat} (h : codeAt l i = 0) : recFault (l.getD i default) = 0 := by
  unfold codeAt at h
  split at h
  · cases h
  · split at h
    · rename_i h1; exact absurd h h1
    · rename_i h1; simpa using h1
theorem faultAt_code (l : List Rec) (i : Nat) (hp : ∀ j, j < i → codeAt l j = 0) : faultAt l (i : Int) = codeAt l i := by
  have h16 : ¬ 16 < i := fun h => by have := hp 16 h; simp [codeAt] at this
  unfold faultAt codeAt
  have e : ((16 : Int) ≤ (i : Int)) = (i = 16) := propext (by omega)
  have epos : ((0 : Int) < (i : Int)) = (0 < i) := propext (by omega)
  simp only [e, epos, gt_nat, Int.toNat_natCast]
  by_cases c16 : i = 16
  · simp [c16]
  · simp only [c16, if_false]
    obtain ⟨r, hr⟩ : ∃ r, l.getD i default = r := ⟨_, rfl⟩
    simp only [hr]
    by_cases cf : recFault r = 0
    · simp only [cf, ne_eq, not_true_eq_false, if_false]
      by_cases c0 : 0 < i
      · have hg : gt l ((i : Int) - 1) = l.getD (i - 1) default := by
          have : ((i : Int) - 1) = ((i - 1 : Nat) : Int) := by omega
          rw [this, gt_nat]
        obtain ⟨q, hq⟩ : ∃ q, l.getD (i - 1) default = q := ⟨_, rfl⟩
        have hqok : pathOK q.path = true := by rw [← hq]; exact recFault_path (codeAt_rec (hp (i - 1) (by omega)))
        have hrok := recFault_path cf
        have e1 : pathLess q.path r.path = lessL (cut 47 q.path) (cut 47 r.path) := by simp [pathLess, hqok, hrok]
        have e2 : (q.path = r.path) = (r.path = q.path) := propext ⟨Eq.symm, Eq.symm⟩
        simp only [hg, hq, e1, e2, c0, true_and]
      · simp only [c0, false_and, if_false]
    · simp only [cf, ne_eq, not_false_eq_true, if_true]
def impl_fault.b1 (a0 : List Rec) : Int → Option (Step (Int × Int) (Int) (Unit)) :=
  fun x8_1 => bif (decide (x8_1 < (a0.length : Int))) then (bif decide (a0.length ≤ 1048576) then (bif decide (∀ x ∈ a0, x.path.length ≤ 1048576) then (bif decide (inR x8_1 a0.length = true) then (bif (!decide ((faultAt a0 x8_1) = 0)) then (some (.ret (x8_1, (faultAt a0 x8_1)))) else (some (.nxt (IntKind.wrap .i64 (x8_1 + 1))))) else none) else none) else none) else (some (.brk ()))
def impl_fault.sh (k : Nat) (a0 : List Rec) : Option (Int × Int) :=
  (loopF (impl_fault.b1 a0) k 0).bind fun z => match z with | .inl t => some t | .inr _ => some (0, 0)
theorem impl_fault.eq (a0 : List Rec) (h0 : a0.length ≤ 1048576) (h1 : ∀ x ∈ a0, x.path.length ≤ 1048576) : ∃ k, impl_fault.sh k a0 = some ((layerFault a0).1, (layerFault a0).2) := by
  refine ⟨a0.length + 1, ?_⟩
  unfold impl_fault.sh
  have hb : ∀ i : Nat, i < a0.length → impl_fault.b1 a0 i = some (sc (if faultAt a0 i = 0 then none else some ((i : Int), faultAt a0 i) : Option (Int × Int)) ((i : Int) + 1)) := by
    intro i hi
    simp only [impl_fault.b1, lt_nat, hi, decide_true, cond_true, inR_nat hi, h0, decide_eq_true h1, wrap_succ hi (by omega)]
    by_cases hf : faultAt a0 i = 0 <;> simp [hf]
  have hn : impl_fault.b1 a0 a0.length = some (.brk ()) := by simp [impl_fault.b1]
  rw [loop_scan0 a0.length _ hb hn _ (by omega)]
  have hag := find_agree_lt (f := fun i => if codeAt a0 i = 0 then none else some ((i : Int), codeAt a0 i)) (g := fun i => if faultAt a0 i = 0 then none else some ((i : Int), faultAt a0 i)) a0.length a0.length 0 (by omega) (fun j hj => by omega) (fun i _ hp => by
    have : faultAt a0 i = codeAt a0 i := faultAt_code a0 i fun j hj => by
      have := hp j hj
      by_cases h : codeAt a0 j = 0
      · exact h
      · simp [h] at this
    simp only [this])
  rw [List.range_eq_range', hag, ← List.range_eq_range']
  unfold layerFault
  cases (List.range a0.length).findSome? _ <;> rfl
def impl_LayerFault.sh (a0 : List Rec) : Option (Int × Int) :=
  bif (decide (4096 < a0.length)) then (some (0, 2)) else (bif decide (a0.length ≤ 1048576) then (bif decide (∀ x ∈ a0, x.path.length ≤ 1048576) then (some ((layerFault a0).1, (layerFault a0).2)) else none) else none)
theorem impl_LayerFault.eq (a0 : List Rec) (h0 : a0.length ≤ 1048576) (h1 : ∀ x ∈ a0, x.path.length ≤ 1048576) : impl_LayerFault.sh a0 = some ((layerFaultL a0).1, (layerFaultL a0).2) := by
  unfold impl_LayerFault.sh layerFaultL
  by_cases h : 4096 < a0.length
  · simp [h]
  · simp only [h, h0, decide_false, decide_true, cond_false, cond_true, if_false, decide_eq_true h1]
def impl_LayerOK.sh (a0 : List Rec) : Option (Bool) :=
  bif decide (a0.length ≤ 1048576) then (bif decide (∀ x ∈ a0, x.path.length ≤ 1048576) then (some (decide (((layerFaultL a0).2) = 0))) else none) else none
theorem impl_LayerOK.eq (a0 : List Rec) (h0 : a0.length ≤ 1048576) (h1 : ∀ x ∈ a0, x.path.length ≤ 1048576) : impl_LayerOK.sh a0 = some (decide ((layerFaultL a0).2 = 0)) := by
  simp only [impl_LayerOK.sh, h0, decide_true, cond_true, decide_eq_true h1]
/-! ### a record of a path -/
theorem findR_in {l : List Rec} {p : List UInt8} (h : ¬ findR l p < 0) : inR (findR l p) l.length = true := (findI_get _ l (by unfold findR at h; omega)).1
/-! ### equal layers -/
end Go.UL
