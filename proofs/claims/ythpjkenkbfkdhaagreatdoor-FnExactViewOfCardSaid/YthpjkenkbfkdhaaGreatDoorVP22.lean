/- Plain Lean: what the functions compute. -/
import Derived.Test.YthpjkenkbfkdhaaGreatDoorVP21
set_option linter.unusedVariables false
set_option linter.unusedSimpArgs false
namespace Go.UL
open Go.RowKit
/-! ### two layers as one: the program's way and the reference's -/
/-- Right paths, strictly rising. -/
def sheetB (l : List Rec) : Bool := l.all (fun r => pathOK r.path) && decide (l.Pairwise fun a b => ltP a.path b.path = true)
theorem sheetB_path {l : List Rec} (h : sheetB l = true) : ∀ x ∈ l, pathOK x.path = true := by
  simp only [sheetB, Bool.and_eq_true] at h
  exact fun x hx => List.all_eq_true.1 h.1 x hx
theorem sheetB_rise {l : List Rec} (h : sheetB l = true) : Rise (l.map (·.path)) := by
  simp only [sheetB, Bool.and_eq_true] at h
  exact List.pairwise_map.2 (of_decide_eq_true h.2)
theorem sheetB_mk {l : List Rec} (h1 : ∀ x ∈ l, pathOK x.path = true) (h2 : Rise (l.map (·.path))) : sheetB l = true := by
  simp only [sheetB, Bool.and_eq_true]
  exact ⟨List.all_eq_true.2 h1, decide_eq_true (List.pairwise_map.1 h2)⟩
theorem codeAt_less {l : List Rec} {i : Nat} (h : codeAt l i = 0) (h0 : 0 < i) : ltP (l.getD (i - 1) default).path (l.getD i default).path = true := by
  unfold codeAt at h
  split at h
  · omega
  · split at h
    · exact absurd h ‹_›
    · split at h
      · omega
      · split at h
        · omega
        · rename_i h3
          rcases bool_two (lessL (cut 47 (l.getD (i - 1) default).path) (cut 47 (l.getD i default).path)) with h4 | h4
          · exact h4
          · exact absurd ⟨h0, h4⟩ h3
theorem layerOK_rise {l : List Rec} (h : (layerFault l).2 = 0) : Rise (l.map (·.path)) :=
  rise_of_near _ fun i h0 hi => codeAt_less (layerFault_zero h i hi) h0
theorem layerOK_sheet {l : List Rec} (h : (layerFault l).2 = 0) : sheetB l = true := sheetB_mk (layerOK_path h) (layerOK_rise h)
theorem mrgF_nil {α : Type} (f : α → List UInt8) (hl hu : α → Option α) (hb : α → α → Option α) (a : List α) : mrgF f hl hu hb a [] = a.filterMap hl := by
  cases a with
  | nil => rw [mrgF]; rfl
  | cons x a => rw [mrgF]
theorem mrgF_len {α : Type} (f : α → List UInt8) (hl hu : α → Option α) (hb : α → α → Option α) : ∀ (n : Nat) (a b : List α), a.length + b.length ≤ n → (mrgF f hl hu hb a b).length ≤ a.length + b.length := by
  intro n
  induction n with
  | zero =>
    intro a b hn
    have e1 : a = [] := List.eq_nil_of_length_eq_zero (by omega)
    have e2 : b = [] := List.eq_nil_of_length_eq_zero (by omega)
    subst e1; subst e2; rw [mrgF]; simp
  | succ n ih =>
    intro a b hn
    cases a with
    | nil => rw [mrgF]; simpa using List.length_filterMap_le _ _
    | cons x a =>
      cases b with
      | nil => rw [mrgF]; simpa using List.length_filterMap_le hl (x :: a)
      | cons y b =>
        have ho : ∀ z : Option α, z.toList.length ≤ 1 := fun z => by cases z <;> simp
        simp only [List.length_cons] at hn
        rw [mrgF]
        split
        · have := ih a (y :: b) (by simp only [List.length_cons]; omega)
          have h1 := ho (hl x)
          simp only [List.length_append, List.length_cons] at this ⊢; omega
        · split
          · have := ih (x :: a) b (by simp only [List.length_cons]; omega)
            have h1 := ho (hu y)
            simp only [List.length_append, List.length_cons] at this ⊢; omega
          · have := ih a b (by omega)
            have h1 := ho (hb x y)
            simp only [List.length_append, List.length_cons] at this ⊢; omega
theorem twoR_len (a b : List Rec) : (twoR a b).length ≤ a.length + b.length := mrgF_len _ _ _ _ _ a b (Nat.le_refl _)
theorem twoR_spec {a b : List Rec} (ha : Rise (a.map (·.path))) (hb : Rise (b.map (·.path))) :
    Rise ((twoR a b).map (·.path)) ∧ ∀ p, lookF (·.path) (twoR a b) p = mrgO (fun r : Rec => if cutsR b r.path then none else some r) some (fun x y => some (overR x y)) (lookF (·.path) a p) (lookF (·.path) b p) :=
  mrgF_spec (·.path) (fun r => if cutsR b r.path then none else some r) some (fun x y => some (overR x y))
    (fun x z h => by
      by_cases hc : cutsR b x.path = true
      · simp [hc] at h
      · simp [hc] at h; rw [h]) (fun y z h => by rw [Option.some.inj h]) (fun x y z he h => by
      have : overR x y = z := Option.some.inj h
      rw [← this, overR_path]; exact he.symm) _ a b (Nat.le_refl _) ha hb
theorem twoR_sheet {a b : List Rec} (ha : sheetB a = true) (hb : sheetB b = true) : sheetB (twoR a b) = true := by
  obtain ⟨h1, h2⟩ := twoR_spec (sheetB_rise ha) (sheetB_rise hb)
  refine sheetB_mk (fun x hx => ?_) h1
  have hx2 : lookF (fun r : Rec => r.path) (twoR a b) x.path ≠ none := (mem_look _).1 (List.mem_map_of_mem hx)
  have hx3 := h2 x.path
  rw [hx3] at hx2
  cases hla : lookF (fun r : Rec => r.path) a x.path with
  | some y => obtain ⟨m, e⟩ := lookF_some _ hla; rw [← e]; exact sheetB_path ha y m
  | none =>
    cases hlb : lookF (fun r : Rec => r.path) b x.path with
    | some y => obtain ⟨m, e⟩ := lookF_some _ hlb; rw [← e]; exact sheetB_path hb y m
    | none => rw [hla, hlb] at hx2; exact absurd rfl hx2
def squashL (a b : List Rec) : List Rec := canonL (twoR a b)
theorem squashL_len (a b : List Rec) : (squashL a b).length ≤ a.length + b.length := Nat.le_trans (canonL_len _) (twoR_len a b)
def fitL (l : List Rec) : List Rec := if 16 < l.length then [] else l
def fitC (l : List Rec) : Int := if 16 < l.length then 7 else 0
def squashOf (a b : List Rec) : List Rec × Int := if pairCode a b = 0 then (fitL (squashL a b), fitC (squashL a b)) else ([], pairCode a b)
theorem pairCode_dec (a b : List Rec) : (decide ((4096 : Int) < (a.length : Int)) || decide ((4096 : Int) < (b.length : Int))) = (decide (4096 < a.length) || decide (4096 < b.length)) := by
  have h : ∀ n : Nat, decide ((4096 : Int) < (n : Int)) = decide (4096 < n) := fun n => by rw [decide_eq_decide]; omega
  rw [h, h]
theorem fit_dec (n : Nat) : decide ((16 : Int) < (n : Int)) = decide (16 < n) := by rw [decide_eq_decide]; omega
theorem fitL_len (l : List Rec) : (fitL l).length ≤ 16 := by
  unfold fitL
  by_cases h : 16 < l.length
  · simp [h]
  · simp only [h, if_false]; omega
theorem squashOf_len (a b : List Rec) : (squashOf a b).1.length ≤ 16 := by
  unfold squashOf
  split
  · exact fitL_len _
  · simp
def fitV (v : Value) (l : List Rec) : Value := if 16 < l.length then .slice none 0 0 else v
theorem Ow.fit {e : TypeId} {B : Nat} {w : World} {v : Value} {xs : List Rec} (h : Ow e 5 encRec B w v xs) : Ow e 5 encRec B w (fitV v xs) (fitL xs) := by
  unfold fitV fitL
  split
  · exact Ow.zero
  · exact h

end Go.UL
