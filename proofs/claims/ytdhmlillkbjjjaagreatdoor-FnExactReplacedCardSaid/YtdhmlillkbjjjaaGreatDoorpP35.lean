import Derived.Test.YtdhmlillkbjjjaaGreatDoorpP29
set_option linter.unusedVariables false
set_option linter.unusedSimpArgs false
namespace Go.UL
open Go.RowKit
def viewR (l : List Rec) (p : List UInt8) : Option (Option Nd) := match Ve l p with
 | some r => some (showR r)
 | none => if jF l p then some none else none
theorem Sheet.path {l : List Rec} (hs : Sheet l) {p : List UInt8} {r : Rec} (h : Ve l p = some r) : qK p = true := by
 obtain ⟨h1, h2⟩ := XQ h
 rw [← h2]; exact jh (hs.ok r h1)
theorem pigeon {α : Type} [DecidableEq α] : ∀ (l m : List α), l.Nodup → (∀ x ∈ l, x ∈ m) → l.length ≤ m.length := by
 intro l
 induction l with
 | nil => intro m _ _; simp
 | cons x l ih =>
  intro m hd hs
  have hx := hs x (by simp)
  have h1 := List.nodup_cons.1 hd
  have h2 := ih (m.erase x) h1.2 fun y hy => (List.mem_erase_of_ne (fun e => h1.1 (by rw [← e]; exact hy))).2 (hs y (by simp [hy]))
  rw [List.length_erase_of_mem hx] at h2
  have : 0 < m.length := List.length_pos_of_mem hx
  simp only [List.length_cons]; omega
def QZ (i : Nat) : List UInt8 := [122, UInt8.ofNat (97 + i / 16), UInt8.ofNat (97 + i % 16)]
theorem freeN_ok : ∀ i, i < 256 → yy (QZ i) = true := by
 have h : (List.range 256).all (fun i => yy (QZ i)) = true := by decide +kernel
 intro i hi
 exact (List.all_eq_true.1 h) i (List.mem_range.2 hi)
theorem JP : ∀ i, i < 256 → cut 47 (QZ i) = [QZ i] := by
 have h : (List.range 256).all (fun i => decide (cut 47 (QZ i) = [QZ i])) = true := by decide +kernel
 intro i hi
 exact of_decide_eq_true ((List.all_eq_true.1 h) i (List.mem_range.2 hi))
theorem freeN_inj {i j : Nat} (hi : i < 256) (hj : j < 256) (h : QZ i = QZ j) : i = j := by
 unfold QZ at h
 injection h with _ h
 injection h with h1 h
 injection h with h2 _
 have e1 := congrArg UInt8.toNat h1
 have e2 := congrArg UInt8.toNat h2
 simp only [UInt8.toNat_ofNat'] at e1 e2
 omega
theorem joinL_le : ∀ (l : List (List UInt8)), (∀ x ∈ l, x.length ≤ 8) → (yj l).length ≤ 9 * l.length - 1 := by
 intro l
 induction l with
 | nil => intro _; simp [yj]
 | cons x l ih =>
  intro h
  have h1 := h x (by simp)
  have h2 := ih fun y hy => h y (by simp [hy])
  by_cases e : l = []
  ·subst e; simp [yj]; omega
  ·rw [Qk x e]
   have := List.length_pos_iff.2 e
   simp only [List.length_append, List.length_cons]; omega
theorem Y7 {p : List UInt8} (h : qK p = true) : (cut 47 p).length ≤ 4 ∧ ∀ x ∈ cut 47 p, yy x = true := by
 simp only [qK, Bool.and_eq_true, decide_eq_true_eq, List.all_eq_true] at h
 exact ⟨h.2.1, h.2.2⟩
theorem child_ok {x part : List UInt8} (hx : qK x = true) (hd : (cut 47 x).length < 4) (hp : yy part = true) (hc : cut 47 part = [part]) : qK (x ++ 47 :: part) = true ∧ ql (x ++ 47 :: part) = x := by
 have hcut : cut 47 (x ++ 47 :: part) = cut 47 x ++ [part] := by rw [JO, hc]
 obtain ⟨h1, h2⟩ := Y7 hx
 have h3 := joinL_le (cut 47 x) fun y hy => Yf (h2 y hy)
 rw [Qi] at h3
 have h4 := Yf hp
 have hok : qK (x ++ 47 :: part) = true := by
  simp only [qK, Bool.and_eq_true, decide_eq_true_eq, List.all_eq_true, hcut]
  refine ⟨by simp; omega, by simp; omega, fun y hy => ?_⟩
  rcases List.mem_append.1 hy with hy | hy
  ·exact h2 y hy
  ·rw [List.mem_singleton.1 hy]; exact hp
 refine ⟨hok, ?_⟩
 have hb : jK (x ++ 47 :: part) x = true := (jX _ _).2 ⟨[part], by simp, hcut⟩
 obtain ⟨g1, g2 | g2⟩ := Y8 hok hb
 ·exact g2
 ·have g3 := G8 g2
  rw [JA g1, hcut] at g3
  simp at g3
theorem fresh {a b : List Rec} (hlen : a.length + b.length < 256) {x : List UInt8} (hx : qK x = true) (hd : (cut 47 x).length < 4) :
  ∃ q, qK q = true ∧ ql q = x ∧ Ve a q = none ∧ Ve b q = none := by
 have key : ∃ i, i < 256 ∧ (x ++ 47 :: QZ i) ∉ a.map (·.path) ++ b.map (·.path) := by
  refine Classical.byContradiction fun hno => ?_
  have hall : ∀ i, i < 256 → (x ++ 47 :: QZ i) ∈ a.map (·.path) ++ b.map (·.path) := fun i hi => Classical.byContradiction fun h => hno ⟨i, hi, h⟩
  have hnd : ((List.range 256).map fun i => x ++ 47 :: QZ i).Nodup := by
   refine List.pairwise_map.2 (List.Pairwise.imp_of_mem (R := fun i j => i < j) (fun {i j} hi hj hlt e => ?_) List.pairwise_lt_range)
   have h1 := List.append_cancel_left e
   injection h1 with _ h1
   have := freeN_inj (List.mem_range.1 hi) (List.mem_range.1 hj) h1
   omega
  have hle := pigeon _ _ hnd fun y hy => by
   obtain ⟨i, hi, rfl⟩ := List.mem_map.1 hy
   exact hall i (List.mem_range.1 hi)
  simp at hle
  omega
 obtain ⟨i, hi, hni⟩ := key
 obtain ⟨h1, h2⟩ := child_ok hx hd (freeN_ok i hi) (JP i hi)
 rw [List.mem_append, not_or] at hni
 refine ⟨_, h1, h2, ?_, ?_⟩
 ·cases h : Ve a (x ++ 47 :: QZ i) with
  | none => rfl
  | some r => exact absurd (YY.1 (by rw [h]; simp)) hni.1
 ·cases h : Ve b (x ++ 47 :: QZ i) with
  | none => rfl
  | some r => exact absurd (YY.1 (by rw [h]; simp)) hni.2
set_option linter.unusedSectionVars false
section
variable {a b : List Rec} (ha : Sheet a) (hb : Sheet b) (hlen : a.length + b.length < 256) (hv : ∀ p, qK p = true → viewR a p = viewR b p)
include ha hb hlen hv
end
theorem Sheet.nil : Sheet [] := ⟨List.Pairwise.nil, by simp, by simp⟩
theorem XI {L M : List (List Rec)} (h : vr L = true) (hs : ∀ l ∈ M, l ∈ L) (hl : M.length ≤ 5) : vr M = true := by
 obtain ⟨_, h2⟩ := jH h
 unfold vr
 rw [Bool.and_eq_true, List.all_eq_true]
 exact ⟨decide_eq_true hl, fun l hm => decide_eq_true (h2 l (hs l hm))⟩
theorem JM {L : List (List Rec)} (h : vr L = true) : ∀ x ∈ L, x.length ≤ 16 := fun x hx => Q5 ((jH h).2 x hx)
def Yi (L : List (List Rec)) (i j : Nat) (x : List Rec) : List (List Rec) := L.take i ++ x :: L.drop j
theorem Xe {L : List (List Rec)} {i j : Nat} {x l : List Rec} (h : l ∈ Yi L i j x) : l ∈ L ∨ l = x := by
 unfold Yi at h
 rcases List.mem_append.1 h with h | h
 ·exact .inl (List.mem_of_mem_take h)
 ·rcases List.mem_cons.1 h with h | h
  ·exact .inr h
  ·exact .inl (List.mem_of_mem_drop h)
set_option linter.unusedSectionVars false
section
variable {x y : List Rec} (hx : Sheet x) (hy : Sheet y) (cx : jV x = x) (cy : jV y = y) {p : List UInt8} (hp : qK p = true) (hlt : ∀ q, ltP q p = true → Ve x q = Ve y q)
include hx hy cx cy hp hlt
end
end Go.UL
