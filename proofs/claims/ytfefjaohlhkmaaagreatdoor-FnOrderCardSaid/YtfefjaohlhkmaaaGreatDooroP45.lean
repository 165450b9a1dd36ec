/- Plain Lean: what the functions compute. -/
import Derived.Test.YtfefjaohlhkmaaaGreatDooroP39
set_option linter.unusedVariables false
set_option linter.unusedSimpArgs false
namespace Go.UL
open Go.RowKit
/-! ### layers that are like others -/
/-! ### what the functions answer for what is drawn -/
theorem small_paths {l : List Rec} (h : Sheet l) : ∀ x ∈ l, x.path.length ≤ 1048576 := fun x hx => pathOK_small (recFault_path (h.ok x hx))
/-! ### two layers as one: the law -/
theorem pair_ok {a b : List Rec} (ha : Sheet a) (ha16 : a.length ≤ 16) (hb : Sheet b) (hb16 : b.length ≤ 16) : pairCode a b = 0 := by
  have n1 : ¬ 4096 < a.length := by omega
  have n2 : ¬ 4096 < b.length := by omega
  simp [pairCode, n1, n2, sheet_layer ha ha16, sheet_layer hb hb16]
theorem stack_mk {L : List (List Rec)} (h : ∀ l ∈ L, Sheet l ∧ l.length ≤ 16) (h5 : L.length ≤ 5) : stackOK L = true := by
  simp only [stackOK, Bool.and_eq_true, decide_eq_true_eq, List.all_eq_true]
  exact ⟨h5, fun l hl => sheet_layer (h l hl).1 (h l hl).2⟩
theorem fitL_ok {l : List Rec} (h : l.length ≤ 16) : fitL l = l ∧ fitC l = 0 := by
  have : ¬ 16 < l.length := by omega
  simp [fitL, fitC, this]
theorem fitL_no {l : List Rec} (h : 16 < l.length) : fitL l = [] ∧ fitC l = 7 := by simp [fitL, fitC, h]
/-! ### layers and their canonical forms: the law -/

/-! ### trees: the law -/
/-! ### stacks that are drawn; the law of order -/
def draw_stack.b1 (a0 : List Int) : List (List Rec) × Int × DSrc → Option (Step (List (List Rec) × DSrc) (List (List Rec) × Int × DSrc) (List (List Rec) × DSrc)) :=
  fun q => match q with
  | (x3_14, x4_16, y17) => bif (decide (0 < x4_16)) then (((draw_layer.sh 12 a0 y17)).bind fun z41 => bif decide ((x3_14.length + 1) * 24 ≤ 140737488355328) then (some (.nxt (x3_14 ++ [z41.1], IntKind.wrap .i64 (x4_16 - 1), z41.2))) else none) else (some (.brk (x3_14, y17)))
def draw_stack.sh (k : Nat) (a0 : List Int) (a1 : DSrc) : Option (List (List Rec) × DSrc) :=
  ((draw_next.sh a0 a1 4)).bind fun z7 => (loopF (draw_stack.b1 a0) k (([] : List (List Rec)), z7.1, z7.2)).bind fun z => match z with | .inl t => some t | .inr (x3_21, y23) => some (x3_21, y23)
theorem draw_stack.eq (a0 : List Int) (a1 : DSrc) {r : List (List Rec) × DSrc} (H : draw_stack.sh 8 a0 a1 = some r) : ∃ k, draw_stack.sh k a0 a1 = some r := ⟨8, H⟩
/-- A stack as it is drawn. -/
def Stk (L : List (List Rec)) : Prop := ∀ l ∈ L, Lay l
theorem stack_loop {code : List Int} (hc : ∀ x ∈ code, okB x) (hl : code.length ≤ 1048577) : ∀ (i : Nat) (k : Nat) (n : Int) (L : List (List Rec)) (s : DSrc), n + 300 * i ≤ 200000000 → i < k → L.length + i ≤ 100 → i ≤ 4 → Stk L → SrcOK n s →
    ∃ L' s', loopF (draw_stack.b1 code) k (L, (i : Int), s) = some (.inr (L', s')) ∧ Stk L' ∧ L'.length ≤ L.length + i ∧ SrcOK (n + 300 * i) s' := by
  intro i
  induction i with
  | zero =>
    intro k n L s hn hk h100 hi hs hS
    obtain ⟨k, rfl⟩ : ∃ k', k = k' + 1 := ⟨k - 1, by omega⟩
    exact ⟨L, s, by simp [loopF, draw_stack.b1], hs, by omega, hS.mono (by omega)⟩
  | succ i ih =>
    intro k n L s hn hk h100 hi hs hS
    obtain ⟨k, rfl⟩ : ∃ k', k = k' + 1 := ⟨k - 1, by omega⟩
    have hd : decide ((0 : Int) < ((i + 1 : Nat) : Int)) = true := decide_eq_true (by omega)
    have hw : IntKind.wrap .i64 (((i + 1 : Nat) : Int) - 1) = (i : Int) := by rw [show ((i + 1 : Nat) : Int) - 1 = (i : Int) by omega]; exact wrap_small (by omega) (by omega)
    obtain ⟨l, s1, e1, hs1, hL⟩ := layer_ok hc hl (by omega) hS
    have d1 : decide ((L.length + 1) * 24 ≤ 140737488355328) = true := decide_eq_true (by omega)
    obtain ⟨L', s', e, q1, q2, q3⟩ := ih k (n + 300) (L ++ [l]) s1 (by omega) (by omega) (by simp; omega) (by omega) (fun x hx => by
      rcases List.mem_append.1 hx with h | h
      · exact hs x h
      · simp at h; subst h; exact hL) (hs1.mono (by omega))
    rw [loopF]
    simp only [draw_stack.b1, hd, cond_true, e1, Option.bind_some, d1, hw]
    exact ⟨L', s', e, q1, by simp at q2; omega, q3.mono (by omega)⟩
theorem stackD_ok {code : List Int} (hc : ∀ x ∈ code, okB x) (hl : code.length ≤ 1048577) {n : Int} (hn : n ≤ 100000000) {s : DSrc} (h : SrcOK n s) : Dr (draw_stack.sh 8 code s) (n + 2000) (fun L => Stk L ∧ L.length ≤ 3) := by
  unfold draw_stack.sh
  obtain ⟨i, s2, e, hs2, hi0, hi1⟩ := next_ok hc hl (by omega) h (m := 4) (by omega)
  rw [e]; simp only [Option.bind_some]
  obtain ⟨j, rfl⟩ : ∃ j : Nat, i = j := ⟨i.toNat, by omega⟩
  obtain ⟨L', s', e, q1, q2, q3⟩ := stack_loop hc hl j 8 (n + 3) [] s2 (by omega) (by omega) (by simp; omega) (by omega) (fun l hl => by cases hl) hs2
  rw [e]; simp only [Option.bind_some]
  exact ⟨_, _, rfl, q3.mono (by omega), q1, by simp at q2; omega⟩
def spec_StackDrawn.sh (a0 : List Int) : Option (List (List Rec)) :=
  ((spec_l00Source.sh a0)).bind fun z1 => ((draw_stack.sh 8 a0 z1)).bind fun z8 => some z8.1
theorem spec_StackDrawn.eq (a0 : List Int) {r : List (List Rec)} (H : spec_StackDrawn.sh a0 = some r) : spec_StackDrawn.sh a0 = some r := H
theorem stackDrawn_ok {code : List Int} (hc : ∀ x ∈ code, okB x) (hl : code.length ≤ 1048577) : ∃ L, spec_StackDrawn.sh code = some L ∧ Stk L ∧ L.length ≤ 3 := by
  obtain ⟨s, e, hs⟩ := source_ok code
  obtain ⟨L, s', e2, _, h⟩ := stackD_ok hc hl (by omega) hs
  exact ⟨L, by simp [spec_StackDrawn.sh, e, e2], h⟩
theorem Stk.ok {L : List (List Rec)} (h : Stk L) (h5 : L.length ≤ 5) : stackOK L = true := stack_mk (fun l hl => ⟨(h l hl).sheet, (h l hl).len⟩) h5
theorem stackCode_ok {L : List (List Rec)} (h : stackOK L = true) (h5 : L.length ≤ 5) : stackCode L = 0 := by
  have n1 : ¬ 4096 < L.length := by omega
  simp [stackCode, n1, h]
theorem squashAllOf_ok {L : List (List Rec)} (h : stackOK L = true) (h5 : L.length ≤ 5) : squashAllOf L = (fitL (squashAllL L), fitC (squashAllL L)) := by simp [squashAllOf, stackCode_ok h h5]
theorem mergeOf_ok {L : List (List Rec)} (h : stackOK L = true) (h5 : L.length ≤ 5) : mergeOf L = (fitL (squashAllL L), fitC (squashAllL L)) := by simp [mergeOf, stackCode_ok h h5, squashAll_merge h]
theorem fitC_cases (l : List Rec) : (l.length ≤ 16 ∧ fitL l = l ∧ fitC l = 0) ∨ (16 < l.length ∧ fitL l = [] ∧ fitC l = 7) := by
  by_cases h : l.length ≤ 16
  · exact .inl ⟨h, fitL_ok h⟩
  · exact .inr ⟨by omega, fitL_no (by omega)⟩
theorem fitL_small (l : List Rec) : (fitL l).length ≤ 16 := by
  rcases fitC_cases l with ⟨h, e, _⟩ | ⟨_, e, _⟩
  · rw [e]; exact h
  · rw [e]; simp
theorem fitL_sheet {l : List Rec} (h : Sheet l) : Sheet (fitL l) := by
  rcases fitC_cases l with ⟨_, e, _⟩ | ⟨_, e, _⟩
  · rw [e]; exact h
  · rw [e]; exact Sheet.nil
theorem sub_take {α : Type} (l : List α) (k : Nat) : sub l 0 (k : Int) = l.take k := by simp [sub]
theorem sub_drop {α : Type} (l : List α) (k : Nat) : sub l (k : Int) (l.length : Int) = l.drop k := by simp [sub]
theorem stk_guards {L : List (List Rec)} (h : Stk L) (h5 : L.length ≤ 5) : decide (L.length ≤ 1048576) = true ∧ decide (∀ l ∈ L, l.length ≤ 1048576) = true ∧ decide (∀ l ∈ L, ∀ x ∈ l, x.path.length ≤ 1048576) = true :=
  ⟨decide_eq_true (by omega), decide_eq_true fun l hl => by have := (h l hl).len; omega, decide_eq_true fun l hl => small_paths (h l hl).sheet⟩
def law_FnOrder.sh (a0 : List Int) (a1 : List Int) : Option (Bool) :=
  ((bif (decide (1048576 < (a0.length : Int))) then some true else (some (decide (1048576 < (a1.length : Int)))))).bind fun z2 => bif z2 then (some true) else (((spec_StackDrawn.sh a0)).bind fun z11 => bif decide (z11.length ≤ 1048576) then (bif decide (∀ l ∈ z11, l.length ≤ 1048576) then (bif decide (∀ l ∈ z11, ∀ x ∈ l, x.path.length ≤ 1048576) then (bif decide (z11.length ≤ 1048576) then (bif decide (∀ l ∈ z11, l.length ≤ 1048576) then (bif decide (∀ l ∈ z11, ∀ x ∈ l, x.path.length ≤ 1048576) then (bif decide (z11.length ≤ 1048576) then (bif decide (∀ l ∈ z11, l.length ≤ 1048576) then (bif decide (∀ l ∈ z11, ∀ x ∈ l, x.path.length ≤ 1048576) then (bif decide (z11.length ≤ 1048576) then (bif decide (∀ l ∈ z11, l.length ≤ 1048576) then (bif decide (∀ l ∈ z11, ∀ x ∈ l, x.path.length ≤ 1048576) then (((bif (!decide (((squashAllOf z11).2) = ((squashAllOf z11).2))) then some true else (bif decide (((squashAllOf z11).1).length ≤ 4611686018427387904) then (some (!(decide (((squashAllOf z11).1) = ((squashAllOf z11).1))))) else none))).bind fun z46 => ((bif z46 then some true else (some (!decide (((mergeOf z11).2) = ((mergeOf z11).2)))))).bind fun z55 => ((bif z55 then some true else (bif decide (((mergeOf z11).1).length ≤ 4611686018427387904) then (some (!(decide (((mergeOf z11).1) = ((mergeOf z11).1))))) else none))).bind fun z64 => ((bif z64 then some true else (some (!decide (((mergeOf z11).2) = ((squashAllOf z11).2)))))).bind fun z73 => ((bif z73 then some true else (bif decide (((mergeOf z11).1).length ≤ 4611686018427387904) then (some (!(decide (((mergeOf z11).1) = ((squashAllOf z11).1))))) else none))).bind fun z82 => ((bif z82 then some true else (bif decide (z11.length ≤ 1048576) then (bif decide (∀ l ∈ z11, l.length ≤ 1048576) then (bif decide (∀ l ∈ z11, ∀ x ∈ l, x.path.length ≤ 1048576) then (some (!(stackOK z11))) else none) else none) else none))).bind fun z91 => bif z91 then (some false) else (((laws_at.sh a1 0 (IntKind.wrap .i64 ((z11.length : Int) + 1)))).bind fun z100 => bif inS 0 z100 (z11.length : Int) then (bif decide ((sub z11 0 z100).length ≤ 1048576) then (bif decide (∀ l ∈ (sub z11 0 z100), l.length ≤ 1048576) then (bif decide (∀ l ∈ (sub z11 0 z100), ∀ x ∈ l, x.path.length ≤ 1048576) then (bif inS z100 (z11.length : Int) (z11.length : Int) then (bif decide ((sub z11 z100 (z11.length : Int)).length ≤ 1048576) then (bif decide (∀ l ∈ (sub z11 z100 (z11.length : Int)), l.length ≤ 1048576) then (bif decide (∀ l ∈ (sub z11 z100 (z11.length : Int)), ∀ x ∈ l, x.path.length ≤ 1048576) then ((some ((squashAllOf (sub z11 z100 (z11.length : Int))).1)).bind fun z122 => (some ((squashAllOf (sub z11 z100 (z11.length : Int))).2)).bind fun z124 => bif inS 0 z100 (z11.length : Int) then (bif decide ((sub z11 0 z100).length ≤ 1048576) then (bif decide (∀ l ∈ (sub z11 0 z100), l.length ≤ 1048576) then (bif decide (∀ l ∈ (sub z11 0 z100), ∀ x ∈ l, x.path.length ≤ 1048576) then (bif inS z100 (z11.length : Int) (z11.length : Int) then (bif decide ((sub z11 z100 (z11.length : Int)).length ≤ 1048576) then (bif decide (∀ l ∈ (sub z11 z100 (z11.length : Int)), l.length ≤ 1048576) then (bif decide (∀ l ∈ (sub z11 z100 (z11.length : Int)), ∀ x ∈ l, x.path.length ≤ 1048576) then ((some ((squashAllOf (sub z11 z100 (z11.length : Int))).1)).bind fun z146 => (some ((squashAllOf (sub z11 z100 (z11.length : Int))).2)).bind fun z148 => ((bif (!decide (((squashAllOf (sub z11 0 z100)).2) = ((squashAllOf (sub z11 0 z100)).2))) then some true else (some (!decide (z124 = z148))))).bind fun z153 => ((bif z153 then some true else (bif decide (((squashAllOf (sub z11 0 z100)).1).length ≤ 4611686018427387904) then (some (!(decide (((squashAllOf (sub z11 0 z100)).1) = ((squashAllOf (sub z11 0 z100)).1))))) else none))).bind fun z162 => ((bif z162 then some true else (bif decide (z122.length ≤ 4611686018427387904) then (some (!(decide (z122 = z146)))) else none))).bind fun z171 => bif z171 then (some false) else (((bif (!decide (((squashAllOf (sub z11 0 z100)).2) = 0)) then some true else (some (!decide (z148 = 0))))).bind fun z181 => bif z181 then (((bif (decide (((squashAllOf (sub z11 0 z100)).2) = 7)) then some true else (some (decide (z148 = 7))))).bind fun z191 => some z191) else (bif decide (((squashAllOf (sub z11 0 z100)).1).length ≤ 1048576) then (bif decide (z122.length ≤ 1048576) then (bif decide (∀ x ∈ ((squashAllOf (sub z11 0 z100)).1), x.path.length ≤ 1048576) then (bif decide (∀ x ∈ z122, x.path.length ≤ 1048576) then ((some ((squashOf ((squashAllOf (sub z11 0 z100)).1) z122).1)).bind fun z205 => (some ((squashOf ((squashAllOf (sub z11 0 z100)).1) z122).2)).bind fun z207 => ((bif (decide (z207 = ((squashAllOf z11).2))) then (bif decide (z205.length ≤ 4611686018427387904) then (some (decide (z205 = ((squashAllOf z11).1)))) else none) else some false)).bind fun z212 => some z212) else none) else none) else none) else none))) else none) else none) else none) else none) else none) else none) else none) else none) else none) else none) else none) else none) else none) else none) else none) else none)) else none) else none) else none) else none) else none) else none) else none) else none) else none) else none) else none) else none)
theorem law_FnOrder.eq (a0 a1 : List Int) (h2 : ∀ x ∈ a0, okB x) (h3 : a0.length ≤ 9223372036854775807) (h4 : ∀ x ∈ a1, okB x) (h5 : a1.length ≤ 9223372036854775807) : law_FnOrder.sh a0 a1 = some true := by
  unfold law_FnOrder.sh
  rcases guard_of a0 a1 with hg | ⟨hg, l0, l1⟩
  · rw [hg]; rfl
  · rw [hg]
    obtain ⟨L, e1, hL, hn⟩ := stackDrawn_ok h2 (by omega)
    have hs := hL.ok (by omega)
    obtain ⟨i, e2, hi0, hi1⟩ := at_ok h4 l1 (i := 0) (n := (L.length : Int) + 1) (by omega) (by omega) (by omega)
    obtain ⟨k, rfl⟩ : ∃ k : Nat, i = k := ⟨i.toNat, by omega⟩
    have hw : IntKind.wrap .i64 ((L.length : Int) + 1) = (L.length : Int) + 1 := wrap_small (by omega) (by omega)
    have hK : Stk (L.take k) := fun l hl => hL l (List.mem_of_mem_take hl)
    have hM : Stk (L.drop k) := fun l hl => hL l (List.mem_of_mem_drop hl)
    have kl : (L.take k).length ≤ 3 := by rw [List.length_take]; omega
    have ml : (L.drop k).length ≤ 3 := by rw [List.length_drop]; omega
    have hKs := hK.ok (by omega)
    have hMs := hM.ok (by omega)
    obtain ⟨g1, g2, g3⟩ := stk_guards hL (by omega)
    obtain ⟨g4, g5, g6⟩ := stk_guards hK (by omega)
    obtain ⟨g7, g8, g9⟩ := stk_guards hM (by omega)
    have i1 : inS 0 (k : Int) (L.length : Int) = true := inS_mk (by omega) (by omega) (by omega)
    have i2 : inS (k : Int) (L.length : Int) (L.length : Int) = true := inS_mk (by omega) (by omega) (by omega)
    have hfL := fitL_small (squashAllL L)
    have hfK := fitL_small (squashAllL (L.take k))
    have hfM := fitL_small (squashAllL (L.drop k))
    have shK := fitL_sheet (squashAll_Sheet (stack_Sheet hKs))
    have shM := fitL_sheet (squashAll_Sheet (stack_Sheet hMs))
    have d1 : decide ((fitL (squashAllL L)).length ≤ 4611686018427387904) = true := decide_eq_true (by omega)
    have d2 : decide ((fitL (squashAllL (L.take k))).length ≤ 4611686018427387904) = true := decide_eq_true (by omega)
    have d3 : decide ((fitL (squashAllL (L.drop k))).length ≤ 4611686018427387904) = true := decide_eq_true (by omega)
    have d4 : decide ((fitL (squashAllL (L.take k))).length ≤ 1048576) = true := decide_eq_true (by omega)
    have d5 : decide ((fitL (squashAllL (L.drop k))).length ≤ 1048576) = true := decide_eq_true (by omega)
    have p4 : decide (∀ x ∈ fitL (squashAllL (L.take k)), x.path.length ≤ 1048576) = true := decide_eq_true (small_paths shK)
    have p5 : decide (∀ x ∈ fitL (squashAllL (L.drop k)), x.path.length ≤ 1048576) = true := decide_eq_true (small_paths shM)
    have hparts : squashL (squashAllL (L.take k)) (squashAllL (L.drop k)) = squashAllL L := by
      have := squash_parts (K := L.take k) (M := L.drop k) (by rw [List.take_append_drop]; exact hs)
      rwa [List.take_append_drop] at this
    simp only [e1, g1, g2, g3, squashAllOf_ok hs (by omega : L.length ≤ 5), mergeOf_ok hs (by omega : L.length ≤ 5), d1, hs, hw, e2, i1, i2, sub_take, sub_drop, g4, g5, g6, g7, g8, g9, squashAllOf_ok hKs (by omega : (L.take k).length ≤ 5), squashAllOf_ok hMs (by omega : (L.drop k).length ≤ 5), d2, d3, d4, d5, p4, p5, cond_true, cond_false, decide_true, Bool.not_true, Option.bind_some]
    rcases fitC_cases (squashAllL (L.take k)) with ⟨kk, ke, kc⟩ | ⟨_, ke, kc⟩
    · rcases fitC_cases (squashAllL (L.drop k)) with ⟨mm, me, mc⟩ | ⟨_, me, mc⟩
      · rw [ke] at shK
        rw [me] at shM
        have hsq : squashOf (squashAllL (L.take k)) (squashAllL (L.drop k)) = (fitL (squashAllL L), fitC (squashAllL L)) := by simp [squashOf, pair_ok shK kk shM mm, hparts]
        simp only [ke, kc, me, mc, hsq, d1, decide_true, Bool.not_true, cond_false, cond_true, Option.bind_some]
      · simp [kc, mc]
    · simp [kc]

end Go.UL
