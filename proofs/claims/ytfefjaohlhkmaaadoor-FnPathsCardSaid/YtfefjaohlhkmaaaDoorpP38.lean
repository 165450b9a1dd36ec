/- Plain Lean: what the functions compute. -/
import Derived.Test.YtfefjaohlhkmaaaDoorpP37
set_option linter.unusedVariables false
set_option linter.unusedSimpArgs false
namespace Go.UL
open Go.RowKit
/-! ### what the laws compare with; paths -/
theorem same_loop {α : Type} [DecidableEq α] [Inhabited α] (a b : List α) (hl : a.length = b.length) (B : Int → Option (Step Bool Int Unit)) (hb : ∀ i : Nat, i < a.length → B i = some (sc (if !decide (a.getD i default = b.getD i default) then some false else none : Option Bool) ((i : Int) + 1))) (hn : B a.length = some (.brk ())) :
    (loopF B (a.length + 1) 0).bind (fun z => match z with | .inl t => some t | .inr _ => some true) = some (decide (a = b)) := by
  rw [loop_scan0 a.length _ hb hn (a.length + 1) (by omega), list_ne_any a b hl]
  by_cases he : a = b <;> simp [he]
theorem same_sh {α : Type} [DecidableEq α] [Inhabited α] (a b : List α) (h : a.length ≤ 4611686018427387904) (B : Int → Option (Step Bool Int Unit)) (hB : ∀ i : Nat, i < a.length → i < b.length → B i = bif (!decide (a.getD i default = b.getD i default)) then some (.ret false) else some (.nxt ((i : Int) + 1))) (hn : B a.length = some (.brk ())) :
    (bif (!decide ((a.length : Int) = (b.length : Int))) then some false else ((loopF B (a.length + 1) 0).bind fun z => match z with | .inl t => some t | .inr _ => some true)) = some (decide (a = b)) := by
  by_cases hl : a.length = b.length
  · have : (a.length : Int) = (b.length : Int) := by omega
    rw [decide_eq_true this]
    simp only [Bool.not_true, cond_false]
    refine same_loop a b hl B (fun i hi => ?_) hn
    rw [hB i hi (by omega)]
    by_cases he : a.getD i default = b.getD i default
    · simp only [he, decide_true, Bool.not_true, Bool.false_eq_true, if_false, cond_false, sc_none]
    · simp only [he, decide_false, Bool.not_false, if_true, cond_true, sc_some]
  · have h1 : ¬ (a.length : Int) = (b.length : Int) := by omega
    have h2 : a ≠ b := fun e => hl (by rw [e])
    simp [h1, h2]
def laws_sameTexts.b1 (a0 : List (List UInt8)) (a1 : List (List UInt8)) : Int → Option (Step (Bool) (Int) (Unit)) :=
  fun x5_2 => bif (decide (x5_2 < (a0.length : Int))) then (bif inR x5_2 a0.length then (bif inR x5_2 a1.length then (bif (!decide ((gt a0 x5_2) = (gt a1 x5_2))) then (some (.ret false)) else (some (.nxt (IntKind.wrap .i64 (x5_2 + 1))))) else none) else none) else (some (.brk ()))
def laws_sameTexts.sh (k : Nat) (a0 : List (List UInt8)) (a1 : List (List UInt8)) : Option (Bool) :=
  bif (!decide ((a0.length : Int) = (a1.length : Int))) then (some false) else ((loopF (laws_sameTexts.b1 a0 a1) k 0).bind fun z => match z with | .inl t => some t | .inr _ => some true)
theorem laws_sameTexts.eq (a0 a1 : List (List UInt8)) (h : a0.length ≤ 4611686018427387904) : ∃ k, laws_sameTexts.sh k a0 a1 = some (decide (a0 = a1)) := by
  refine ⟨a0.length + 1, same_sh a0 a1 h _ (fun i hi hi2 => ?_) (by simp [laws_sameTexts.b1])⟩
  simp only [laws_sameTexts.b1, lt_nat, hi, decide_true, cond_true, inR_nat hi, inR_nat hi2, getD_gt, wrap_succ hi h]
  rfl
theorem ask_ok {t : List UInt8} (h : pathOK t = true) : askP t = 0 := by
  have := pathOK_len h
  have h1 : ¬ 65536 < t.length := by omega
  simp [askP, h1, h]
theorem parts_ok {t : List UInt8} (h : pathOK t = true) : partsOf t = (cut 47 t, 0) := by simp [partsOf, ask_ok h]
theorem parent_ok {t : List UInt8} (h : pathOK t = true) : parentOf t = (parentP t, 0) := by simp [parentOf, ask_ok h]
theorem parentP_ok {t : List UInt8} (h : pathOK t = true) : parentP t = [] ∨ pathOK (parentP t) = true := by
  by_cases h0 : parentP t = []
  · exact .inl h0
  · exact .inr (pathOK_parent h h0)
theorem last_part {t : List UInt8} (h : pathOK t = true) : ∃ x, gt (cut 47 t) (((cut 47 t).length : Int) - 1) = x ∧ x ∈ cut 47 t ∧ joinP (parentP t) x = t := by
  obtain ⟨l, hl⟩ : ∃ l, cut 47 t = l := ⟨_, rfl⟩
  have hne : l ≠ [] := by rw [← hl]; exact cut_ne _ _
  have hlen : 0 < l.length := List.length_pos_iff.2 hne
  have hg : gt l ((l.length : Int) - 1) = l.getLast hne := by
    rw [show (l.length : Int) - 1 = ((l.length - 1 : Nat) : Int) by omega, getD_gt, List.getD_eq_getElem?_getD, List.getElem?_eq_getElem (by omega), Option.getD_some, List.getLast_eq_getElem]
  refine ⟨l.getLast hne, by rw [hl]; exact hg, by rw [hl]; exact List.getLast_mem hne, ?_⟩
  rw [parentP_cut, hl]
  have hparts : ∀ y ∈ l, y ≠ [] := by rw [← hl]; exact pathOK_parts h
  have hsplit : l.dropLast ++ [l.getLast hne] = l := List.dropLast_concat_getLast hne
  rw [joinP_joinL _ fun y hy => hparts y ((List.dropLast_sublist l).subset hy), hsplit, ← hl, joinL_cut]
theorem join_ok {t x : List UInt8} (h : pathOK t = true) (hx : x ∈ cut 47 t) (hj : joinP (parentP t) x = t) : joinPath (parentP t) x = (t, 0) := by
  have h1 := pathOK_len h
  have h2 := parentP_len t
  have h3 : partOK x = true := by
    simp only [pathOK, Bool.and_eq_true, List.all_eq_true] at h
    exact h.2.2 x hx
  have h4 := partOK_len h3
  have n1 : ¬ 65536 < (parentP t).length := by omega
  have n2 : ¬ 65536 < x.length := by omega
  have hp : (decide (parentP t = []) || pathOK (parentP t)) = true := by
    rcases parentP_ok h with h0 | h0 <;> simp [h0]
  simp [joinPath, n1, n2, hp, h3, hj, h]
theorem isBelow_of {a b : List UInt8} (ha : pathOK a = true) (hb : pathOK b = true) : isBelow a b = belowP a b := by
  have := pathOK_ne hb
  simp [isBelow, ha, hb, this]
theorem isBelow_parent {t : List UInt8} (h : pathOK t = true) : isBelow t (parentP t) = true := by
  rcases parentP_ok h with h0 | h0
  · simp [isBelow, h0, h]
  · rw [isBelow_of h h0]; exact below_parent (pathOK_ne h0)
theorem isBelow_up {t : List UInt8} (h : pathOK t = true) : isBelow (parentP t) t = false := by
  rcases parentP_ok h with h0 | h0
  · rw [h0]; simp [isBelow, show pathOK [] = false by decide]
  · rw [isBelow_of h0 h]; exact below_asymm (below_parent (pathOK_ne h0))
theorem pathLess_of {a b : List UInt8} (ha : pathOK a = true) (hb : pathOK b = true) : pathLess a b = ltP a b := by simp [pathLess, ha, hb, ltP]
def law_FnPaths.sh (a0 : List Int) (a1 : List Int) : Option (Bool) :=
  ((bif (decide (1048576 < (a0.length : Int))) then some true else (some (decide (1048576 < (a1.length : Int)))))).bind fun z2 => bif z2 then (some true) else (((spec_PathDrawn.sh a0)).bind fun z11 => ((spec_PathDrawn.sh a1)).bind fun z15 => ((bif (!decide (((partsOf z11).2) = 0)) then some true else (bif decide (((partsOf z11).1).length ≤ 4611686018427387904) then (some (!(decide (((partsOf z11).1) = ((partsOf z11).1))))) else none))).bind fun z32 => ((bif z32 then some true else (some (!decide (((parentOf z11).2) = 0))))).bind fun z41 => ((bif z41 then some true else (some (!decide (((parentOf z11).1) = ((parentOf z11).1)))))).bind fun z50 => bif (z50 || (!(pathOK z11))) then (some false) else (bif inR (IntKind.wrap .i64 ((((partsOf z11).1).length : Int) - 1)) ((partsOf z11).1).length then (bif decide (((parentOf z11).1).length ≤ 1048576) then (bif decide ((gt ((partsOf z11).1) (IntKind.wrap .i64 ((((partsOf z11).1).length : Int) - 1))).length ≤ 1048576) then ((some ((joinPath ((parentOf z11).1) (gt ((partsOf z11).1) (IntKind.wrap .i64 ((((partsOf z11).1).length : Int) - 1)))).1)).bind fun z72 => (some ((joinPath ((parentOf z11).1) (gt ((partsOf z11).1) (IntKind.wrap .i64 ((((partsOf z11).1).length : Int) - 1)))).2)).bind fun z74 => ((bif (!decide (z74 = 0)) then some true else (some (!decide (z72 = z11))))).bind fun z77 => ((bif z77 then some true else (some (!(isBelow z11 ((parentOf z11).1)))))).bind fun z86 => ((bif (z86 || (isBelow z11 z11)) then some true else (some (isBelow ((parentOf z11).1) z11)))).bind fun z101 => bif z101 then (some false) else (((bif (!decide ((pathLess z11 z15) = (pathLess z11 z15))) then some true else (some (!decide ((isBelow z11 z15) = (isBelow z11 z15)))))).bind fun z115 => ((bif z115 then some true else (((bif (pathLess z11 z15) then (some (pathLess z15 z11)) else some false)).bind fun z127 => some z127))).bind fun z124 => ((bif z124 then some true else (((bif (!(pathLess z11 z15)) then (some (!(pathLess z15 z11))) else some false)).bind fun z141 => some (z141 && (!decide (z11 = z15)))))).bind fun z138 => ((bif z138 then some true else (((bif (!decide (((parentOf z11).1) = ([] : List UInt8))) then (some (!(pathLess ((parentOf z11).1) z11))) else some false)).bind fun z159 => some z159))).bind fun z158 => bif z158 then (some false) else (((laws_mix.sh 3 a1)).bind fun z170 => ((spec_PathDrawn.sh z170)).bind fun z176 => ((bif (isBelow z176 z15) then (some (pathLess z15 z11)) else some false)).bind fun z183 => ((bif (z183 && (pathLess z11 z176)) then (some (!(isBelow z11 z15))) else some false)).bind fun z198 => bif z198 then (some false) else (((spec_AnyPathDrawn.sh a1)).bind fun z207 => ((bif (decide (((parentOf z207).2) = ((parentOf z207).2))) then (some (decide (((parentOf z207).1) = ((parentOf z207).1)))) else some false)).bind fun z216 => ((bif z216 then (some (decide ((pathOK z207) = (pathOK z207)))) else some false)).bind fun z225 => ((bif z225 then (bif decide (z207.length ≤ 4611686018427387904) then (some (decide ((partOK z207) = (partOK z207)))) else none) else some false)).bind fun z234 => some z234)))) else none) else none) else none))
theorem law_FnPaths.eq (a0 a1 : List Int) (h2 : ∀ x ∈ a0, okB x) (h3 : a0.length ≤ 9223372036854775807) (h4 : ∀ x ∈ a1, okB x) (h5 : a1.length ≤ 9223372036854775807) : law_FnPaths.sh a0 a1 = some true := by
  unfold law_FnPaths.sh
  rcases guard_of a0 a1 with hg | ⟨hg, l0, l1⟩
  · rw [hg]; rfl
  · rw [hg]
    obtain ⟨a, e1, hap⟩ := pathDrawn_ok h2 (by omega)
    obtain ⟨b, e2, hbp⟩ := pathDrawn_ok h4 (by omega)
    obtain ⟨m, e3, hm, hml⟩ := mix_ok h4 l1 (i := 3) (by omega) (by omega)
    obtain ⟨x, e4, hxp⟩ := pathDrawn_ok hm hml
    obtain ⟨t, e5, ht⟩ := anyPathDrawn_ok h4 (by omega)
    have ha := hap.ok
    have hb := hbp.ok
    have hx := hxp.ok
    have hal := hap.len
    have hpl := parentP_len a
    have hcl := cut_len 47 a
    have hc0 : 0 < (cut 47 a).length := List.length_pos_iff.2 (cut_ne _ _)
    obtain ⟨y, hy1, hy2, hy3⟩ := last_part ha
    have hyl := cut_mem 47 a y hy2
    have hw : IntKind.wrap .i64 (((cut 47 a).length : Int) - 1) = ((cut 47 a).length : Int) - 1 := wrap_small (by omega) (by omega)
    have d1 : decide ((cut 47 a).length ≤ 4611686018427387904) = true := decide_eq_true (by omega)
    have d2 : decide ((parentP a).length ≤ 1048576) = true := decide_eq_true (by omega)
    have d3 : decide (y.length ≤ 1048576) = true := decide_eq_true (by omega)
    have d4 : decide (t.length ≤ 4611686018427387904) = true := decide_eq_true (by omega)
    have hr : inR (((cut 47 a).length : Int) - 1) (cut 47 a).length = true := inR_mk (by omega) (by omega)
    have hirr : isBelow a a = false := by rw [isBelow_of ha ha]; exact below_irrefl a
    simp only [e1, e2, e3, e4, e5, Option.bind_some, parts_ok ha, parent_ok ha, hw, d1, d2, hy1, d3, d4, hr, join_ok ha hy2 hy3, isBelow_parent ha, isBelow_up ha, hirr, ha, decide_true, Bool.not_true, Bool.or_false, Bool.or_self, cond_true, cond_false, Bool.false_or]
    have q1 : ((bif pathLess a b then some (pathLess b a) else some false).bind fun z127 => some z127) = some false := by
      rw [pathLess_of ha hb, pathLess_of hb ha]
      rcases bool_two (ltP a b) with h | h
      · rw [h, ltP_asymm h]; rfl
      · rw [h]; rfl
    have q2 : ((bif !pathLess a b then some (!pathLess b a) else some false).bind fun z141 => some (z141 && !decide (a = b))) = some false := by
      rw [pathLess_of ha hb, pathLess_of hb ha]
      rcases bool_two (ltP a b) with h | h
      · rw [h]; rfl
      · rw [h]
        rcases bool_two (ltP b a) with h' | h'
        · rw [h']; rfl
        · have := ltP_tri h h'
          subst this
          rw [h']; simp
    have q3 : ((bif !decide (parentP a = []) then some (!pathLess (parentP a) a) else some false).bind fun z159 => some z159) = some false := by
      rcases parentP_ok ha with h | h
      · simp [h]
      · rw [pathLess_of h ha, ltP_parent (pathOK_ne h)]; simp
    rw [q1, q2, q3]
    simp only [Option.bind_some, cond_false]
    obtain ⟨u, q4, q5⟩ : ∃ u, (bif isBelow x b then some (pathLess b a) else some false) = some u ∧ (bif (u && pathLess a x) then some (!isBelow a b) else some false) = some false := by
      rw [isBelow_of hx hb, pathLess_of hb ha, pathLess_of ha hx, isBelow_of ha hb]
      rcases bool_two (belowP x b) with h | h
      · rcases bool_two (ltP b a) with h' | h'
        · rcases bool_two (ltP a x) with h'' | h''
          · exact ⟨true, by rw [h, h']; rfl, by rw [h'', below_mid h' h'' h]; rfl⟩
          · exact ⟨true, by rw [h, h']; rfl, by rw [h'']; rfl⟩
        · exact ⟨false, by rw [h, h']; rfl, rfl⟩
      · exact ⟨false, by rw [h]; rfl, rfl⟩
    rw [q4]
    simp only [Option.bind_some]
    rw [q5]
    simp

end Go.UL
