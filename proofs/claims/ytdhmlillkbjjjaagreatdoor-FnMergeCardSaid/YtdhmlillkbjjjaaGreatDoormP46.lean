import Derived.Test.YtdhmlillkbjjjaaGreatDoormP40
set_option linter.unusedVariables false
set_option linter.unusedSimpArgs false
namespace Go.UL
open Go.RowKit
theorem Jn {l : List Rec} (h : Sheet l) : ∀ x ∈ l, x.path.length ≤ 1048576 := fun x hx => yi (yA (h.ok x hx))
theorem look_pos {t : List Nd} {p : List UInt8} {x : Nd} (h : Yk t p = some x) : 0 ≤ QS t p ∧ gt t (QS t p) = x ∧ inR (QS t p) t.length = true := by
 have h1 := (Q3 t p).1.2 (by rw [h]; simp)
 exact ⟨h1, (Q3 t p).2 x h, findN_inR (by omega)⟩
theorem lookR_pos {l : List Rec} {p : List UInt8} {x : Rec} (h : jx l p = some x) : 0 ≤ qt l p ∧ gt l (qt l p) = x ∧ inR (qt l p) l.length = true := by
 have h1 := (jd l p).1.2 (by rw [h]; simp)
 exact ⟨h1, (jd l p).2 x h, YE (by omega)⟩
theorem G9 {l : List Rec} {p : List UInt8} {x : Rec} (hl : Sheet l) (h16 : l.length ≤ 16) (hp : p.length ≤ 1000) (h : jx l p = some x) : jZ l p = (x, 0) := by
 obtain ⟨h1, h2, _⟩ := lookR_pos h
 have n1 : ¬ 4096 < l.length := by omega
 have n2 : ¬ 65536 < p.length := by omega
 have n3 : ¬ qt l p < 0 := by omega
 simp [jZ, n1, n2, Ji hl h16, n3, h2]
theorem stack_mk {L : List (List Rec)} (h : ∀ l ∈ L, Sheet l ∧ l.length ≤ 16) (h5 : L.length ≤ 5) : qO L = true := by
 simp only [qO, Bool.and_eq_true, decide_eq_true_eq, List.all_eq_true]
 exact ⟨h5, fun l hl => Ji (h l hl).1 (h l hl).2⟩
theorem found {t : List Nd} {p : List UInt8} {m : Nd} (ht : Wood t) (hp : qy p = true) (hm : Yk t p = some m) : findNd t p = (m, 0) := by
 rw [Xf hp, Gw ht hp hm]
 simp [(look_pos hm).2.1]
def vF.b1 (a0 : List Int) : List (List Rec) × Int × DSrc → Option (Step (List (List Rec) × DSrc) (List (List Rec) × Int × DSrc) (List (List Rec) × DSrc)) :=
 fun q => match q with
 | (x3_14, x4_16, y17) => bif (decide (0 < x4_16)) then (((vE.sh 12 a0 y17)).bind fun z41 => bif decide ((x3_14.length + 1) * 24 ≤ 140737488355328) then (some (.nxt (x3_14 ++ [z41.1], IntKind.wrap .i64 (x4_16 - 1), z41.2))) else none) else (some (.brk (x3_14, y17)))
def vF.sh (k : Nat) (a0 : List Int) (a1 : DSrc) : Option (List (List Rec) × DSrc) :=
  ((vj.sh a0 a1 4)).bind fun z7 => (qn (vF.b1 a0) k (([] : List (List Rec)), z7.1, z7.2)).bind fun z => match z with | .inl t => some t | .inr (x3_21, y23) => some (x3_21, y23)
theorem vF.eq (a0 : List Int) (a1 : DSrc) {r : List (List Rec) × DSrc} (H : vF.sh 8 a0 a1 = some r) : ∃ k, vF.sh k a0 a1 = some r := ⟨8, H⟩
def Stk (L : List (List Rec)) : Prop := ∀ l ∈ L, Lay l
theorem stack_loop {code : List Int} (hc : ∀ x ∈ code, okB x) (hl : code.length ≤ 1048577) : ∀ (i : Nat) (k : Nat) (n : Int) (L : List (List Rec)) (s : DSrc), n + 300 * i ≤ 200000000 → i < k → L.length + i ≤ 100 → i ≤ 4 → Stk L → SrcOK n s →
  ∃ L' s', qn (vF.b1 code) k (L, (i : Int), s) = some (.inr (L', s')) ∧ Stk L' ∧ L'.length ≤ L.length + i ∧ SrcOK (n + 300 * i) s' := by
 intro i
 induction i with
 | zero =>
  intro k n L s hn hk h100 hi hs hS
  obtain ⟨k, rfl⟩ : ∃ k', k = k' + 1 := ⟨k - 1, by omega⟩
  exact ⟨L, s, by simp [qn, vF.b1], hs, by omega, hS.mono (by omega)⟩
 | succ i ih =>
  intro k n L s hn hk h100 hi hs hS
  obtain ⟨k, rfl⟩ : ∃ k', k = k' + 1 := ⟨k - 1, by omega⟩
  have hd : decide ((0 : Int) < ((i + 1 : Nat) : Int)) = true := decide_eq_true (by omega)
  have hw : IntKind.wrap .i64 (((i + 1 : Nat) : Int) - 1) = (i : Int) := by rw [show ((i + 1 : Nat) : Int) - 1 = (i : Int) by omega]; exact wrap_small (by omega) (by omega)
  obtain ⟨l, s1, e1, hs1, hL⟩ := layer_ok hc hl (by omega) hS
  have d1 : decide ((L.length + 1) * 24 ≤ 140737488355328) = true := decide_eq_true (by omega)
  obtain ⟨L', s', e, q1, q2, q3⟩ := ih k (n + 300) (L ++ [l]) s1 (by omega) (by omega) (by simp; omega) (by omega) (fun x hx => by
   rcases List.mem_append.1 hx with h | h
   ·exact hs x h
   ·simp at h; subst h; exact hL) (hs1.mono (by omega))
  rw [qn]
  simp only [vF.b1, hd, cond_true, e1, Option.bind_some, d1, hw]
  exact ⟨L', s', e, q1, by simp at q2; omega, q3.mono (by omega)⟩
theorem stackD_ok {code : List Int} (hc : ∀ x ∈ code, okB x) (hl : code.length ≤ 1048577) {n : Int} (hn : n ≤ 100000000) {s : DSrc} (h : SrcOK n s) : Dr (vF.sh 8 code s) (n + 2000) (fun L => Stk L ∧ L.length ≤ 3) := by
 unfold vF.sh
 obtain ⟨i, s2, e, hs2, hi0, hi1⟩ := Vh hc hl (by omega) h (m := 4) (by omega)
 rw [e]; simp only [Option.bind_some]
 obtain ⟨j, rfl⟩ : ∃ j : Nat, i = j := ⟨i.toNat, by omega⟩
 obtain ⟨L', s', e, q1, q2, q3⟩ := stack_loop hc hl j 8 (n + 3) [] s2 (by omega) (by omega) (by simp; omega) (by omega) (fun l hl => by cases hl) hs2
 rw [e]; simp only [Option.bind_some]
 exact ⟨_, _, rfl, q3.mono (by omega), q1, by simp at q2; omega⟩
def vz.sh (a0 : List Int) : Option (List (List Rec)) :=
 ((vM.sh a0)).bind fun z1 => ((vF.sh 8 a0 z1)).bind fun z8 => some z8.1
theorem vz.eq (a0 : List Int) {r : List (List Rec)} (H : vz.sh a0 = some r) : vz.sh a0 = some r := H
theorem Gz {code : List Int} (hc : ∀ x ∈ code, okB x) (hl : code.length ≤ 1048577) : ∃ L, vz.sh code = some L ∧ Stk L ∧ L.length ≤ 3 := by
 obtain ⟨s, e, hs⟩ := source_ok code
 obtain ⟨L, s', e2, _, h⟩ := stackD_ok hc hl (by omega) hs
 exact ⟨L, by simp [vz.sh, e, e2], h⟩
theorem Stk.ok {L : List (List Rec)} (h : Stk L) (h5 : L.length ≤ 5) : qO L = true := stack_mk (fun l hl => ⟨(h l hl).sheet, (h l hl).len⟩) h5
theorem Vv {L : List (List Rec)} (h : qO L = true) (h5 : L.length ≤ 5) : stackCode L = 0 := by
 have n1 : ¬ 4096 < L.length := by omega
 simp [stackCode, n1, h]
theorem Gf {L : List (List Rec)} (h : Stk L) (h5 : L.length ≤ 5) : decide (L.length ≤ 1048576) = true ∧ decide (∀ l ∈ L, l.length ≤ 1048576) = true ∧ decide (∀ l ∈ L, ∀ x ∈ l, x.path.length ≤ 1048576) = true :=
 ⟨decide_eq_true (by omega), decide_eq_true fun l hl => by have := (h l hl).len; omega, decide_eq_true fun l hl => Jn (h l hl).sheet⟩
def law_FnMerge.b1 (z11 : List (List Rec)) : Int × Int → Option (Step (Bool) (Int × Int) (Int)) :=
 fun q => match q with
 | (x14_73, x15_74) => bif (decide (x15_74 < (((qA z11).1).length : Int))) then (bif inR x15_74 ((qA z11).1).length then (bif decide (z11.length ≤ 1048576) then (bif decide (∀ l ∈ z11, l.length ≤ 1048576) then (bif decide (∀ l ∈ z11, ∀ x ∈ l, x.path.length ≤ 1048576) then ((some ((vG z11 (gt ((qA z11).1) x15_74)).1)).bind fun z102 => (some ((vG z11 (gt ((qA z11).1) x15_74)).2.1)).bind fun z104 => (some ((vG z11 (gt ((qA z11).1) x15_74)).2.2)).bind fun z106 => bif inR x15_74 ((qA z11).1).length then (bif decide (z11.length ≤ 1048576) then (bif decide (∀ l ∈ z11, l.length ≤ 1048576) then (bif decide (∀ l ∈ z11, ∀ x ∈ l, x.path.length ≤ 1048576) then ((some ((vG z11 (gt ((qA z11).1) x15_74)).1)).bind fun z125 => (some ((vG z11 (gt ((qA z11).1) x15_74)).2.1)).bind fun z127 => (some ((vG z11 (gt ((qA z11).1) x15_74)).2.2)).bind fun z129 => bif inR x15_74 ((qA z11).1).length then (bif decide (z11.length ≤ 1048576) then (bif decide (∀ l ∈ z11, l.length ≤ 1048576) then (bif decide (∀ l ∈ z11, ∀ x ∈ l, x.path.length ≤ 1048576) then ((some ((cutDepth z11 (gt ((qA z11).1) x15_74)).1)).bind fun z148 => (some ((cutDepth z11 (gt ((qA z11).1) x15_74)).2)).bind fun z150 => bif inR x15_74 ((qA z11).1).length then (bif decide (z11.length ≤ 1048576) then (bif decide (∀ l ∈ z11, l.length ≤ 1048576) then (bif decide (∀ l ∈ z11, ∀ x ∈ l, x.path.length ≤ 1048576) then ((some ((cutDepth z11 (gt ((qA z11).1) x15_74)).1)).bind fun z160 => (some ((cutDepth z11 (gt ((qA z11).1) x15_74)).2)).bind fun z162 => bif (!((!(((((!decide (z106 = z129)) || (!decide (z102 = z125))) || (!decide (z104 = z127))) || (!decide (z150 = 0))) || (!decide (z148 = z160)))) && (decide (0 < x15_74))) || (inR (IntKind.wrap .i64 (x15_74 - 1)) ((qA z11).1).length)) then (bif (!((!(((((!decide (z106 = z129)) || (!decide (z102 = z125))) || (!decide (z104 = z127))) || (!decide (z150 = 0))) || (!decide (z148 = z160)))) && (decide (0 < x15_74))) || (inR x15_74 ((qA z11).1).length)) then (bif ((((((!decide (z106 = z129)) || (!decide (z102 = z125))) || (!decide (z104 = z127))) || (!decide (z150 = 0))) || (!decide (z148 = z160))) || ((decide (0 < x15_74)) && (!(vQ (gt ((qA z11).1) (IntKind.wrap .i64 (x15_74 - 1))) (gt ((qA z11).1) x15_74))))) then (some (.ret false)) else (bif (!decide (z129 = 0)) then (some (.nxt (x14_73, IntKind.wrap .i64 (x15_74 + 1)))) else (bif (!(!(decide ((((qI z11).1).length : Int) ≤ x14_73))) || (inR x14_73 ((qI z11).1).length)) then (bif (!(!(decide ((((qI z11).1).length : Int) ≤ x14_73))) || (inR x14_73 ((qI z11).1).length)) then (bif (!(!((decide ((((qI z11).1).length : Int) ≤ x14_73)) || (!decide ((gt ((qI z11).1) x14_73) = (gt ((qI z11).1) x14_73))))) || (inR x14_73 ((qI z11).1).length)) then (bif (!(!((decide ((((qI z11).1).length : Int) ≤ x14_73)) || (!decide ((gt ((qI z11).1) x14_73) = (gt ((qI z11).1) x14_73))))) || (inR x15_74 ((qA z11).1).length)) then (bif (!(!(((decide ((((qI z11).1).length : Int) ≤ x14_73)) || (!decide ((gt ((qI z11).1) x14_73) = (gt ((qI z11).1) x14_73)))) || (!decide (((gt ((qI z11).1) x14_73).path) = (gt ((qA z11).1) x15_74))))) || (inR x14_73 ((qI z11).1).length)) then (bif (((((decide ((((qI z11).1).length : Int) ≤ x14_73)) || (!decide ((gt ((qI z11).1) x14_73) = (gt ((qI z11).1) x14_73)))) || (!decide (((gt ((qI z11).1) x14_73).path) = (gt ((qA z11).1) x15_74)))) || (!decide (((gt ((qI z11).1) x14_73).layer) = z127))) || (decide (z127 < z160))) then (some (.ret false)) else (bif inR (IntKind.wrap .i64 (Int.sub z127 1)) z11.length then (bif inR x15_74 ((qA z11).1).length then (bif decide ((gt z11 (IntKind.wrap .i64 (Int.sub z127 1))).length ≤ 1048576) then (bif decide (∀ x ∈ (gt z11 (IntKind.wrap .i64 (Int.sub z127 1))), x.path.length ≤ 1048576) then (((bif (!decide (((jZ (gt z11 (IntKind.wrap .i64 (Int.sub z127 1))) (gt ((qA z11).1) x15_74)).2) = 0)) then some true else (some (!decide ((⟨((jZ (gt z11 (IntKind.wrap .i64 (Int.sub z127 1))) (gt ((qA z11).1) x15_74)).1).kind, ((jZ (gt z11 (IntKind.wrap .i64 (Int.sub z127 1))) (gt ((qA z11).1) x15_74)).1).path, ((jZ (gt z11 (IntKind.wrap .i64 (Int.sub z127 1))) (gt ((qA z11).1) x15_74)).1).body, ((jZ (gt z11 (IntKind.wrap .i64 (Int.sub z127 1))) (gt ((qA z11).1) x15_74)).1).mode, z125.opq⟩ : Rec) = z125))))).bind fun z311 => bif z311 then (some (.ret false)) else (some (.nxt (IntKind.wrap .i64 (x14_73 + 1), IntKind.wrap .i64 (x15_74 + 1))))) else none) else none) else none) else none)) else none) else none) else none) else none) else none))) else none) else none) else none) else none) else none) else none) else none) else none) else none) else none) else none) else none) else none) else none) else none) else none) else none) else none) else (some (.brk x14_73))
def law_FnMerge.sh (k : Nat) (a0 : List Int) (a1 : List Int) : Option (Bool) :=
  ((bif (decide (1048576 < (a0.length : Int))) then some true else (some (decide (1048576 < (a1.length : Int)))))).bind fun z2 => bif z2 then (some true) else (((vz.sh a0)).bind fun z11 => bif decide (z11.length ≤ 1048576) then (bif decide (∀ l ∈ z11, l.length ≤ 1048576) then (bif decide (∀ l ∈ z11, ∀ x ∈ l, x.path.length ≤ 1048576) then (bif decide (z11.length ≤ 1048576) then (bif decide (∀ l ∈ z11, l.length ≤ 1048576) then (bif decide (∀ l ∈ z11, ∀ x ∈ l, x.path.length ≤ 1048576) then (bif decide (z11.length ≤ 1048576) then (bif decide (∀ l ∈ z11, l.length ≤ 1048576) then (bif decide (∀ l ∈ z11, ∀ x ∈ l, x.path.length ≤ 1048576) then (bif decide (z11.length ≤ 1048576) then (bif decide (∀ l ∈ z11, l.length ≤ 1048576) then (bif decide (∀ l ∈ z11, ∀ x ∈ l, x.path.length ≤ 1048576) then (((bif (!decide (((qA z11).2) = 0)) then some true else (bif decide (((qA z11).1).length ≤ 4611686018427387904) then (some (!(decide (((qA z11).1) = ((qA z11).1))))) else none))).bind fun z46 => ((bif z46 then some true else (some (!decide (((qI z11).2) = 0))))).bind fun z55 => ((bif z55 then some true else (some (!decide ((((qI z11).1).length : Int) = (((qI z11).1).length : Int)))))).bind fun z64 => bif z64 then (some false) else ((qn (law_FnMerge.b1 z11) k (0, 0)).bind fun z => match z with | .inl t => some t | .inr x14_78 => (some (decide (x14_78 = (((qI z11).1).length : Int)))).bind fun z322 => some z322)) else none) else none) else none) else none) else none) else none) else none) else none) else none) else none) else none) else none)
theorem fm_at {α β : Type} [Inhabited α] [Inhabited β] {f : α → Option β} {l : List α} {i : Nat} (hi : i < l.length) {y : β} (hy : f (gt l (i : Int)) = some y) : ((l.take i).filterMap f).length < (l.filterMap f).length ∧ gt (l.filterMap f) ((((l.take i).filterMap f).length : Nat) : Int) = y := by
 have e : l.filterMap f = (l.take i).filterMap f ++ y :: (l.drop (i + 1)).filterMap f := by
  conv => lhs; rw [← List.take_append_drop i l, List.drop_eq_getElem_cons hi]
  rw [vJ, vY hi] at hy
  rw [List.filterMap_append, List.filterMap_cons, hy]
 rw [e]
 refine ⟨by simp, ?_⟩
 rw [vJ, vY (by simp)]
 simp
theorem Gb {L : List (List Rec)} (h : qO L = true) (h5 : L.length ≤ 5) : qA L = (qK L, 0) := by simp [qA, Vv h h5]
theorem J7 {L : List (List Rec)} (h : qO L = true) (h5 : L.length ≤ 5) : qI L = (QF L, 0) := by simp [qI, Vv h h5]
theorem Jq {L : List (List Rec)} {p : List UInt8} (h : qO L = true) (h5 : L.length ≤ 5) (hp : qy p = true) : pathCode L p = 0 := by
 have := Q5 hp
 have n1 : ¬ 65536 < p.length := by omega
 simp [pathCode, Vv h h5, n1, hp]
theorem Jf {L : List (List Rec)} {p : List UInt8} (h : qO L = true) (h5 : L.length ≤ 5) (hp : qy p = true) : cutDepth L p = (jT L p, 0) := by simp [cutDepth, Jq h h5 hp]
theorem Jh {L : List (List Rec)} {p : List UInt8} (h : qO L = true) (h5 : L.length ≤ 5) (hp : qy p = true) : vG L p = if 0 < (winner L p).2 then ((winner L p).1, (winner L p).2, 0) else (jD, 0, 5) := by simp [vG, Jq h h5 hp]
theorem rise_prev {l : List (List UInt8)} (h : jk l) {i : Nat} (h0 : 0 < i) (hi : i < l.length) : ltP (gt l ((i : Int) - 1)) (gt l (i : Int)) = true := by
 have e : (i : Int) - 1 = ((i - 1 : Nat) : Int) := by omega
 rw [e, vJ, vJ, vY hi, vY (by omega)]
 exact List.pairwise_iff_getElem.1 h (i - 1) i (by omega) hi (by omega)
theorem law_FnMerge.loop {L : List (List Rec)} (hL : Stk L) (h3 : L.length ≤ 3) : ∀ (m i k : Nat), i + m = (qK L).length → m < k → qn (law_FnMerge.b1 L) k (((((qK L).take i).filterMap (Qy L)).length : Int), (i : Int)) = some (.inr ((QF L).length : Int)) := by
 have hs := hL.ok (by omega)
 have hr : jk (qK L) := VW _
 have hn := Q1 hs
 obtain ⟨g1, g2, g3⟩ := Gf hL (by omega)
 have ep := Gb hs (by omega : L.length ≤ 5)
 have et := J7 hs (by omega : L.length ≤ 5)
 intro m
 induction m with
 | zero =>
  intro i k hi hk
  obtain ⟨k, rfl⟩ : ∃ j, k = j + 1 := ⟨k - 1, by omega⟩
  obtain rfl : i = (qK L).length := by omega
  rw [qn]
  simp only [law_FnMerge.b1, ep, yY, Nat.lt_irrefl, decide_false, cond_false, List.take_length]
  rfl
 | succ m ih =>
  intro i k hi hk
  obtain ⟨k, rfl⟩ : ∃ j, k = j + 1 := ⟨k - 1, by omega⟩
  have hlt : i < (qK L).length := by omega
  obtain ⟨p, hp⟩ : ∃ p, gt (qK L) (i : Int) = p := ⟨_, rfl⟩
  have hpm : p ∈ qK L := by rw [← hp]; exact Yo (qT hlt)
  have hpo := VP hs p hpm
  have hpl := Q5 hpo
  have hI := ih (i + 1) k (by omega) (by omega)
  have hw1 : IntKind.wrap .i64 ((i : Int) + 1) = ((i + 1 : Nat) : Int) := by rw [vR hlt (by omega)]; omega
  have hpr : (decide ((0 : Int) < (i : Int)) && !vQ (gt (qK L) (IntKind.wrap .i64 ((i : Int) - 1))) p) = false ∧ ((!decide ((0 : Int) < (i : Int))) || inR (IntKind.wrap .i64 ((i : Int) - 1)) (qK L).length) = true := by
   by_cases h0 : 0 < i
   ·have e : IntKind.wrap .i64 ((i : Int) - 1) = ((i - 1 : Nat) : Int) := by rw [wrap_small (by omega) (by omega)]; omega
    have hq : gt (qK L) ((i - 1 : Nat) : Int) ∈ qK L := Yo (qT (by omega))
    have h1 := rise_prev hr h0 hlt
    have e2 : (i : Int) - 1 = ((i - 1 : Nat) : Int) := by omega
    rw [e2, hp] at h1
    rw [e, X1 (VP hs _ hq) hpo, h1, qT (by omega : i - 1 < (qK L).length)]
    simp
   ·have : i = 0 := by omega
    subst this; simp
  have hst := Xl (f := Qy L) hlt
  rw [hp] at hst
  rw [qn]
  rcases G3 L p with ⟨h1, _⟩ | ⟨j, r, x, hj1, hj2, hj3, hj4, hj5, _, k1, k2, k3, k4, _, _⟩
  ·have hw : ¬ (0 : Int) < (winner L p).2 := by
    unfold VG at h1
    by_cases hc : (0 : Int) < (winner L p).2
    ·rw [if_pos hc] at h1; cases h1
    ·exact hc
   have hwa : vG L p = (jD, 0, 5) := by rw [Jh hs (by omega) hpo, if_neg hw]
   have hpk : Qy L p = none := by unfold Qy; rw [if_neg hw]
   rw [hpk] at hst
   simp only [Option.toList_none, List.append_nil] at hst
   rw [hst] at hI
   have p1 := hpr.1
   have p2 := hpr.2
   simp only [law_FnMerge.b1, ep, et, yY, hlt, qT hlt, decide_true, cond_true, g1, g2, g3, hp, hwa, Jf hs (by omega : L.length ≤ 5) hpo, Option.bind_some, Bool.not_true, Bool.false_or, Bool.or_false, Bool.not_false, Bool.true_and, Bool.or_true, p1, p2, cond_false, hw1, show decide ((5 : Int) = 0) = false from rfl]
   exact hI
  ·have hx : winner L p = (x, (j : Int) + 1) := by
    have hc : (0 : Int) < (winner L p).2 := by rw [hj5]; omega
    unfold VG at hj4
    rw [if_pos hc] at hj4
    exact Prod.ext (Option.some.inj hj4) hj5
   have hwa : vG L p = (x, (j : Int) + 1, 0) := by rw [Jh hs (by omega) hpo, hx]; rw [if_pos (by show (0 : Int) < (j : Int) + 1; omega)]
   have hpk : Qy L p = some ⟨p, (j : Int) + 1⟩ := by unfold Qy; rw [hx]; rw [if_pos (by show (0 : Int) < (j : Int) + 1; omega)]
   have hat := fm_at (f := Qy L) hlt (y := ⟨p, (j : Int) + 1⟩) (by rw [hp]; exact hpk)
   rw [hpk] at hst
   rw [hst] at hI
   obtain ⟨nn, hnn⟩ : ∃ nn, (((qK L).take i).filterMap (Qy L)).length = nn := ⟨_, rfl⟩
   rw [hnn] at hat ⊢
   have hat1 : nn < (QF L).length := hat.1
   have hat2 : gt (QF L) (nn : Int) = ⟨p, (j : Int) + 1⟩ := hat.2
   have hkl := picks_len hs
   have hI2 : qn (law_FnMerge.b1 L) k (((nn + 1 : Nat) : Int), ((i + 1 : Nat) : Int)) = some (.inr ((QF L).length : Int)) := by
    rw [List.length_append, hnn] at hI; exact hI
   have hw2 : IntKind.wrap .i64 ((nn : Int) + 1) = ((nn + 1 : Nat) : Int) := by rw [vR hat1 (by omega)]; omega
   have d1 : decide ((((QF L).length : Nat) : Int) ≤ (nn : Int)) = false := decide_eq_false (by omega)
   have hcd := G5 L p
   rw [lowN_def] at hj1
   have d2 : decide ((j : Int) + 1 < jT L p) = false := decide_eq_false (by omega)
   have hwj : IntKind.wrap .i64 (Int.sub ((j : Int) + 1) 1) = (j : Int) := by
    show IntKind.wrap .i64 ((j : Int) + 1 - 1) = (j : Int)
    rw [wrap_small (by omega) (by omega)]; omega
   have hlm : L.getD j default ∈ L := getL_mem hj2
   have hlay := hL _ hlm
   have hgl : gt L (j : Int) = L.getD j default := rfl
   have hll := hlay.len
   have d3 : decide ((L.getD j default).length ≤ 1048576) = true := decide_eq_true (by omega)
   have d4 : decide (∀ x ∈ L.getD j default, x.path.length ≤ 1048576) = true := decide_eq_true (Jn hlay.sheet)
   have hfr := G9 hlay.sheet hlay.len (by omega : p.length ≤ 1000) hj3
   have hrx : (⟨r.kind, r.path, r.body, r.mode, x.opq⟩ : Rec) = x := by rw [← k1, ← k2, ← k3, ← k4]
   have p1 := hpr.1
   have p2 := hpr.2
   simp only [law_FnMerge.b1, ep, et, yY, hlt, qT hlt, decide_true, cond_true, g1, g2, g3, hp, hwa, Jf hs (by omega : L.length ≤ 5) hpo, Option.bind_some, Bool.not_true, Bool.false_or, Bool.or_false, Bool.not_false, Bool.true_and, Bool.or_true, p1, p2, cond_false, hw1, hw2, d1, hat2, qT hat1, d2, hwj, qT hj2, hgl, d3, d4, hfr, hrx]
   exact hI2
theorem law_FnMerge.eq (a0 a1 : List Int) (h2 : ∀ x ∈ a0, okB x) (h3 : a0.length ≤ 9223372036854775807) (h4 : ∀ x ∈ a1, okB x) (h5 : a1.length ≤ 9223372036854775807) : ∃ k, law_FnMerge.sh k a0 a1 = some true := by
 refine ⟨100, ?_⟩
 unfold law_FnMerge.sh
 rcases guard_of a0 a1 with hg | ⟨hg, l0, l1⟩
 ·rw [hg]; rfl
 ·rw [hg]
  obtain ⟨L, e1, hL, hn⟩ := Gz h2 (by omega)
  have hs := hL.ok (by omega)
  obtain ⟨g1, g2, g3⟩ := Gf hL (by omega)
  have hpl := Q1 hs
  have d1 : decide ((qK L).length ≤ 4611686018427387904) = true := decide_eq_true (by omega)
  have hlo := law_FnMerge.loop hL hn (qK L).length 0 100 (by omega) (by omega)
  simp only [List.take_zero, List.filterMap_nil, List.length_nil] at hlo
  have hlo2 : qn (law_FnMerge.b1 L) 100 (0, 0) = some (.inr ((QF L).length : Int)) := hlo
  simp only [e1, g1, g2, g3, Gb hs (by omega : L.length ≤ 5), J7 hs (by omega : L.length ≤ 5), d1, hlo2, decide_true, cond_true, cond_false, Bool.not_true, Option.bind_some]
end Go.UL
