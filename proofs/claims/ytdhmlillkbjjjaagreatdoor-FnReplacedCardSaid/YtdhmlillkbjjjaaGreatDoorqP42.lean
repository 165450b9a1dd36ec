import Derived.Test.YtdhmlillkbjjjaaGreatDoorqP36
set_option linter.unusedVariables false
set_option linter.unusedSimpArgs false
namespace Go.UL
open Go.RowKit
structure SrcOK (n : Int) (s : DSrc) : Prop where
 p0 : 0 ≤ s.pos
 p1 : s.pos ≤ n
 s0 : 0 ≤ s.seed
 s1 : s.seed < 2147483648
theorem SrcOK.mono {n m : Int} {s : DSrc} (h : SrcOK n s) (k : n ≤ m) : SrcOK m s := ⟨h.p0, Int.le_trans h.p1 k, h.s0, h.s1⟩
def Dr {α : Type} (X : Option (α × DSrc)) (n : Int) (Q : α → Prop) : Prop := ∃ r s, X = some (r, s) ∧ SrcOK n s ∧ Q r
theorem Dr.mono {α : Type} {X : Option (α × DSrc)} {n m : Int} {Q R : α → Prop} (h : Dr X n Q) (k : n ≤ m) (hq : ∀ r, Q r → R r) : Dr X m R := by
 obtain ⟨r, s, h1, h2, h3⟩ := h
 exact ⟨r, s, h1, h2.mono k, hq r h3⟩
theorem Jz {α : Type} [Inhabited α] {l : List α} {i : Int} (h : inR i l.length = true) : gt l i ∈ l := by
 obtain ⟨hj, hje⟩ := YN h
 rw [← hje]; exact List.getElem_mem hj
theorem j9 {a n : Int} (ha : 0 ≤ a) (hn : 0 < n) : 0 ≤ a.tmod n ∧ a.tmod n < n := ⟨Int.tmod_nonneg _ ha, Int.tmod_lt_of_pos _ hn⟩
def yo.sh (a0 : List Int) : Option (DSrc) :=
 some (⟨0, (a0.length : Int).tmod 1000⟩ : DSrc)
theorem yo.eq (a0 : List Int) {r : DSrc} (H : yo.sh a0 = some r) : yo.sh a0 = some r := H
def qY.sh (a0 : List Int) (a1 : DSrc) : Option (Int × DSrc) :=
 bif (decide ((IntKind.wrap .i64 (a1.pos + 1)) ≤ (a0.length : Int))) then (bif inR (IntKind.wrap .i64 ((IntKind.wrap .i64 (a1.pos + 1)) - 1)) a0.length then (bif inR (IntKind.wrap .i64 ((IntKind.wrap .i64 (a1.pos + 1)) - 1)) a0.length then (some (IntKind.wrap .i64 (gt a0 (IntKind.wrap .i64 ((IntKind.wrap .i64 (a1.pos + 1)) - 1))), (⟨IntKind.wrap .i64 (a1.pos + 1), (IntKind.wrap .i64 ((IntKind.wrap .i64 ((IntKind.wrap .i64 (a1.seed * 31)) + (IntKind.wrap .i64 (gt a0 (IntKind.wrap .i64 ((IntKind.wrap .i64 (a1.pos + 1)) - 1)))))) + 7)).tmod 2147483648⟩ : DSrc))) else none) else none) else (bif (decide (3000 < (IntKind.wrap .i64 (a1.pos + 1)))) then (some (0, (⟨IntKind.wrap .i64 (a1.pos + 1), a1.seed⟩ : DSrc))) else (some ((IntKind.wrap .i64 (((IntKind.wrap .i64 ((IntKind.wrap .i64 (a1.seed * 1103515245)) + 12345)).tmod 2147483648).tdiv 65536)).tmod 256, (⟨IntKind.wrap .i64 (a1.pos + 1), (IntKind.wrap .i64 ((IntKind.wrap .i64 (a1.seed * 1103515245)) + 12345)).tmod 2147483648⟩ : DSrc))))
theorem qY.eq (a0 : List Int) (a1 : DSrc) {r : Int × DSrc} (H : qY.sh a0 a1 = some r) : qY.sh a0 a1 = some r := H
theorem G8 {code : List Int} (hc : ∀ x ∈ code, okB x) (hl : code.length ≤ 1048577) {n : Int} (hn : n ≤ 1000000000) {s : DSrc} (h : SrcOK n s) : Dr (qY.sh code s) (n + 1) (fun r => 0 ≤ r ∧ r ≤ 255) := by
 obtain ⟨h1, h2, h3, h4⟩ := h
 have e1 : IntKind.wrap .i64 (s.pos + 1) = s.pos + 1 := wrap_small (by omega) (by omega)
 have e2 : IntKind.wrap .i64 (s.pos + 1 - 1) = s.pos := by rw [show s.pos + 1 - 1 = s.pos by omega]; exact wrap_small (by omega) (by omega)
 unfold qY.sh
 simp only [e1, e2]
 by_cases hb : s.pos + 1 ≤ (code.length : Int)
 ·have hr : inR s.pos code.length = true := Vi h1 (by omega)
  have hg := hc _ (Jz hr)
  obtain ⟨g0, g1⟩ := hg
  have e3 : IntKind.wrap .i64 (gt code s.pos) = gt code s.pos := wrap_small (by omega) (by omega)
  have e4 : IntKind.wrap .i64 (s.seed * 31) = s.seed * 31 := wrap_small (by omega) (by omega)
  have e5 : IntKind.wrap .i64 (s.seed * 31 + gt code s.pos) = s.seed * 31 + gt code s.pos := wrap_small (by omega) (by omega)
  have e6 : IntKind.wrap .i64 (s.seed * 31 + gt code s.pos + 7) = s.seed * 31 + gt code s.pos + 7 := wrap_small (by omega) (by omega)
  simp only [e3, e4, e5, e6, hr, decide_eq_true hb, cond_true]
  have hm := j9 (a := s.seed * 31 + gt code s.pos + 7) (n := 2147483648) (by omega) (by decide)
  exact ⟨_, _, rfl, ⟨by simp; omega, by simp; omega, hm.1, hm.2⟩, g0, g1⟩
 ·simp only [decide_eq_false hb, cond_false]
  by_cases hb2 : 3000 < s.pos + 1
  ·simp only [decide_eq_true hb2, cond_true]
   exact ⟨_, _, rfl, ⟨by simp; omega, by simp; omega, h3, h4⟩, by simp, by simp⟩
  ·simp only [decide_eq_false hb2, cond_false]
   have e4 : IntKind.wrap .i64 (s.seed * 1103515245) = s.seed * 1103515245 := wrap_small (by omega) (by omega)
   have e5 : IntKind.wrap .i64 (s.seed * 1103515245 + 12345) = s.seed * 1103515245 + 12345 := wrap_small (by omega) (by omega)
   simp only [e4, e5]
   have hm := j9 (a := s.seed * 1103515245 + 12345) (n := 2147483648) (by omega) (by decide)
   have hd : 0 ≤ ((s.seed * 1103515245 + 12345).tmod 2147483648).tdiv 65536 := Int.tdiv_nonneg hm.1 (by decide)
   have hd2 : ((s.seed * 1103515245 + 12345).tmod 2147483648).tdiv 65536 ≤ (s.seed * 1103515245 + 12345).tmod 2147483648 := Int.tdiv_le_self _ hm.1
   rw [wrap_small (n := ((s.seed * 1103515245 + 12345).tmod 2147483648).tdiv 65536) (by omega) (by omega)]
   have hm2 := j9 (a := ((s.seed * 1103515245 + 12345).tmod 2147483648).tdiv 65536) (n := 256) hd (by decide)
   exact ⟨_, _, rfl, ⟨by simp; omega, by simp; omega, hm.1, hm.2⟩, hm2.1, by have := hm2.2; show ((s.seed * 1103515245 + 12345).tmod 2147483648 |>.tdiv 65536).tmod 256 ≤ 255; omega⟩
def vw.sh (a0 : List Int) (a1 : DSrc) (a2 : Int) : Option (Int × DSrc) :=
 bif (decide (a2 ≤ 1)) then (some (0, a1)) else (bif (decide (a2 ≤ 256)) then (((qY.sh a0 a1)).bind fun z3 => bif decide (¬ (a2 : Int) = 0) then (some (z3.1.tmod a2, z3.2)) else none) else (((qY.sh a0 a1)).bind fun z11 => ((qY.sh a0 z11.2)).bind fun z18 => ((qY.sh a0 z18.2)).bind fun z25 => bif decide (¬ (a2 : Int) = 0) then (some ((IntKind.wrap .i64 ((IntKind.wrap .i64 ((IntKind.wrap .i64 (z11.1 * 65536)) + (IntKind.wrap .i64 (z18.1 * 256)))) + z25.1)).tmod a2, z25.2)) else none))
theorem vw.eq (a0 : List Int) (a1 : DSrc) (a2 : Int) {r : Int × DSrc} (H : vw.sh a0 a1 a2 = some r) : vw.sh a0 a1 a2 = some r := H
theorem Yf {code : List Int} (hc : ∀ x ∈ code, okB x) (hl : code.length ≤ 1048577) {n : Int} (hn : n ≤ 900000000) {s : DSrc} (h : SrcOK n s) {m : Int} (hm : 0 < m) : Dr (vw.sh code s m) (n + 3) (fun r => 0 ≤ r ∧ r < m) := by
 unfold vw.sh
 by_cases h1 : m ≤ 1
 ·simp only [decide_eq_true h1, cond_true]
  exact ⟨_, _, rfl, h.mono (by omega), Int.le_refl _, hm⟩
 ·simp only [decide_eq_false h1, cond_false]
  have hne : decide (¬ (m : Int) = 0) = true := decide_eq_true (by omega)
  by_cases h2 : m ≤ 256
  ·simp only [decide_eq_true h2, cond_true]
   obtain ⟨r, s', e, hs, hr⟩ := G8 hc hl (by omega) h
   rw [e]
   simp only [Option.bind_some, hne, cond_true]
   have := j9 (a := r) (n := m) hr.1 hm
   exact ⟨_, _, rfl, hs.mono (by omega), this⟩
  ·simp only [decide_eq_false h2, cond_false]
   obtain ⟨r, s1, e, hs, hr0, hr1⟩ := G8 hc hl (by omega) h
   rw [e]; simp only [Option.bind_some]
   obtain ⟨r2, s2, e, hs, hp0, hp1⟩ := G8 hc hl (by omega) hs
   rw [e]; simp only [Option.bind_some]
   obtain ⟨r3, s3, e, hs, hq0, hq1⟩ := G8 hc hl (by omega) hs
   rw [e]; simp only [Option.bind_some, hne, cond_true]
   rw [wrap_small (n := r * 65536) (by omega) (by omega), wrap_small (n := r2 * 256) (by omega) (by omega), wrap_small (n := r * 65536 + r2 * 256) (by omega) (by omega), wrap_small (n := r * 65536 + r2 * 256 + r3) (by omega) (by omega)]
   have := j9 (a := r * 65536 + r2 * 256 + r3) (n := m) (by omega) hm
   exact ⟨_, _, rfl, hs.mono (by omega), this⟩
def yN.sh (a0 : List Int) (a1 : DSrc) (a2 : Int) : Option (Bool × DSrc) :=
 ((vw.sh a0 a1 a2)).bind fun z1 => some ((decide (z1.1 = (IntKind.wrap .i64 (a2 - 1)))), z1.2)
theorem yN.eq (a0 : List Int) (a1 : DSrc) (a2 : Int) {r : Bool × DSrc} (H : yN.sh a0 a1 a2 = some r) : yN.sh a0 a1 a2 = some r := H
theorem chance_ok {code : List Int} (hc : ∀ x ∈ code, okB x) (hl : code.length ≤ 1048577) {n : Int} (hn : n ≤ 900000000) {s : DSrc} (h : SrcOK n s) {m : Int} (hm : 0 < m) : Dr (yN.sh code s m) (n + 3) (fun _ => True) := by
 unfold yN.sh
 obtain ⟨r, s', e, hs, _⟩ := Yf hc hl hn h hm
 rw [e]; simp only [Option.bind_some]
 exact ⟨_, _, rfl, hs, trivial⟩
def jE.sh (a0 : List Int) (a1 : DSrc) (a2 : Int) : Option (Int × DSrc) :=
 some ((if (a2 < (IntKind.wrap .i64 (1 + (IntKind.wrap .i64 ((a0.length : Int).tdiv 12)))) : Prop) then a2 else (IntKind.wrap .i64 (1 + (IntKind.wrap .i64 ((a0.length : Int).tdiv 12))))), a1)
theorem jE.eq (a0 : List Int) (a1 : DSrc) (a2 : Int) {r : Int × DSrc} (H : jE.sh a0 a1 a2 = some r) : jE.sh a0 a1 a2 = some r := H
theorem room_ok {code : List Int} (hl : code.length ≤ 1048577) {n : Int} {s : DSrc} (h : SrcOK n s) {m : Int} (hm : 0 < m) : Dr (jE.sh code s m) n (fun r => 0 < r ∧ r ≤ m) := by
 unfold jE.sh
 have hd : 0 ≤ (code.length : Int).tdiv 12 := Int.tdiv_nonneg (by omega) (by decide)
 have hd2 : (code.length : Int).tdiv 12 ≤ (code.length : Int) := Int.tdiv_le_self _ (by omega)
 rw [wrap_small (n := (code.length : Int).tdiv 12) (by omega) (by omega), wrap_small (n := 1 + (code.length : Int).tdiv 12) (by omega) (by omega)]
 refine ⟨_, _, rfl, h, ?_, ?_⟩
 ·show 0 < (if m < 1 + (code.length : Int).tdiv 12 then m else 1 + (code.length : Int).tdiv 12); split <;> omega
 ·show (if m < 1 + (code.length : Int).tdiv 12 then m else 1 + (code.length : Int).tdiv 12) ≤ m; split <;> omega
def y3.sh (a0 : List Int) (a1 : DSrc) (a2 : List (List UInt8)) : Option (List UInt8 × DSrc) :=
 bif (decide ((a2.length : Int) = 0)) then (some (([] : List UInt8), a1)) else (((vw.sh a0 a1 (a2.length : Int))).bind fun z2 => bif inR z2.1 a2.length then (some (gt a2 z2.1, z2.2)) else none)
theorem y3.eq (a0 : List Int) (a1 : DSrc) (a2 : List (List UInt8)) {r : List UInt8 × DSrc} (H : y3.sh a0 a1 a2 = some r) : y3.sh a0 a1 a2 = some r := H
theorem pick_ok {code : List Int} (hc : ∀ x ∈ code, okB x) (hl : code.length ≤ 1048577) {n : Int} (hn : n ≤ 900000000) {s : DSrc} (h : SrcOK n s) {l : List (List UInt8)} (h0 : 0 < l.length) : Dr (y3.sh code s l) (n + 3) (fun r => r ∈ l) := by
 unfold y3.sh
 have hne : decide ((l.length : Int) = 0) = false := decide_eq_false (by omega)
 obtain ⟨r, s', e, hs, hr0, hr1⟩ := Yf hc hl hn h (m := (l.length : Int)) (by omega)
 rw [e, hne]; simp only [cond_false, Option.bind_some]
 have hr : inR r l.length = true := Vi hr0 hr1
 simp only [hr, cond_true]
 exact ⟨_, _, rfl, hs, Jz hr⟩
def ym.lit1 : List (List UInt8) := [([97] : List UInt8), ([98] : List UInt8), ([99] : List UInt8), ([97, 46, 98] : List UInt8), ([120] : List UInt8)]
def ym.sh (a0 : List Int) (a1 : DSrc) : Option (List UInt8 × DSrc) :=
 ((y3.sh a0 a1 ym.lit1)).bind fun z7 => some (z7.1, z7.2)
theorem ym.eq (a0 : List Int) (a1 : DSrc) {r : List UInt8 × DSrc} (H : ym.sh a0 a1 = some r) : ym.sh a0 a1 = some r := H
def G9 (t : List UInt8) : Prop := jn t = true ∧ t.length ≤ 3 ∧ ∀ b ∈ t, bn b ≠ 47
theorem lit_part : ∀ t ∈ ym.lit1, G9 t := by
 intro t ht
 simp only [ym.lit1, List.mem_cons, List.not_mem_nil, or_false] at ht
 rcases ht with rfl | rfl | rfl | rfl | rfl <;> exact ⟨by decide, by decide, by decide⟩
theorem part_ok {code : List Int} (hc : ∀ x ∈ code, okB x) (hl : code.length ≤ 1048577) {n : Int} (hn : n ≤ 900000000) {s : DSrc} (h : SrcOK n s) : Dr (ym.sh code s) (n + 3) G9 := by
 unfold ym.sh
 obtain ⟨r, s', e, hs, hr⟩ := pick_ok hc hl hn h (l := ym.lit1) (by decide)
 rw [e]; simp only [Option.bind_some]
 exact ⟨_, _, rfl, hs, lit_part _ hr⟩
def yC.b1 (a0 : List Int) : List UInt8 × Int × DSrc → Option (Step (List UInt8 × DSrc) (List UInt8 × Int × DSrc) (List UInt8 × DSrc)) :=
 fun q => match q with
 | (x3_15, x4_16, y17) => bif (decide (0 < x4_16)) then (((ym.sh a0 y17)).bind fun z39 => bif decide (([47] : List UInt8).length + z39.1.length ≤ 9223372036854775807) then (bif decide (x3_15.length + (([47] : List UInt8) ++ z39.1).length ≤ 9223372036854775807) then (some (.nxt (x3_15 ++ (([47] : List UInt8) ++ z39.1), IntKind.wrap .i64 (x4_16 - 1), z39.2))) else none) else none) else (some (.brk (x3_15, y17)))
def yC.sh (k : Nat) (a0 : List Int) (a1 : DSrc) : Option (List UInt8 × DSrc) :=
  ((ym.sh a0 a1)).bind fun z1 => ((vw.sh a0 z1.2 3)).bind fun z8 => (qn (yC.b1 a0) k (z1.1, z8.1, z8.2)).bind fun z => match z with | .inl t => some t | .inr (x3_21, y22) => some (x3_21, y22)
theorem yC.eq (a0 : List Int) (a1 : DSrc) {r : List UInt8 × DSrc} (H : yC.sh 4 a0 a1 = some r) : ∃ k, yC.sh k a0 a1 = some r := ⟨4, H⟩
def Yu (m : Nat) (t : List UInt8) : Prop := ∃ l : List (List UInt8), l ≠ [] ∧ l.length ≤ m ∧ (∀ x ∈ l, G9 x) ∧ t = yO l
theorem Yu.len {m : Nat} {t : List UInt8} (h : Yu m t) : t.length ≤ 4 * m := by
 obtain ⟨l, h1, h2, h3, rfl⟩ := h
 have : ∀ l : List (List UInt8), (∀ x ∈ l, G9 x) → (yO l).length ≤ 4 * l.length := by
  intro l
  induction l with
  | nil => intro _; simp [yO]
  | cons x l ih =>
   intro hx
   have h4 := ih fun y hy => hx y (by simp [hy])
   have h5 := (hx x (by simp)).2.1
   by_cases hl : l = []
   ·subst hl; simp [yO]; omega
   ·rw [Vq x hl]; simp; omega
 have := this l h3
 omega
theorem Yu.parts {m : Nat} {t : List UInt8} (h : Yu m t) : (cut 47 t).length ≤ m ∧ ∀ x ∈ cut 47 t, G9 x := by
 obtain ⟨l, h1, h2, h3, rfl⟩ := h
 rw [Gt h1 fun x hx => (h3 x hx).2.2]
 exact ⟨h2, h3⟩
theorem Yu.ok {t : List UInt8} (h : Yu 3 t) : qE t = true := by
 have h1 := h.len
 obtain ⟨h2, h3⟩ := h.parts
 simp only [qE, Bool.and_eq_true, decide_eq_true_eq, List.all_eq_true]
 exact ⟨by omega, by omega, fun x hx => (h3 x hx).1⟩
theorem path_loop {code : List Int} (hc : ∀ x ∈ code, okB x) (hl : code.length ≤ 1048577) : ∀ (i : Nat) (k : Nat) (m : Nat) (n : Int) (t : List UInt8) (s : DSrc), n + 3 * i ≤ 800000000 → i < k → m + i ≤ 3 → Yu m t → SrcOK n s →
  ∃ t' s', qn (yC.b1 code) k (t, (i : Int), s) = some (.inr (t', s')) ∧ Yu (m + i) t' ∧ SrcOK (n + 3 * i) s' := by
 intro i
 induction i with
 | zero =>
  intro k m n t s hn hk hm ht hs
  obtain ⟨k, rfl⟩ : ∃ k', k = k' + 1 := ⟨k - 1, by omega⟩
  exact ⟨t, s, by simp [qn, yC.b1], by simpa using ht, hs.mono (by omega)⟩
 | succ i ih =>
  intro k m n t s hn hk hm ht hs
  obtain ⟨k, rfl⟩ : ∃ k', k = k' + 1 := ⟨k - 1, by omega⟩
  obtain ⟨r, s1, e, hs1, hr⟩ := part_ok hc hl (by omega) hs
  have hlt := ht.len
  have hlr := hr.2.1
  obtain ⟨l, hl1, hl2, hl3, rfl⟩ := ht
  have hnew : Yu (m + 1) (yO l ++ ([47] ++ r)) := by
   refine ⟨l ++ [r], by simp, by simp; omega, fun x hx => ?_, ?_⟩
   ·rcases List.mem_append.1 hx with h | h
    ·exact hl3 x h
    ·simp at h; subst h; exact hr
   ·rw [YG r hl1]; rfl
  obtain ⟨t', s', e2, h2, h3⟩ := ih k (m + 1) (n + 3) _ s1 (by omega) (by omega) (by omega) hnew hs1
  refine ⟨t', s', ?_, by rw [show m + (i + 1) = m + 1 + i by omega]; exact h2, h3.mono (by omega)⟩
  have hd : decide ((0 : Int) < ((i + 1 : Nat) : Int)) = true := decide_eq_true (by omega)
  have hw : IntKind.wrap .i64 (((i + 1 : Nat) : Int) - 1) = (i : Int) := by rw [show ((i + 1 : Nat) : Int) - 1 = (i : Int) by omega]; exact wrap_small (by omega) (by omega)
  have hd1 : decide (([47] : List UInt8).length + r.length ≤ 9223372036854775807) = true := decide_eq_true (by simp; omega)
  have hd2 : decide ((yO l).length + (([47] : List UInt8) ++ r).length ≤ 9223372036854775807) = true := decide_eq_true (by simp; omega)
  rw [qn]
  simp only [yC.b1, hd, cond_true, e, Option.bind_some, hd1, hd2, hw]
  exact e2
theorem path_ok {code : List Int} (hc : ∀ x ∈ code, okB x) (hl : code.length ≤ 1048577) {n : Int} (hn : n ≤ 700000000) {s : DSrc} (h : SrcOK n s) : Dr (yC.sh 4 code s) (n + 12) (Yu 3) := by
 unfold yC.sh
 obtain ⟨r, s1, e, hs1, hr⟩ := part_ok hc hl (by omega) h
 rw [e]; simp only [Option.bind_some]
 obtain ⟨i, s2, e, hs2, hi0, hi1⟩ := Yf hc hl (by omega) hs1 (m := 3) (by omega)
 rw [e]; simp only [Option.bind_some]
 obtain ⟨j, rfl⟩ : ∃ j : Nat, i = j := ⟨i.toNat, by omega⟩
 obtain ⟨t', s', e2, h2, h3⟩ := path_loop hc hl j 4 1 (n + 6) r s2 (by omega) (by omega) (by omega) ⟨[r], by simp, by simp, by simpa using hr, rfl⟩ (hs2.mono (by omega))
 rw [e2]
 simp only [Option.bind_some]
 obtain ⟨l, h4, h5, h6⟩ := h2
 exact ⟨_, _, rfl, h3.mono (by omega), l, h4, by omega, h6⟩
def yD.lit1 : List (List UInt8) := [([] : List UInt8), ([111, 110, 101] : List UInt8), ([116, 119, 111] : List UInt8), ([120, 0, 121] : List UInt8), ([108, 111, 110, 103, 32, 108, 111, 110, 103, 32, 98, 111, 100, 121, 32, 104, 101, 114, 101, 33] : List UInt8)]
def yD.sh (a0 : List Int) (a1 : DSrc) : Option (List UInt8 × DSrc) :=
 ((y3.sh a0 a1 yD.lit1)).bind fun z7 => some (z7.1, z7.2)
theorem yD.eq (a0 : List Int) (a1 : DSrc) {r : List UInt8 × DSrc} (H : yD.sh a0 a1 = some r) : yD.sh a0 a1 = some r := H
theorem body_ok {code : List Int} (hc : ∀ x ∈ code, okB x) (hl : code.length ≤ 1048577) {n : Int} (hn : n ≤ 900000000) {s : DSrc} (h : SrcOK n s) : Dr (yD.sh code s) (n + 3) (fun r => r.length ≤ 20) := by
 unfold yD.sh
 obtain ⟨r, s', e, hs, hr⟩ := pick_ok hc hl hn h (l := yD.lit1) (by decide)
 rw [e]; simp only [Option.bind_some]
 refine ⟨_, _, rfl, hs, ?_⟩
 simp only [yD.lit1, List.mem_cons, List.not_mem_nil, or_false] at hr
 rcases hr with rfl | rfl | rfl | rfl | rfl <;> decide
def y1.sh (a0 : List Int) (a1 : DSrc) (a2 : List UInt8) : Option (Rec × DSrc) :=
  ((vw.sh a0 a1 8)).bind fun z7 => ((bif (decide (z7.1 = 0)) then (some (.inr (decide (z7.1 = 0)))) else (bif (decide (z7.1 = 1)) then (some (.inr (decide (z7.1 = 1)))) else (some (.inr (decide (z7.1 = 2))))) : Option (((Rec × DSrc) ⊕ (DSrc)) ⊕ (Bool))).bind fun z => match z with | .inl t => some t | .inr x7_21 => bif x7_21 then (((yD.sh a0 z7.2)).bind fun z33 => ((vw.sh a0 z33.2 3)).bind fun z46 => bif inR z46.1 ([420, 0, 511] : List Int).length then (some (.inl ((⟨1, a2, z33.1, gt ([420, 0, 511] : List Int) z46.1, false⟩ : Rec), z46.2))) else none) else (bif (decide (z7.1 = 3)) then (((y3.sh a0 z7.2 ([([97] : List UInt8), ([46, 46, 47, 98] : List UInt8), ([47] : List UInt8)] : List (List UInt8)))).bind fun z66 => some (.inl ((⟨2, a2, z66.1, 0, false⟩ : Rec), z66.2))) else (bif (decide (z7.1 = 4)) then (bif (decide (z7.1 = 4)) then (some (.inl ((⟨4, a2, ([] : List UInt8), 0, false⟩ : Rec), z7.2))) else (some (.inr z7.2))) else (bif (decide (z7.1 = 5)) then (some (.inl ((⟨4, a2, ([] : List UInt8), 0, false⟩ : Rec), z7.2))) else (some (.inr z7.2))))) : Option ((Rec × DSrc) ⊕ (DSrc))).bind fun z => match z with | .inl t => some t | .inr y17 => ((vw.sh a0 y17 2)).bind fun z98 => bif inR z98.1 ([493, 448] : List Int).length then (((yN.sh a0 z98.2 3)).bind fun z108 => some ((⟨3, a2, ([] : List UInt8), gt ([493, 448] : List Int) z98.1, z108.1⟩ : Rec), z108.2)) else none
theorem y1.eq (a0 : List Int) (a1 : DSrc) (a2 : List UInt8) {r : Rec × DSrc} (H : y1.sh a0 a1 a2 = some r) : y1.sh a0 a1 a2 = some r := H
theorem J0 {k m : Int} {p b : List UInt8} {o : Bool} (h1 : within k 1 4 = true) (h2 : qE p = true) (h3 : (decide (20 < b.length) || (decide (k = 2) && decide (b = []))) = false) (h4 : (((decide (k = 3) || decide (k = 4)) && !decide (b = [])) || (!decide (k = 3) && o)) = false)
  (h5 : (!within m 0 511 || ((decide (k = 2) || decide (k = 4)) && !decide (m = 0))) = false) : qz ⟨k, p, b, m, o⟩ = 0 := (Vd ⟨k, p, b, m, o⟩).2 ⟨h1, h2, h3, h4, h5⟩
theorem record_ok {code : List Int} (hc : ∀ x ∈ code, okB x) (hl : code.length ≤ 1048577) {n : Int} (hn : n ≤ 700000000) {s : DSrc} (h : SrcOK n s) {p : List UInt8} (hp : qE p = true) : Dr (y1.sh code s p) (n + 12) (fun r => qz r = 0 ∧ r.path = p) := by
  unfold y1.sh
  obtain ⟨i, s1, e, hs1, hi0, hi1⟩ := Yf hc hl (by omega) h (m := 8) (by omega)
  rw [e]; simp only [Option.bind_some]
  have hcase : i = 0 ∨ i = 1 ∨ i = 2 ∨ i = 3 ∨ i = 4 ∨ i = 5 ∨ i = 6 ∨ i = 7 := by omega
  have file : ∀ F : DSrc → Option (Rec × DSrc), Dr ((((yD.sh code s1)).bind fun z33 => ((vw.sh code z33.2 3)).bind fun z46 => bif inR z46.1 ([420, 0, 511] : List Int).length then (some (Sum.inl ((⟨1, p, z33.1, gt ([420, 0, 511] : List Int) z46.1, false⟩ : Rec), z46.2) : (Rec × DSrc) ⊕ DSrc)) else none).bind fun z => match z with | .inl t => some t | .inr y => F y) (n + 12) (fun r => qz r = 0 ∧ r.path = p) := by
    intro F
    obtain ⟨b, s2, e, hs2, hb⟩ := body_ok hc hl (by omega) hs1
    rw [e]; simp only [Option.bind_some]
    obtain ⟨j, s3, e, hs3, hj0, hj1⟩ := Yf hc hl (by omega) hs2 (m := 3) (by omega)
    rw [e]; simp only [Option.bind_some]
    have hj : inR j ([420, 0, 511] : List Int).length = true := Vi hj0 (by simpa using hj1)
    simp only [hj, cond_true, Option.bind_some]
    refine ⟨_, _, rfl, hs3.mono (by omega), ?_, rfl⟩
    have hm := Jz hj
    have hmm : within (gt ([420, 0, 511] : List Int) j) 0 511 = true := by
      have : ∀ x ∈ ([420, 0, 511] : List Int), within x 0 511 = true := by decide
      exact this _ hm
    exact J0 (by decide) hp (by simp; omega) (by simp) (by simp [hmm])
  have white : qz ⟨4, p, [], 0, false⟩ = 0 := J0 (by decide) hp (by simp) (by simp) (by decide)
  have dir : ∀ s2 : DSrc, SrcOK (n + 3) s2 → Dr (((vw.sh code s2 2)).bind fun z98 => bif inR z98.1 ([493, 448] : List Int).length then (((yN.sh code z98.2 3)).bind fun z108 => some ((⟨3, p, ([] : List UInt8), gt ([493, 448] : List Int) z98.1, z108.1⟩ : Rec), z108.2)) else none) (n + 12) (fun r => qz r = 0 ∧ r.path = p) := by
    intro s2 hs2
    obtain ⟨j, s3, e, hs3, hj0, hj1⟩ := Yf hc hl (by omega) hs2 (m := 2) (by omega)
    rw [e]; simp only [Option.bind_some]
    have hj : inR j ([493, 448] : List Int).length = true := Vi hj0 (by simpa using hj1)
    simp only [hj, cond_true]
    obtain ⟨b, s4, e, hs4, _⟩ := chance_ok hc hl (by omega) hs3 (m := 3) (by omega)
    rw [e]; simp only [Option.bind_some]
    refine ⟨_, _, rfl, hs4.mono (by omega), ?_, rfl⟩
    have hm := Jz hj
    have hmm : within (gt ([493, 448] : List Int) j) 0 511 = true := by
      have : ∀ x ∈ ([493, 448] : List Int), within x 0 511 = true := by decide
      exact this _ hm
    exact J0 (by decide) hp (by simp) (by simp) (by simp [hmm])
  rcases hcase with rfl | rfl | rfl | rfl | rfl | rfl | rfl | rfl
  · simp
    exact file _
  · simp
    exact file _
  · simp
    exact file _
  · simp
    obtain ⟨b, s2, e, hs2, hb⟩ := pick_ok hc hl (by omega) hs1 (l := ([([97] : List UInt8), ([46, 46, 47, 98] : List UInt8), ([47] : List UInt8)] : List (List UInt8))) (by decide)
    rw [e]; simp only [Option.bind_some]
    refine ⟨_, _, rfl, hs2.mono (by omega), ?_, rfl⟩
    have hb1 : (decide (20 < b.length) || (decide ((2 : Int) = 2) && decide (b = []))) = false := by
      have : ∀ x ∈ ([([97] : List UInt8), ([46, 46, 47, 98] : List UInt8), ([47] : List UInt8)] : List (List UInt8)), (decide (20 < x.length) || (decide ((2 : Int) = 2) && decide (x = []))) = false := by decide
      exact this _ hb
    exact J0 (by decide) hp hb1 (by simp) (by decide)
  · simp
    exact ⟨_, _, rfl, hs1.mono (by omega), white, rfl⟩
  · simp
    exact ⟨_, _, rfl, hs1.mono (by omega), white, rfl⟩
  · have := dir s1 hs1
    simpa using this
  · have := dir s1 hs1
    simpa using this
theorem source_ok (code : List Int) : ∃ s, yo.sh code = some s ∧ SrcOK 0 s := by
 have := j9 (a := (code.length : Int)) (n := 1000) (by omega) (by decide)
 exact ⟨_, rfl, ⟨by simp, by simp, this.1, by have := this.2; show (code.length : Int).tmod 1000 < 2147483648; omega⟩⟩
def jv.sh (a0 : List Int) (a1 : Int) (a2 : Int) : Option (Int) :=
 bif (decide (a2 ≤ 1)) then (some 0) else (bif (decide ((a0.length : Int) = 0)) then (bif decide (¬ (a2 : Int) = 0) then (some ((IntKind.wrap .i64 (a1 * 7)).tmod a2)) else none) else (bif decide (¬ ((a0.length : Int) : Int) = 0) then (bif inR (a1.tmod (a0.length : Int)) a0.length then (bif decide (¬ ((a0.length : Int) : Int) = 0) then (bif inR ((IntKind.wrap .i64 (a1 + 1)).tmod (a0.length : Int)) a0.length then (bif decide (¬ ((a0.length : Int) : Int) = 0) then (bif decide (¬ (a2 : Int) = 0) then (some ((IntKind.wrap .i64 ((IntKind.wrap .i64 ((IntKind.wrap .i64 ((IntKind.wrap .i64 (gt a0 (a1.tmod (a0.length : Int)))) * 31)) + (IntKind.wrap .i64 (gt a0 ((IntKind.wrap .i64 (a1 + 1)).tmod (a0.length : Int)))))) + (IntKind.wrap .i64 (a1.tdiv (a0.length : Int))))).tmod a2)) else none) else none) else none) else none) else none) else none))
theorem jv.eq (a0 : List Int) (a1 a2 : Int) {r : Int} (H : jv.sh a0 a1 a2 = some r) : jv.sh a0 a1 a2 = some r := H
theorem at_ok {more : List Int} (hc : ∀ x ∈ more, okB x) (hl : more.length ≤ 1048576) {i n : Int} (hi : 0 ≤ i) (hi2 : i ≤ 1000000) (hn : 0 < n) : ∃ r, jv.sh more i n = some r ∧ 0 ≤ r ∧ r < n := by
 unfold jv.sh
 by_cases h1 : n ≤ 1
 ·simp only [decide_eq_true h1, cond_true]; exact ⟨0, rfl, by omega, by omega⟩
 ·have hne : decide (¬ (n : Int) = 0) = true := decide_eq_true (by omega)
  simp only [decide_eq_false h1, cond_false, hne, cond_true]
  by_cases h0 : (more.length : Int) = 0
  ·simp only [decide_eq_true h0, cond_true]
   rw [wrap_small (n := i * 7) (by omega) (by omega)]
   exact ⟨_, rfl, j9 (by omega) hn⟩
  ·have hne2 : decide (¬ ((more.length : Int) : Int) = 0) = true := decide_eq_true (by omega)
   have m1 := j9 (a := i) (n := (more.length : Int)) hi (by omega)
   have m2 := j9 (a := i + 1) (n := (more.length : Int)) (by omega) (by omega)
   have r1 : inR (i.tmod (more.length : Int)) more.length = true := Vi m1.1 m1.2
   have r2 : inR ((i + 1).tmod (more.length : Int)) more.length = true := Vi m2.1 m2.2
   have b1 := hc _ (Jz r1)
   have b2 := hc _ (Jz r2)
   obtain ⟨b10, b11⟩ := b1
   obtain ⟨b20, b21⟩ := b2
   have hd : 0 ≤ i.tdiv (more.length : Int) := Int.tdiv_nonneg hi (by omega)
   have hd2 : i.tdiv (more.length : Int) ≤ i := Int.tdiv_le_self _ hi
   have e0 : IntKind.wrap .i64 (i + 1) = i + 1 := wrap_small (by omega) (by omega)
   simp only [decide_eq_false h0, cond_false, hne2, cond_true, r1, e0, r2]
   rw [wrap_small (n := gt more (i.tmod (more.length : Int))) (by omega) (by omega), wrap_small (n := gt more ((i + 1).tmod (more.length : Int))) (by omega) (by omega), wrap_small (n := gt more (i.tmod (more.length : Int)) * 31) (by omega) (by omega),
    wrap_small (n := gt more (i.tmod (more.length : Int)) * 31 + gt more ((i + 1).tmod (more.length : Int))) (by omega) (by omega), wrap_small (n := i.tdiv (more.length : Int)) (by omega) (by omega), wrap_small (n := gt more (i.tmod (more.length : Int)) * 31 + gt more ((i + 1).tmod (more.length : Int)) + i.tdiv (more.length : Int)) (by omega) (by omega)]
   exact ⟨_, rfl, j9 (by omega) hn⟩
theorem guard_of (a0 a1 : List Int) : (bif decide ((1048576 : Int) < (a0.length : Int)) then some true else (some (decide ((1048576 : Int) < (a1.length : Int))))) = some true ∨
  ((bif decide ((1048576 : Int) < (a0.length : Int)) then some true else (some (decide ((1048576 : Int) < (a1.length : Int))))) = some false ∧ a0.length ≤ 1048576 ∧ a1.length ≤ 1048576) := by
 by_cases h0 : (1048576 : Int) < (a0.length : Int)
 ·left; rw [decide_eq_true h0]; rfl
 ·by_cases h1 : (1048576 : Int) < (a1.length : Int)
  ·left; rw [decide_eq_false h0, decide_eq_true h1]; rfl
  ·right; rw [decide_eq_false h0, decide_eq_false h1]; exact ⟨rfl, by omega, by omega⟩
theorem same_loop {α : Type} [DecidableEq α] [Inhabited α] (a b : List α) (hl : a.length = b.length) (B : Int → Option (Step Bool Int Unit)) (hb : ∀ i : Nat, i < a.length → B i = some (sc (if !decide (a.getD i default = b.getD i default) then some false else none : Option Bool) ((i : Int) + 1))) (hn : B a.length = some (.brk ())) :
    (qn B (a.length + 1) 0).bind (fun z => match z with | .inl t => some t | .inr _ => some true) = some (decide (a = b)) := by
  rw [jT a.length _ hb hn (a.length + 1) (by omega), list_ne_any a b hl]
  by_cases he : a = b <;> simp [he]
theorem same_sh {α : Type} [DecidableEq α] [Inhabited α] (a b : List α) (h : a.length ≤ 4611686018427387904) (B : Int → Option (Step Bool Int Unit)) (hB : ∀ i : Nat, i < a.length → i < b.length → B i = bif (!decide (a.getD i default = b.getD i default)) then some (.ret false) else some (.nxt ((i : Int) + 1))) (hn : B a.length = some (.brk ())) :
    (bif (!decide ((a.length : Int) = (b.length : Int))) then some false else ((qn B (a.length + 1) 0).bind fun z => match z with | .inl t => some t | .inr _ => some true)) = some (decide (a = b)) := by
  by_cases hl : a.length = b.length
  · have : (a.length : Int) = (b.length : Int) := by omega
    rw [decide_eq_true this]
    simp only [Bool.not_true, cond_false]
    refine same_loop a b hl B (fun i hi => ?_) hn
    rw [hB i hi (by omega)]
    by_cases he : a.getD i default = b.getD i default
    · simp only [he, decide_true, Bool.not_true, Bool.false_eq_true, if_false, cond_false, Jg]
    · simp only [he, decide_false, Bool.not_false, if_true, cond_true, Jh]
  · have h1 : ¬ (a.length : Int) = (b.length : Int) := by omega
    have h2 : a ≠ b := fun e => hl (by rw [e])
    simp [h1, h2]
def vY.b1 (a0 : List Rec) (a1 : List Rec) : Int → Option (Step (Bool) (Int) (Unit)) :=
 fun x5_2 => bif (decide (x5_2 < (a0.length : Int))) then (bif inR x5_2 a0.length then (bif inR x5_2 a1.length then (bif (!decide ((gt a0 x5_2) = (gt a1 x5_2))) then (some (.ret false)) else (some (.nxt (IntKind.wrap .i64 (x5_2 + 1))))) else none) else none) else (some (.brk ()))
def vY.sh (k : Nat) (a0 : List Rec) (a1 : List Rec) : Option (Bool) :=
  bif (!decide ((a0.length : Int) = (a1.length : Int))) then (some false) else ((qn (vY.b1 a0 a1) k 0).bind fun z => match z with | .inl t => some t | .inr _ => some true)
theorem vY.eq (a0 a1 : List Rec) (h : a0.length ≤ 4611686018427387904) : ∃ k, vY.sh k a0 a1 = some (decide (a0 = a1)) := by
 refine ⟨a0.length + 1, same_sh a0 a1 h _ (fun i hi hi2 => ?_) (by simp [vY.b1])⟩
 simp only [vY.b1, y9, hi, decide_true, cond_true, qP hi, qP hi2, vK, vF hi h]
 rfl
def yp.b1 (a0 : List Nd) (a1 : List Nd) : Int → Option (Step (Bool) (Int) (Unit)) :=
 fun x5_2 => bif (decide (x5_2 < (a0.length : Int))) then (bif inR x5_2 a0.length then (bif inR x5_2 a1.length then (bif (!decide ((gt a0 x5_2) = (gt a1 x5_2))) then (some (.ret false)) else (some (.nxt (IntKind.wrap .i64 (x5_2 + 1))))) else none) else none) else (some (.brk ()))
def yp.sh (k : Nat) (a0 : List Nd) (a1 : List Nd) : Option (Bool) :=
  bif (!decide ((a0.length : Int) = (a1.length : Int))) then (some false) else ((qn (yp.b1 a0 a1) k 0).bind fun z => match z with | .inl t => some t | .inr _ => some true)
theorem yp.eq (a0 a1 : List Nd) (h : a0.length ≤ 4611686018427387904) : ∃ k, yp.sh k a0 a1 = some (decide (a0 = a1)) := by
 refine ⟨a0.length + 1, same_sh a0 a1 h _ (fun i hi hi2 => ?_) (by simp [yp.b1])⟩
 simp only [yp.b1, y9, hi, decide_true, cond_true, qP hi, qP hi2, vK, vF hi h]
 rfl
def yk.b1 (a0 : List (List Rec)) (a1 : List (List Rec)) : Int → Option (Step (Bool) (Int) (Unit)) :=
 fun x5_2 => bif (decide (x5_2 < (a0.length : Int))) then (bif inR x5_2 a0.length then (bif inR x5_2 a1.length then (bif decide ((gt a0 x5_2).length ≤ 4611686018427387904) then (bif (!(decide ((gt a0 x5_2) = (gt a1 x5_2)))) then (some (.ret false)) else (some (.nxt (IntKind.wrap .i64 (x5_2 + 1))))) else none) else none) else none) else (some (.brk ()))
def yk.sh (k : Nat) (a0 : List (List Rec)) (a1 : List (List Rec)) : Option (Bool) :=
  bif (!decide ((a0.length : Int) = (a1.length : Int))) then (some false) else ((qn (yk.b1 a0 a1) k 0).bind fun z => match z with | .inl t => some t | .inr _ => some true)
theorem yk.eq (a0 a1 : List (List Rec)) (h : a0.length ≤ 4611686018427387904) (h1 : ∀ l ∈ a0, l.length ≤ 4611686018427387904) : ∃ k, yk.sh k a0 a1 = some (decide (a0 = a1)) := by
 refine ⟨a0.length + 1, same_sh a0 a1 h _ (fun i hi hi2 => ?_) (by simp [yk.b1])⟩
 have hm : decide ((gt a0 (i : Int)).length ≤ 4611686018427387904) = true := decide_eq_true (h1 _ (getL_mem hi))
 simp only [yk.b1, y9, hi, decide_true, cond_true, qP hi, qP hi2, vF hi h, hm]
 rfl
def Ys (n : Nat) (l : List Rec) (r : Rec) : Bool := yA l && qE r.path && decide ((cut 47 r.path).length ≤ n + 1) && decide (l.length ≤ 100)
def putQ : Nat → List Rec → Rec → Bool
 | 0, _, _ => false
 | n + 1, l, r => Ys n l r
def putG : Nat → List Rec → Rec → List Rec
 | 0, _, _ => []
 | n + 1, l, r => Vl n l r
theorem putOKb_of {n : Nat} {l : List Rec} {r : Rec} (h : Ys n l r = true) : yA l = true ∧ qE r.path = true ∧ (cut 47 r.path).length ≤ n + 1 ∧ l.length ≤ 100 := by
 simp only [Ys, Bool.and_eq_true, decide_eq_true_eq] at h
 exact ⟨h.1.1.1, h.1.1.2, h.1.2, h.2⟩
theorem putOKb_mk {n : Nat} {l : List Rec} {r : Rec} (h1 : yA l = true) (h2 : qE r.path = true) (h3 : (cut 47 r.path).length ≤ n + 1) (h4 : l.length ≤ 100) : Ys n l r = true := by simp [Ys, h1, h2, h3, h4]
def QO (r x : Rec) (s : List Rec × Bool) : List Rec × Bool :=
 let s1 : List Rec × Bool := if (!s.2 && ltP r.path x.path) = true then (s.1 ++ [r], true) else s
 (if Ql r x = true then s1.1 ++ [x] else s1.1, s1.2)
theorem put_after (r : Rec) : ∀ (l : List Rec) (acc : List Rec), (l.foldl (fun s x => QO r x s) (acc, true)) = (acc ++ l.filter (Ql r), true) := by
 intro l
 induction l with
 | nil => intro acc; simp
 | cons x l ih =>
  intro acc
  rw [List.foldl_cons]
  have e : QO r x (acc, true) = (if Ql r x = true then acc ++ [x] else acc, true) := by simp [QO]
  rw [e, ih]
  rcases ql (Ql r x) with h | h <;> simp [h]
theorem put_fold (r : Rec) : ∀ (l : List Rec), yi (l.map (·.path)) → ∀ (acc : List Rec), (if (l.foldl (fun s x => QO r x s) (acc, false)).2 = true then (l.foldl (fun s x => QO r x s) (acc, false)).1 else (l.foldl (fun s x => QO r x s) (acc, false)).1 ++ [r]) = acc ++ Vo l r := by
 intro l
 induction l with
 | nil => intro _ acc; simp [Vo]
 | cons x l ih =>
  intro hr acc
  rw [List.map_cons] at hr
  have hgt := VB hr
  rw [List.foldl_cons]
  rcases ql (ltP r.path x.path) with h | h
  ·have hall : ∀ y ∈ x :: l, ltP r.path y.path = true := by
    intro y hy
    rcases List.mem_cons.1 hy with rfl | hy
    ·exact h
    ·exact j0 h (hgt _ (List.mem_map_of_mem hy))
   have e : QO r x (acc, false) = (if Ql r x = true then acc ++ [r] ++ [x] else acc ++ [r], true) := by simp [QO, h]
   rw [e, put_after]
   have f1 : (x :: l).filter (fun y => Ql r y && ltP y.path r.path) = [] := by
    rw [List.filter_eq_nil_iff]
    intro y hy
    rw [Vw (hall y hy)]; simp
   have f2 : (x :: l).filter (fun y => Ql r y && ltP r.path y.path) = (x :: l).filter (Ql r) := by
    apply List.filter_congr
    intro y hy
    rw [hall y hy]; simp
   unfold Vo
   rw [f1, f2]
   rcases ql (Ql r x) with h2 | h2 <;> simp [h2]
  ·have e : QO r x (acc, false) = (if Ql r x = true then acc ++ [x] else acc, false) := by simp [QO, h]
   rw [e, ih (Q9 hr)]
   unfold Vo
   rcases ql (Ql r x) with h2 | h2
   ·have hne : x.path ≠ r.path := by
     unfold Ql at h2
     intro e
     rw [decide_eq_true e] at h2; simp at h2
    have hlt : ltP x.path r.path = true := by
     rcases ql (ltP x.path r.path) with h3 | h3
     ·exact h3
     ·exact absurd (Yk h3 h) hne
    simp [h2, h, hlt]
   ·simp [h2]
theorem put_loop {ρ : Type} (l : List Rec) (r : Rec) (B : List Rec × Bool × Int → Option (Step ρ (List Rec × Bool × Int) (List Rec × Bool)))
  (hB : ∀ (i : Nat) (o : List Rec) (d : Bool), i < l.length → o.length ≤ 2 * i → B (o, d, (i : Int)) = some (.nxt ((QO r (gt l (i : Int)) (o, d)).1, (QO r (gt l (i : Int)) (o, d)).2, ((i + 1 : Nat) : Int))))
  (hn : ∀ o d, B (o, d, (l.length : Int)) = some (.brk (o, d))) : qn B (l.length + 1) ([], false, 0) = some (.inr (l.foldl (fun s x => QO r x s) ([], false))) := by
 have hlen : ∀ x (s : List Rec × Bool), (QO r x s).1.length ≤ s.1.length + 2 := by
  intro x s
  unfold QO
  simp only []
  split <;> split <;> simp
 have key : ∀ (d i k : Nat) (s : List Rec × Bool), i + d = l.length → d < k → s.1.length ≤ 2 * i → qn B k (s.1, s.2, (i : Int)) = some (.inr ((l.drop i).foldl (fun s x => QO r x s) s)) := by
  intro d
  induction d with
  | zero =>
   intro i k s hi hk hs
   obtain ⟨k, rfl⟩ : ∃ m, k = m + 1 := ⟨k - 1, by omega⟩
   have : i = l.length := by omega
   subst this
   rw [qn, hn s.1 s.2, List.drop_length]; rfl
  | succ d ih =>
   intro i k s hi hk hs
   obtain ⟨k, rfl⟩ : ∃ m, k = m + 1 := ⟨k - 1, by omega⟩
   have hlt : i < l.length := by omega
   rw [qn, hB i s.1 s.2 hlt hs, Qr hlt]
   have hl2 := hlen (gt l (i : Int)) (s.1, s.2)
   exact ih (i + 1) k _ (by omega) (by omega) (by simp only [] at hl2 ⊢; omega)
 exact key l.length 0 (l.length + 1) ([], false) (by omega) (by omega) (by simp)
theorem YR {l : List Rec} {r : Rec} (h : yA l = true) (hr : qE r.path = true) : yA (Vo l r) = true := by
 refine YB (fun x hx => ?_) (Xq (QI h))
 rcases Qm.1 hx with rfl | ⟨h1, _⟩
 ·exact hr
 ·exact jA h x h1
theorem putR_sheetB : ∀ (n : Nat) (l : List Rec) (r : Rec), yA l = true → qE r.path = true → yA (Vl n l r) = true := by
 intro n
 induction n with
 | zero => intro l r h hr; exact YR h hr
 | succ n ih =>
  intro l r h hr
  rw [Vl]
  split
  ·rename_i hc
   exact YR (ih _ _ h (Yq hr hc.1)) hr
  ·exact YR h hr
theorem parent_depth {p : List UInt8} {n : Nat} (h : qe p ≠ []) (hd : (cut 47 p).length ≤ n + 2) : (cut 47 (qe p)).length ≤ n + 1 := by
 have := Qn (yV h); omega
theorem hasDir_neg {l : List Rec} {p : List UInt8} (h : qB l p < 0) : Vs l p = false := by
 unfold Vs
 rw [decide_eq_false (by omega)]; rfl
theorem XD {l : List Rec} {p : List UInt8} (h : ¬ qB l p < 0) : Vs l p = decide ((gt l (qB l p)).kind = 3) := by
 unfold Vs
 rw [decide_eq_true (by omega)]; rfl
def qF.b1 (a1 : Rec) (x0_13 : List Rec) : List Rec × Bool × Int → Option (Step (List Rec) (List Rec × Bool × Int) (List Rec × Bool)) :=
  fun q => match q with
  | (x7_47, x8_49, x9_50) => bif (decide (x9_50 < (x0_13.length : Int))) then (bif (!(!x8_49) || (inR x9_50 x0_13.length)) then (bif (!(!x8_49) || (decide (a1.path.length ≤ 1048576))) then (bif (!(!x8_49) || (decide (((gt x0_13 x9_50).path).length ≤ 1048576))) then ((bif ((!x8_49) && (vA (cut 47 a1.path) (cut 47 ((gt x0_13 x9_50).path)))) then (bif decide ((x7_47.length + ([a1] : List Rec).length) * 56 ≤ 140737488355328) then (some (.inr (x7_47 ++ ([a1] : List Rec), true))) else none) else (some (.inr (x7_47, x8_49))) : Option ((Step (List Rec) (List Rec × Bool × Int) (List Rec × Bool)) ⊕ (List Rec × Bool))).bind fun z => match z with | .inl t => some t | .inr (x7_104, x8_106) => bif inR x9_50 x0_13.length then (bif (!((!decide (((gt x0_13 x9_50).path) = a1.path)) && (!(decide (a1.kind = 3)))) || (inR x9_50 x0_13.length)) then (bif ((!decide (((gt x0_13 x9_50).path) = a1.path)) && ((decide (a1.kind = 3)) || (!((decide (a1.path = []) && !decide (((gt x0_13 x9_50).path) = [])) || ve ((gt x0_13 x9_50).path) a1.path)))) then (bif inR x9_50 x0_13.length then (bif decide ((x7_104.length + ([gt x0_13 x9_50] : List Rec).length) * 56 ≤ 140737488355328) then (some (.nxt (x7_104 ++ ([gt x0_13 x9_50] : List Rec), x8_106, IntKind.wrap .i64 (x9_50 + 1)))) else none) else none) else (some (.nxt (x7_104, x8_106, IntKind.wrap .i64 (x9_50 + 1))))) else none) else none) else none) else none) else none) else (some (.brk (x7_47, x8_49)))
def qF.sh (n : Nat) (k : Nat) (a0 : List Rec) (a1 : Rec) : Option (List Rec) :=
  bif decide (a1.path.length ≤ 4611686018427387904) then ((bif (!decide ((qe a1.path) = ([] : List UInt8))) then (bif decide (a0.length ≤ 1048576) then (((bif (decide ((qB a0 (qe a1.path)) < 0)) then some true else (bif inR (qB a0 (qe a1.path)) a0.length then (some (!decide (((gt a0 (qB a0 (qe a1.path))).kind) = 3))) else none))).bind fun z20 => bif z20 then (bif decide (putQ n a0 (⟨3, (qe a1.path), ([] : List UInt8), 493, false⟩ : Rec) = true) then (some (.inr (putG n a0 (⟨3, (qe a1.path), ([] : List UInt8), 493, false⟩ : Rec)))) else none) else (some (.inr a0))) else none) else (some (.inr a0)) : Option ((List Rec) ⊕ (List Rec))).bind fun z => match z with | .inl t => some t | .inr x0_13 => (qn (qF.b1 a1 x0_13) k (([] : List Rec), false, 0)).bind fun z => match z with | .inl t => some t | .inr (x7_54, x8_56) => bif (!x8_56) then (bif decide ((x7_54.length + ([a1] : List Rec).length) * 56 ≤ 140737488355328) then (some (x7_54 ++ ([a1] : List Rec))) else none) else (some x7_54)) else none
theorem qF.body (a0 : List Rec) (a1 : Rec) (hs : yA a0 = true) (hp : qE a1.path = true) (hl : a0.length ≤ 200) :
    ((qn (qF.b1 a1 a0) (a0.length + 1) (([] : List Rec), false, 0)).bind fun z => match z with | .inl t => some t | .inr (x7_54, x8_56) => bif (!x8_56) then (bif decide ((x7_54.length + ([a1] : List Rec).length) * 56 ≤ 140737488355328) then (some (x7_54 ++ ([a1] : List Rec))) else none) else (some x7_54)) = some (Vo a0 a1) := by
  have hp1 := yG hp
  have hne := pathOK_ne hp
  have hlen : ∀ (l : List Rec) (s : List Rec × Bool), (l.foldl (fun s x => QO a1 x s) s).1.length ≤ s.1.length + 2 * l.length := by
    intro l
    induction l with
    | nil => intro s; simp
    | cons x l ih =>
      intro s
      rw [List.foldl_cons]
      have h1 := ih (QO a1 x s)
      have h2 : (QO a1 x s).1.length ≤ s.1.length + 2 := by
        unfold QO
        simp only []
        split <;> split <;> simp
      simp only [List.length_cons]; omega
  rw [put_loop a0 a1 (qF.b1 a1 a0) (fun i o d hi ho => by
    have hx := yG (jA hs _ (Jz (qP hi)))
    have ho2 : ∀ m : Nat, m ≤ o.length + 2 → (decide (m * 56 ≤ 140737488355328)) = true := fun m hm => decide_eq_true (by omega)
    simp only [qF.b1, y9, hi, decide_true, cond_true, qP hi, decide_eq_true hp1, decide_eq_true hx, Bool.or_true, vF hi (by omega)]
    show ((bif (!d && ltP a1.path (gt a0 (i : Int)).path) then _ else _ : Option _).bind _) = _
    have hk : ((!decide (((gt a0 (i : Int)).path) = a1.path)) && ((decide (a1.kind = 3)) || (!((decide (a1.path = []) && !decide (((gt a0 (i : Int)).path) = [])) || ve ((gt a0 (i : Int)).path) a1.path)))) = Ql a1 (gt a0 (i : Int)) := by
      rw [decide_eq_false hne]; simp [Ql]
    rw [hk]
    unfold QO
    rw [ho2 (o.length + [a1].length) (by simp)]
    rcases ql (!d && ltP a1.path (gt a0 (i : Int)).path) with h1 | h1
    · rw [h1]
      simp only [cond_true, Option.bind_some, if_true]
      rw [ho2 ((o ++ [a1]).length + [gt a0 (i : Int)].length) (by simp)]
      rcases ql (Ql a1 (gt a0 (i : Int))) with h2 | h2 <;> simp [h2]
    · rw [h1]
      simp only [cond_false, Option.bind_some, Bool.false_eq_true, if_false]
      rw [ho2 (o.length + [gt a0 (i : Int)].length) (by simp)]
      rcases ql (Ql a1 (gt a0 (i : Int))) with h2 | h2 <;> simp [h2]) (fun o d => by simp [qF.b1])]
  have hf := put_fold a1 a0 (QI hs) []
  have hl2 := hlen a0 ([], false)
  obtain ⟨s, hs2⟩ : ∃ s, a0.foldl (fun s x => QO a1 x s) ([], false) = s := ⟨_, rfl⟩
  rw [hs2] at hf hl2 ⊢
  obtain ⟨o, d⟩ := s
  simp only [List.nil_append, List.length_nil] at hf hl2
  simp only [Option.bind_some]
  have hd : decide ((o.length + [a1].length) * 56 ≤ 140737488355328) = true := decide_eq_true (by simp; omega)
  rw [hd]
  cases d with
  | true => simpa using hf
  | false => simpa using hf
theorem qF.eq (n : Nat) (hn : n ≤ 50) (a0 : List Rec) (a1 : Rec) (h : Ys n a0 a1 = true) : ∃ k, qF.sh n k a0 a1 = some (Vl n a0 a1) := by
  cases n with
  | zero =>
    obtain ⟨h1, h2, h3, h4⟩ := putOKb_of h
    have hpar : qe a1.path = [] := by
      by_cases hp : qe a1.path = []
      · exact hp
      · have := J8 hp; omega
    have hpl := yG h2
    have hd : decide (a1.path.length ≤ 4611686018427387904) = true := decide_eq_true (by omega)
    refine ⟨a0.length + 1, ?_⟩
    unfold qF.sh
    simp only [hd, hpar, cond_true, decide_true, Bool.not_true, cond_false, Option.bind_some]
    exact qF.body a0 a1 h1 h2 (by omega)
  | succ m =>
    obtain ⟨h1, h2, h3, h4⟩ := putOKb_of h
    have hpl := yG h2
    have hd : decide (a1.path.length ≤ 4611686018427387904) = true := decide_eq_true (by omega)
    have hd2 : decide (a0.length ≤ 1048576) = true := decide_eq_true (by omega)
    have plain : Vs a0 (qe a1.path) = true ∨ qe a1.path = [] → Vl (m + 1) a0 a1 = Vo a0 a1 := by
      intro hc
      rw [Vl, if_neg]
      rintro ⟨c1, c2⟩
      rcases hc with hc | hc
      · rw [hc] at c2; cases c2
      · exact c1 hc
    have made : qe a1.path ≠ [] → Vs a0 (qe a1.path) = false → Ys m a0 ⟨3, qe a1.path, [], 493, false⟩ = true ∧ ∃ k, ((qn (qF.b1 a1 (Vl m a0 ⟨3, qe a1.path, [], 493, false⟩)) k (([] : List Rec), false, 0)).bind fun z => match z with | .inl t => some t | .inr (x7_54, x8_56) => bif (!x8_56) then (bif decide ((x7_54.length + ([a1] : List Rec).length) * 56 ≤ 140737488355328) then (some (x7_54 ++ ([a1] : List Rec))) else none) else (some x7_54)) = some (Vl (m + 1) a0 a1) := by
      intro hp hd
      have hpp := Yq h2 hp
      have hk := putOKb_mk (n := m) (l := a0) (r := ⟨3, qe a1.path, [], 493, false⟩) h1 hpp (parent_depth hp h3) h4
      refine ⟨hk, (Vl m a0 ⟨3, qe a1.path, [], 493, false⟩).length + 1, ?_⟩
      have e9 : Vl (m + 1) a0 a1 = Vo (Vl m a0 ⟨3, qe a1.path, [], 493, false⟩) a1 := (show _ = Vo (if qe a1.path ≠ [] ∧ Vs a0 (qe a1.path) = false then _ else a0) a1 from rfl).trans (by rw [if_pos ⟨hp, hd⟩])
      rw [e9]
      have hl := putR_len m a0 ⟨3, qe a1.path, [], 493, false⟩
      exact qF.body _ a1 (putR_sheetB m _ _ h1 hpp) h2 (by omega)
    by_cases hp : qe a1.path = []
    · refine ⟨a0.length + 1, ?_⟩
      rw [plain (.inr hp)]
      unfold qF.sh
      simp only [hd, hp, cond_true, decide_true, Bool.not_true, cond_false, Option.bind_some]
      exact qF.body a0 a1 h1 h2 (by omega)
    · by_cases hf : qB a0 (qe a1.path) < 0
      · obtain ⟨hk, k, e⟩ := made hp (hasDir_neg hf)
        refine ⟨k, ?_⟩
        unfold qF.sh
        simp only [hd, hd2, decide_eq_false hp, decide_eq_true hf, cond_true, Bool.not_false, Option.bind_some, putQ, putG, hk, decide_true]
        exact e
      · have hr := findR_in hf
        by_cases hkd : (gt a0 (qB a0 (qe a1.path))).kind = 3
        · refine ⟨a0.length + 1, ?_⟩
          rw [plain (.inl (by rw [XD hf, decide_eq_true hkd]))]
          unfold qF.sh
          simp only [hd, hd2, decide_eq_false hp, decide_eq_false hf, cond_true, cond_false, Bool.not_false, Option.bind_some, hr, decide_eq_true hkd, Bool.not_true]
          exact qF.body a0 a1 h1 h2 (by omega)
        · obtain ⟨hk, k, e⟩ := made hp (by rw [XD hf, decide_eq_false hkd])
          refine ⟨k, ?_⟩
          unfold qF.sh
          simp only [hd, hd2, decide_eq_false hp, decide_eq_false hf, cond_true, cond_false, Bool.not_false, Option.bind_some, hr, decide_eq_false hkd, putQ, putG, hk, decide_true]
          exact e
theorem Sheet.bool {l : List Rec} (h : Sheet l) : yA l = true := YB (fun x hx => yr (h.ok x hx)) h.rise
theorem mem_putR : ∀ (n : Nat) (l : List Rec) (r x : Rec), x ∈ Vl n l r → x = r ∨ x ∈ l ∨ (x.kind = 3 ∧ (cut 47 x.path).length ≤ (cut 47 r.path).length) := by
 intro n
 induction n with
 | zero =>
  intro l r x hx
  rcases Qm.1 hx with h | ⟨h, _⟩
  ·exact .inl h
  ·exact .inr (.inl h)
 | succ n ih =>
  intro l r x hx
  rw [Vl] at hx
  rcases Qm.1 hx with h | ⟨h, _⟩
  ·exact .inl h
  ·split at h
   ·rename_i hc
    have hd := Qn (yV hc.1)
    rcases ih _ _ _ h with h2 | h2 | ⟨h2, h3⟩
    ·subst h2; exact .inr (.inr ⟨rfl, Nat.le_of_lt hd⟩)
    ·exact .inr (.inl h2)
    ·exact .inr (.inr ⟨h2, Nat.le_trans h3 (Nat.le_of_lt hd)⟩)
   ·exact .inr (.inl h)
structure Lay (l : List Rec) : Prop where
 sheet : Sheet l
 len : l.length ≤ 16
 deep : ∀ r ∈ l, (cut 47 r.path).length ≤ 3
theorem Lay.nil : Lay [] := ⟨Sheet.nil, by simp, by simp⟩
theorem put_ok {l : List Rec} {r : Rec} (hl : Lay l) (hr : qz r = 0) (hd : (cut 47 r.path).length ≤ 3) : Ys 2 l r = true ∧ ((Vl 2 l r).length ≤ 16 → Lay (Vl 2 l r)) := by
 have h16 := hl.len
 refine ⟨putOKb_mk hl.sheet.bool (yr hr) (by omega) (by omega), fun h => ⟨(putR_Sheet 2 l r hl.sheet hr (by omega)).1, h, fun x hx => ?_⟩⟩
 rcases mem_putR 2 l r x hx with rfl | h2 | ⟨_, h2⟩
 ·exact hd
 ·exact hl.deep x h2
 ·omega
def yg.b1 (a0 : List Int) : List Rec × Int × DSrc → Option (Step (List Rec × DSrc) (List Rec × Int × DSrc) (List Rec × DSrc)) :=
 fun q => match q with
 | (x3_21, x4_23, y24) => bif (decide (0 < x4_23)) then (((yC.sh 4 a0 y24)).bind fun z48 => ((y1.sh a0 z48.2 z48.1)).bind fun z55 => bif decide (Ys 2 x3_21 z55.1 = true) then (bif (decide (((Vl 2 x3_21 z55.1).length : Int) ≤ 16)) then (some (.nxt ((Vl 2 x3_21 z55.1), IntKind.wrap .i64 (x4_23 - 1), z55.2))) else (some (.nxt (x3_21, IntKind.wrap .i64 (x4_23 - 1), z55.2)))) else none) else (some (.brk (x3_21, y24)))
def yg.sh (k : Nat) (a0 : List Int) (a1 : DSrc) : Option (List Rec × DSrc) :=
  ((jE.sh a0 a1 6)).bind fun z7 => ((vw.sh a0 z7.2 (IntKind.wrap .i64 (z7.1 + 3)))).bind fun z14 => (qn (yg.b1 a0) k (([] : List Rec), z14.1, z14.2)).bind fun z => match z with | .inl t => some t | .inr (x3_28, y30) => some (x3_28, y30)
theorem yg.eq (a0 : List Int) (a1 : DSrc) {r : List Rec × DSrc} (H : yg.sh 12 a0 a1 = some r) : ∃ k, yg.sh k a0 a1 = some r := ⟨12, H⟩
theorem layer_loop {code : List Int} (hc : ∀ x ∈ code, okB x) (hl : code.length ≤ 1048577) : ∀ (i : Nat) (k : Nat) (n : Int) (l : List Rec) (s : DSrc), n + 24 * i ≤ 400000000 → i < k → Lay l → SrcOK n s →
  ∃ l' s', qn (yg.b1 code) k (l, (i : Int), s) = some (.inr (l', s')) ∧ Lay l' ∧ SrcOK (n + 24 * i) s' := by
 intro i
 induction i with
 | zero =>
  intro k n l s hn hk hs hS
  obtain ⟨k, rfl⟩ : ∃ k', k = k' + 1 := ⟨k - 1, by omega⟩
  exact ⟨l, s, by simp [qn, yg.b1], hs, hS.mono (by omega)⟩
 | succ i ih =>
  intro k n l s hn hk hs hS
  obtain ⟨k, rfl⟩ : ∃ k', k = k' + 1 := ⟨k - 1, by omega⟩
  have hd : decide ((0 : Int) < ((i + 1 : Nat) : Int)) = true := decide_eq_true (by omega)
  have hbig : (i : Int) ≤ 400000000 := by have := hS.p0; have := hS.p1; omega
  have hw : IntKind.wrap .i64 (((i + 1 : Nat) : Int) - 1) = (i : Int) := by rw [show ((i + 1 : Nat) : Int) - 1 = (i : Int) by omega]; exact wrap_small (by omega) (by omega)
  obtain ⟨t, s1, e1, hs1, ht⟩ := path_ok hc hl (by omega) hS
  obtain ⟨r, s2, e2, hs2, hr, hrp⟩ := record_ok hc hl (by omega) hs1 ht.ok
  obtain ⟨p1, p2⟩ := put_ok hs hr (by rw [hrp]; exact ht.parts.1)
  rw [qn]
  simp only [yg.b1, hd, cond_true, e1, e2, Option.bind_some, hw, p1, decide_true]
  by_cases hlen : ((Vl 2 l r).length : Int) ≤ 16
  ·obtain ⟨l', s', e, q1, q3⟩ := ih k (n + 24) (Vl 2 l r) s2 (by omega) (by omega) (p2 (by omega)) (hs2.mono (by omega))
   rw [decide_eq_true hlen]
   exact ⟨l', s', e, q1, q3.mono (by omega)⟩
  ·obtain ⟨l', s', e, q1, q3⟩ := ih k (n + 24) l s2 (by omega) (by omega) hs (hs2.mono (by omega))
   rw [decide_eq_false hlen]
   exact ⟨l', s', e, q1, q3.mono (by omega)⟩
theorem layer_ok {code : List Int} (hc : ∀ x ∈ code, okB x) (hl : code.length ≤ 1048577) {n : Int} (hn : n ≤ 300000000) {s : DSrc} (h : SrcOK n s) : Dr (yg.sh 12 code s) (n + 300) Lay := by
 unfold yg.sh
 obtain ⟨m, s1, e, hs1, hm0, hm1⟩ := room_ok hl h (m := 6) (by omega)
 rw [e]; simp only [Option.bind_some]
 rw [wrap_small (n := m + 3) (by omega) (by omega)]
 obtain ⟨i, s2, e, hs2, hi0, hi1⟩ := Yf hc hl (by omega) hs1 (m := m + 3) (by omega)
 rw [e]; simp only [Option.bind_some]
 obtain ⟨j, rfl⟩ : ∃ j : Nat, i = j := ⟨i.toNat, by omega⟩
 obtain ⟨l', s', e, q1, q3⟩ := layer_loop hc hl j 12 (n + 3) [] s2 (by omega) (by omega) Lay.nil hs2
 rw [e]; simp only [Option.bind_some]
 exact ⟨_, _, rfl, q3.mono (by omega), q1⟩
theorem GL {l : List Rec} (h : Sheet l) : ∀ x ∈ l, x.path.length ≤ 1048576 := fun x hx => yG (yr (h.ok x hx))
theorem look_pos {t : List Nd} {p : List UInt8} {x : Nd} (h : yb t p = some x) : 0 ≤ vm t p ∧ gt t (vm t p) = x ∧ inR (vm t p) t.length = true := by
 have h1 := (jh t p).1.2 (by rw [h]; simp)
 exact ⟨h1, (jh t p).2 x h, Jp (by omega)⟩
theorem stack_mk {L : List (List Rec)} (h : ∀ l ∈ L, Sheet l ∧ l.length ≤ 16) (h5 : L.length ≤ 5) : vi L = true := by
 simp only [vi, Bool.and_eq_true, decide_eq_true_eq, List.all_eq_true]
 exact ⟨h5, fun l hl => sheet_layer (h l hl).1 (h l hl).2⟩
theorem fitL_ok {l : List Rec} (h : l.length ≤ 16) : YW l = l ∧ VW l = 0 := by
 have : ¬ 16 < l.length := by omega
 simp [YW, VW, this]
theorem fitL_no {l : List Rec} (h : 16 < l.length) : YW l = [] ∧ VW l = 7 := by simp [YW, VW, h]
end Go.UL
