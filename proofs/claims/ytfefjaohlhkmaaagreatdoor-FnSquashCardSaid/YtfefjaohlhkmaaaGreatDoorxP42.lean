import Derived.Test.YtfefjaohlhkmaaaGreatDoorxP36
set_option linter.unusedVariables false
set_option linter.unusedSimpArgs false
namespace Go.UL
open Go.RowKit
structure SrcOK (n : Int) (s : DSrc) : Prop where
 p0 : 0 ≤ s.pos
 p1 : s.pos ≤ n
 s0 : 0 ≤ s.seed
 s1 : s.seed < 2147483648
theorem SrcOK.mono {n m : Int} {s : DSrc} (h : SrcOK n s) (k : n ≤ m) : SrcOK m s := ⟨h.p0, Int.le_trans h.p1 k, h.s0, h.s1⟩
def Dr {α : Type} (X : Option (α × DSrc)) (n : Int) (Q : α → Prop) : Prop := ∃ r s, X = some (r, s) ∧ SrcOK n s ∧ Q r
theorem Dr.mono {α : Type} {X : Option (α × DSrc)} {n m : Int} {Q R : α → Prop} (h : Dr X n Q) (k : n ≤ m) (hq : ∀ r, Q r → R r) : Dr X m R := by
 obtain ⟨r, s, h1, h2, h3⟩ := h
 exact ⟨r, s, h1, h2.mono k, hq r h3⟩
theorem YT {α : Type} [Inhabited α] {l : List α} {i : Int} (h : inR i l.length = true) : gt l i ∈ l := by
 obtain ⟨hj, hje⟩ := Yy h
 rw [← hje]; exact List.getElem_mem hj
theorem Qu {a n : Int} (ha : 0 ≤ a) (hn : 0 < n) : 0 ≤ a.tmod n ∧ a.tmod n < n := ⟨Int.tmod_nonneg _ ha, Int.tmod_lt_of_pos _ hn⟩
def vI.sh (a0 : List Int) : Option (DSrc) :=
 some (⟨0, (a0.length : Int).tmod 1000⟩ : DSrc)
theorem vI.eq (a0 : List Int) {r : DSrc} (H : vI.sh a0 = some r) : vI.sh a0 = some r := H
def vj.sh (a0 : List Int) (a1 : DSrc) : Option (Int × DSrc) :=
 bif (decide ((IntKind.wrap .i64 (a1.pos + 1)) ≤ (a0.length : Int))) then (bif inR (IntKind.wrap .i64 ((IntKind.wrap .i64 (a1.pos + 1)) - 1)) a0.length then (bif inR (IntKind.wrap .i64 ((IntKind.wrap .i64 (a1.pos + 1)) - 1)) a0.length then (some (IntKind.wrap .i64 (gt a0 (IntKind.wrap .i64 ((IntKind.wrap .i64 (a1.pos + 1)) - 1))), (⟨IntKind.wrap .i64 (a1.pos + 1), (IntKind.wrap .i64 ((IntKind.wrap .i64 ((IntKind.wrap .i64 (a1.seed * 31)) + (IntKind.wrap .i64 (gt a0 (IntKind.wrap .i64 ((IntKind.wrap .i64 (a1.pos + 1)) - 1)))))) + 7)).tmod 2147483648⟩ : DSrc))) else none) else none) else (bif (decide (3000 < (IntKind.wrap .i64 (a1.pos + 1)))) then (some (0, (⟨IntKind.wrap .i64 (a1.pos + 1), a1.seed⟩ : DSrc))) else (some ((IntKind.wrap .i64 (((IntKind.wrap .i64 ((IntKind.wrap .i64 (a1.seed * 1103515245)) + 12345)).tmod 2147483648).tdiv 65536)).tmod 256, (⟨IntKind.wrap .i64 (a1.pos + 1), (IntKind.wrap .i64 ((IntKind.wrap .i64 (a1.seed * 1103515245)) + 12345)).tmod 2147483648⟩ : DSrc))))
theorem vj.eq (a0 : List Int) (a1 : DSrc) {r : Int × DSrc} (H : vj.sh a0 a1 = some r) : vj.sh a0 a1 = some r := H
theorem Xu {code : List Int} (hc : ∀ x ∈ code, okB x) (hl : code.length ≤ 1048577) {n : Int} (hn : n ≤ 1000000000) {s : DSrc} (h : SrcOK n s) : Dr (vj.sh code s) (n + 1) (fun r => 0 ≤ r ∧ r ≤ 255) := by
 obtain ⟨h1, h2, h3, h4⟩ := h
 have e1 : IntKind.wrap .i64 (s.pos + 1) = s.pos + 1 := wrap_small (by omega) (by omega)
 have e2 : IntKind.wrap .i64 (s.pos + 1 - 1) = s.pos := by rw [show s.pos + 1 - 1 = s.pos by omega]; exact wrap_small (by omega) (by omega)
 unfold vj.sh
 simp only [e1, e2]
 by_cases hb : s.pos + 1 ≤ (code.length : Int)
 ·have hr : inR s.pos code.length = true := Q4 h1 (by omega)
  have hg := hc _ (YT hr)
  obtain ⟨g0, g1⟩ := hg
  have e3 : IntKind.wrap .i64 (gt code s.pos) = gt code s.pos := wrap_small (by omega) (by omega)
  have e4 : IntKind.wrap .i64 (s.seed * 31) = s.seed * 31 := wrap_small (by omega) (by omega)
  have e5 : IntKind.wrap .i64 (s.seed * 31 + gt code s.pos) = s.seed * 31 + gt code s.pos := wrap_small (by omega) (by omega)
  have e6 : IntKind.wrap .i64 (s.seed * 31 + gt code s.pos + 7) = s.seed * 31 + gt code s.pos + 7 := wrap_small (by omega) (by omega)
  simp only [e3, e4, e5, e6, hr, decide_eq_true hb, cond_true]
  have hm := Qu (a := s.seed * 31 + gt code s.pos + 7) (n := 2147483648) (by omega) (by decide)
  exact ⟨_, _, rfl, ⟨by simp; omega, by simp; omega, hm.1, hm.2⟩, g0, g1⟩
 ·simp only [decide_eq_false hb, cond_false]
  by_cases hb2 : 3000 < s.pos + 1
  ·simp only [decide_eq_true hb2, cond_true]
   exact ⟨_, _, rfl, ⟨by simp; omega, by simp; omega, h3, h4⟩, by simp, by simp⟩
  ·simp only [decide_eq_false hb2, cond_false]
   have e4 : IntKind.wrap .i64 (s.seed * 1103515245) = s.seed * 1103515245 := wrap_small (by omega) (by omega)
   have e5 : IntKind.wrap .i64 (s.seed * 1103515245 + 12345) = s.seed * 1103515245 + 12345 := wrap_small (by omega) (by omega)
   simp only [e4, e5]
   have hm := Qu (a := s.seed * 1103515245 + 12345) (n := 2147483648) (by omega) (by decide)
   have hd : 0 ≤ ((s.seed * 1103515245 + 12345).tmod 2147483648).tdiv 65536 := Int.tdiv_nonneg hm.1 (by decide)
   have hd2 : ((s.seed * 1103515245 + 12345).tmod 2147483648).tdiv 65536 ≤ (s.seed * 1103515245 + 12345).tmod 2147483648 := Int.tdiv_le_self _ hm.1
   rw [wrap_small (n := ((s.seed * 1103515245 + 12345).tmod 2147483648).tdiv 65536) (by omega) (by omega)]
   have hm2 := Qu (a := ((s.seed * 1103515245 + 12345).tmod 2147483648).tdiv 65536) (n := 256) hd (by decide)
   exact ⟨_, _, rfl, ⟨by simp; omega, by simp; omega, hm.1, hm.2⟩, hm2.1, by have := hm2.2; show ((s.seed * 1103515245 + 12345).tmod 2147483648 |>.tdiv 65536).tmod 256 ≤ 255; omega⟩
def vt.sh (a0 : List Int) (a1 : DSrc) (a2 : Int) : Option (Int × DSrc) :=
 bif (decide (a2 ≤ 1)) then (some (0, a1)) else (bif (decide (a2 ≤ 256)) then (((vj.sh a0 a1)).bind fun z3 => bif decide (¬ (a2 : Int) = 0) then (some (z3.1.tmod a2, z3.2)) else none) else (((vj.sh a0 a1)).bind fun z11 => ((vj.sh a0 z11.2)).bind fun z18 => ((vj.sh a0 z18.2)).bind fun z25 => bif decide (¬ (a2 : Int) = 0) then (some ((IntKind.wrap .i64 ((IntKind.wrap .i64 ((IntKind.wrap .i64 (z11.1 * 65536)) + (IntKind.wrap .i64 (z18.1 * 256)))) + z25.1)).tmod a2, z25.2)) else none))
theorem vt.eq (a0 : List Int) (a1 : DSrc) (a2 : Int) {r : Int × DSrc} (H : vt.sh a0 a1 a2 = some r) : vt.sh a0 a1 a2 = some r := H
theorem V9 {code : List Int} (hc : ∀ x ∈ code, okB x) (hl : code.length ≤ 1048577) {n : Int} (hn : n ≤ 900000000) {s : DSrc} (h : SrcOK n s) {m : Int} (hm : 0 < m) : Dr (vt.sh code s m) (n + 3) (fun r => 0 ≤ r ∧ r < m) := by
 unfold vt.sh
 by_cases h1 : m ≤ 1
 ·simp only [decide_eq_true h1, cond_true]
  exact ⟨_, _, rfl, h.mono (by omega), Int.le_refl _, hm⟩
 ·simp only [decide_eq_false h1, cond_false]
  have hne : decide (¬ (m : Int) = 0) = true := decide_eq_true (by omega)
  by_cases h2 : m ≤ 256
  ·simp only [decide_eq_true h2, cond_true]
   obtain ⟨r, s', e, hs, hr⟩ := Xu hc hl (by omega) h
   rw [e]
   simp only [Option.bind_some, hne, cond_true]
   have := Qu (a := r) (n := m) hr.1 hm
   exact ⟨_, _, rfl, hs.mono (by omega), this⟩
  ·simp only [decide_eq_false h2, cond_false]
   obtain ⟨r, s1, e, hs, hr0, hr1⟩ := Xu hc hl (by omega) h
   rw [e]; simp only [Option.bind_some]
   obtain ⟨r2, s2, e, hs, hp0, hp1⟩ := Xu hc hl (by omega) hs
   rw [e]; simp only [Option.bind_some]
   obtain ⟨r3, s3, e, hs, hq0, hq1⟩ := Xu hc hl (by omega) hs
   rw [e]; simp only [Option.bind_some, hne, cond_true]
   rw [wrap_small (n := r * 65536) (by omega) (by omega), wrap_small (n := r2 * 256) (by omega) (by omega), wrap_small (n := r * 65536 + r2 * 256) (by omega) (by omega), wrap_small (n := r * 65536 + r2 * 256 + r3) (by omega) (by omega)]
   have := Qu (a := r * 65536 + r2 * 256 + r3) (n := m) (by omega) hm
   exact ⟨_, _, rfl, hs.mono (by omega), this⟩
def y0.sh (a0 : List Int) (a1 : DSrc) (a2 : Int) : Option (Bool × DSrc) :=
 ((vt.sh a0 a1 a2)).bind fun z1 => some ((decide (z1.1 = (IntKind.wrap .i64 (a2 - 1)))), z1.2)
theorem y0.eq (a0 : List Int) (a1 : DSrc) (a2 : Int) {r : Bool × DSrc} (H : y0.sh a0 a1 a2 = some r) : y0.sh a0 a1 a2 = some r := H
theorem chance_ok {code : List Int} (hc : ∀ x ∈ code, okB x) (hl : code.length ≤ 1048577) {n : Int} (hn : n ≤ 900000000) {s : DSrc} (h : SrcOK n s) {m : Int} (hm : 0 < m) : Dr (y0.sh code s m) (n + 3) (fun _ => True) := by
 unfold y0.sh
 obtain ⟨r, s', e, hs, _⟩ := V9 hc hl hn h hm
 rw [e]; simp only [Option.bind_some]
 exact ⟨_, _, rfl, hs, trivial⟩
def jx.sh (a0 : List Int) (a1 : DSrc) (a2 : Int) : Option (Int × DSrc) :=
 some ((if (a2 < (IntKind.wrap .i64 (1 + (IntKind.wrap .i64 ((a0.length : Int).tdiv 12)))) : Prop) then a2 else (IntKind.wrap .i64 (1 + (IntKind.wrap .i64 ((a0.length : Int).tdiv 12))))), a1)
theorem jx.eq (a0 : List Int) (a1 : DSrc) (a2 : Int) {r : Int × DSrc} (H : jx.sh a0 a1 a2 = some r) : jx.sh a0 a1 a2 = some r := H
theorem room_ok {code : List Int} (hl : code.length ≤ 1048577) {n : Int} {s : DSrc} (h : SrcOK n s) {m : Int} (hm : 0 < m) : Dr (jx.sh code s m) n (fun r => 0 < r ∧ r ≤ m) := by
 unfold jx.sh
 have hd : 0 ≤ (code.length : Int).tdiv 12 := Int.tdiv_nonneg (by omega) (by decide)
 have hd2 : (code.length : Int).tdiv 12 ≤ (code.length : Int) := Int.tdiv_le_self _ (by omega)
 rw [wrap_small (n := (code.length : Int).tdiv 12) (by omega) (by omega), wrap_small (n := 1 + (code.length : Int).tdiv 12) (by omega) (by omega)]
 refine ⟨_, _, rfl, h, ?_, ?_⟩
 ·show 0 < (if m < 1 + (code.length : Int).tdiv 12 then m else 1 + (code.length : Int).tdiv 12); split <;> omega
 ·show (if m < 1 + (code.length : Int).tdiv 12 then m else 1 + (code.length : Int).tdiv 12) ≤ m; split <;> omega
def jh.sh (a0 : List Int) (a1 : DSrc) (a2 : List (List UInt8)) : Option (List UInt8 × DSrc) :=
 bif (decide ((a2.length : Int) = 0)) then (some (([] : List UInt8), a1)) else (((vt.sh a0 a1 (a2.length : Int))).bind fun z2 => bif inR z2.1 a2.length then (some (gt a2 z2.1, z2.2)) else none)
theorem jh.eq (a0 : List Int) (a1 : DSrc) (a2 : List (List UInt8)) {r : List UInt8 × DSrc} (H : jh.sh a0 a1 a2 = some r) : jh.sh a0 a1 a2 = some r := H
theorem pick_ok {code : List Int} (hc : ∀ x ∈ code, okB x) (hl : code.length ≤ 1048577) {n : Int} (hn : n ≤ 900000000) {s : DSrc} (h : SrcOK n s) {l : List (List UInt8)} (h0 : 0 < l.length) : Dr (jh.sh code s l) (n + 3) (fun r => r ∈ l) := by
 unfold jh.sh
 have hne : decide ((l.length : Int) = 0) = false := decide_eq_false (by omega)
 obtain ⟨r, s', e, hs, hr0, hr1⟩ := V9 hc hl hn h (m := (l.length : Int)) (by omega)
 rw [e, hne]; simp only [cond_false, Option.bind_some]
 have hr : inR r l.length = true := Q4 hr0 hr1
 simp only [hr, cond_true]
 exact ⟨_, _, rfl, hs, YT hr⟩
def yy.lit1 : List (List UInt8) := [([97] : List UInt8), ([98] : List UInt8), ([99] : List UInt8), ([97, 46, 98] : List UInt8), ([120] : List UInt8)]
def yy.sh (a0 : List Int) (a1 : DSrc) : Option (List UInt8 × DSrc) :=
 ((jh.sh a0 a1 yy.lit1)).bind fun z7 => some (z7.1, z7.2)
theorem yy.eq (a0 : List Int) (a1 : DSrc) {r : List UInt8 × DSrc} (H : yy.sh a0 a1 = some r) : yy.sh a0 a1 = some r := H
def XL (t : List UInt8) : Prop := jB t = true ∧ t.length ≤ 3 ∧ ∀ b ∈ t, bn b ≠ 47
theorem lit_part : ∀ t ∈ yy.lit1, XL t := by
 intro t ht
 simp only [yy.lit1, List.mem_cons, List.not_mem_nil, or_false] at ht
 rcases ht with rfl | rfl | rfl | rfl | rfl <;> exact ⟨by decide, by decide, by decide⟩
theorem part_ok {code : List Int} (hc : ∀ x ∈ code, okB x) (hl : code.length ≤ 1048577) {n : Int} (hn : n ≤ 900000000) {s : DSrc} (h : SrcOK n s) : Dr (yy.sh code s) (n + 3) XL := by
 unfold yy.sh
 obtain ⟨r, s', e, hs, hr⟩ := pick_ok hc hl hn h (l := yy.lit1) (by decide)
 rw [e]; simp only [Option.bind_some]
 exact ⟨_, _, rfl, hs, lit_part _ hr⟩
def yx.b1 (a0 : List Int) : List UInt8 × Int × DSrc → Option (Step (List UInt8 × DSrc) (List UInt8 × Int × DSrc) (List UInt8 × DSrc)) :=
 fun q => match q with
 | (x3_15, x4_16, y17) => bif (decide (0 < x4_16)) then (((yy.sh a0 y17)).bind fun z39 => bif decide (([47] : List UInt8).length + z39.1.length ≤ 9223372036854775807) then (bif decide (x3_15.length + (([47] : List UInt8) ++ z39.1).length ≤ 9223372036854775807) then (some (.nxt (x3_15 ++ (([47] : List UInt8) ++ z39.1), IntKind.wrap .i64 (x4_16 - 1), z39.2))) else none) else none) else (some (.brk (x3_15, y17)))
def yx.sh (k : Nat) (a0 : List Int) (a1 : DSrc) : Option (List UInt8 × DSrc) :=
  ((yy.sh a0 a1)).bind fun z1 => ((vt.sh a0 z1.2 3)).bind fun z8 => (qp (yx.b1 a0) k (z1.1, z8.1, z8.2)).bind fun z => match z with | .inl t => some t | .inr (x3_21, y22) => some (x3_21, y22)
theorem yx.eq (a0 : List Int) (a1 : DSrc) {r : List UInt8 × DSrc} (H : yx.sh 4 a0 a1 = some r) : ∃ k, yx.sh k a0 a1 = some r := ⟨4, H⟩
def YU (m : Nat) (t : List UInt8) : Prop := ∃ l : List (List UInt8), l ≠ [] ∧ l.length ≤ m ∧ (∀ x ∈ l, XL x) ∧ t = Qg l
theorem YU.len {m : Nat} {t : List UInt8} (h : YU m t) : t.length ≤ 4 * m := by
 obtain ⟨l, h1, h2, h3, rfl⟩ := h
 have : ∀ l : List (List UInt8), (∀ x ∈ l, XL x) → (Qg l).length ≤ 4 * l.length := by
  intro l
  induction l with
  | nil => intro _; simp [Qg]
  | cons x l ih =>
   intro hx
   have h4 := ih fun y hy => hx y (by simp [hy])
   have h5 := (hx x (by simp)).2.1
   by_cases hl : l = []
   ·subst hl; simp [Qg]; omega
   ·rw [V5 x hl]; simp; omega
 have := this l h3
 omega
theorem YU.parts {m : Nat} {t : List UInt8} (h : YU m t) : (cut 47 t).length ≤ m ∧ ∀ x ∈ cut 47 t, XL x := by
 obtain ⟨l, h1, h2, h3, rfl⟩ := h
 rw [GW h1 fun x hx => (h3 x hx).2.2]
 exact ⟨h2, h3⟩
theorem YU.ok {t : List UInt8} (h : YU 3 t) : qH t = true := by
 have h1 := h.len
 obtain ⟨h2, h3⟩ := h.parts
 simp only [qH, Bool.and_eq_true, decide_eq_true_eq, List.all_eq_true]
 exact ⟨by omega, by omega, fun x hx => (h3 x hx).1⟩
theorem path_loop {code : List Int} (hc : ∀ x ∈ code, okB x) (hl : code.length ≤ 1048577) : ∀ (i : Nat) (k : Nat) (m : Nat) (n : Int) (t : List UInt8) (s : DSrc), n + 3 * i ≤ 800000000 → i < k → m + i ≤ 3 → YU m t → SrcOK n s →
  ∃ t' s', qp (yx.b1 code) k (t, (i : Int), s) = some (.inr (t', s')) ∧ YU (m + i) t' ∧ SrcOK (n + 3 * i) s' := by
 intro i
 induction i with
 | zero =>
  intro k m n t s hn hk hm ht hs
  obtain ⟨k, rfl⟩ : ∃ k', k = k' + 1 := ⟨k - 1, by omega⟩
  exact ⟨t, s, by simp [qp, yx.b1], by simpa using ht, hs.mono (by omega)⟩
 | succ i ih =>
  intro k m n t s hn hk hm ht hs
  obtain ⟨k, rfl⟩ : ∃ k', k = k' + 1 := ⟨k - 1, by omega⟩
  obtain ⟨r, s1, e, hs1, hr⟩ := part_ok hc hl (by omega) hs
  have hlt := ht.len
  have hlr := hr.2.1
  obtain ⟨l, hl1, hl2, hl3, rfl⟩ := ht
  have hnew : YU (m + 1) (Qg l ++ ([47] ++ r)) := by
   refine ⟨l ++ [r], by simp, by simp; omega, fun x hx => ?_, ?_⟩
   ·rcases List.mem_append.1 hx with h | h
    ·exact hl3 x h
    ·simp at h; subst h; exact hr
   ·rw [Gu r hl1]; rfl
  obtain ⟨t', s', e2, h2, h3⟩ := ih k (m + 1) (n + 3) _ s1 (by omega) (by omega) (by omega) hnew hs1
  refine ⟨t', s', ?_, by rw [show m + (i + 1) = m + 1 + i by omega]; exact h2, h3.mono (by omega)⟩
  have hd : decide ((0 : Int) < ((i + 1 : Nat) : Int)) = true := decide_eq_true (by omega)
  have hw : IntKind.wrap .i64 (((i + 1 : Nat) : Int) - 1) = (i : Int) := by rw [show ((i + 1 : Nat) : Int) - 1 = (i : Int) by omega]; exact wrap_small (by omega) (by omega)
  have hd1 : decide (([47] : List UInt8).length + r.length ≤ 9223372036854775807) = true := decide_eq_true (by simp; omega)
  have hd2 : decide ((Qg l).length + (([47] : List UInt8) ++ r).length ≤ 9223372036854775807) = true := decide_eq_true (by simp; omega)
  rw [qp]
  simp only [yx.b1, hd, cond_true, e, Option.bind_some, hd1, hd2, hw]
  exact e2
theorem path_ok {code : List Int} (hc : ∀ x ∈ code, okB x) (hl : code.length ≤ 1048577) {n : Int} (hn : n ≤ 700000000) {s : DSrc} (h : SrcOK n s) : Dr (yx.sh 4 code s) (n + 12) (YU 3) := by
 unfold yx.sh
 obtain ⟨r, s1, e, hs1, hr⟩ := part_ok hc hl (by omega) h
 rw [e]; simp only [Option.bind_some]
 obtain ⟨i, s2, e, hs2, hi0, hi1⟩ := V9 hc hl (by omega) hs1 (m := 3) (by omega)
 rw [e]; simp only [Option.bind_some]
 obtain ⟨j, rfl⟩ : ∃ j : Nat, i = j := ⟨i.toNat, by omega⟩
 obtain ⟨t', s', e2, h2, h3⟩ := path_loop hc hl j 4 1 (n + 6) r s2 (by omega) (by omega) (by omega) ⟨[r], by simp, by simp, by simpa using hr, rfl⟩ (hs2.mono (by omega))
 rw [e2]
 simp only [Option.bind_some]
 obtain ⟨l, h4, h5, h6⟩ := h2
 exact ⟨_, _, rfl, h3.mono (by omega), l, h4, by omega, h6⟩
def yP.lit1 : List (List UInt8) := [([] : List UInt8), ([111, 110, 101] : List UInt8), ([116, 119, 111] : List UInt8), ([120, 0, 121] : List UInt8), ([108, 111, 110, 103, 32, 108, 111, 110, 103, 32, 98, 111, 100, 121, 32, 104, 101, 114, 101, 33] : List UInt8)]
def yP.sh (a0 : List Int) (a1 : DSrc) : Option (List UInt8 × DSrc) :=
 ((jh.sh a0 a1 yP.lit1)).bind fun z7 => some (z7.1, z7.2)
theorem yP.eq (a0 : List Int) (a1 : DSrc) {r : List UInt8 × DSrc} (H : yP.sh a0 a1 = some r) : yP.sh a0 a1 = some r := H
theorem body_ok {code : List Int} (hc : ∀ x ∈ code, okB x) (hl : code.length ≤ 1048577) {n : Int} (hn : n ≤ 900000000) {s : DSrc} (h : SrcOK n s) : Dr (yP.sh code s) (n + 3) (fun r => r.length ≤ 20) := by
 unfold yP.sh
 obtain ⟨r, s', e, hs, hr⟩ := pick_ok hc hl hn h (l := yP.lit1) (by decide)
 rw [e]; simp only [Option.bind_some]
 refine ⟨_, _, rfl, hs, ?_⟩
 simp only [yP.lit1, List.mem_cons, List.not_mem_nil, or_false] at hr
 rcases hr with rfl | rfl | rfl | rfl | rfl <;> decide
def yv.sh (a0 : List Int) (a1 : DSrc) (a2 : List UInt8) : Option (Rec × DSrc) :=
  ((vt.sh a0 a1 8)).bind fun z7 => ((bif (decide (z7.1 = 0)) then (some (.inr (decide (z7.1 = 0)))) else (bif (decide (z7.1 = 1)) then (some (.inr (decide (z7.1 = 1)))) else (some (.inr (decide (z7.1 = 2))))) : Option (((Rec × DSrc) ⊕ (DSrc)) ⊕ (Bool))).bind fun z => match z with | .inl t => some t | .inr x7_21 => bif x7_21 then (((yP.sh a0 z7.2)).bind fun z33 => ((vt.sh a0 z33.2 3)).bind fun z46 => bif inR z46.1 ([420, 0, 511] : List Int).length then (some (.inl ((⟨1, a2, z33.1, gt ([420, 0, 511] : List Int) z46.1, false⟩ : Rec), z46.2))) else none) else (bif (decide (z7.1 = 3)) then (((jh.sh a0 z7.2 ([([97] : List UInt8), ([46, 46, 47, 98] : List UInt8), ([47] : List UInt8)] : List (List UInt8)))).bind fun z66 => some (.inl ((⟨2, a2, z66.1, 0, false⟩ : Rec), z66.2))) else (bif (decide (z7.1 = 4)) then (bif (decide (z7.1 = 4)) then (some (.inl ((⟨4, a2, ([] : List UInt8), 0, false⟩ : Rec), z7.2))) else (some (.inr z7.2))) else (bif (decide (z7.1 = 5)) then (some (.inl ((⟨4, a2, ([] : List UInt8), 0, false⟩ : Rec), z7.2))) else (some (.inr z7.2))))) : Option ((Rec × DSrc) ⊕ (DSrc))).bind fun z => match z with | .inl t => some t | .inr y17 => ((vt.sh a0 y17 2)).bind fun z98 => bif inR z98.1 ([493, 448] : List Int).length then (((y0.sh a0 z98.2 3)).bind fun z108 => some ((⟨3, a2, ([] : List UInt8), gt ([493, 448] : List Int) z98.1, z108.1⟩ : Rec), z108.2)) else none
theorem yv.eq (a0 : List Int) (a1 : DSrc) (a2 : List UInt8) {r : Rec × DSrc} (H : yv.sh a0 a1 a2 = some r) : yv.sh a0 a1 a2 = some r := H
theorem Y3 {k m : Int} {p b : List UInt8} {o : Bool} (h1 : within k 1 4 = true) (h2 : qH p = true) (h3 : (decide (20 < b.length) || (decide (k = 2) && decide (b = []))) = false) (h4 : (((decide (k = 3) || decide (k = 4)) && !decide (b = [])) || (!decide (k = 3) && o)) = false)
  (h5 : (!within m 0 511 || ((decide (k = 2) || decide (k = 4)) && !decide (m = 0))) = false) : qx ⟨k, p, b, m, o⟩ = 0 := (Qe ⟨k, p, b, m, o⟩).2 ⟨h1, h2, h3, h4, h5⟩
theorem GH {code : List Int} (hc : ∀ x ∈ code, okB x) (hl : code.length ≤ 1048577) {n : Int} (hn : n ≤ 700000000) {s : DSrc} (h : SrcOK n s) {p : List UInt8} (hp : qH p = true) : Dr (yv.sh code s p) (n + 12) (fun r => qx r = 0 ∧ r.path = p) := by
  unfold yv.sh
  obtain ⟨i, s1, e, hs1, hi0, hi1⟩ := V9 hc hl (by omega) h (m := 8) (by omega)
  rw [e]; simp only [Option.bind_some]
  have hcase : i = 0 ∨ i = 1 ∨ i = 2 ∨ i = 3 ∨ i = 4 ∨ i = 5 ∨ i = 6 ∨ i = 7 := by omega
  have file : ∀ F : DSrc → Option (Rec × DSrc), Dr ((((yP.sh code s1)).bind fun z33 => ((vt.sh code z33.2 3)).bind fun z46 => bif inR z46.1 ([420, 0, 511] : List Int).length then (some (Sum.inl ((⟨1, p, z33.1, gt ([420, 0, 511] : List Int) z46.1, false⟩ : Rec), z46.2) : (Rec × DSrc) ⊕ DSrc)) else none).bind fun z => match z with | .inl t => some t | .inr y => F y) (n + 12) (fun r => qx r = 0 ∧ r.path = p) := by
    intro F
    obtain ⟨b, s2, e, hs2, hb⟩ := body_ok hc hl (by omega) hs1
    rw [e]; simp only [Option.bind_some]
    obtain ⟨j, s3, e, hs3, hj0, hj1⟩ := V9 hc hl (by omega) hs2 (m := 3) (by omega)
    rw [e]; simp only [Option.bind_some]
    have hj : inR j ([420, 0, 511] : List Int).length = true := Q4 hj0 (by simpa using hj1)
    simp only [hj, cond_true, Option.bind_some]
    refine ⟨_, _, rfl, hs3.mono (by omega), ?_, rfl⟩
    have hm := YT hj
    have hmm : within (gt ([420, 0, 511] : List Int) j) 0 511 = true := by
      have : ∀ x ∈ ([420, 0, 511] : List Int), within x 0 511 = true := by decide
      exact this _ hm
    exact Y3 (by decide) hp (by simp; omega) (by simp) (by simp [hmm])
  have white : qx ⟨4, p, [], 0, false⟩ = 0 := Y3 (by decide) hp (by simp) (by simp) (by decide)
  have dir : ∀ s2 : DSrc, SrcOK (n + 3) s2 → Dr (((vt.sh code s2 2)).bind fun z98 => bif inR z98.1 ([493, 448] : List Int).length then (((y0.sh code z98.2 3)).bind fun z108 => some ((⟨3, p, ([] : List UInt8), gt ([493, 448] : List Int) z98.1, z108.1⟩ : Rec), z108.2)) else none) (n + 12) (fun r => qx r = 0 ∧ r.path = p) := by
    intro s2 hs2
    obtain ⟨j, s3, e, hs3, hj0, hj1⟩ := V9 hc hl (by omega) hs2 (m := 2) (by omega)
    rw [e]; simp only [Option.bind_some]
    have hj : inR j ([493, 448] : List Int).length = true := Q4 hj0 (by simpa using hj1)
    simp only [hj, cond_true]
    obtain ⟨b, s4, e, hs4, _⟩ := chance_ok hc hl (by omega) hs3 (m := 3) (by omega)
    rw [e]; simp only [Option.bind_some]
    refine ⟨_, _, rfl, hs4.mono (by omega), ?_, rfl⟩
    have hm := YT hj
    have hmm : within (gt ([493, 448] : List Int) j) 0 511 = true := by
      have : ∀ x ∈ ([493, 448] : List Int), within x 0 511 = true := by decide
      exact this _ hm
    exact Y3 (by decide) hp (by simp) (by simp) (by simp [hmm])
  rcases hcase with rfl | rfl | rfl | rfl | rfl | rfl | rfl | rfl
  · simp
    exact file _
  · simp
    exact file _
  · simp
    exact file _
  · simp
    obtain ⟨b, s2, e, hs2, hb⟩ := pick_ok hc hl (by omega) hs1 (l := ([([97] : List UInt8), ([46, 46, 47, 98] : List UInt8), ([47] : List UInt8)] : List (List UInt8))) (by decide)
    rw [e]; simp only [Option.bind_some]
    refine ⟨_, _, rfl, hs2.mono (by omega), ?_, rfl⟩
    have hb1 : (decide (20 < b.length) || (decide ((2 : Int) = 2) && decide (b = []))) = false := by
      have : ∀ x ∈ ([([97] : List UInt8), ([46, 46, 47, 98] : List UInt8), ([47] : List UInt8)] : List (List UInt8)), (decide (20 < x.length) || (decide ((2 : Int) = 2) && decide (x = []))) = false := by decide
      exact this _ hb
    exact Y3 (by decide) hp hb1 (by simp) (by decide)
  · simp
    exact ⟨_, _, rfl, hs1.mono (by omega), white, rfl⟩
  · simp
    exact ⟨_, _, rfl, hs1.mono (by omega), white, rfl⟩
  · have := dir s1 hs1
    simpa using this
  · have := dir s1 hs1
    simpa using this
theorem GR (code : List Int) : ∃ s, vI.sh code = some s ∧ SrcOK 0 s := by
 have := Qu (a := (code.length : Int)) (n := 1000) (by omega) (by decide)
 exact ⟨_, rfl, ⟨by simp, by simp, this.1, by have := this.2; show (code.length : Int).tmod 1000 < 2147483648; omega⟩⟩
def jZ.sh (a0 : List Int) (a1 : Int) (a2 : Int) : Option (Int) :=
 bif (decide (a2 ≤ 1)) then (some 0) else (bif (decide ((a0.length : Int) = 0)) then (bif decide (¬ (a2 : Int) = 0) then (some ((IntKind.wrap .i64 (a1 * 7)).tmod a2)) else none) else (bif decide (¬ ((a0.length : Int) : Int) = 0) then (bif inR (a1.tmod (a0.length : Int)) a0.length then (bif decide (¬ ((a0.length : Int) : Int) = 0) then (bif inR ((IntKind.wrap .i64 (a1 + 1)).tmod (a0.length : Int)) a0.length then (bif decide (¬ ((a0.length : Int) : Int) = 0) then (bif decide (¬ (a2 : Int) = 0) then (some ((IntKind.wrap .i64 ((IntKind.wrap .i64 ((IntKind.wrap .i64 ((IntKind.wrap .i64 (gt a0 (a1.tmod (a0.length : Int)))) * 31)) + (IntKind.wrap .i64 (gt a0 ((IntKind.wrap .i64 (a1 + 1)).tmod (a0.length : Int)))))) + (IntKind.wrap .i64 (a1.tdiv (a0.length : Int))))).tmod a2)) else none) else none) else none) else none) else none) else none))
theorem jZ.eq (a0 : List Int) (a1 a2 : Int) {r : Int} (H : jZ.sh a0 a1 a2 = some r) : jZ.sh a0 a1 a2 = some r := H
theorem at_ok {more : List Int} (hc : ∀ x ∈ more, okB x) (hl : more.length ≤ 1048576) {i n : Int} (hi : 0 ≤ i) (hi2 : i ≤ 1000000) (hn : 0 < n) : ∃ r, jZ.sh more i n = some r ∧ 0 ≤ r ∧ r < n := by
 unfold jZ.sh
 by_cases h1 : n ≤ 1
 ·simp only [decide_eq_true h1, cond_true]; exact ⟨0, rfl, by omega, by omega⟩
 ·have hne : decide (¬ (n : Int) = 0) = true := decide_eq_true (by omega)
  simp only [decide_eq_false h1, cond_false, hne, cond_true]
  by_cases h0 : (more.length : Int) = 0
  ·simp only [decide_eq_true h0, cond_true]
   rw [wrap_small (n := i * 7) (by omega) (by omega)]
   exact ⟨_, rfl, Qu (by omega) hn⟩
  ·have hne2 : decide (¬ ((more.length : Int) : Int) = 0) = true := decide_eq_true (by omega)
   have m1 := Qu (a := i) (n := (more.length : Int)) hi (by omega)
   have m2 := Qu (a := i + 1) (n := (more.length : Int)) (by omega) (by omega)
   have r1 : inR (i.tmod (more.length : Int)) more.length = true := Q4 m1.1 m1.2
   have r2 : inR ((i + 1).tmod (more.length : Int)) more.length = true := Q4 m2.1 m2.2
   have b1 := hc _ (YT r1)
   have b2 := hc _ (YT r2)
   obtain ⟨b10, b11⟩ := b1
   obtain ⟨b20, b21⟩ := b2
   have hd : 0 ≤ i.tdiv (more.length : Int) := Int.tdiv_nonneg hi (by omega)
   have hd2 : i.tdiv (more.length : Int) ≤ i := Int.tdiv_le_self _ hi
   have e0 : IntKind.wrap .i64 (i + 1) = i + 1 := wrap_small (by omega) (by omega)
   simp only [decide_eq_false h0, cond_false, hne2, cond_true, r1, e0, r2]
   rw [wrap_small (n := gt more (i.tmod (more.length : Int))) (by omega) (by omega), wrap_small (n := gt more ((i + 1).tmod (more.length : Int))) (by omega) (by omega), wrap_small (n := gt more (i.tmod (more.length : Int)) * 31) (by omega) (by omega),
    wrap_small (n := gt more (i.tmod (more.length : Int)) * 31 + gt more ((i + 1).tmod (more.length : Int))) (by omega) (by omega), wrap_small (n := i.tdiv (more.length : Int)) (by omega) (by omega), wrap_small (n := gt more (i.tmod (more.length : Int)) * 31 + gt more ((i + 1).tmod (more.length : Int)) + i.tdiv (more.length : Int)) (by omega) (by omega)]
   exact ⟨_, rfl, Qu (by omega) hn⟩
def Qn.sh (a0 : Int) (a1 : List Int) : Option (List Int) :=
 bif decide ((([IntKind.wrap .u8 a0] : List Int).length + a1.length) * 1 ≤ 140737488355328) then (some (([IntKind.wrap .u8 a0] : List Int) ++ a1)) else none
theorem Qn.eq (a0 : Int) (a1 : List Int) {r : List Int} (H : Qn.sh a0 a1 = some r) : Qn.sh a0 a1 = some r := H
theorem mix_ok {more : List Int} (hc : ∀ x ∈ more, okB x) (hl : more.length ≤ 1048576) {i : Int} (hi : 0 ≤ i) (hi2 : i ≤ 255) : ∃ l, Qn.sh i more = some l ∧ (∀ x ∈ l, okB x) ∧ l.length ≤ 1048577 := by
 have e : IntKind.wrap .u8 i = i := by
  have h1 : (i : Int) % 256 = i := Int.emod_eq_of_lt hi (by omega)
  simpa [IntKind.wrap, IntKind.bits, IntKind.signed] using h1
 unfold Qn.sh
 have hd : decide ((([i] : List Int).length + more.length) * 1 ≤ 140737488355328) = true := decide_eq_true (by simp; omega)
 simp only [e, hd, cond_true]
 refine ⟨_, rfl, fun x hx => ?_, by simp; omega⟩
 rcases List.mem_append.1 hx with h | h
 ·simp at h; subst h; exact ⟨hi, hi2⟩
 ·exact hc x h
theorem guard_of (a0 a1 : List Int) : (bif decide ((1048576 : Int) < (a0.length : Int)) then some true else (some (decide ((1048576 : Int) < (a1.length : Int))))) = some true ∨
  ((bif decide ((1048576 : Int) < (a0.length : Int)) then some true else (some (decide ((1048576 : Int) < (a1.length : Int))))) = some false ∧ a0.length ≤ 1048576 ∧ a1.length ≤ 1048576) := by
 by_cases h0 : (1048576 : Int) < (a0.length : Int)
 ·left; rw [decide_eq_true h0]; rfl
 ·by_cases h1 : (1048576 : Int) < (a1.length : Int)
  ·left; rw [decide_eq_false h0, decide_eq_true h1]; rfl
  ·right; rw [decide_eq_false h0, decide_eq_false h1]; exact ⟨rfl, by omega, by omega⟩
theorem same_loop {α : Type} [DecidableEq α] [Inhabited α] (a b : List α) (hl : a.length = b.length) (B : Int → Option (Step Bool Int Unit)) (hb : ∀ i : Nat, i < a.length → B i = some (sc (if !decide (a.getD i default = b.getD i default) then some false else none : Option Bool) ((i : Int) + 1))) (hn : B a.length = some (.brk ())) :
    (qp B (a.length + 1) 0).bind (fun z => match z with | .inl t => some t | .inr _ => some true) = some (decide (a = b)) := by
  rw [jw a.length _ hb hn (a.length + 1) (by omega), Xc a b hl]
  by_cases he : a = b <;> simp [he]
theorem same_sh {α : Type} [DecidableEq α] [Inhabited α] (a b : List α) (h : a.length ≤ 4611686018427387904) (B : Int → Option (Step Bool Int Unit)) (hB : ∀ i : Nat, i < a.length → i < b.length → B i = bif (!decide (a.getD i default = b.getD i default)) then some (.ret false) else some (.nxt ((i : Int) + 1))) (hn : B a.length = some (.brk ())) :
    (bif (!decide ((a.length : Int) = (b.length : Int))) then some false else ((qp B (a.length + 1) 0).bind fun z => match z with | .inl t => some t | .inr _ => some true)) = some (decide (a = b)) := by
  by_cases hl : a.length = b.length
  · have : (a.length : Int) = (b.length : Int) := by omega
    rw [decide_eq_true this]
    simp only [Bool.not_true, cond_false]
    refine same_loop a b hl B (fun i hi => ?_) hn
    rw [hB i hi (by omega)]
    by_cases he : a.getD i default = b.getD i default
    · simp only [he, decide_true, Bool.not_true, Bool.false_eq_true, if_false, cond_false, Y9]
    · simp only [he, decide_false, Bool.not_false, if_true, cond_true, Jc]
  · have h1 : ¬ (a.length : Int) = (b.length : Int) := by omega
    have h2 : a ≠ b := fun e => hl (by rw [e])
    simp [h1, h2]
def yN.b1 (a0 : List (List UInt8)) (a1 : List (List UInt8)) : Int → Option (Step (Bool) (Int) (Unit)) :=
 fun x5_2 => bif (decide (x5_2 < (a0.length : Int))) then (bif inR x5_2 a0.length then (bif inR x5_2 a1.length then (bif (!decide ((gt a0 x5_2) = (gt a1 x5_2))) then (some (.ret false)) else (some (.nxt (IntKind.wrap .i64 (x5_2 + 1))))) else none) else none) else (some (.brk ()))
def yN.sh (k : Nat) (a0 : List (List UInt8)) (a1 : List (List UInt8)) : Option (Bool) :=
  bif (!decide ((a0.length : Int) = (a1.length : Int))) then (some false) else ((qp (yN.b1 a0 a1) k 0).bind fun z => match z with | .inl t => some t | .inr _ => some true)
theorem yN.eq (a0 a1 : List (List UInt8)) (h : a0.length ≤ 4611686018427387904) : ∃ k, yN.sh k a0 a1 = some (decide (a0 = a1)) := by
 refine ⟨a0.length + 1, same_sh a0 a1 h _ (fun i hi hi2 => ?_) (by simp [yN.b1])⟩
 simp only [yN.b1, yY, hi, decide_true, cond_true, qV hi, qV hi2, vZ, vr hi h]
 rfl
def vN.b1 (a0 : List Rec) (a1 : List Rec) : Int → Option (Step (Bool) (Int) (Unit)) :=
 fun x5_2 => bif (decide (x5_2 < (a0.length : Int))) then (bif inR x5_2 a0.length then (bif inR x5_2 a1.length then (bif (!decide ((gt a0 x5_2) = (gt a1 x5_2))) then (some (.ret false)) else (some (.nxt (IntKind.wrap .i64 (x5_2 + 1))))) else none) else none) else (some (.brk ()))
def vN.sh (k : Nat) (a0 : List Rec) (a1 : List Rec) : Option (Bool) :=
  bif (!decide ((a0.length : Int) = (a1.length : Int))) then (some false) else ((qp (vN.b1 a0 a1) k 0).bind fun z => match z with | .inl t => some t | .inr _ => some true)
theorem vN.eq (a0 a1 : List Rec) (h : a0.length ≤ 4611686018427387904) : ∃ k, vN.sh k a0 a1 = some (decide (a0 = a1)) := by
 refine ⟨a0.length + 1, same_sh a0 a1 h _ (fun i hi hi2 => ?_) (by simp [vN.b1])⟩
 simp only [vN.b1, yY, hi, decide_true, cond_true, qV hi, qV hi2, vZ, vr hi h]
 rfl
def yw.b1 (a0 : List Nd) (a1 : List Nd) : Int → Option (Step (Bool) (Int) (Unit)) :=
 fun x5_2 => bif (decide (x5_2 < (a0.length : Int))) then (bif inR x5_2 a0.length then (bif inR x5_2 a1.length then (bif (!decide ((gt a0 x5_2) = (gt a1 x5_2))) then (some (.ret false)) else (some (.nxt (IntKind.wrap .i64 (x5_2 + 1))))) else none) else none) else (some (.brk ()))
def yw.sh (k : Nat) (a0 : List Nd) (a1 : List Nd) : Option (Bool) :=
  bif (!decide ((a0.length : Int) = (a1.length : Int))) then (some false) else ((qp (yw.b1 a0 a1) k 0).bind fun z => match z with | .inl t => some t | .inr _ => some true)
theorem yw.eq (a0 a1 : List Nd) (h : a0.length ≤ 4611686018427387904) : ∃ k, yw.sh k a0 a1 = some (decide (a0 = a1)) := by
 refine ⟨a0.length + 1, same_sh a0 a1 h _ (fun i hi hi2 => ?_) (by simp [yw.b1])⟩
 simp only [yw.b1, yY, hi, decide_true, cond_true, qV hi, qV hi2, vZ, vr hi h]
 rfl
def VT (n : Nat) (l : List Rec) (r : Rec) : Bool := jm l && qH r.path && decide ((cut 47 r.path).length ≤ n + 1) && decide (l.length ≤ 100)
def putQ : Nat → List Rec → Rec → Bool
 | 0, _, _ => false
 | n + 1, l, r => VT n l r
def putG : Nat → List Rec → Rec → List Rec
 | 0, _, _ => []
 | n + 1, l, r => Qy n l r
theorem putOKb_of {n : Nat} {l : List Rec} {r : Rec} (h : VT n l r = true) : jm l = true ∧ qH r.path = true ∧ (cut 47 r.path).length ≤ n + 1 ∧ l.length ≤ 100 := by
 simp only [VT, Bool.and_eq_true, decide_eq_true_eq] at h
 exact ⟨h.1.1.1, h.1.1.2, h.1.2, h.2⟩
theorem putOKb_mk {n : Nat} {l : List Rec} {r : Rec} (h1 : jm l = true) (h2 : qH r.path = true) (h3 : (cut 47 r.path).length ≤ n + 1) (h4 : l.length ≤ 100) : VT n l r = true := by simp [VT, h1, h2, h3, h4]
def Q8 (r x : Rec) (s : List Rec × Bool) : List Rec × Bool :=
 let s1 : List Rec × Bool := if (!s.2 && ltP r.path x.path) = true then (s.1 ++ [r], true) else s
 (if QC r x = true then s1.1 ++ [x] else s1.1, s1.2)
theorem put_after (r : Rec) : ∀ (l : List Rec) (acc : List Rec), (l.foldl (fun s x => Q8 r x s) (acc, true)) = (acc ++ l.filter (QC r), true) := by
 intro l
 induction l with
 | nil => intro acc; simp
 | cons x l ih =>
  intro acc
  rw [List.foldl_cons]
  have e : Q8 r x (acc, true) = (if QC r x = true then acc ++ [x] else acc, true) := by simp [Q8]
  rw [e, ih]
  rcases ql (QC r x) with h | h <;> simp [h]
theorem put_fold (r : Rec) : ∀ (l : List Rec), yt (l.map (·.path)) → ∀ (acc : List Rec), (if (l.foldl (fun s x => Q8 r x s) (acc, false)).2 = true then (l.foldl (fun s x => Q8 r x s) (acc, false)).1 else (l.foldl (fun s x => Q8 r x s) (acc, false)).1 ++ [r]) = acc ++ VO l r := by
 intro l
 induction l with
 | nil => intro _ acc; simp [VO]
 | cons x l ih =>
  intro hr acc
  rw [List.map_cons] at hr
  have hgt := Ya hr
  rw [List.foldl_cons]
  rcases ql (ltP r.path x.path) with h | h
  ·have hall : ∀ y ∈ x :: l, ltP r.path y.path = true := by
    intro y hy
    rcases List.mem_cons.1 hy with rfl | hy
    ·exact h
    ·exact Qj h (hgt _ (List.mem_map_of_mem hy))
   have e : Q8 r x (acc, false) = (if QC r x = true then acc ++ [r] ++ [x] else acc ++ [r], true) := by simp [Q8, h]
   rw [e, put_after]
   have f1 : (x :: l).filter (fun y => QC r y && ltP y.path r.path) = [] := by
    rw [List.filter_eq_nil_iff]
    intro y hy
    rw [VW (hall y hy)]; simp
   have f2 : (x :: l).filter (fun y => QC r y && ltP r.path y.path) = (x :: l).filter (QC r) := by
    apply List.filter_congr
    intro y hy
    rw [hall y hy]; simp
   unfold VO
   rw [f1, f2]
   rcases ql (QC r x) with h2 | h2 <;> simp [h2]
  ·have e : Q8 r x (acc, false) = (if QC r x = true then acc ++ [x] else acc, false) := by simp [Q8, h]
   rw [e, ih (VC hr)]
   unfold VO
   rcases ql (QC r x) with h2 | h2
   ·have hne : x.path ≠ r.path := by
     unfold QC at h2
     intro e
     rw [decide_eq_true e] at h2; simp at h2
    have hlt : ltP x.path r.path = true := by
     rcases ql (ltP x.path r.path) with h3 | h3
     ·exact h3
     ·exact absurd (YG h3 h) hne
    simp [h2, h, hlt]
   ·simp [h2]
theorem put_loop {ρ : Type} (l : List Rec) (r : Rec) (B : List Rec × Bool × Int → Option (Step ρ (List Rec × Bool × Int) (List Rec × Bool)))
  (hB : ∀ (i : Nat) (o : List Rec) (d : Bool), i < l.length → o.length ≤ 2 * i → B (o, d, (i : Int)) = some (.nxt ((Q8 r (gt l (i : Int)) (o, d)).1, (Q8 r (gt l (i : Int)) (o, d)).2, ((i + 1 : Nat) : Int))))
  (hn : ∀ o d, B (o, d, (l.length : Int)) = some (.brk (o, d))) : qp B (l.length + 1) ([], false, 0) = some (.inr (l.foldl (fun s x => Q8 r x s) ([], false))) := by
 have hlen : ∀ x (s : List Rec × Bool), (Q8 r x s).1.length ≤ s.1.length + 2 := by
  intro x s
  unfold Q8
  simp only []
  split <;> split <;> simp
 have key : ∀ (d i k : Nat) (s : List Rec × Bool), i + d = l.length → d < k → s.1.length ≤ 2 * i → qp B k (s.1, s.2, (i : Int)) = some (.inr ((l.drop i).foldl (fun s x => Q8 r x s) s)) := by
  intro d
  induction d with
  | zero =>
   intro i k s hi hk hs
   obtain ⟨k, rfl⟩ : ∃ m, k = m + 1 := ⟨k - 1, by omega⟩
   have : i = l.length := by omega
   subst this
   rw [qp, hn s.1 s.2, List.drop_length]; rfl
  | succ d ih =>
   intro i k s hi hk hs
   obtain ⟨k, rfl⟩ : ∃ m, k = m + 1 := ⟨k - 1, by omega⟩
   have hlt : i < l.length := by omega
   rw [qp, hB i s.1 s.2 hlt hs, QM hlt]
   have hl2 := hlen (gt l (i : Int)) (s.1, s.2)
   exact ih (i + 1) k _ (by omega) (by omega) (by simp only [] at hl2 ⊢; omega)
 exact key l.length 0 (l.length + 1) ([], false) (by omega) (by omega) (by simp)
theorem Jd {l : List Rec} {r : Rec} (h : jm l = true) (hr : qH r.path = true) : jm (VO l r) = true := by
 refine JI (fun x hx => ?_) (X8 (Vu h))
 rcases QG.1 hx with rfl | ⟨h1, _⟩
 ·exact hr
 ·exact j1 h x h1
theorem putR_sheetB : ∀ (n : Nat) (l : List Rec) (r : Rec), jm l = true → qH r.path = true → jm (Qy n l r) = true := by
 intro n
 induction n with
 | zero => intro l r h hr; exact Jd h hr
 | succ n ih =>
  intro l r h hr
  rw [Qy]
  split
  ·rename_i hc
   exact Jd (ih _ _ h (YS hr hc.1)) hr
  ·exact Jd h hr
theorem parent_depth {p : List UInt8} {n : Nat} (h : qc p ≠ []) (hd : (cut 47 p).length ≤ n + 2) : (cut 47 (qc p)).length ≤ n + 1 := by
 have := QH (jb h); omega
theorem hasDir_neg {l : List Rec} {p : List UInt8} (h : qD l p < 0) : V4 l p = false := by
 unfold V4
 rw [decide_eq_false (by omega)]; rfl
theorem X6 {l : List Rec} {p : List UInt8} (h : ¬ qD l p < 0) : V4 l p = decide ((gt l (qD l p)).kind = 3) := by
 unfold V4
 rw [decide_eq_true (by omega)]; rfl
def qI.b1 (a1 : Rec) (x0_13 : List Rec) : List Rec × Bool × Int → Option (Step (List Rec) (List Rec × Bool × Int) (List Rec × Bool)) :=
  fun q => match q with
  | (x7_47, x8_49, x9_50) => bif (decide (x9_50 < (x0_13.length : Int))) then (bif (!(!x8_49) || (inR x9_50 x0_13.length)) then (bif (!(!x8_49) || (decide (a1.path.length ≤ 1048576))) then (bif (!(!x8_49) || (decide (((gt x0_13 x9_50).path).length ≤ 1048576))) then ((bif ((!x8_49) && (vw (cut 47 a1.path) (cut 47 ((gt x0_13 x9_50).path)))) then (bif decide ((x7_47.length + ([a1] : List Rec).length) * 56 ≤ 140737488355328) then (some (.inr (x7_47 ++ ([a1] : List Rec), true))) else none) else (some (.inr (x7_47, x8_49))) : Option ((Step (List Rec) (List Rec × Bool × Int) (List Rec × Bool)) ⊕ (List Rec × Bool))).bind fun z => match z with | .inl t => some t | .inr (x7_104, x8_106) => bif inR x9_50 x0_13.length then (bif (!((!decide (((gt x0_13 x9_50).path) = a1.path)) && (!(decide (a1.kind = 3)))) || (inR x9_50 x0_13.length)) then (bif ((!decide (((gt x0_13 x9_50).path) = a1.path)) && ((decide (a1.kind = 3)) || (!((decide (a1.path = []) && !decide (((gt x0_13 x9_50).path) = [])) || vu ((gt x0_13 x9_50).path) a1.path)))) then (bif inR x9_50 x0_13.length then (bif decide ((x7_104.length + ([gt x0_13 x9_50] : List Rec).length) * 56 ≤ 140737488355328) then (some (.nxt (x7_104 ++ ([gt x0_13 x9_50] : List Rec), x8_106, IntKind.wrap .i64 (x9_50 + 1)))) else none) else none) else (some (.nxt (x7_104, x8_106, IntKind.wrap .i64 (x9_50 + 1))))) else none) else none) else none) else none) else none) else (some (.brk (x7_47, x8_49)))
def qI.sh (n : Nat) (k : Nat) (a0 : List Rec) (a1 : Rec) : Option (List Rec) :=
  bif decide (a1.path.length ≤ 4611686018427387904) then ((bif (!decide ((qc a1.path) = ([] : List UInt8))) then (bif decide (a0.length ≤ 1048576) then (((bif (decide ((qD a0 (qc a1.path)) < 0)) then some true else (bif inR (qD a0 (qc a1.path)) a0.length then (some (!decide (((gt a0 (qD a0 (qc a1.path))).kind) = 3))) else none))).bind fun z20 => bif z20 then (bif decide (putQ n a0 (⟨3, (qc a1.path), ([] : List UInt8), 493, false⟩ : Rec) = true) then (some (.inr (putG n a0 (⟨3, (qc a1.path), ([] : List UInt8), 493, false⟩ : Rec)))) else none) else (some (.inr a0))) else none) else (some (.inr a0)) : Option ((List Rec) ⊕ (List Rec))).bind fun z => match z with | .inl t => some t | .inr x0_13 => (qp (qI.b1 a1 x0_13) k (([] : List Rec), false, 0)).bind fun z => match z with | .inl t => some t | .inr (x7_54, x8_56) => bif (!x8_56) then (bif decide ((x7_54.length + ([a1] : List Rec).length) * 56 ≤ 140737488355328) then (some (x7_54 ++ ([a1] : List Rec))) else none) else (some x7_54)) else none
theorem qI.body (a0 : List Rec) (a1 : Rec) (hs : jm a0 = true) (hp : qH a1.path = true) (hl : a0.length ≤ 200) :
    ((qp (qI.b1 a1 a0) (a0.length + 1) (([] : List Rec), false, 0)).bind fun z => match z with | .inl t => some t | .inr (x7_54, x8_56) => bif (!x8_56) then (bif decide ((x7_54.length + ([a1] : List Rec).length) * 56 ≤ 140737488355328) then (some (x7_54 ++ ([a1] : List Rec))) else none) else (some x7_54)) = some (VO a0 a1) := by
  have hp1 := yU hp
  have hne := GZ hp
  have hlen : ∀ (l : List Rec) (s : List Rec × Bool), (l.foldl (fun s x => Q8 a1 x s) s).1.length ≤ s.1.length + 2 * l.length := by
    intro l
    induction l with
    | nil => intro s; simp
    | cons x l ih =>
      intro s
      rw [List.foldl_cons]
      have h1 := ih (Q8 a1 x s)
      have h2 : (Q8 a1 x s).1.length ≤ s.1.length + 2 := by
        unfold Q8
        simp only []
        split <;> split <;> simp
      simp only [List.length_cons]; omega
  rw [put_loop a0 a1 (qI.b1 a1 a0) (fun i o d hi ho => by
    have hx := yU (j1 hs _ (YT (qV hi)))
    have ho2 : ∀ m : Nat, m ≤ o.length + 2 → (decide (m * 56 ≤ 140737488355328)) = true := fun m hm => decide_eq_true (by omega)
    simp only [qI.b1, yY, hi, decide_true, cond_true, qV hi, decide_eq_true hp1, decide_eq_true hx, Bool.or_true, vr hi (by omega)]
    show ((bif (!d && ltP a1.path (gt a0 (i : Int)).path) then _ else _ : Option _).bind _) = _
    have hk : ((!decide (((gt a0 (i : Int)).path) = a1.path)) && ((decide (a1.kind = 3)) || (!((decide (a1.path = []) && !decide (((gt a0 (i : Int)).path) = [])) || vu ((gt a0 (i : Int)).path) a1.path)))) = QC a1 (gt a0 (i : Int)) := by
      rw [decide_eq_false hne]; simp [QC]
    rw [hk]
    unfold Q8
    rw [ho2 (o.length + [a1].length) (by simp)]
    rcases ql (!d && ltP a1.path (gt a0 (i : Int)).path) with h1 | h1
    · rw [h1]
      simp only [cond_true, Option.bind_some, if_true]
      rw [ho2 ((o ++ [a1]).length + [gt a0 (i : Int)].length) (by simp)]
      rcases ql (QC a1 (gt a0 (i : Int))) with h2 | h2 <;> simp [h2]
    · rw [h1]
      simp only [cond_false, Option.bind_some, Bool.false_eq_true, if_false]
      rw [ho2 (o.length + [gt a0 (i : Int)].length) (by simp)]
      rcases ql (QC a1 (gt a0 (i : Int))) with h2 | h2 <;> simp [h2]) (fun o d => by simp [qI.b1])]
  have hf := put_fold a1 a0 (Vu hs) []
  have hl2 := hlen a0 ([], false)
  obtain ⟨s, hs2⟩ : ∃ s, a0.foldl (fun s x => Q8 a1 x s) ([], false) = s := ⟨_, rfl⟩
  rw [hs2] at hf hl2 ⊢
  obtain ⟨o, d⟩ := s
  simp only [List.nil_append, List.length_nil] at hf hl2
  simp only [Option.bind_some]
  have hd : decide ((o.length + [a1].length) * 56 ≤ 140737488355328) = true := decide_eq_true (by simp; omega)
  rw [hd]
  cases d with
  | true => simpa using hf
  | false => simpa using hf
theorem qI.eq (n : Nat) (hn : n ≤ 50) (a0 : List Rec) (a1 : Rec) (h : VT n a0 a1 = true) : ∃ k, qI.sh n k a0 a1 = some (Qy n a0 a1) := by
  cases n with
  | zero =>
    obtain ⟨h1, h2, h3, h4⟩ := putOKb_of h
    have hpar : qc a1.path = [] := by
      by_cases hp : qc a1.path = []
      · exact hp
      · have := GB hp; omega
    have hpl := yU h2
    have hd : decide (a1.path.length ≤ 4611686018427387904) = true := decide_eq_true (by omega)
    refine ⟨a0.length + 1, ?_⟩
    unfold qI.sh
    simp only [hd, hpar, cond_true, decide_true, Bool.not_true, cond_false, Option.bind_some]
    exact qI.body a0 a1 h1 h2 (by omega)
  | succ m =>
    obtain ⟨h1, h2, h3, h4⟩ := putOKb_of h
    have hpl := yU h2
    have hd : decide (a1.path.length ≤ 4611686018427387904) = true := decide_eq_true (by omega)
    have hd2 : decide (a0.length ≤ 1048576) = true := decide_eq_true (by omega)
    have plain : V4 a0 (qc a1.path) = true ∨ qc a1.path = [] → Qy (m + 1) a0 a1 = VO a0 a1 := by
      intro hc
      rw [Qy, if_neg]
      rintro ⟨c1, c2⟩
      rcases hc with hc | hc
      · rw [hc] at c2; cases c2
      · exact c1 hc
    have made : qc a1.path ≠ [] → V4 a0 (qc a1.path) = false → VT m a0 ⟨3, qc a1.path, [], 493, false⟩ = true ∧ ∃ k, ((qp (qI.b1 a1 (Qy m a0 ⟨3, qc a1.path, [], 493, false⟩)) k (([] : List Rec), false, 0)).bind fun z => match z with | .inl t => some t | .inr (x7_54, x8_56) => bif (!x8_56) then (bif decide ((x7_54.length + ([a1] : List Rec).length) * 56 ≤ 140737488355328) then (some (x7_54 ++ ([a1] : List Rec))) else none) else (some x7_54)) = some (Qy (m + 1) a0 a1) := by
      intro hp hd
      have hpp := YS h2 hp
      have hk := putOKb_mk (n := m) (l := a0) (r := ⟨3, qc a1.path, [], 493, false⟩) h1 hpp (parent_depth hp h3) h4
      refine ⟨hk, (Qy m a0 ⟨3, qc a1.path, [], 493, false⟩).length + 1, ?_⟩
      have e9 : Qy (m + 1) a0 a1 = VO (Qy m a0 ⟨3, qc a1.path, [], 493, false⟩) a1 := (show _ = VO (if qc a1.path ≠ [] ∧ V4 a0 (qc a1.path) = false then _ else a0) a1 from rfl).trans (by rw [if_pos ⟨hp, hd⟩])
      rw [e9]
      have hl := putR_len m a0 ⟨3, qc a1.path, [], 493, false⟩
      exact qI.body _ a1 (putR_sheetB m _ _ h1 hpp) h2 (by omega)
    by_cases hp : qc a1.path = []
    · refine ⟨a0.length + 1, ?_⟩
      rw [plain (.inr hp)]
      unfold qI.sh
      simp only [hd, hp, cond_true, decide_true, Bool.not_true, cond_false, Option.bind_some]
      exact qI.body a0 a1 h1 h2 (by omega)
    · by_cases hf : qD a0 (qc a1.path) < 0
      · obtain ⟨hk, k, e⟩ := made hp (hasDir_neg hf)
        refine ⟨k, ?_⟩
        unfold qI.sh
        simp only [hd, hd2, decide_eq_false hp, decide_eq_true hf, cond_true, Bool.not_false, Option.bind_some, putQ, putG, hk, decide_true]
        exact e
      · have hr := findR_in hf
        by_cases hkd : (gt a0 (qD a0 (qc a1.path))).kind = 3
        · refine ⟨a0.length + 1, ?_⟩
          rw [plain (.inl (by rw [X6 hf, decide_eq_true hkd]))]
          unfold qI.sh
          simp only [hd, hd2, decide_eq_false hp, decide_eq_false hf, cond_true, cond_false, Bool.not_false, Option.bind_some, hr, decide_eq_true hkd, Bool.not_true]
          exact qI.body a0 a1 h1 h2 (by omega)
        · obtain ⟨hk, k, e⟩ := made hp (by rw [X6 hf, decide_eq_false hkd])
          refine ⟨k, ?_⟩
          unfold qI.sh
          simp only [hd, hd2, decide_eq_false hp, decide_eq_false hf, cond_true, cond_false, Bool.not_false, Option.bind_some, hr, decide_eq_false hkd, putQ, putG, hk, decide_true]
          exact e
theorem Sheet.bool {l : List Rec} (h : Sheet l) : jm l = true := JI (fun x hx => yg (h.ok x hx)) h.rise
theorem mem_putR : ∀ (n : Nat) (l : List Rec) (r x : Rec), x ∈ Qy n l r → x = r ∨ x ∈ l ∨ (x.kind = 3 ∧ (cut 47 x.path).length ≤ (cut 47 r.path).length) := by
 intro n
 induction n with
 | zero =>
  intro l r x hx
  rcases QG.1 hx with h | ⟨h, _⟩
  ·exact .inl h
  ·exact .inr (.inl h)
 | succ n ih =>
  intro l r x hx
  rw [Qy] at hx
  rcases QG.1 hx with h | ⟨h, _⟩
  ·exact .inl h
  ·split at h
   ·rename_i hc
    have hd := QH (jb hc.1)
    rcases ih _ _ _ h with h2 | h2 | ⟨h2, h3⟩
    ·subst h2; exact .inr (.inr ⟨rfl, Nat.le_of_lt hd⟩)
    ·exact .inr (.inl h2)
    ·exact .inr (.inr ⟨h2, Nat.le_trans h3 (Nat.le_of_lt hd)⟩)
   ·exact .inr (.inl h)
structure Lay (l : List Rec) : Prop where
 sheet : Sheet l
 len : l.length ≤ 16
 deep : ∀ r ∈ l, (cut 47 r.path).length ≤ 3
theorem Lay.nil : Lay [] := ⟨Sheet.nil, by simp, by simp⟩
theorem put_ok {l : List Rec} {r : Rec} (hl : Lay l) (hr : qx r = 0) (hd : (cut 47 r.path).length ≤ 3) : VT 2 l r = true ∧ ((Qy 2 l r).length ≤ 16 → Lay (Qy 2 l r)) := by
 have h16 := hl.len
 refine ⟨putOKb_mk hl.sheet.bool (yg hr) (by omega) (by omega), fun h => ⟨(putR_Sheet 2 l r hl.sheet hr (by omega)).1, h, fun x hx => ?_⟩⟩
 rcases mem_putR 2 l r x hx with rfl | h2 | ⟨_, h2⟩
 ·exact hd
 ·exact hl.deep x h2
 ·omega
def yo.b1 (a0 : List Int) : List Rec × Int × DSrc → Option (Step (List Rec × DSrc) (List Rec × Int × DSrc) (List Rec × DSrc)) :=
 fun q => match q with
 | (x3_21, x4_23, y24) => bif (decide (0 < x4_23)) then (((yx.sh 4 a0 y24)).bind fun z48 => ((yv.sh a0 z48.2 z48.1)).bind fun z55 => bif decide (VT 2 x3_21 z55.1 = true) then (bif (decide (((Qy 2 x3_21 z55.1).length : Int) ≤ 16)) then (some (.nxt ((Qy 2 x3_21 z55.1), IntKind.wrap .i64 (x4_23 - 1), z55.2))) else (some (.nxt (x3_21, IntKind.wrap .i64 (x4_23 - 1), z55.2)))) else none) else (some (.brk (x3_21, y24)))
def yo.sh (k : Nat) (a0 : List Int) (a1 : DSrc) : Option (List Rec × DSrc) :=
  ((jx.sh a0 a1 6)).bind fun z7 => ((vt.sh a0 z7.2 (IntKind.wrap .i64 (z7.1 + 3)))).bind fun z14 => (qp (yo.b1 a0) k (([] : List Rec), z14.1, z14.2)).bind fun z => match z with | .inl t => some t | .inr (x3_28, y30) => some (x3_28, y30)
theorem yo.eq (a0 : List Int) (a1 : DSrc) {r : List Rec × DSrc} (H : yo.sh 12 a0 a1 = some r) : ∃ k, yo.sh k a0 a1 = some r := ⟨12, H⟩
theorem layer_loop {code : List Int} (hc : ∀ x ∈ code, okB x) (hl : code.length ≤ 1048577) : ∀ (i : Nat) (k : Nat) (n : Int) (l : List Rec) (s : DSrc), n + 24 * i ≤ 400000000 → i < k → Lay l → SrcOK n s →
  ∃ l' s', qp (yo.b1 code) k (l, (i : Int), s) = some (.inr (l', s')) ∧ Lay l' ∧ SrcOK (n + 24 * i) s' := by
 intro i
 induction i with
 | zero =>
  intro k n l s hn hk hs hS
  obtain ⟨k, rfl⟩ : ∃ k', k = k' + 1 := ⟨k - 1, by omega⟩
  exact ⟨l, s, by simp [qp, yo.b1], hs, hS.mono (by omega)⟩
 | succ i ih =>
  intro k n l s hn hk hs hS
  obtain ⟨k, rfl⟩ : ∃ k', k = k' + 1 := ⟨k - 1, by omega⟩
  have hd : decide ((0 : Int) < ((i + 1 : Nat) : Int)) = true := decide_eq_true (by omega)
  have hbig : (i : Int) ≤ 400000000 := by have := hS.p0; have := hS.p1; omega
  have hw : IntKind.wrap .i64 (((i + 1 : Nat) : Int) - 1) = (i : Int) := by rw [show ((i + 1 : Nat) : Int) - 1 = (i : Int) by omega]; exact wrap_small (by omega) (by omega)
  obtain ⟨t, s1, e1, hs1, ht⟩ := path_ok hc hl (by omega) hS
  obtain ⟨r, s2, e2, hs2, hr, hrp⟩ := GH hc hl (by omega) hs1 ht.ok
  obtain ⟨p1, p2⟩ := put_ok hs hr (by rw [hrp]; exact ht.parts.1)
  rw [qp]
  simp only [yo.b1, hd, cond_true, e1, e2, Option.bind_some, hw, p1, decide_true]
  by_cases hlen : ((Qy 2 l r).length : Int) ≤ 16
  ·obtain ⟨l', s', e, q1, q3⟩ := ih k (n + 24) (Qy 2 l r) s2 (by omega) (by omega) (p2 (by omega)) (hs2.mono (by omega))
   rw [decide_eq_true hlen]
   exact ⟨l', s', e, q1, q3.mono (by omega)⟩
  ·obtain ⟨l', s', e, q1, q3⟩ := ih k (n + 24) l s2 (by omega) (by omega) hs (hs2.mono (by omega))
   rw [decide_eq_false hlen]
   exact ⟨l', s', e, q1, q3.mono (by omega)⟩
theorem layer_ok {code : List Int} (hc : ∀ x ∈ code, okB x) (hl : code.length ≤ 1048577) {n : Int} (hn : n ≤ 300000000) {s : DSrc} (h : SrcOK n s) : Dr (yo.sh 12 code s) (n + 300) Lay := by
 unfold yo.sh
 obtain ⟨m, s1, e, hs1, hm0, hm1⟩ := room_ok hl h (m := 6) (by omega)
 rw [e]; simp only [Option.bind_some]
 rw [wrap_small (n := m + 3) (by omega) (by omega)]
 obtain ⟨i, s2, e, hs2, hi0, hi1⟩ := V9 hc hl (by omega) hs1 (m := m + 3) (by omega)
 rw [e]; simp only [Option.bind_some]
 obtain ⟨j, rfl⟩ : ∃ j : Nat, i = j := ⟨i.toNat, by omega⟩
 obtain ⟨l', s', e, q1, q3⟩ := layer_loop hc hl j 12 (n + 3) [] s2 (by omega) (by omega) Lay.nil hs2
 rw [e]; simp only [Option.bind_some]
 exact ⟨_, _, rfl, q3.mono (by omega), q1⟩
def vF.sh (a0 : List Int) : Option (List Rec) :=
 ((vI.sh a0)).bind fun z1 => ((yo.sh 12 a0 z1)).bind fun z8 => some z8.1
theorem vF.eq (a0 : List Int) {r : List Rec} (H : vF.sh a0 = some r) : vF.sh a0 = some r := H
theorem JT {code : List Int} (hc : ∀ x ∈ code, okB x) (hl : code.length ≤ 1048577) : ∃ l, vF.sh code = some l ∧ Lay l := by
 obtain ⟨s, e, hs⟩ := GR code
 obtain ⟨l, s', e2, _, h⟩ := layer_ok hc hl (by omega) hs
 exact ⟨l, by simp [vF.sh, e, e2], h⟩
theorem no_white {r : Rec} (h : qx r = 0) : qx ⟨if r.kind = 4 then 3 else r.kind, r.path, r.body, r.mode, false⟩ = 0 := by
 by_cases hk : r.kind = 4
 ·obtain ⟨h1, h2, h3, h4, h5⟩ := (Qe r).1 h
  rw [if_pos hk]
  have hb : r.body = [] := by
   have : ((decide (r.kind = 3) || decide (r.kind = 4)) && !decide (r.body = [])) = false := (Bool.or_eq_false_iff.1 h4).1
   rw [decide_eq_true hk] at this
   simpa using this
  have hm : r.mode = 0 := by
   have : ((decide (r.kind = 2) || decide (r.kind = 4)) && !decide (r.mode = 0)) = false := (Bool.or_eq_false_iff.1 h5).2
   rw [decide_eq_true hk] at this
   simpa using this
  rw [hb, hm]
  exact Y3 (by decide) h2 (by decide) (by decide) (by decide)
 ·rw [if_neg hk]; exact Va h false (by simp)
def vG.b1 (a0 : List Int) : List Rec × Int × DSrc → Option (Step (List Nd × DSrc) (List Rec × Int × DSrc) (List Rec × DSrc)) :=
 fun q => match q with
 | (x3_21, x4_23, y24) => bif (decide (0 < x4_23)) then (((yx.sh 4 a0 y24)).bind fun z48 => ((yv.sh a0 z48.2 z48.1)).bind fun z55 => bif (decide (z55.1.kind = 4)) then (bif decide (VT 2 x3_21 (⟨3, z55.1.path, z55.1.body, z55.1.mode, false⟩ : Rec) = true) then (bif (decide (((Qy 2 x3_21 (⟨3, z55.1.path, z55.1.body, z55.1.mode, false⟩ : Rec)).length : Int) ≤ 16)) then (some (.nxt ((Qy 2 x3_21 (⟨3, z55.1.path, z55.1.body, z55.1.mode, false⟩ : Rec)), IntKind.wrap .i64 (x4_23 - 1), z55.2))) else (some (.nxt (x3_21, IntKind.wrap .i64 (x4_23 - 1), z55.2)))) else none) else (bif decide (VT 2 x3_21 (⟨z55.1.kind, z55.1.path, z55.1.body, z55.1.mode, false⟩ : Rec) = true) then (bif (decide (((Qy 2 x3_21 (⟨z55.1.kind, z55.1.path, z55.1.body, z55.1.mode, false⟩ : Rec)).length : Int) ≤ 16)) then (some (.nxt ((Qy 2 x3_21 (⟨z55.1.kind, z55.1.path, z55.1.body, z55.1.mode, false⟩ : Rec)), IntKind.wrap .i64 (x4_23 - 1), z55.2))) else (some (.nxt (x3_21, IntKind.wrap .i64 (x4_23 - 1), z55.2)))) else none)) else (some (.brk (x3_21, y24)))
def vG.b2 (x3_28 : List Rec) : List Nd × Int → Option (Step (List Nd × DSrc) (List Nd × Int) (List Nd)) :=
 fun q => match q with
 | (x7_100, x8_102) => bif (decide (x8_102 < (x3_28.length : Int))) then (bif inR x8_102 x3_28.length then (bif decide ((x7_100.length + ([(jP (gt x3_28 x8_102))] : List Nd).length) * 48 ≤ 140737488355328) then (some (.nxt (x7_100 ++ ([(jP (gt x3_28 x8_102))] : List Nd), IntKind.wrap .i64 (x8_102 + 1)))) else none) else none) else (some (.brk x7_100))
def vG.sh (k : Nat) (a0 : List Int) (a1 : DSrc) : Option (List Nd × DSrc) :=
  ((jx.sh a0 a1 7)).bind fun z7 => ((vt.sh a0 z7.2 (IntKind.wrap .i64 (z7.1 + 2)))).bind fun z14 => (qp (vG.b1 a0) k (([] : List Rec), z14.1, z14.2)).bind fun z => match z with | .inl t => some t | .inr (x3_28, y30) => (qp (vG.b2 x3_28) k (([] : List Nd), 0)).bind fun z => match z with | .inl t => some t | .inr x7_106 => some (x7_106, y30)
theorem vG.eq (a0 : List Int) (a1 : DSrc) {r : List Nd × DSrc} (H : vG.sh 24 a0 a1 = some r) : ∃ k, vG.sh k a0 a1 = some r := ⟨24, H⟩
theorem tree_loop {code : List Int} (hc : ∀ x ∈ code, okB x) (hl : code.length ≤ 1048577) : ∀ (i : Nat) (k : Nat) (n : Int) (l : List Rec) (s : DSrc), n + 24 * i ≤ 400000000 → i < k → Lay l → (∀ r ∈ l, r.kind ≠ 4) → SrcOK n s →
  ∃ l' s', qp (vG.b1 code) k (l, (i : Int), s) = some (.inr (l', s')) ∧ Lay l' ∧ (∀ r ∈ l', r.kind ≠ 4) ∧ SrcOK (n + 24 * i) s' := by
 intro i
 induction i with
 | zero =>
  intro k n l s hn hk hs hw hS
  obtain ⟨k, rfl⟩ : ∃ k', k = k' + 1 := ⟨k - 1, by omega⟩
  exact ⟨l, s, by simp [qp, vG.b1], hs, hw, hS.mono (by omega)⟩
 | succ i ih =>
  intro k n l s hn hk hs hwt hS
  obtain ⟨k, rfl⟩ : ∃ k', k = k' + 1 := ⟨k - 1, by omega⟩
  have hd : decide ((0 : Int) < ((i + 1 : Nat) : Int)) = true := decide_eq_true (by omega)
  have hbig : (i : Int) ≤ 400000000 := by have := hS.p0; have := hS.p1; omega
  have hw : IntKind.wrap .i64 (((i + 1 : Nat) : Int) - 1) = (i : Int) := by rw [show ((i + 1 : Nat) : Int) - 1 = (i : Int) by omega]; exact wrap_small (by omega) (by omega)
  obtain ⟨t, s1, e1, hs1, ht⟩ := path_ok hc hl (by omega) hS
  obtain ⟨r, s2, e2, hs2, hr, hrp⟩ := GH hc hl (by omega) hs1 ht.ok
  obtain ⟨q, hq⟩ : ∃ q : Rec, q = ⟨if r.kind = 4 then 3 else r.kind, r.path, r.body, r.mode, false⟩ := ⟨_, rfl⟩
  have hqf : qx q = 0 := by rw [hq]; exact no_white hr
  have hqk : q.kind ≠ 4 := by
   rw [hq]
   show (if r.kind = 4 then (3 : Int) else r.kind) ≠ 4
   split
   ·decide
   ·assumption
  obtain ⟨p1, p2⟩ := put_ok hs hqf (by rw [hq]; show (cut 47 r.path).length ≤ 3; rw [hrp]; exact ht.parts.1)
  have p3 : ∀ x ∈ Qy 2 l q, x.kind ≠ 4 := by
   intro x hx
   rcases mem_putR 2 l q x hx with rfl | h2 | ⟨h2, _⟩
   ·exact hqk
   ·exact hwt x h2
   ·rw [h2]; decide
  have hstep : vG.b1 code (l, ((i + 1 : Nat) : Int), s) = bif decide (((Qy 2 l q).length : Int) ≤ 16) then some (.nxt (Qy 2 l q, (i : Int), s2)) else some (.nxt (l, (i : Int), s2)) := by
   by_cases h4 : r.kind = 4
   ·rw [if_pos h4] at hq
    subst hq
    simp only [vG.b1, hd, cond_true, e1, e2, Option.bind_some, hw, p1, decide_true, decide_eq_true h4]
   ·rw [if_neg h4] at hq
    subst hq
    simp only [vG.b1, hd, cond_true, cond_false, e1, e2, Option.bind_some, hw, p1, decide_true, decide_eq_false h4]
  rw [qp, hstep]
  by_cases hlen : ((Qy 2 l q).length : Int) ≤ 16
  ·obtain ⟨l', s', e, q1, q2, q3⟩ := ih k (n + 24) (Qy 2 l q) s2 (by omega) (by omega) (p2 (by omega)) p3 (hs2.mono (by omega))
   rw [decide_eq_true hlen]
   exact ⟨l', s', e, q1, q2, q3.mono (by omega)⟩
  ·obtain ⟨l', s', e, q1, q2, q3⟩ := ih k (n + 24) l s2 (by omega) (by omega) hs hwt (hs2.mono (by omega))
   rw [decide_eq_false hlen]
   exact ⟨l', s', e, q1, q2, q3.mono (by omega)⟩
theorem XD {α β : Type} (f : α → β) : ∀ (l : List α) (acc : List β), l.foldl (fun s x => s ++ [f x]) acc = acc ++ l.map f := by
 intro l
 induction l with
 | nil => intro acc; simp
 | cons x l ih => intro acc; simp [ih]
theorem tree_ok {code : List Int} (hc : ∀ x ∈ code, okB x) (hl : code.length ≤ 1048577) {n : Int} (hn : n ≤ 300000000) {s : DSrc} (h : SrcOK n s) : Dr (vG.sh 24 code s) (n + 300) (fun t => Wood t ∧ t.length ≤ 16) := by
 unfold vG.sh
 obtain ⟨m, s1, e, hs1, hm0, hm1⟩ := room_ok hl h (m := 7) (by omega)
 rw [e]; simp only [Option.bind_some]
 rw [wrap_small (n := m + 2) (by omega) (by omega)]
 obtain ⟨i, s2, e, hs2, hi0, hi1⟩ := V9 hc hl (by omega) hs1 (m := m + 2) (by omega)
 rw [e]; simp only [Option.bind_some]
 obtain ⟨j, rfl⟩ : ∃ j : Nat, i = j := ⟨i.toNat, by omega⟩
 obtain ⟨l', s', e, q1, q2, q3⟩ := tree_loop hc hl j 24 (n + 3) [] s2 (by omega) (by omega) Lay.nil (by simp) hs2
 rw [e]; simp only [Option.bind_some]
 have h16 := q1.len
 obtain ⟨e2, _⟩ := foldI_runK (ρ := List Nd × DSrc) l' (fun (s : List Nd) x => s ++ [jP x]) (fun i s => s.length = i) (vG.b2 l') 24 (by omega) (fun i s hi hs => by
  have hd : decide ((s.length + ([jP (gt l' (i : Int))] : List Nd).length) * 48 ≤ 140737488355328) = true := decide_eq_true (by simp; omega)
  refine ⟨?_, by simp [hs]⟩
  simp only [vG.b2, yY, hi, decide_true, cond_true, qV hi, hd, vr hi (by omega)]
  rfl) (fun s => by simp [vG.b2]) [] rfl
 rw [e2]
 simp only [Option.bind_some]
 rw [XD]
 exact ⟨_, _, rfl, q3.mono (by omega), sheet_wood q1.sheet q2, by simpa using h16⟩
def yj.sh (a0 : List Int) : Option (List Nd) :=
 ((vI.sh a0)).bind fun z1 => ((vG.sh 24 a0 z1)).bind fun z8 => some z8.1
theorem yj.eq (a0 : List Int) {r : List Nd} (H : yj.sh a0 = some r) : yj.sh a0 = some r := H
theorem treeDrawn_ok {code : List Int} (hc : ∀ x ∈ code, okB x) (hl : code.length ≤ 1048577) : ∃ t, yj.sh code = some t ∧ Wood t ∧ t.length ≤ 16 := by
 obtain ⟨s, e, hs⟩ := GR code
 obtain ⟨t, s', e2, _, h⟩ := tree_ok hc hl (by omega) hs
 exact ⟨t, by simp [yj.sh, e, e2], h⟩
theorem set_paths {l : List Rec} {i : Int} (hi : inR i l.length = true) {r : Rec} (hp : r.path = (gt l i).path) : (Y2 l i r).map (·.path) = l.map (·.path) := by
 obtain ⟨hj, hje⟩ := Yy hi
 unfold Y2
 rw [List.map_set]
 apply List.ext_getElem (by simp)
 intro n h1 h2
 rw [List.getElem_set]
 split
 ·rename_i h; subst h; simp only [List.getElem_map]; rw [hp, ← hje]
 ·rfl
theorem set_like {l : List Rec} {i : Int} (hi : inR i l.length = true) {r : Rec} (hp : r.path = (gt l i).path) (hk : r.kind = (gt l i).kind) : ∀ q ∈ l, ∃ q' ∈ Y2 l i r, q'.path = q.path ∧ q'.kind = q.kind := by
 obtain ⟨hj, hje⟩ := Yy hi
 intro q hq
 obtain ⟨m, hm, rfl⟩ := List.mem_iff_getElem.1 hq
 refine ⟨(Y2 l i r)[m]'(by rw [JF]; exact hm), List.getElem_mem _, ?_⟩
 simp only [Y2, List.getElem_set]
 split
 ·rename_i h; subst h; rw [hp, hk, ← hje]; exact ⟨rfl, rfl⟩
 ·exact ⟨rfl, rfl⟩
theorem Sheet.set {l : List Rec} (h : Sheet l) {i : Int} (hi : inR i l.length = true) {r : Rec} (hp : r.path = (gt l i).path) (hk : r.kind = (gt l i).kind) (hr : qx r = 0) : Sheet (Y2 l i r) := by
 have hlike := set_like hi hp hk
 refine ⟨by rw [set_paths hi hp]; exact h.rise, fun x hx => ?_, fun x hx hpx => ?_⟩
 ·rcases List.mem_or_eq_of_mem_set hx with h1 | h1
  ·exact h.ok x h1
  ·rw [h1]; exact hr
 ·have : ∃ q ∈ l, q.path = qc x.path ∧ q.kind = 3 := by
   rcases List.mem_or_eq_of_mem_set hx with h1 | h1
   ·exact h.par x h1 hpx
   ·subst h1
    rw [hp] at hpx ⊢
    exact h.par _ (YT hi) hpx
  obtain ⟨q, q1, q2, q3⟩ := this
  obtain ⟨q', p1, p2, p3⟩ := hlike q q1
  exact ⟨q', p1, p2.trans q2, p3.trans q3⟩
theorem Gt (l : List Rec) : (vV l).length ≤ l.length := by
 unfold vV; exact List.length_filterMap_le _ _
def jT.sh (a0 : List Int) (a1 : DSrc) (a2 : List Rec) : Option (List Rec × DSrc) :=
 bif decide ((([] : List Rec).length + a2.length) * 56 ≤ 140737488355328) then (bif (decide (((([] : List Rec) ++ a2).length : Int) = 0)) then (some (([] : List Rec) ++ a2, a1)) else (((vt.sh a0 a1 ((([] : List Rec) ++ a2).length : Int))).bind fun z14 => ((vt.sh a0 z14.2 6)).bind fun z21 => bif (decide (z21.1 = 0)) then (bif decide ((([] : List Rec) ++ a2).length ≤ 1048576) then (bif decide (∀ x ∈ (([] : List Rec) ++ a2), qH x.path = true) then (some ((vV (([] : List Rec) ++ a2)), z21.2)) else none) else none) else (bif (decide (z21.1 = 1)) then (bif inR z14.1 (([] : List Rec) ++ a2).length then (bif (decide (((gt (([] : List Rec) ++ a2) z14.1).kind) = 3)) then (bif inR z14.1 (([] : List Rec) ++ a2).length then (bif inR z14.1 (([] : List Rec) ++ a2).length then (some (Y2 (([] : List Rec) ++ a2) z14.1 (⟨(gt (([] : List Rec) ++ a2) z14.1).kind, (gt (([] : List Rec) ++ a2) z14.1).path, (gt (([] : List Rec) ++ a2) z14.1).body, (gt (([] : List Rec) ++ a2) z14.1).mode, (!((gt (([] : List Rec) ++ a2) z14.1).opq))⟩ : Rec), z21.2)) else none) else none) else (some (([] : List Rec) ++ a2, z21.2))) else none) else (bif (decide (z21.1 = 2)) then (bif inS 0 (IntKind.wrap .i64 (((([] : List Rec) ++ a2).length : Int) - 1)) ((([] : List Rec) ++ a2).length : Int) then (some (sub (([] : List Rec) ++ a2) 0 (IntKind.wrap .i64 (((([] : List Rec) ++ a2).length : Int) - 1)), z21.2)) else none) else (bif (decide (z21.1 = 3)) then (bif inR z14.1 (([] : List Rec) ++ a2).length then (((yv.sh a0 z21.2 ((gt (([] : List Rec) ++ a2) z14.1).path))).bind fun z60 => bif decide (VT 2 (([] : List Rec) ++ a2) z60.1 = true) then (bif (decide (((Qy 2 (([] : List Rec) ++ a2) z60.1).length : Int) ≤ 16)) then (some ((Qy 2 (([] : List Rec) ++ a2) z60.1), z60.2)) else (some (([] : List Rec) ++ a2, z60.2))) else none) else none) else (bif (decide (z21.1 = 4)) then (bif inR z14.1 (([] : List Rec) ++ a2).length then (bif (decide (((gt (([] : List Rec) ++ a2) z14.1).kind) = 1)) then (bif inR z14.1 (([] : List Rec) ++ a2).length then (some (Y2 (([] : List Rec) ++ a2) z14.1 (⟨(gt (([] : List Rec) ++ a2) z14.1).kind, (gt (([] : List Rec) ++ a2) z14.1).path, ([111, 116, 104, 101, 114] : List UInt8), (gt (([] : List Rec) ++ a2) z14.1).mode, (gt (([] : List Rec) ++ a2) z14.1).opq⟩ : Rec), z21.2)) else none) else (some (([] : List Rec) ++ a2, z21.2))) else none) else (some (([] : List Rec) ++ a2, z21.2)))))))) else none
theorem jT.eq (a0 : List Int) (a1 : DSrc) (a2 : List Rec) {r : List Rec × DSrc} (H : jT.sh a0 a1 a2 = some r) : jT.sh a0 a1 a2 = some r := H
theorem akin_ok {code : List Int} (hc : ∀ x ∈ code, okB x) (hl : code.length ≤ 1048577) {n : Int} (hn : n ≤ 300000000) {s : DSrc} (h : SrcOK n s) {l : List Rec} (hL : Lay l) : Dr (jT.sh code s l) (n + 300) (fun r => Sheet r ∧ r.length ≤ 16) := by
 have h16 := hL.len
 unfold jT.sh
 simp only [List.nil_append]
 have hd : decide ((([] : List Rec).length + l.length) * 56 ≤ 140737488355328) = true := decide_eq_true (by simp; omega)
 rw [hd]; simp only [cond_true]
 by_cases h0 : (l.length : Int) = 0
 ·rw [decide_eq_true h0]; simp only [cond_true]
  exact ⟨_, _, rfl, h.mono (by omega), hL.sheet, h16⟩
 ·rw [decide_eq_false h0]; simp only [cond_false]
  obtain ⟨k, s1, e, hs1, hk0, hk1⟩ := V9 hc hl (by omega) h (m := (l.length : Int)) (by omega)
  rw [e]; simp only [Option.bind_some]
  obtain ⟨i, s2, e, hs2, hi0, hi1⟩ := V9 hc hl (by omega) hs1 (m := 6) (by omega)
  rw [e]; simp only [Option.bind_some]
  have hr : inR k l.length = true := Q4 hk0 hk1
  have hg := hL.sheet.ok _ (YT hr)
  have hplain : Dr (some (l, s2)) (n + 300) (fun r => Sheet r ∧ r.length ≤ 16) := ⟨_, _, rfl, hs2.mono (by omega), hL.sheet, h16⟩
  have hcase : i = 0 ∨ i = 1 ∨ i = 2 ∨ i = 3 ∨ i = 4 ∨ i = 5 := by omega
  rcases hcase with rfl | rfl | rfl | rfl | rfl | rfl
  ·have d1 : decide (l.length ≤ 1048576) = true := decide_eq_true (by omega)
   have d2 : decide (∀ x ∈ l, qH x.path = true) = true := decide_eq_true fun x hx => yg (hL.sheet.ok x hx)
   simp only [decide_true, cond_true, d1, d2]
   exact ⟨_, _, rfl, hs2.mono (by omega), JA hL.sheet, Nat.le_trans (Gt l) h16⟩
  ·simp only [show decide ((1 : Int) = 0) = false by decide, cond_false, decide_true, cond_true, hr]
   by_cases hk : (gt l k).kind = 3
   ·rw [decide_eq_true hk]; simp only [cond_true]
    refine ⟨_, _, rfl, hs2.mono (by omega), hL.sheet.set hr rfl rfl (Va hg _ fun _ => hk), by rw [JF]; exact h16⟩
   ·rw [decide_eq_false hk]; exact hplain
  ·have hw : IntKind.wrap .i64 ((l.length : Int) - 1) = (l.length : Int) - 1 := wrap_small (by omega) (by omega)
   have hi2 : inS 0 ((l.length : Int) - 1) (l.length : Int) = true := Vg (by omega) (by omega) (by omega)
   simp only [show decide ((2 : Int) = 0) = false by decide, show decide ((2 : Int) = 1) = false by decide, cond_false, decide_true, cond_true, hw, hi2]
   have hsub : sub l 0 ((l.length : Int) - 1) = l.take ((l.length : Int) - 1).toNat := by simp [sub]
   refine ⟨_, _, rfl, hs2.mono (by omega), ?_, ?_⟩
   ·rw [hsub]; exact hL.sheet.take _
   ·rw [hsub, List.length_take]; omega
  ·simp only [show decide ((3 : Int) = 0) = false by decide, show decide ((3 : Int) = 1) = false by decide, show decide ((3 : Int) = 2) = false by decide, cond_false, decide_true, cond_true, hr]
   obtain ⟨r, s3, e, hs3, hrf, hrp⟩ := GH hc hl (by omega) hs2 (yg hg)
   rw [e]; simp only [Option.bind_some]
   obtain ⟨p1, p2⟩ := put_ok hL hrf (by rw [hrp]; exact hL.deep _ (YT hr))
   rw [decide_eq_true p1]; simp only [cond_true]
   by_cases hlen : ((Qy 2 l r).length : Int) ≤ 16
   ·rw [decide_eq_true hlen]
    have := p2 (by omega)
    exact ⟨_, _, rfl, hs3.mono (by omega), this.sheet, this.len⟩
   ·rw [decide_eq_false hlen]
    exact ⟨_, _, rfl, hs3.mono (by omega), hL.sheet, h16⟩
  ·simp only [show decide ((4 : Int) = 0) = false by decide, show decide ((4 : Int) = 1) = false by decide, show decide ((4 : Int) = 2) = false by decide, show decide ((4 : Int) = 3) = false by decide, cond_false, decide_true, cond_true, hr]
   by_cases hk : (gt l k).kind = 1
   ·rw [decide_eq_true hk]; simp only [cond_true]
    obtain ⟨g1, g2, g3, g4, g5⟩ := (Qe _).1 hg
    refine ⟨_, _, rfl, hs2.mono (by omega), hL.sheet.set hr rfl rfl ?_, by rw [JF]; exact h16⟩
    refine Y3 g1 g2 ?_ ?_ g5
    ·simp [hk]
    ·rw [hk] at g4 ⊢
     simpa using g4
   ·rw [decide_eq_false hk]; exact hplain
  ·simp only [show decide ((5 : Int) = 0) = false by decide, show decide ((5 : Int) = 1) = false by decide, show decide ((5 : Int) = 2) = false by decide, show decide ((5 : Int) = 3) = false by decide, show decide ((5 : Int) = 4) = false by decide, cond_false]
   exact hplain
def yb.sh (a0 : List Int) (a1 : List Rec) : Option (List Rec) :=
 ((vI.sh a0)).bind fun z1 => ((jT.sh a0 z1 a1)).bind fun z8 => some z8.1
theorem yb.eq (a0 : List Int) (a1 : List Rec) {r : List Rec} (H : yb.sh a0 a1 = some r) : yb.sh a0 a1 = some r := H
theorem akinDrawn_ok {code : List Int} (hc : ∀ x ∈ code, okB x) (hl : code.length ≤ 1048577) {a : List Rec} (ha : Lay a) : ∃ l, yb.sh code a = some l ∧ Sheet l ∧ l.length ≤ 16 := by
 obtain ⟨s, e, hs⟩ := GR code
 obtain ⟨l, s', e2, _, h⟩ := akin_ok hc hl (by omega) hs ha
 exact ⟨l, by simp [yb.sh, e, e2], h⟩
theorem YO {l : List Rec} (h : Sheet l) : ∀ x ∈ l, x.path.length ≤ 1048576 := fun x hx => yU (yg (h.ok x hx))
theorem small_pathsT {t : List Nd} (h : Wood t) : ∀ x ∈ t, x.path.length ≤ 1048576 := Gb h
theorem rt_ok {l : List Rec} {t : List Nd} (hl : Sheet l) (h16 : l.length ≤ 16) (ht : Wood t) (h24 : t.length ≤ 24) : Yk l t = 0 := by
 have n1 : ¬ 4096 < l.length := by omega
 have n2 : ¬ 4096 < t.length := by omega
 simp [Yk, n1, n2, Vv hl h16, treeOK_of ht h24]
theorem apply_eq {l : List Rec} {t : List Nd} (hl : Sheet l) (h16 : l.length ≤ 16) (ht : Wood t) (h24 : t.length ≤ 24) : QB l t = XQ (vC l t) := by simp [QB, rt_ok hl h16 ht h24]
theorem Xv {a b : List Rec} (ha : Sheet a) (ha16 : a.length ≤ 16) (hb : Sheet b) (hb16 : b.length ≤ 16) : pairCode a b = 0 := by
 have n1 : ¬ 4096 < a.length := by omega
 have n2 : ¬ 4096 < b.length := by omega
 simp [pairCode, n1, n2, Vv ha ha16, Vv hb hb16]
theorem canonOf_ok {l : List Rec} (h : Sheet l) (h16 : l.length ≤ 16) : Qz l = (vV l, 0) := by
 have n1 : ¬ 4096 < l.length := by omega
 simp [Qz, n1, Vv h h16]
theorem faultL_ok {l : List Rec} (h : Sheet l) (h16 : l.length ≤ 16) : (qU l).2 = 0 := by
 have n1 : ¬ 4096 < l.length := by omega
 simp [qU, n1, Vv h h16]
theorem isCanon_ok {l : List Rec} (h : Sheet l) (h16 : l.length ≤ 16) (hc : vV l = l) : YP l = true := by simp [YP, faultL_ok h h16, hc]
theorem stack_mk {L : List (List Rec)} (h : ∀ l ∈ L, Sheet l ∧ l.length ≤ 16) (h5 : L.length ≤ 5) : jQ L = true := by
 simp only [jQ, Bool.and_eq_true, decide_eq_true_eq, List.all_eq_true]
 exact ⟨h5, fun l hl => Vv (h l hl).1 (h l hl).2⟩
theorem rs_ok {L : List (List Rec)} {t : List Nd} (h : ∀ l ∈ L, Sheet l ∧ l.length ≤ 16) (h5 : L.length ≤ 5) (ht : Wood t) (h24 : t.length ≤ 24) : QF L t = 0 := by
 have n1 : ¬ 4096 < L.length := by omega
 have n2 : ¬ 4096 < t.length := by omega
 simp [QF, n1, n2, stack_mk h h5, treeOK_of ht h24]
theorem fitL_ok {l : List Rec} (h : l.length ≤ 16) : fitL l = l ∧ GQ l = 0 := by
 have : ¬ 16 < l.length := by omega
 simp [fitL, GQ, this]
theorem fitL_no {l : List Rec} (h : 16 < l.length) : fitL l = [] ∧ GQ l = 7 := by simp [fitL, GQ, h]
theorem fitT_small (t : List Nd) : (XQ t).1.length ≤ 24 := fitT_len t
def law_FnSquash.sh (a0 : List Int) (a1 : List Int) : Option (Bool) :=
  ((bif (decide (1048576 < (a0.length : Int))) then some true else (some (decide (1048576 < (a1.length : Int)))))).bind fun z2 => bif z2 then (some true) else (((vF.sh a0)).bind fun z11 => ((vF.sh a1)).bind fun z17 => ((jZ.sh a1 0 2)).bind fun z23 => (bif (decide (z23 = 0)) then (((yb.sh a1 z11)).bind fun z33 => some (.inr z33)) else (some (.inr z17)) : Option ((Bool) ⊕ (List Rec))).bind fun z => match z with | .inl t => some t | .inr x6_30 => ((Qn.sh 2 a1)).bind fun z46 => ((yj.sh z46)).bind fun z52 => bif decide (z11.length ≤ 1048576) then (bif decide (x6_30.length ≤ 1048576) then (bif decide (∀ x ∈ z11, x.path.length ≤ 1048576) then (bif decide (∀ x ∈ x6_30, x.path.length ≤ 1048576) then (bif decide (z11.length ≤ 1048576) then (bif decide (x6_30.length ≤ 1048576) then (bif decide (∀ x ∈ z11, x.path.length ≤ 1048576) then (bif decide (∀ x ∈ x6_30, x.path.length ≤ 1048576) then (bif decide (z11.length ≤ 1048576) then (bif decide (x6_30.length ≤ 1048576) then (bif decide (∀ x ∈ z11, x.path.length ≤ 1048576) then (bif decide (∀ x ∈ x6_30, x.path.length ≤ 1048576) then (bif decide (z11.length ≤ 1048576) then (bif decide (x6_30.length ≤ 1048576) then (bif decide (∀ x ∈ z11, x.path.length ≤ 1048576) then (bif decide (∀ x ∈ x6_30, x.path.length ≤ 1048576) then (((bif (!decide (((qE z11 x6_30).2) = ((qE z11 x6_30).2))) then some true else (bif decide (((qE z11 x6_30).1).length ≤ 4611686018427387904) then (some (!(decide (((qE z11 x6_30).1) = ((qE z11 x6_30).1))))) else none))).bind fun z91 => ((bif z91 then some true else (some (!decide (((yL z11 x6_30).2) = 0))))).bind fun z100 => ((bif z100 then some true else (bif decide (((yL z11 x6_30).1).length ≤ 4611686018427387904) then (some (!(decide (((yL z11 x6_30).1) = ((yL z11 x6_30).1))))) else none))).bind fun z109 => bif z109 then (some false) else (bif decide (z11.length ≤ 1048576) then (bif decide (∀ x ∈ z11, x.path.length ≤ 1048576) then (bif decide (([] : List Rec).length ≤ 1048576) then (bif decide (z11.length ≤ 1048576) then (bif decide (∀ x ∈ ([] : List Rec), x.path.length ≤ 1048576) then (bif decide (∀ x ∈ z11, x.path.length ≤ 1048576) then (bif decide (z11.length ≤ 1048576) then (bif decide (([] : List Rec).length ≤ 1048576) then (bif decide (∀ x ∈ z11, x.path.length ≤ 1048576) then (bif decide (∀ x ∈ ([] : List Rec), x.path.length ≤ 1048576) then (((bif (!decide (((qE ([] : List Rec) z11).2) = 0)) then some true else (some (!decide (((qE z11 ([] : List Rec)).2) = 0))))).bind fun z141 => ((bif z141 then some true else (bif decide (((qE ([] : List Rec) z11).1).length ≤ 4611686018427387904) then (some (!(decide (((qE ([] : List Rec) z11).1) = ((Qz z11).1))))) else none))).bind fun z150 => ((bif z150 then some true else (bif decide (((qE z11 ([] : List Rec)).1).length ≤ 4611686018427387904) then (some (!(decide (((qE z11 ([] : List Rec)).1) = ((Qz z11).1))))) else none))).bind fun z159 => bif z159 then (some false) else (bif (!decide (((qE z11 x6_30).2) = 0)) then (some (decide (((qE z11 x6_30).2) = 7))) else (bif decide (((qE z11 x6_30).1).length ≤ 1048576) then (bif decide (z52.length ≤ 1048576) then (bif decide (∀ x ∈ ((qE z11 x6_30).1), x.path.length ≤ 1048576) then (bif decide (∀ x ∈ z52, x.path.length ≤ 1048576) then (bif decide (([z11, x6_30] : List (List Rec)).length ≤ 1048576) then (bif decide (∀ l ∈ ([z11, x6_30] : List (List Rec)), l.length ≤ 1048576) then (bif decide (∀ l ∈ ([z11, x6_30] : List (List Rec)), ∀ x ∈ l, x.path.length ≤ 1048576) then (bif decide (z52.length ≤ 1048576) then (bif decide (∀ x ∈ z52, x.path.length ≤ 1048576) then ((some ((yT ([z11, x6_30] : List (List Rec)) z52).1)).bind fun z190 => (some ((yT ([z11, x6_30] : List (List Rec)) z52).2)).bind fun z192 => bif decide (([z11, x6_30] : List (List Rec)).length ≤ 1048576) then (bif decide (∀ l ∈ ([z11, x6_30] : List (List Rec)), l.length ≤ 1048576) then (bif decide (∀ l ∈ ([z11, x6_30] : List (List Rec)), ∀ x ∈ l, x.path.length ≤ 1048576) then (bif decide (z52.length ≤ 1048576) then (bif decide (∀ x ∈ z52, x.path.length ≤ 1048576) then ((some ((yT ([z11, x6_30] : List (List Rec)) z52).1)).bind fun z209 => (some ((yT ([z11, x6_30] : List (List Rec)) z52).2)).bind fun z211 => bif decide (((qE z11 x6_30).1).length ≤ 1048576) then (bif decide (∀ x ∈ ((qE z11 x6_30).1), x.path.length ≤ 1048576) then (((bif (YP ((qE z11 x6_30).1)) then (some (decide (((QB ((qE z11 x6_30).1) z52).2) = z211))) else some false)).bind fun z220 => ((bif (z220 && (decide (z192 = z211))) then (bif decide (((QB ((qE z11 x6_30).1) z52).1).length ≤ 4611686018427387904) then (some (decide (((QB ((qE z11 x6_30).1) z52).1) = z209))) else none) else some false)).bind fun z235 => ((bif z235 then (bif decide (z190.length ≤ 4611686018427387904) then (some (decide (z190 = z209))) else none) else some false)).bind fun z244 => some z244) else none) else none) else none) else none) else none) else none) else none) else none) else none) else none) else none) else none) else none) else none) else none) else none))) else none) else none) else none) else none) else none) else none) else none) else none) else none) else none)) else none) else none) else none) else none) else none) else none) else none) else none) else none) else none) else none) else none) else none) else none) else none) else none)
theorem law_FnSquash.eq (a0 a1 : List Int) (h2 : ∀ x ∈ a0, okB x) (h3 : a0.length ≤ 9223372036854775807) (h4 : ∀ x ∈ a1, okB x) (h5 : a1.length ≤ 9223372036854775807) : law_FnSquash.sh a0 a1 = some true := by
 unfold law_FnSquash.sh
 rcases guard_of a0 a1 with hg | ⟨hg, l0, l1⟩
 ·rw [hg]; rfl
 ·rw [hg]
  obtain ⟨a, e1, hL⟩ := JT h2 (by omega)
  obtain ⟨b0, e2, hL2⟩ := JT h4 (by omega)
  obtain ⟨i, e3, hi0, hi1⟩ := at_ok h4 l1 (i := 0) (n := 2) (by omega) (by omega) (by omega)
  obtain ⟨m, e4, hm, hml⟩ := mix_ok h4 l1 (i := 2) (by omega) (by omega)
  obtain ⟨t, e5, ht, ht16⟩ := treeDrawn_ok hm hml
  obtain ⟨b1, e6, hb1, hb116⟩ := akinDrawn_ok h4 (by omega) hL
  have ha := hL.sheet
  have ha16 := hL.len
  have key : ∃ b, Sheet b ∧ b.length ≤ 16 ∧ (bif (decide (i = 0)) then (((yb.sh a1 a)).bind fun z33 => some (.inr z33)) else (some (.inr b0)) : Option ((Bool) ⊕ (List Rec))) = some (.inr b) := by
   by_cases h0 : i = 0
   ·exact ⟨b1, hb1, hb116, by rw [decide_eq_true h0, e6]; rfl⟩
   ·exact ⟨b0, hL2.sheet, hL2.len, by rw [decide_eq_false h0]; rfl⟩
  obtain ⟨b, hb, hb16, e7⟩ := key
  simp only [e1, e2, e3, e4, e5, e7, cond_false, Option.bind_some]
  have da : decide (a.length ≤ 1048576) = true := decide_eq_true (by omega)
  have db : decide (b.length ≤ 1048576) = true := decide_eq_true (by omega)
  have dt : decide (t.length ≤ 1048576) = true := decide_eq_true (by omega)
  have pa : decide (∀ x ∈ a, x.path.length ≤ 1048576) = true := decide_eq_true (YO ha)
  have pb : decide (∀ x ∈ b, x.path.length ≤ 1048576) = true := decide_eq_true (YO hb)
  have pt : decide (∀ x ∈ t, x.path.length ≤ 1048576) = true := decide_eq_true (small_pathsT ht)
  have dn : decide (([] : List Rec).length ≤ 1048576) = true := decide_eq_true (by simp)
  have pn : decide (∀ x ∈ ([] : List Rec), x.path.length ≤ 1048576) = true := decide_eq_true (by simp)
  have hc16 := Nat.le_trans (Gt a) ha16
  have s1 : qE [] a = (vV a, 0) := by
   obtain ⟨f1, f2⟩ := fitL_ok hc16
   simp [qE, Xv Sheet.nil (by simp) ha ha16, Xn, f1, f2]
  have s2 : qE a [] = (vV a, 0) := by
   obtain ⟨f1, f2⟩ := fitL_ok hc16
   simp [qE, Xv ha ha16 Sheet.nil (by simp), GU ha (by omega), f1, f2]
  have s3 : qE a b = (fitL (ym a b), GQ (ym a b)) := by simp [qE, Xv ha ha16 hb hb16]
  have hh : (yL a b).2 = 0 := by simp [yL, Xv ha ha16 hb hb16]
  have hhl := hiddenL_len a b
  have d1 : decide ((yL a b).1.length ≤ 4611686018427387904) = true := decide_eq_true (by omega)
  have d2 : decide ((vV a).length ≤ 4611686018427387904) = true := decide_eq_true (by omega)
  simp only [da, db, dt, pa, pb, pt, dn, pn, cond_true, s1, s2, s3, hh, d1, d2, canonOf_ok ha ha16, decide_true, Bool.not_true, cond_false, Option.bind_some]
  by_cases hs : (ym a b).length ≤ 16
  ·obtain ⟨f1, f2⟩ := fitL_ok hs
   have hsq := Jj ha hb
   have dL : decide (([a, b] : List (List Rec)).length ≤ 1048576) = true := decide_eq_true (by simp)
   have hmem : ∀ l ∈ ([a, b] : List (List Rec)), Sheet l ∧ l.length ≤ 16 := by
    intro l hl
    simp only [List.mem_cons, List.not_mem_nil, or_false] at hl
    rcases hl with rfl | rfl
    ·exact ⟨ha, ha16⟩
    ·exact ⟨hb, hb16⟩
   have pL : decide (∀ l ∈ ([a, b] : List (List Rec)), l.length ≤ 1048576) = true := decide_eq_true fun l hl => by have := (hmem l hl).2; omega
   have qL : decide (∀ l ∈ ([a, b] : List (List Rec)), ∀ x ∈ l, x.path.length ≤ 1048576) = true := decide_eq_true fun l hl => YO (hmem l hl).1
   have hap : yT [a, b] t = XQ (vC (ym a b) t) := by
    rw [apply_squash ha hb ht]
    simp [yT, rs_ok hmem (by simp) ht (by omega), jy]
   have hfl := fitT_small (vC (ym a b) t)
   have d3 : decide ((XQ (vC (ym a b) t)).1.length ≤ 4611686018427387904) = true := decide_eq_true (by omega)
   have d4 : decide ((ym a b).length ≤ 4611686018427387904) = true := decide_eq_true (by omega)
   have d5 : decide ((ym a b).length ≤ 1048576) = true := decide_eq_true (by omega)
   have ps : decide (∀ x ∈ ym a b, x.path.length ≤ 1048576) = true := decide_eq_true (YO hsq)
   simp only [f1, f2, d4, d5, ps, dL, pL, qL, hap, apply_eq hsq hs ht (by omega), isCanon_ok hsq hs (canon_squash ha hb (by omega)), d3, decide_true, cond_true, Bool.not_true, cond_false, Option.bind_some, Bool.true_and]
  ·obtain ⟨f1, f2⟩ := fitL_no (by omega : 16 < (ym a b).length)
   simp [f1, f2]
end Go.UL
