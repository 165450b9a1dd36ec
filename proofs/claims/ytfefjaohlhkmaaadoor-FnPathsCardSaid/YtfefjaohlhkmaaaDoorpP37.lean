/- Plain Lean: what the functions compute. -/
import Derived.Test.YtfefjaohlhkmaaaDoorpP36
set_option linter.unusedVariables false
set_option linter.unusedSimpArgs false
namespace Go.UL
open Go.RowKit
/-! ### what the sources give -/
structure SrcOK (n : Int) (s : Src) : Prop where
  p0 : 0 ≤ s.pos
  p1 : s.pos ≤ n
  s0 : 0 ≤ s.seed
  s1 : s.seed < 2147483648
theorem SrcOK.mono {n m : Int} {s : Src} (h : SrcOK n s) (k : n ≤ m) : SrcOK m s := ⟨h.p0, Int.le_trans h.p1 k, h.s0, h.s1⟩
/-- A draw: it comes to something that has Q; the source has moved on to at most n. -/
def Dr {α : Type} (X : Option (α × Src)) (n : Int) (Q : α → Prop) : Prop := ∃ r s, X = some (r, s) ∧ SrcOK n s ∧ Q r
theorem Dr.mono {α : Type} {X : Option (α × Src)} {n m : Int} {Q R : α → Prop} (h : Dr X n Q) (k : n ≤ m) (hq : ∀ r, Q r → R r) : Dr X m R := by
  obtain ⟨r, s, h1, h2, h3⟩ := h
  exact ⟨r, s, h1, h2.mono k, hq r h3⟩
theorem gt_mem {α : Type} [Inhabited α] {l : List α} {i : Int} (h : inR i l.length = true) : gt l i ∈ l := by
  obtain ⟨hj, hje⟩ := gt_get h
  rw [← hje]; exact List.getElem_mem hj
theorem tmod_range {a n : Int} (ha : 0 ≤ a) (hn : 0 < n) : 0 ≤ a.tmod n ∧ a.tmod n < n := ⟨Int.tmod_nonneg _ ha, Int.tmod_lt_of_pos _ hn⟩
def spec_l00Source.sh (a0 : List Int) : Option (Src) :=
  some (⟨0, (a0.length : Int).tmod 1000⟩ : Src)
theorem spec_l00Source.eq (a0 : List Int) {r : Src} (H : spec_l00Source.sh a0 = some r) : spec_l00Source.sh a0 = some r := H
def draw_byte.sh (a0 : List Int) (a1 : Src) : Option (Int × Src) :=
  bif (decide ((IntKind.wrap .i64 (a1.pos + 1)) ≤ (a0.length : Int))) then (bif inR (IntKind.wrap .i64 ((IntKind.wrap .i64 (a1.pos + 1)) - 1)) a0.length then (bif inR (IntKind.wrap .i64 ((IntKind.wrap .i64 (a1.pos + 1)) - 1)) a0.length then (some (IntKind.wrap .i64 (gt a0 (IntKind.wrap .i64 ((IntKind.wrap .i64 (a1.pos + 1)) - 1))), (⟨IntKind.wrap .i64 (a1.pos + 1), (IntKind.wrap .i64 ((IntKind.wrap .i64 ((IntKind.wrap .i64 (a1.seed * 31)) + (IntKind.wrap .i64 (gt a0 (IntKind.wrap .i64 ((IntKind.wrap .i64 (a1.pos + 1)) - 1)))))) + 7)).tmod 2147483648⟩ : Src))) else none) else none) else (bif (decide (3000 < (IntKind.wrap .i64 (a1.pos + 1)))) then (some (0, (⟨IntKind.wrap .i64 (a1.pos + 1), a1.seed⟩ : Src))) else (some ((IntKind.wrap .i64 (((IntKind.wrap .i64 ((IntKind.wrap .i64 (a1.seed * 1103515245)) + 12345)).tmod 2147483648).tdiv 65536)).tmod 256, (⟨IntKind.wrap .i64 (a1.pos + 1), (IntKind.wrap .i64 ((IntKind.wrap .i64 (a1.seed * 1103515245)) + 12345)).tmod 2147483648⟩ : Src))))
theorem draw_byte.eq (a0 : List Int) (a1 : Src) {r : Int × Src} (H : draw_byte.sh a0 a1 = some r) : draw_byte.sh a0 a1 = some r := H
theorem byte_ok {code : List Int} (hc : ∀ x ∈ code, okB x) (hl : code.length ≤ 1048577) {n : Int} (hn : n ≤ 1000000000) {s : Src} (h : SrcOK n s) : Dr (draw_byte.sh code s) (n + 1) (fun r => 0 ≤ r ∧ r ≤ 255) := by
  obtain ⟨h1, h2, h3, h4⟩ := h
  have e1 : IntKind.wrap .i64 (s.pos + 1) = s.pos + 1 := wrap_small (by omega) (by omega)
  have e2 : IntKind.wrap .i64 (s.pos + 1 - 1) = s.pos := by rw [show s.pos + 1 - 1 = s.pos by omega]; exact wrap_small (by omega) (by omega)
  unfold draw_byte.sh
  simp only [e1, e2]
  by_cases hb : s.pos + 1 ≤ (code.length : Int)
  · have hr : inR s.pos code.length = true := inR_mk h1 (by omega)
    have hg := hc _ (gt_mem hr)
    obtain ⟨g0, g1⟩ := hg
    have e3 : IntKind.wrap .i64 (gt code s.pos) = gt code s.pos := wrap_small (by omega) (by omega)
    have e4 : IntKind.wrap .i64 (s.seed * 31) = s.seed * 31 := wrap_small (by omega) (by omega)
    have e5 : IntKind.wrap .i64 (s.seed * 31 + gt code s.pos) = s.seed * 31 + gt code s.pos := wrap_small (by omega) (by omega)
    have e6 : IntKind.wrap .i64 (s.seed * 31 + gt code s.pos + 7) = s.seed * 31 + gt code s.pos + 7 := wrap_small (by omega) (by omega)
    simp only [e3, e4, e5, e6, hr, decide_eq_true hb, cond_true]
    have hm := tmod_range (a := s.seed * 31 + gt code s.pos + 7) (n := 2147483648) (by omega) (by decide)
    exact ⟨_, _, rfl, ⟨by simp; omega, by simp; omega, hm.1, hm.2⟩, g0, g1⟩
  · simp only [decide_eq_false hb, cond_false]
    by_cases hb2 : 3000 < s.pos + 1
    · simp only [decide_eq_true hb2, cond_true]
      exact ⟨_, _, rfl, ⟨by simp; omega, by simp; omega, h3, h4⟩, by simp, by simp⟩
    · simp only [decide_eq_false hb2, cond_false]
      have e4 : IntKind.wrap .i64 (s.seed * 1103515245) = s.seed * 1103515245 := wrap_small (by omega) (by omega)
      have e5 : IntKind.wrap .i64 (s.seed * 1103515245 + 12345) = s.seed * 1103515245 + 12345 := wrap_small (by omega) (by omega)
      simp only [e4, e5]
      have hm := tmod_range (a := s.seed * 1103515245 + 12345) (n := 2147483648) (by omega) (by decide)
      have hd : 0 ≤ ((s.seed * 1103515245 + 12345).tmod 2147483648).tdiv 65536 := Int.tdiv_nonneg hm.1 (by decide)
      have hd2 : ((s.seed * 1103515245 + 12345).tmod 2147483648).tdiv 65536 ≤ (s.seed * 1103515245 + 12345).tmod 2147483648 := Int.tdiv_le_self _ hm.1
      rw [wrap_small (n := ((s.seed * 1103515245 + 12345).tmod 2147483648).tdiv 65536) (by omega) (by omega)]
      have hm2 := tmod_range (a := ((s.seed * 1103515245 + 12345).tmod 2147483648).tdiv 65536) (n := 256) hd (by decide)
      exact ⟨_, _, rfl, ⟨by simp; omega, by simp; omega, hm.1, hm.2⟩, hm2.1, by have := hm2.2; show ((s.seed * 1103515245 + 12345).tmod 2147483648 |>.tdiv 65536).tmod 256 ≤ 255; omega⟩
def draw_next.sh (a0 : List Int) (a1 : Src) (a2 : Int) : Option (Int × Src) :=
  bif (decide (a2 ≤ 1)) then (some (0, a1)) else (bif (decide (a2 ≤ 256)) then (((draw_byte.sh a0 a1)).bind fun z3 => bif decide (¬ (a2 : Int) = 0) then (some (z3.1.tmod a2, z3.2)) else none) else (((draw_byte.sh a0 a1)).bind fun z11 => ((draw_byte.sh a0 z11.2)).bind fun z18 => ((draw_byte.sh a0 z18.2)).bind fun z25 => bif decide (¬ (a2 : Int) = 0) then (some ((IntKind.wrap .i64 ((IntKind.wrap .i64 ((IntKind.wrap .i64 (z11.1 * 65536)) + (IntKind.wrap .i64 (z18.1 * 256)))) + z25.1)).tmod a2, z25.2)) else none))
theorem draw_next.eq (a0 : List Int) (a1 : Src) (a2 : Int) {r : Int × Src} (H : draw_next.sh a0 a1 a2 = some r) : draw_next.sh a0 a1 a2 = some r := H
theorem next_ok {code : List Int} (hc : ∀ x ∈ code, okB x) (hl : code.length ≤ 1048577) {n : Int} (hn : n ≤ 900000000) {s : Src} (h : SrcOK n s) {m : Int} (hm : 0 < m) : Dr (draw_next.sh code s m) (n + 3) (fun r => 0 ≤ r ∧ r < m) := by
  unfold draw_next.sh
  by_cases h1 : m ≤ 1
  · simp only [decide_eq_true h1, cond_true]
    exact ⟨_, _, rfl, h.mono (by omega), Int.le_refl _, hm⟩
  · simp only [decide_eq_false h1, cond_false]
    have hne : decide (¬ (m : Int) = 0) = true := decide_eq_true (by omega)
    by_cases h2 : m ≤ 256
    · simp only [decide_eq_true h2, cond_true]
      obtain ⟨r, s', e, hs, hr⟩ := byte_ok hc hl (by omega) h
      rw [e]
      simp only [Option.bind_some, hne, cond_true]
      have := tmod_range (a := r) (n := m) hr.1 hm
      exact ⟨_, _, rfl, hs.mono (by omega), this⟩
    · simp only [decide_eq_false h2, cond_false]
      obtain ⟨r, s1, e, hs, hr0, hr1⟩ := byte_ok hc hl (by omega) h
      rw [e]; simp only [Option.bind_some]
      obtain ⟨r2, s2, e, hs, hp0, hp1⟩ := byte_ok hc hl (by omega) hs
      rw [e]; simp only [Option.bind_some]
      obtain ⟨r3, s3, e, hs, hq0, hq1⟩ := byte_ok hc hl (by omega) hs
      rw [e]; simp only [Option.bind_some, hne, cond_true]
      rw [wrap_small (n := r * 65536) (by omega) (by omega), wrap_small (n := r2 * 256) (by omega) (by omega), wrap_small (n := r * 65536 + r2 * 256) (by omega) (by omega), wrap_small (n := r * 65536 + r2 * 256 + r3) (by omega) (by omega)]
      have := tmod_range (a := r * 65536 + r2 * 256 + r3) (n := m) (by omega) hm
      exact ⟨_, _, rfl, hs.mono (by omega), this⟩
def draw_pick.sh (a0 : List Int) (a1 : Src) (a2 : List (List UInt8)) : Option (List UInt8 × Src) :=
  bif (decide ((a2.length : Int) = 0)) then (some (([] : List UInt8), a1)) else (((draw_next.sh a0 a1 (a2.length : Int))).bind fun z2 => bif inR z2.1 a2.length then (some (gt a2 z2.1, z2.2)) else none)
theorem draw_pick.eq (a0 : List Int) (a1 : Src) (a2 : List (List UInt8)) {r : List UInt8 × Src} (H : draw_pick.sh a0 a1 a2 = some r) : draw_pick.sh a0 a1 a2 = some r := H
theorem pick_ok {code : List Int} (hc : ∀ x ∈ code, okB x) (hl : code.length ≤ 1048577) {n : Int} (hn : n ≤ 900000000) {s : Src} (h : SrcOK n s) {l : List (List UInt8)} (h0 : 0 < l.length) : Dr (draw_pick.sh code s l) (n + 3) (fun r => r ∈ l) := by
  unfold draw_pick.sh
  have hne : decide ((l.length : Int) = 0) = false := decide_eq_false (by omega)
  obtain ⟨r, s', e, hs, hr0, hr1⟩ := next_ok hc hl hn h (m := (l.length : Int)) (by omega)
  rw [e, hne]; simp only [cond_false, Option.bind_some]
  have hr : inR r l.length = true := inR_mk hr0 hr1
  simp only [hr, cond_true]
  exact ⟨_, _, rfl, hs, gt_mem hr⟩
def draw_part.lit1 : List (List UInt8) := [([97] : List UInt8), ([98] : List UInt8), ([99] : List UInt8), ([97, 46, 98] : List UInt8), ([120] : List UInt8)]
def draw_part.sh (a0 : List Int) (a1 : Src) : Option (List UInt8 × Src) :=
  ((draw_pick.sh a0 a1 draw_part.lit1)).bind fun z7 => some (z7.1, z7.2)
theorem draw_part.eq (a0 : List Int) (a1 : Src) {r : List UInt8 × Src} (H : draw_part.sh a0 a1 = some r) : draw_part.sh a0 a1 = some r := H
/-- What the drawn parts are. -/
def isPart (t : List UInt8) : Prop := partOK t = true ∧ t.length ≤ 3 ∧ ∀ b ∈ t, bn b ≠ 47
theorem lit_part : ∀ t ∈ draw_part.lit1, isPart t := by
  intro t ht
  simp only [draw_part.lit1, List.mem_cons, List.not_mem_nil, or_false] at ht
  rcases ht with rfl | rfl | rfl | rfl | rfl <;> exact ⟨by decide, by decide, by decide⟩
theorem part_ok {code : List Int} (hc : ∀ x ∈ code, okB x) (hl : code.length ≤ 1048577) {n : Int} (hn : n ≤ 900000000) {s : Src} (h : SrcOK n s) : Dr (draw_part.sh code s) (n + 3) isPart := by
  unfold draw_part.sh
  obtain ⟨r, s', e, hs, hr⟩ := pick_ok hc hl hn h (l := draw_part.lit1) (by decide)
  rw [e]; simp only [Option.bind_some]
  exact ⟨_, _, rfl, hs, lit_part _ hr⟩
def draw_path.b1 (a0 : List Int) : List UInt8 × Int × Src → Option (Step (List UInt8 × Src) (List UInt8 × Int × Src) (List UInt8 × Src)) :=
  fun q => match q with
  | (x3_15, x4_16, y17) => bif (decide (0 < x4_16)) then (((draw_part.sh a0 y17)).bind fun z39 => bif decide (([47] : List UInt8).length + z39.1.length ≤ 9223372036854775807) then (bif decide (x3_15.length + (([47] : List UInt8) ++ z39.1).length ≤ 9223372036854775807) then (some (.nxt (x3_15 ++ (([47] : List UInt8) ++ z39.1), IntKind.wrap .i64 (x4_16 - 1), z39.2))) else none) else none) else (some (.brk (x3_15, y17)))
def draw_path.sh (k : Nat) (a0 : List Int) (a1 : Src) : Option (List UInt8 × Src) :=
  ((draw_part.sh a0 a1)).bind fun z1 => ((draw_next.sh a0 z1.2 3)).bind fun z8 => (loopF (draw_path.b1 a0) k (z1.1, z8.1, z8.2)).bind fun z => match z with | .inl t => some t | .inr (x3_21, y22) => some (x3_21, y22)
theorem draw_path.eq (a0 : List Int) (a1 : Src) {r : List UInt8 × Src} (H : draw_path.sh 4 a0 a1 = some r) : ∃ k, draw_path.sh k a0 a1 = some r := ⟨4, H⟩
/-- A path of at most m parts. -/
def isPath (m : Nat) (t : List UInt8) : Prop := ∃ l : List (List UInt8), l ≠ [] ∧ l.length ≤ m ∧ (∀ x ∈ l, isPart x) ∧ t = joinL l
theorem isPath.len {m : Nat} {t : List UInt8} (h : isPath m t) : t.length ≤ 4 * m := by
  obtain ⟨l, h1, h2, h3, rfl⟩ := h
  have : ∀ l : List (List UInt8), (∀ x ∈ l, isPart x) → (joinL l).length ≤ 4 * l.length := by
    intro l
    induction l with
    | nil => intro _; simp [joinL]
    | cons x l ih =>
      intro hx
      have h4 := ih fun y hy => hx y (by simp [hy])
      have h5 := (hx x (by simp)).2.1
      by_cases hl : l = []
      · subst hl; simp [joinL]; omega
      · rw [joinL_cons x hl]; simp; omega
  have := this l h3
  omega
theorem isPath.parts {m : Nat} {t : List UInt8} (h : isPath m t) : (cut 47 t).length ≤ m ∧ ∀ x ∈ cut 47 t, isPart x := by
  obtain ⟨l, h1, h2, h3, rfl⟩ := h
  rw [cut_joinL h1 fun x hx => (h3 x hx).2.2]
  exact ⟨h2, h3⟩
theorem isPath.ok {t : List UInt8} (h : isPath 3 t) : pathOK t = true := by
  have h1 := h.len
  obtain ⟨h2, h3⟩ := h.parts
  simp only [pathOK, Bool.and_eq_true, decide_eq_true_eq, List.all_eq_true]
  exact ⟨by omega, by omega, fun x hx => (h3 x hx).1⟩
theorem path_loop {code : List Int} (hc : ∀ x ∈ code, okB x) (hl : code.length ≤ 1048577) : ∀ (i : Nat) (k : Nat) (m : Nat) (n : Int) (t : List UInt8) (s : Src), n + 3 * i ≤ 800000000 → i < k → m + i ≤ 3 → isPath m t → SrcOK n s →
    ∃ t' s', loopF (draw_path.b1 code) k (t, (i : Int), s) = some (.inr (t', s')) ∧ isPath (m + i) t' ∧ SrcOK (n + 3 * i) s' := by
  intro i
  induction i with
  | zero =>
    intro k m n t s hn hk hm ht hs
    obtain ⟨k, rfl⟩ : ∃ k', k = k' + 1 := ⟨k - 1, by omega⟩
    exact ⟨t, s, by simp [loopF, draw_path.b1], by simpa using ht, hs.mono (by omega)⟩
  | succ i ih =>
    intro k m n t s hn hk hm ht hs
    obtain ⟨k, rfl⟩ : ∃ k', k = k' + 1 := ⟨k - 1, by omega⟩
    obtain ⟨r, s1, e, hs1, hr⟩ := part_ok hc hl (by omega) hs
    have hlt := ht.len
    have hlr := hr.2.1
    obtain ⟨l, hl1, hl2, hl3, rfl⟩ := ht
    have hnew : isPath (m + 1) (joinL l ++ ([47] ++ r)) := by
      refine ⟨l ++ [r], by simp, by simp; omega, fun x hx => ?_, ?_⟩
      · rcases List.mem_append.1 hx with h | h
        · exact hl3 x h
        · simp at h; subst h; exact hr
      · rw [joinL_append r hl1]; rfl
    obtain ⟨t', s', e2, h2, h3⟩ := ih k (m + 1) (n + 3) _ s1 (by omega) (by omega) (by omega) hnew hs1
    refine ⟨t', s', ?_, by rw [show m + (i + 1) = m + 1 + i by omega]; exact h2, h3.mono (by omega)⟩
    have hd : decide ((0 : Int) < ((i + 1 : Nat) : Int)) = true := decide_eq_true (by omega)
    have hw : IntKind.wrap .i64 (((i + 1 : Nat) : Int) - 1) = (i : Int) := by rw [show ((i + 1 : Nat) : Int) - 1 = (i : Int) by omega]; exact wrap_small (by omega) (by omega)
    have hd1 : decide (([47] : List UInt8).length + r.length ≤ 9223372036854775807) = true := decide_eq_true (by simp; omega)
    have hd2 : decide ((joinL l).length + (([47] : List UInt8) ++ r).length ≤ 9223372036854775807) = true := decide_eq_true (by simp; omega)
    rw [loopF]
    simp only [draw_path.b1, hd, cond_true, e, Option.bind_some, hd1, hd2, hw]
    exact e2
theorem path_ok {code : List Int} (hc : ∀ x ∈ code, okB x) (hl : code.length ≤ 1048577) {n : Int} (hn : n ≤ 700000000) {s : Src} (h : SrcOK n s) : Dr (draw_path.sh 4 code s) (n + 12) (isPath 3) := by
  unfold draw_path.sh
  obtain ⟨r, s1, e, hs1, hr⟩ := part_ok hc hl (by omega) h
  rw [e]; simp only [Option.bind_some]
  obtain ⟨i, s2, e, hs2, hi0, hi1⟩ := next_ok hc hl (by omega) hs1 (m := 3) (by omega)
  rw [e]; simp only [Option.bind_some]
  obtain ⟨j, rfl⟩ : ∃ j : Nat, i = j := ⟨i.toNat, by omega⟩
  obtain ⟨t', s', e2, h2, h3⟩ := path_loop hc hl j 4 1 (n + 6) r s2 (by omega) (by omega) (by omega) ⟨[r], by simp, by simp, by simpa using hr, rfl⟩ (hs2.mono (by omega))
  rw [e2]
  simp only [Option.bind_some]
  obtain ⟨l, h4, h5, h6⟩ := h2
  exact ⟨_, _, rfl, h3.mono (by omega), l, h4, by omega, h6⟩
def draw_anyPath.lit1 : List (List UInt8) := [([] : List UInt8), ([47] : List UInt8), ([97, 47] : List UInt8), ([47, 97] : List UInt8), ([97, 47, 47, 98] : List UInt8), ([46] : List UInt8), ([46, 46] : List UInt8), ([97, 47, 46, 46] : List UInt8), ([97, 32, 98] : List UInt8), ([128] : List UInt8), ([97, 47, 98, 47, 99, 47, 100] : List UInt8), ([97, 47, 98, 47, 99, 47, 100, 47, 101] : List UInt8), ([108, 111, 110, 103, 110, 97, 109, 101] : List UInt8), ([108, 111, 110, 103, 110, 97, 109, 101, 49] : List UInt8), ([46, 46, 46] : List UInt8), ([97, 0] : List UInt8)]
def draw_anyPath.lit2 : List (List UInt8) := [([47] : List UInt8), ([46] : List UInt8), ([32] : List UInt8), ([126] : List UInt8), ([127] : List UInt8)]
def draw_anyPath.lit3 : List (List UInt8) := [([47] : List UInt8), ([46] : List UInt8), ([32] : List UInt8), ([126] : List UInt8), ([127] : List UInt8)]
def draw_anyPath.sh (a0 : List Int) (a1 : Src) : Option (List UInt8 × Src) :=
  ((draw_next.sh a0 a1 5)).bind fun z1 => bif (decide (z1.1 = 0)) then (((draw_pick.sh a0 z1.2 draw_anyPath.lit1)).bind fun z15 => some (z15.1, z15.2)) else (bif (decide (z1.1 = 1)) then (((draw_path.sh 4 a0 z1.2)).bind fun z23 => ((draw_next.sh a0 z23.2 (IntKind.wrap .i64 ((z23.1.length : Int) + 1)))).bind fun z30 => bif inS 0 z30.1 (z23.1.length : Int) then (((draw_pick.sh a0 z30.2 draw_anyPath.lit2)).bind fun z44 => bif decide ((sub z23.1 0 z30.1).length + z44.1.length ≤ 9223372036854775807) then (bif inS z30.1 (z23.1.length : Int) (z23.1.length : Int) then (bif decide (((sub z23.1 0 z30.1) ++ z44.1).length + (sub z23.1 z30.1 (z23.1.length : Int)).length ≤ 9223372036854775807) then (some (((sub z23.1 0 z30.1) ++ z44.1) ++ (sub z23.1 z30.1 (z23.1.length : Int)), z44.2)) else none) else none) else none) else none) else (((draw_path.sh 4 a0 z1.2)).bind fun z223 => some (z223.1, z223.2)))
theorem draw_anyPath.eq (a0 : List Int) (a1 : Src) {r : List UInt8 × Src} (H : draw_anyPath.sh a0 a1 = some r) : draw_anyPath.sh a0 a1 = some r := H
theorem sub_len_le {α : Type} (l : List α) (i j : Int) : (sub l i j).length ≤ l.length := by simp [sub]; omega
theorem anyPath_ok {code : List Int} (hc : ∀ x ∈ code, okB x) (hl : code.length ≤ 1048577) {n : Int} (hn : n ≤ 600000000) {s : Src} (h : SrcOK n s) : Dr (draw_anyPath.sh code s) (n + 30) (fun r => r.length ≤ 100) := by
  unfold draw_anyPath.sh
  obtain ⟨i, s1, e, hs1, hi0, hi1⟩ := next_ok hc hl (by omega) h (m := 5) (by omega)
  rw [e]; simp only [Option.bind_some]
  by_cases h0 : i = 0
  · simp only [decide_eq_true h0, cond_true]
    obtain ⟨r, s2, e, hs2, hr⟩ := pick_ok hc hl (by omega) hs1 (l := draw_anyPath.lit1) (by decide)
    rw [e]; simp only [Option.bind_some]
    refine ⟨_, _, rfl, hs2.mono (by omega), ?_⟩
    have : ∀ t ∈ draw_anyPath.lit1, t.length ≤ 100 := by decide
    exact this _ hr
  · simp only [decide_eq_false h0, cond_false]
    by_cases h1 : i = 1
    · simp only [decide_eq_true h1, cond_true]
      obtain ⟨t, s2, e, hs2, ht⟩ := path_ok hc hl (by omega) hs1
      rw [e]; simp only [Option.bind_some]
      have htl := ht.len
      rw [wrap_small (n := (t.length : Int) + 1) (by omega) (by omega)]
      obtain ⟨j, s3, e, hs3, hj0, hj1⟩ := next_ok hc hl (by omega) hs2 (m := (t.length : Int) + 1) (by omega)
      rw [e]; simp only [Option.bind_some]
      have hi1 : inS 0 j (t.length : Int) = true := inS_mk (by omega) hj0 (by omega)
      simp only [hi1, cond_true]
      obtain ⟨r, s4, e, hs4, hr⟩ := pick_ok hc hl (by omega) hs3 (l := draw_anyPath.lit2) (by decide)
      rw [e]; simp only [Option.bind_some]
      have hrl : r.length ≤ 1 := by
        have : ∀ t ∈ draw_anyPath.lit2, t.length ≤ 1 := by decide
        exact this _ hr
      have hi2 : inS j (t.length : Int) (t.length : Int) = true := inS_mk hj0 (by omega) (by omega)
      have l1 := sub_len_le t 0 j
      have l2 := sub_len_le t j (t.length : Int)
      have d1 : decide ((sub t 0 j).length + r.length ≤ 9223372036854775807) = true := decide_eq_true (by omega)
      have d2 : decide (((sub t 0 j) ++ r).length + (sub t j (t.length : Int)).length ≤ 9223372036854775807) = true := decide_eq_true (by simp only [List.length_append]; omega)
      simp only [hi2, d1, d2, cond_true]
      exact ⟨_, _, rfl, hs4.mono (by omega), by simp only [List.length_append]; omega⟩
    · simp only [decide_eq_false h1, cond_false]
      obtain ⟨t, s2, e, hs2, ht⟩ := path_ok hc hl (by omega) hs1
      rw [e]; simp only [Option.bind_some]
      have htl := ht.len
      exact ⟨_, _, rfl, hs2.mono (by omega), by show t.length ≤ 100; omega⟩
theorem source_ok (code : List Int) : ∃ s, spec_l00Source.sh code = some s ∧ SrcOK 0 s := by
  have := tmod_range (a := (code.length : Int)) (n := 1000) (by omega) (by decide)
  exact ⟨_, rfl, ⟨by simp, by simp, this.1, by have := this.2; show (code.length : Int).tmod 1000 < 2147483648; omega⟩⟩
def spec_PathDrawn.sh (a0 : List Int) : Option (List UInt8) :=
  ((spec_l00Source.sh a0)).bind fun z1 => ((draw_path.sh 4 a0 z1)).bind fun z8 => some z8.1
theorem spec_PathDrawn.eq (a0 : List Int) {r : List UInt8} (H : spec_PathDrawn.sh a0 = some r) : spec_PathDrawn.sh a0 = some r := H
theorem pathDrawn_ok {code : List Int} (hc : ∀ x ∈ code, okB x) (hl : code.length ≤ 1048577) : ∃ t, spec_PathDrawn.sh code = some t ∧ isPath 3 t := by
  obtain ⟨s, e, hs⟩ := source_ok code
  obtain ⟨t, s', e2, _, ht⟩ := path_ok hc hl (by omega) hs
  exact ⟨t, by simp [spec_PathDrawn.sh, e, e2], ht⟩
def spec_AnyPathDrawn.sh (a0 : List Int) : Option (List UInt8) :=
  ((spec_l00Source.sh a0)).bind fun z1 => ((draw_anyPath.sh a0 z1)).bind fun z8 => some z8.1
theorem spec_AnyPathDrawn.eq (a0 : List Int) {r : List UInt8} (H : spec_AnyPathDrawn.sh a0 = some r) : spec_AnyPathDrawn.sh a0 = some r := H
theorem anyPathDrawn_ok {code : List Int} (hc : ∀ x ∈ code, okB x) (hl : code.length ≤ 1048577) : ∃ t, spec_AnyPathDrawn.sh code = some t ∧ t.length ≤ 100 := by
  obtain ⟨s, e, hs⟩ := source_ok code
  obtain ⟨t, s', e2, _, ht⟩ := anyPath_ok hc hl (by omega) hs
  exact ⟨t, by simp [spec_AnyPathDrawn.sh, e, e2], ht⟩
def laws_mix.sh (a0 : Int) (a1 : List Int) : Option (List Int) :=
  bif decide ((([IntKind.wrap .u8 a0] : List Int).length + a1.length) * 1 ≤ 140737488355328) then (some (([IntKind.wrap .u8 a0] : List Int) ++ a1)) else none
theorem laws_mix.eq (a0 : Int) (a1 : List Int) {r : List Int} (H : laws_mix.sh a0 a1 = some r) : laws_mix.sh a0 a1 = some r := H
theorem mix_ok {more : List Int} (hc : ∀ x ∈ more, okB x) (hl : more.length ≤ 1048576) {i : Int} (hi : 0 ≤ i) (hi2 : i ≤ 255) : ∃ l, laws_mix.sh i more = some l ∧ (∀ x ∈ l, okB x) ∧ l.length ≤ 1048577 := by
  have e : IntKind.wrap .u8 i = i := by
    have h1 : (i : Int) % 256 = i := Int.emod_eq_of_lt hi (by omega)
    simpa [IntKind.wrap, IntKind.bits, IntKind.signed] using h1
  unfold laws_mix.sh
  have hd : decide ((([i] : List Int).length + more.length) * 1 ≤ 140737488355328) = true := decide_eq_true (by simp; omega)
  simp only [e, hd, cond_true]
  refine ⟨_, rfl, fun x hx => ?_, by simp; omega⟩
  rcases List.mem_append.1 hx with h | h
  · simp at h; subst h; exact ⟨hi, hi2⟩
  · exact hc x h
theorem guard_of (a0 a1 : List Int) : (bif decide ((1048576 : Int) < (a0.length : Int)) then some true else (some (decide ((1048576 : Int) < (a1.length : Int))))) = some true ∨
    ((bif decide ((1048576 : Int) < (a0.length : Int)) then some true else (some (decide ((1048576 : Int) < (a1.length : Int))))) = some false ∧ a0.length ≤ 1048576 ∧ a1.length ≤ 1048576) := by
  by_cases h0 : (1048576 : Int) < (a0.length : Int)
  · left; rw [decide_eq_true h0]; rfl
  · by_cases h1 : (1048576 : Int) < (a1.length : Int)
    · left; rw [decide_eq_false h0, decide_eq_true h1]; rfl
    · right; rw [decide_eq_false h0, decide_eq_false h1]; exact ⟨rfl, by omega, by omega⟩

end Go.UL
