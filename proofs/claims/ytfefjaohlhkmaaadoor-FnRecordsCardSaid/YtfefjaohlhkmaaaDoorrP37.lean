/- Plain Lean: what the functions compute. -/
import Derived.Test.YtfefjaohlhkmaaaDoorrP36
set_option linter.unusedVariables false
set_option linter.unusedSimpArgs false
namespace Go.UL
open Go.RowKit
/-! ### what the sources give -/
structure SrcOK (n : Int) (s : Src) : Prop where
  p0 : 0 ≤ s.pos
  p1 : s.pos ≤ n
  s0 : 0 ≤ s.seed
  s1 : s.seed < 2147483648
theorem SrcOK.mono {n m : Int} {s : Src} (h : SrcOK n s) (k : n ≤ m) : SrcOK m s := ⟨h.p0, Int.le_trans h.p1 k, h.s0, h.s1⟩
/-- A draw: it comes to something that has Q; the source has moved on to at most n. -/
def Dr {α : Type} (X : Option (α × Src)) (n : Int) (Q : α → Prop) : Prop := ∃ r s, X = some (r, s) ∧ SrcOK n s ∧ Q r
theorem Dr.mono {α : Type} {X : Option (α × Src)} {n m : Int} {Q R : α → Prop} (h : Dr X n Q) (k : n ≤ m) (hq : ∀ r, Q r → R r) : Dr X m R := by
  obtain ⟨r, s, h1, h2, h3⟩ := h
  exact ⟨r, s, h1, h2.mono k, hq r h3⟩
theorem gt_mem {α : Type} [Inhabited α] {l : List α} {i : Int} (h : inR i l.length = true) : gt l i ∈ l := by
  obtain ⟨hj, hje⟩ := gt_get h
  rw [← hje]; exact List.getElem_mem hj
theorem tmod_range {a n : Int} (ha : 0 ≤ a) (hn : 0 < n) : 0 ≤ a.tmod n ∧ a.tmod n < n := ⟨Int.tmod_nonneg _ ha, Int.tmod_lt_of_pos _ hn⟩
def spec_l00Source.sh (a0 : List Int) : Option (Src) :=
  some (⟨0, (a0.length : Int).tmod 1000⟩ : Src)
theorem spec_l00Source.eq (a0 : List Int) {r : Src} (H : spec_l00Source.sh a0 = some r) : spec_l00Source.sh a0 = some r := H
def draw_byte.sh (a0 : List Int) (a1 : Src) : Option (Int × Src) :=
  bif (decide ((IntKind.wrap .i64 (a1.pos + 1)) ≤ (a0.length : Int))) then (bif inR (IntKind.wrap .i64 ((IntKind.wrap .i64 (a1.pos + 1)) - 1)) a0.length then (bif inR (IntKind.wrap .i64 ((IntKind.wrap .i64 (a1.pos + 1)) - 1)) a0.length then (some (IntKind.wrap .i64 (gt a0 (IntKind.wrap .i64 ((IntKind.wrap .i64 (a1.pos + 1)) - 1))), (⟨IntKind.wrap .i64 (a1.pos + 1), (IntKind.wrap .i64 ((IntKind.wrap .i64 ((IntKind.wrap .i64 (a1.seed * 31)) + (IntKind.wrap .i64 (gt a0 (IntKind.wrap .i64 ((IntKind.wrap .i64 (a1.pos + 1)) - 1)))))) + 7)).tmod 2147483648⟩ : Src))) else none) else none) else (bif (decide (3000 < (IntKind.wrap .i64 (a1.pos + 1)))) then (some (0, (⟨IntKind.wrap .i64 (a1.pos + 1), a1.seed⟩ : Src))) else (some ((IntKind.wrap .i64 (((IntKind.wrap .i64 ((IntKind.wrap .i64 (a1.seed * 1103515245)) + 12345)).tmod 2147483648).tdiv 65536)).tmod 256, (⟨IntKind.wrap .i64 (a1.pos + 1), (IntKind.wrap .i64 ((IntKind.wrap .i64 (a1.seed * 1103515245)) + 12345)).tmod 2147483648⟩ : Src))))
theorem draw_byte.eq (a0 : List Int) (a1 : Src) {r : Int × Src} (H : draw_byte.sh a0 a1 = some r) : draw_byte.sh a0 a1 = some r := H
theorem byte_ok {code : List Int} (hc : ∀ x ∈ code, okB x) (hl : code.length ≤ 1048577) {n : Int} (hn : n ≤ 1000000000) {s : Src} (h : SrcOK n s) : Dr (draw_byte.sh code s) (n + 1) (fun r => 0 ≤ r ∧ r ≤ 255) := by
  obtain ⟨h1, h2, h3, h4⟩ := h
  have e1 : IntKind.wrap .i64 (s.pos + 1) = s.pos + 1 := wrap_small (by omega) (by omega)
  have e2 : IntKind.wrap .i64 (s.pos + 1 - 1) = s.pos := by rw [show s.pos + 1 - 1 = s.pos by omega]; exact wrap_small (by omega) (by omega)
  unfold draw_byte.sh
  simp only [e1, e2]
  by_cases hb : s.pos + 1 ≤ (code.length : Int)
  · have hr : inR s.pos code.length = true := inR_mk h1 (by omega)
    have hg := hc _ (gt_mem hr)
    obtain ⟨g0, g1⟩ := hg
    have e3 : IntKind.wrap .i64 (gt code s.pos) = gt code s.pos := wrap_small (by omega) (by omega)
    have e4 : IntKind.wrap .i64 (s.seed * 31) = s.seed * 31 := wrap_small (by omega) (by omega)
    have e5 : IntKind.wrap .i64 (s.seed * 31 + gt code s.pos) = s.seed * 31 + gt code s.pos := wrap_small (by omega) (by omega)
    have e6 : IntKind.wrap .i64 (s.seed * 31 + gt code s.pos + 7) = s.seed * 31 + gt code s.pos + 7 := wrap_small (by omega) (by omega)
    simp only [e3, e4, e5, e6, hr, decide_eq_true hb, cond_true]
    have hm := tmod_range (a := s.seed * 31 + gt code s.pos + 7) (n := 2147483648) (by omega) (by decide)
    exact ⟨_, _, rfl, ⟨by simp; omega, by simp; omega, hm.1, hm.2⟩, g0, g1⟩
  · simp only [decide_eq_false hb, cond_false]
    by_cases hb2 : 3000 < s.pos + 1
    · simp only [decide_eq_true hb2, cond_true]
      exact ⟨_, _, rfl, ⟨by simp; omega, by simp; omega, h3, h4⟩, by simp, by simp⟩
    · simp only [decide_eq_false hb2, cond_false]
      have e4 : IntKind.wrap .i64 (s.seed * 1103515245) = s.seed * 1103515245 := wrap_small (by omega) (by omega)
      have e5 : IntKind.wrap .i64 (s.seed * 1103515245 + 12345) = s.seed * 1103515245 + 12345 := wrap_small (by omega) (by omega)
      simp only [e4, e5]
      have hm := tmod_range (a := s.seed * 1103515245 + 12345) (n := 2147483648) (by omega) (by decide)
      have hd : 0 ≤ ((s.seed * 1103515245 + 12345).tmod 2147483648).tdiv 65536 := Int.tdiv_nonneg hm.1 (by decide)
      have hd2 : ((s.seed * 1103515245 + 12345).tmod 2147483648).tdiv 65536 ≤ (s.seed * 1103515245 + 12345).tmod 2147483648 := Int.tdiv_le_self _ hm.1
      rw [wrap_small (n := ((s.seed * 1103515245 + 12345).tmod 2147483648).tdiv 65536) (by omega) (by omega)]
      have hm2 := tmod_range (a := ((s.seed * 1103515245 + 12345).tmod 2147483648).tdiv 65536) (n := 256) hd (by decide)
      exact ⟨_, _, rfl, ⟨by simp; omega, by simp; omega, hm.1, hm.2⟩, hm2.1, by have := hm2.2; show ((s.seed * 1103515245 + 12345).tmod 2147483648 |>.tdiv 65536).tmod 256 ≤ 255; omega⟩
def draw_next.sh (a0 : List Int) (a1 : Src) (a2 : Int) : Option (Int × Src) :=
  bif (decide (a2 ≤ 1)) then (some (0, a1)) else (bif (decide (a2 ≤ 256)) then (((draw_byte.sh a0 a1)).bind fun z3 => bif decide (¬ (a2 : Int) = 0) then (some (z3.1.tmod a2, z3.2)) else none) else (((draw_byte.sh a0 a1)).bind fun z11 => ((draw_byte.sh a0 z11.2)).bind fun z18 => ((draw_byte.sh a0 z18.2)).bind fun z25 => bif decide (¬ (a2 : Int) = 0) then (some ((IntKind.wrap .i64 ((IntKind.wrap .i64 ((IntKind.wrap .i64 (z11.1 * 65536)) + (IntKind.wrap .i64 (z18.1 * 256)))) + z25.1)).tmod a2, z25.2)) else none))
theorem draw_next.eq (a0 : List Int) (a1 : Src) (a2 : Int) {r : Int × Src} (H : draw_next.sh a0 a1 a2 = some r) : draw_next.sh a0 a1 a2 = some r := H
theorem next_ok {code : List Int} (hc : ∀ x ∈ code, okB x) (hl : code.length ≤ 1048577) {n : Int} (hn : n ≤ 900000000) {s : Src} (h : SrcOK n s) {m : Int} (hm : 0 < m) : Dr (draw_next.sh code s m) (n + 3) (fun r => 0 ≤ r ∧ r < m) := by
  unfold draw_next.sh
  by_cases h1 : m ≤ 1
  · simp only [decide_eq_true h1, cond_true]
    exact ⟨_, _, rfl, h.mono (by omega), Int.le_refl _, hm⟩
  · simp only [decide_eq_false h1, cond_false]
    have hne : decide (¬ (m : Int) = 0) = true := decide_eq_true (by omega)
    by_cases h2 : m ≤ 256
    · simp only [decide_eq_true h2, cond_true]
      obtain ⟨r, s', e, hs, hr⟩ := byte_ok hc hl (by omega) h
      rw [e]
      simp only [Option.bind_some, hne, cond_true]
      have := tmod_range (a := r) (n := m) hr.1 hm
      exact ⟨_, _, rfl, hs.mono (by omega), this⟩
    · simp only [decide_eq_false h2, cond_false]
      obtain ⟨r, s1, e, hs, hr0, hr1⟩ := byte_ok hc hl (by omega) h
      rw [e]; simp only [Option.bind_some]
      obtain ⟨r2, s2, e, hs, hp0, hp1⟩ := byte_ok hc hl (by omega) hs
      rw [e]; simp only [Option.bind_some]
      obtain ⟨r3, s3, e, hs, hq0, hq1⟩ := byte_ok hc hl (by omega) hs
      rw [e]; simp only [Option.bind_some, hne, cond_true]
      rw [wrap_small (n := r * 65536) (by omega) (by omega), wrap_small (n := r2 * 256) (by omega) (by omega), wrap_small (n := r * 65536 + r2 * 256) (by omega) (by omega), wrap_small (n := r * 65536 + r2 * 256 + r3) (by omega) (by omega)]
      have := tmod_range (a := r * 65536 + r2 * 256 + r3) (n := m) (by omega) hm
      exact ⟨_, _, rfl, hs.mono (by omega), this⟩
def draw_chance.sh (a0 : List Int) (a1 : Src) (a2 : Int) : Option (Bool × Src) :=
  ((draw_next.sh a0 a1 a2)).bind fun z1 => some ((decide (z1.1 = (IntKind.wrap .i64 (a2 - 1)))), z1.2)
theorem draw_chance.eq (a0 : List Int) (a1 : Src) (a2 : Int) {r : Bool × Src} (H : draw_chance.sh a0 a1 a2 = some r) : draw_chance.sh a0 a1 a2 = some r := H
theorem chance_ok {code : List Int} (hc : ∀ x ∈ code, okB x) (hl : code.length ≤ 1048577) {n : Int} (hn : n ≤ 900000000) {s : Src} (h : SrcOK n s) {m : Int} (hm : 0 < m) : Dr (draw_chance.sh code s m) (n + 3) (fun _ => True) := by
  unfold draw_chance.sh
  obtain ⟨r, s', e, hs, _⟩ := next_ok hc hl hn h hm
  rw [e]; simp only [Option.bind_some]
  exact ⟨_, _, rfl, hs, trivial⟩
def draw_pick.sh (a0 : List Int) (a1 : Src) (a2 : List (List UInt8)) : Option (List UInt8 × Src) :=
  bif (decide ((a2.length : Int) = 0)) then (some (([] : List UInt8), a1)) else (((draw_next.sh a0 a1 (a2.length : Int))).bind fun z2 => bif inR z2.1 a2.length then (some (gt a2 z2.1, z2.2)) else none)
theorem draw_pick.eq (a0 : List Int) (a1 : Src) (a2 : List (List UInt8)) {r : List UInt8 × Src} (H : draw_pick.sh a0 a1 a2 = some r) : draw_pick.sh a0 a1 a2 = some r := H
theorem pick_ok {code : List Int} (hc : ∀ x ∈ code, okB x) (hl : code.length ≤ 1048577) {n : Int} (hn : n ≤ 900000000) {s : Src} (h : SrcOK n s) {l : List (List UInt8)} (h0 : 0 < l.length) : Dr (draw_pick.sh code s l) (n + 3) (fun r => r ∈ l) := by
  unfold draw_pick.sh
  have hne : decide ((l.length : Int) = 0) = false := decide_eq_false (by omega)
  obtain ⟨r, s', e, hs, hr0, hr1⟩ := next_ok hc hl hn h (m := (l.length : Int)) (by omega)
  rw [e, hne]; simp only [cond_false, Option.bind_some]
  have hr : inR r l.length = true := inR_mk hr0 hr1
  simp only [hr, cond_true]
  exact ⟨_, _, rfl, hs, gt_mem hr⟩
def draw_part.lit1 : List (List UInt8) := [([97] : List UInt8), ([98] : List UInt8), ([99] : List UInt8), ([97, 46, 98] : List UInt8), ([120] : List UInt8)]
def draw_part.sh (a0 : List Int) (a1 : Src) : Option (List UInt8 × Src) :=
  ((draw_pick.sh a0 a1 draw_part.lit1)).bind fun z7 => some (z7.1, z7.2)
theorem draw_part.eq (a0 : List Int) (a1 : Src) {r : List UInt8 × Src} (H : draw_part.sh a0 a1 = some r) : draw_part.sh a0 a1 = some r := H
/-- What the drawn parts are. -/
def isPart (t : List UInt8) : Prop := partOK t = true ∧ t.length ≤ 3 ∧ ∀ b ∈ t, bn b ≠ 47
theorem lit_part : ∀ t ∈ draw_part.lit1, isPart t := by
  intro t ht
  simp only [draw_part.lit1, List.mem_cons, List.not_mem_nil, or_false] at ht
  rcases ht with rfl | rfl | rfl | rfl | rfl <;> exact ⟨by decide, by decide, by decide⟩
theorem part_ok {code : List Int} (hc : ∀ x ∈ code, okB x) (hl : code.length ≤ 1048577) {n : Int} (hn : n ≤ 900000000) {s : Src} (h : SrcOK n s) : Dr (draw_part.sh code s) (n + 3) isPart := by
  unfold draw_part.sh
  obtain ⟨r, s', e, hs, hr⟩ := pick_ok hc hl hn h (l := draw_part.lit1) (by decide)
  rw [e]; simp only [Option.bind_some]
  exact ⟨_, _, rfl, hs, lit_part _ hr⟩
def draw_path.b1 (a0 : List Int) : List UInt8 × Int × Src → Option (Step (List UInt8 × Src) (List UInt8 × Int × Src) (List UInt8 × Src)) :=
  fun q => match q with
  | (x3_15, x4_16, y17) => bif (decide (0 < x4_16)) then (((draw_part.sh a0 y17)).bind fun z39 => bif decide (([47] : List UInt8).length + z39.1.length ≤ 9223372036854775807) then (bif decide (x3_15.length + (([47] : List UInt8) ++ z39.1).length ≤ 9223372036854775807) then (some (.nxt (x3_15 ++ (([47] : List UInt8) ++ z39.1), IntKind.wrap .i64 (x4_16 - 1), z39.2))) else none) else none) else (some (.brk (x3_15, y17)))
def draw_path.sh (k : Nat) (a0 : List Int) (a1 : Src) : Option (List UInt8 × Src) :=
  ((draw_part.sh a0 a1)).bind fun z1 => ((draw_next.sh a0 z1.2 3)).bind fun z8 => (loopF (draw_path.b1 a0) k (z1.1, z8.1, z8.2)).bind fun z => match z with | .inl t => some t | .inr (x3_21, y22) => some (x3_21, y22)
theorem draw_path.eq (a0 : List Int) (a1 : Src) {r : List UInt8 × Src} (H : draw_path.sh 4 a0 a1 = some r) : ∃ k, draw_path.sh k a0 a1 = some r := ⟨4, H⟩
/-- A path of at most m parts. -/
def isPath (m : Nat) (t : List UInt8) : Prop := ∃ l : List (List UInt8), l ≠ [] ∧ l.length ≤ m ∧ (∀ x ∈ l, isPart x) ∧ t = joinL l
theorem isPath.len {m : Nat} {t : List UInt8} (h : isPath m t) : t.length ≤ 4 * m := by
  obtain ⟨l, h1, h2, h3, rfl⟩ := h
  have : ∀ l : List (List UInt8), (∀ x ∈ l, isPart x) → (joinL l).length ≤ 4 * l.length := by
    intro l
    induction l with
    | nil => intro _; simp [joinL]
    | cons x l ih =>
      intro hx
      have h4 := ih fun y hy => hx y (by simp [hy])
      have h5 := (hx x (by simp)).2.1
      by_cases hl : l = []
      · subst hl; simp [joinL]; omega
      · rw [joinL_cons x hl]; simp; omega
  have := this l h3
  omega
theorem isPath.parts {m : Nat} {t : List UInt8} (h : isPath m t) : (cut 47 t).length ≤ m ∧ ∀ x ∈ cut 47 t, isPart x := by
  obtain ⟨l, h1, h2, h3, rfl⟩ := h
  rw [cut_joinL h1 fun x hx => (h3 x hx).2.2]
  exact ⟨h2, h3⟩
theorem isPath.ok {t : List UInt8} (h : isPath 3 t) : pathOK t = true := by
  have h1 := h.len
  obtain ⟨h2, h3⟩ := h.parts
  simp only [pathOK, Bool.and_eq_true, decide_eq_true_eq, List.all_eq_true]
  exact ⟨by omega, by omega, fun x hx => (h3 x hx).1⟩
theorem path_loop {code : List Int} (hc : ∀ x ∈ code, okB x) (hl : code.length ≤ 1048577) : ∀ (i : Nat) (k : Nat) (m : Nat) (n : Int) (t : List UInt8) (s : Src), n + 3 * i ≤ 800000000 → i < k → m + i ≤ 3 → isPath m t → SrcOK n s →
    ∃ t' s', loopF (draw_path.b1 code) k (t, (i : Int), s) = some (.inr (t', s')) ∧ isPath (m + i) t' ∧ SrcOK (n + 3 * i) s' := by
  intro i
  induction i with
  | zero =>
    intro k m n t s hn hk hm ht hs
    obtain ⟨k, rfl⟩ : ∃ k', k = k' + 1 := ⟨k - 1, by omega⟩
    exact ⟨t, s, by simp [loopF, draw_path.b1], by simpa using ht, hs.mono (by omega)⟩
  | succ i ih =>
    intro k m n t s hn hk hm ht hs
    obtain ⟨k, rfl⟩ : ∃ k', k = k' + 1 := ⟨k - 1, by omega⟩
    obtain ⟨r, s1, e, hs1, hr⟩ := part_ok hc hl (by omega) hs
    have hlt := ht.len
    have hlr := hr.2.1
    obtain ⟨l, hl1, hl2, hl3, rfl⟩ := ht
    have hnew : isPath (m + 1) (joinL l ++ ([47] ++ r)) := by
      refine ⟨l ++ [r], by simp, by simp; omega, fun x hx => ?_, ?_⟩
      · rcases List.mem_append.1 hx with h | h
        · exact hl3 x h
        · simp at h; subst h; exact hr
      · rw [joinL_append r hl1]; rfl
    obtain ⟨t', s', e2, h2, h3⟩ := ih k (m + 1) (n + 3) _ s1 (by omega) (by omega) (by omega) hnew hs1
    refine ⟨t', s', ?_, by rw [show m + (i + 1) = m + 1 + i by omega]; exact h2, h3.mono (by omega)⟩
    have hd : decide ((0 : Int) < ((i + 1 : Nat) : Int)) = true := decide_eq_true (by omega)
    have hw : IntKind.wrap .i64 (((i + 1 : Nat) : Int) - 1) = (i : Int) := by rw [show ((i + 1 : Nat) : Int) - 1 = (i : Int) by omega]; exact wrap_small (by omega) (by omega)
    have hd1 : decide (([47] : List UInt8).length + r.length ≤ 9223372036854775807) = true := decide_eq_true (by simp; omega)
    have hd2 : decide ((joinL l).length + (([47] : List UInt8) ++ r).length ≤ 9223372036854775807) = true := decide_eq_true (by simp; omega)
    rw [loopF]
    simp only [draw_path.b1, hd, cond_true, e, Option.bind_some, hd1, hd2, hw]
    exact e2
theorem path_ok {code : List Int} (hc : ∀ x ∈ code, okB x) (hl : code.length ≤ 1048577) {n : Int} (hn : n ≤ 700000000) {s : Src} (h : SrcOK n s) : Dr (draw_path.sh 4 code s) (n + 12) (isPath 3) := by
  unfold draw_path.sh
  obtain ⟨r, s1, e, hs1, hr⟩ := part_ok hc hl (by omega) h
  rw [e]; simp only [Option.bind_some]
  obtain ⟨i, s2, e, hs2, hi0, hi1⟩ := next_ok hc hl (by omega) hs1 (m := 3) (by omega)
  rw [e]; simp only [Option.bind_some]
  obtain ⟨j, rfl⟩ : ∃ j : Nat, i = j := ⟨i.toNat, by omega⟩
  obtain ⟨t', s', e2, h2, h3⟩ := path_loop hc hl j 4 1 (n + 6) r s2 (by omega) (by omega) (by omega) ⟨[r], by simp, by simp, by simpa using hr, rfl⟩ (hs2.mono (by omega))
  rw [e2]
  simp only [Option.bind_some]
  obtain ⟨l, h4, h5, h6⟩ := h2
  exact ⟨_, _, rfl, h3.mono (by omega), l, h4, by omega, h6⟩
def draw_body.lit1 : List (List UInt8) := [([] : List UInt8), ([111, 110, 101] : List UInt8), ([116, 119, 111] : List UInt8), ([120, 0, 121] : List UInt8), ([108, 111, 110, 103, 32, 108, 111, 110, 103, 32, 98, 111, 100, 121, 32, 104, 101, 114, 101, 33] : List UInt8)]
def draw_body.sh (a0 : List Int) (a1 : Src) : Option (List UInt8 × Src) :=
  ((draw_pick.sh a0 a1 draw_body.lit1)).bind fun z7 => some (z7.1, z7.2)
theorem draw_body.eq (a0 : List Int) (a1 : Src) {r : List UInt8 × Src} (H : draw_body.sh a0 a1 = some r) : draw_body.sh a0 a1 = some r := H
theorem body_ok {code : List Int} (hc : ∀ x ∈ code, okB x) (hl : code.length ≤ 1048577) {n : Int} (hn : n ≤ 900000000) {s : Src} (h : SrcOK n s) : Dr (draw_body.sh code s) (n + 3) (fun r => r.length ≤ 20) := by
  unfold draw_body.sh
  obtain ⟨r, s', e, hs, hr⟩ := pick_ok hc hl hn h (l := draw_body.lit1) (by decide)
  rw [e]; simp only [Option.bind_some]
  refine ⟨_, _, rfl, hs, ?_⟩
  simp only [draw_body.lit1, List.mem_cons, List.not_mem_nil, or_false] at hr
  rcases hr with rfl | rfl | rfl | rfl | rfl <;> decide
def draw_anyPath.lit1 : List (List UInt8) := [([] : List UInt8), ([47] : List UInt8), ([97, 47] : List UInt8), ([47, 97] : List UInt8), ([97, 47, 47, 98] : List UInt8), ([46] : List UInt8), ([46, 46] : List UInt8), ([97, 47, 46, 46] : List UInt8), ([97, 32, 98] : List UInt8), ([128] : List UInt8), ([97, 47, 98, 47, 99, 47, 100] : List UInt8), ([97, 47, 98, 47, 99, 47, 100, 47, 101] : List UInt8), ([108, 111, 110, 103, 110, 97, 109, 101] : List UInt8), ([108, 111, 110, 103, 110, 97, 109, 101, 49] : List UInt8), ([46, 46, 46] : List UInt8), ([97, 0] : List UInt8)]
def draw_anyPath.lit2 : List (List UInt8) := [([47] : List UInt8), ([46] : List UInt8), ([32] : List UInt8), ([126] : List UInt8), ([127] : List UInt8)]
def draw_anyPath.lit3 : List (List UInt8) := [([47] : List UInt8), ([46] : List UInt8), ([32] : List UInt8), ([126] : List UInt8), ([127] : List UInt8)]
def draw_anyPath.sh (a0 : List Int) (a1 : Src) : Option (List UInt8 × Src) :=
  ((draw_next.sh a0 a1 5)).bind fun z1 => bif (decide (z1.1 = 0)) then (((draw_pick.sh a0 z1.2 draw_anyPath.lit1)).bind fun z15 => some (z15.1, z15.2)) else (bif (decide (z1.1 = 1)) then (((draw_path.sh 4 a0 z1.2)).bind fun z23 => ((draw_next.sh a0 z23.2 (IntKind.wrap .i64 ((z23.1.length : Int) + 1)))).bind fun z30 => bif inS 0 z30.1 (z23.1.length : Int) then (((draw_pick.sh a0 z30.2 draw_anyPath.lit2)).bind fun z44 => bif decide ((sub z23.1 0 z30.1).length + z44.1.length ≤ 9223372036854775807) then (bif inS z30.1 (z23.1.length : Int) (z23.1.length : Int) then (bif decide (((sub z23.1 0 z30.1) ++ z44.1).length + (sub z23.1 z30.1 (z23.1.length : Int)).length ≤ 9223372036854775807) then (some (((sub z23.1 0 z30.1) ++ z44.1) ++ (sub z23.1 z30.1 (z23.1.length : Int)), z44.2)) else none) else none) else none) else none) else (((draw_path.sh 4 a0 z1.2)).bind fun z223 => some (z223.1, z223.2)))
theorem draw_anyPath.eq (a0 : List Int) (a1 : Src) {r : List UInt8 × Src} (H : draw_anyPath.sh a0 a1 = some r) : draw_anyPath.sh a0 a1 = some r := H
theorem sub_len_le {α : Type} (l : List α) (i j : Int) : (sub l i j).length ≤ l.length := by simp [sub]; omega
theorem anyPath_ok {code : List Int} (hc : ∀ x ∈ code, okB x) (hl : code.length ≤ 1048577) {n : Int} (hn : n ≤ 600000000) {s : Src} (h : SrcOK n s) : Dr (draw_anyPath.sh code s) (n + 30) (fun r => r.length ≤ 100) := by
  unfold draw_anyPath.sh
  obtain ⟨i, s1, e, hs1, hi0, hi1⟩ := next_ok hc hl (by omega) h (m := 5) (by omega)
  rw [e]; simp only [Option.bind_some]
  by_cases h0 : i = 0
  · simp only [decide_eq_true h0, cond_true]
    obtain ⟨r, s2, e, hs2, hr⟩ := pick_ok hc hl (by omega) hs1 (l := draw_anyPath.lit1) (by decide)
    rw [e]; simp only [Option.bind_some]
    refine ⟨_, _, rfl, hs2.mono (by omega), ?_⟩
    have : ∀ t ∈ draw_anyPath.lit1, t.length ≤ 100 := by decide
    exact this _ hr
  · simp only [decide_eq_false h0, cond_false]
    by_cases h1 : i = 1
    · simp only [decide_eq_true h1, cond_true]
      obtain ⟨t, s2, e, hs2, ht⟩ := path_ok hc hl (by omega) hs1
      rw [e]; simp only [Option.bind_some]
      have htl := ht.len
      rw [wrap_small (n := (t.length : Int) + 1) (by omega) (by omega)]
      obtain ⟨j, s3, e, hs3, hj0, hj1⟩ := next_ok hc hl (by omega) hs2 (m := (t.length : Int) + 1) (by omega)
      rw [e]; simp only [Option.bind_some]
      have hi1 : inS 0 j (t.length : Int) = true := inS_mk (by omega) hj0 (by omega)
      simp only [hi1, cond_true]
      obtain ⟨r, s4, e, hs4, hr⟩ := pick_ok hc hl (by omega) hs3 (l := draw_anyPath.lit2) (by decide)
      rw [e]; simp only [Option.bind_some]
      have hrl : r.length ≤ 1 := by
        have : ∀ t ∈ draw_anyPath.lit2, t.length ≤ 1 := by decide
        exact this _ hr
      have hi2 : inS j (t.length : Int) (t.length : Int) = true := inS_mk hj0 (by omega) (by omega)
      have l1 := sub_len_le t 0 j
      have l2 := sub_len_le t j (t.length : Int)
      have d1 : decide ((sub t 0 j).length + r.length ≤ 9223372036854775807) = true := decide_eq_true (by omega)
      have d2 : decide (((sub t 0 j) ++ r).length + (sub t j (t.length : Int)).length ≤ 9223372036854775807) = true := decide_eq_true (by simp only [List.length_append]; omega)
      simp only [hi2, d1, d2, cond_true]
      exact ⟨_, _, rfl, hs4.mono (by omega), by simp only [List.length_append]; omega⟩
    · simp only [decide_eq_false h1, cond_false]
      obtain ⟨t, s2, e, hs2, ht⟩ := path_ok hc hl (by omega) hs1
      rw [e]; simp only [Option.bind_some]
      have htl := ht.len
      exact ⟨_, _, rfl, hs2.mono (by omega), by show t.length ≤ 100; omega⟩
def draw_record.sh (a0 : List Int) (a1 : Src) (a2 : List UInt8) : Option (Rec × Src) :=
  ((draw_next.sh a0 a1 8)).bind fun z7 => ((bif (decide (z7.1 = 0)) then (some (.inr (decide (z7.1 = 0)))) else (bif (decide (z7.1 = 1)) then (some (.inr (decide (z7.1 = 1)))) else (some (.inr (decide (z7.1 = 2))))) : Option (((Rec × Src) ⊕ (Src)) ⊕ (Bool))).bind fun z => match z with | .inl t => some t | .inr x7_21 => bif x7_21 then (((draw_body.sh a0 z7.2)).bind fun z33 => ((draw_next.sh a0 z33.2 3)).bind fun z46 => bif inR z46.1 ([420, 0, 511] : List Int).length then (some (.inl ((⟨1, a2, z33.1, gt ([420, 0, 511] : List Int) z46.1, false⟩ : Rec), z46.2))) else none) else (bif (decide (z7.1 = 3)) then (((draw_pick.sh a0 z7.2 ([([97] : List UInt8), ([46, 46, 47, 98] : List UInt8), ([47] : List UInt8)] : List (List UInt8)))).bind fun z66 => some (.inl ((⟨2, a2, z66.1, 0, false⟩ : Rec), z66.2))) else (bif (decide (z7.1 = 4)) then (bif (decide (z7.1 = 4)) then (some (.inl ((⟨4, a2, ([] : List UInt8), 0, false⟩ : Rec), z7.2))) else (some (.inr z7.2))) else (bif (decide (z7.1 = 5)) then (some (.inl ((⟨4, a2, ([] : List UInt8), 0, false⟩ : Rec), z7.2))) else (some (.inr z7.2))))) : Option ((Rec × Src) ⊕ (Src))).bind fun z => match z with | .inl t => some t | .inr y17 => ((draw_next.sh a0 y17 2)).bind fun z98 => bif inR z98.1 ([493, 448] : List Int).length then (((draw_chance.sh a0 z98.2 3)).bind fun z108 => some ((⟨3, a2, ([] : List UInt8), gt ([493, 448] : List Int) z98.1, z108.1⟩ : Rec), z108.2)) else none
theorem draw_record.eq (a0 : List Int) (a1 : Src) (a2 : List UInt8) {r : Rec × Src} (H : draw_record.sh a0 a1 a2 = some r) : draw_record.sh a0 a1 a2 = some r := H
theorem fault_mk {k m : Int} {p b : List UInt8} {o : Bool} (h1 : within k 1 4 = true) (h2 : pathOK p = true) (h3 : (decide (20 < b.length) || (decide (k = 2) && decide (b = []))) = false) (h4 : (((decide (k = 3) || decide (k = 4)) && !decide (b = [])) || (!decide (k = 3) && o)) = false)
    (h5 : (!within m 0 511 || ((decide (k = 2) || decide (k = 4)) && !decide (m = 0))) = false) : recFault ⟨k, p, b, m, o⟩ = 0 := (recFault_parts ⟨k, p, b, m, o⟩).2 ⟨h1, h2, h3, h4, h5⟩
theorem record_ok {code : List Int} (hc : ∀ x ∈ code, okB x) (hl : code.length ≤ 1048577) {n : Int} (hn : n ≤ 700000000) {s : Src} (h : SrcOK n s) {p : List UInt8} (hp : pathOK p = true) : Dr (draw_record.sh code s p) (n + 12) (fun r => recFault r = 0 ∧ r.path = p) := by
  unfold draw_record.sh
  obtain ⟨i, s1, e, hs1, hi0, hi1⟩ := next_ok hc hl (by omega) h (m := 8) (by omega)
  rw [e]; simp only [Option.bind_some]
  have hcase : i = 0 ∨ i = 1 ∨ i = 2 ∨ i = 3 ∨ i = 4 ∨ i = 5 ∨ i = 6 ∨ i = 7 := by omega
  have file : ∀ F : Src → Option (Rec × Src), Dr ((((draw_body.sh code s1)).bind fun z33 => ((draw_next.sh code z33.2 3)).bind fun z46 => bif inR z46.1 ([420, 0, 511] : List Int).length then (some (Sum.inl ((⟨1, p, z33.1, gt ([420, 0, 511] : List Int) z46.1, false⟩ : Rec), z46.2) : (Rec × Src) ⊕ Src)) else none).bind fun z => match z with | .inl t => some t | .inr y => F y) (n + 12) (fun r => recFault r = 0 ∧ r.path = p) := by
    intro F
    obtain ⟨b, s2, e, hs2, hb⟩ := body_ok hc hl (by omega) hs1
    rw [e]; simp only [Option.bind_some]
    obtain ⟨j, s3, e, hs3, hj0, hj1⟩ := next_ok hc hl (by omega) hs2 (m := 3) (by omega)
    rw [e]; simp only [Option.bind_some]
    have hj : inR j ([420, 0, 511] : List Int).length = true := inR_mk hj0 (by simpa using hj1)
    simp only [hj, cond_true, Option.bind_some]
    refine ⟨_, _, rfl, hs3.mono (by omega), ?_, rfl⟩
    have hm := gt_mem hj
    have hmm : within (gt ([420, 0, 511] : List Int) j) 0 511 = true := by
      have : ∀ x ∈ ([420, 0, 511] : List Int), within x 0 511 = true := by decide
      exact this _ hm
    exact fault_mk (by decide) hp (by simp; omega) (by simp) (by simp [hmm])
  have white : recFault ⟨4, p, [], 0, false⟩ = 0 := fault_mk (by decide) hp (by simp) (by simp) (by decide)
  have dir : ∀ s2 : Src, SrcOK (n + 3) s2 → Dr (((draw_next.sh code s2 2)).bind fun z98 => bif inR z98.1 ([493, 448] : List Int).length then (((draw_chance.sh code z98.2 3)).bind fun z108 => some ((⟨3, p, ([] : List UInt8), gt ([493, 448] : List Int) z98.1, z108.1⟩ : Rec), z108.2)) else none) (n + 12) (fun r => recFault r = 0 ∧ r.path = p) := by
    intro s2 hs2
    obtain ⟨j, s3, e, hs3, hj0, hj1⟩ := next_ok hc hl (by omega) hs2 (m := 2) (by omega)
    rw [e]; simp only [Option.bind_some]
    have hj : inR j ([493, 448] : List Int).length = true := inR_mk hj0 (by simpa using hj1)
    simp only [hj, cond_true]
    obtain ⟨b, s4, e, hs4, _⟩ := chance_ok hc hl (by omega) hs3 (m := 3) (by omega)
    rw [e]; simp only [Option.bind_some]
    refine ⟨_, _, rfl, hs4.mono (by omega), ?_, rfl⟩
    have hm := gt_mem hj
    have hmm : within (gt ([493, 448] : List Int) j) 0 511 = true := by
      have : ∀ x ∈ ([493, 448] : List Int), within x 0 511 = true := by decide
      exact this _ hm
    exact fault_mk (by decide) hp (by simp) (by simp) (by simp [hmm])
  rcases hcase with rfl | rfl | rfl | rfl | rfl | rfl | rfl | rfl
  · simp
    exact file _
  · simp
    exact file _
  · simp
    exact file _
  · simp
    obtain ⟨b, s2, e, hs2, hb⟩ := pick_ok hc hl (by omega) hs1 (l := ([([97] : List UInt8), ([46, 46, 47, 98] : List UInt8), ([47] : List UInt8)] : List (List UInt8))) (by decide)
    rw [e]; simp only [Option.bind_some]
    refine ⟨_, _, rfl, hs2.mono (by omega), ?_, rfl⟩
    have hb1 : (decide (20 < b.length) || (decide ((2 : Int) = 2) && decide (b = []))) = false := by
      have : ∀ x ∈ ([([97] : List UInt8), ([46, 46, 47, 98] : List UInt8), ([47] : List UInt8)] : List (List UInt8)), (decide (20 < x.length) || (decide ((2 : Int) = 2) && decide (x = []))) = false := by decide
      exact this _ hb
    exact fault_mk (by decide) hp hb1 (by simp) (by decide)
  · simp
    exact ⟨_, _, rfl, hs1.mono (by omega), white, rfl⟩
  · simp
    exact ⟨_, _, rfl, hs1.mono (by omega), white, rfl⟩
  · have := dir s1 hs1
    simpa using this
  · have := dir s1 hs1
    simpa using this
theorem source_ok (code : List Int) : ∃ s, spec_l00Source.sh code = some s ∧ SrcOK 0 s := by
  have := tmod_range (a := (code.length : Int)) (n := 1000) (by omega) (by decide)
  exact ⟨_, rfl, ⟨by simp, by simp, this.1, by have := this.2; show (code.length : Int).tmod 1000 < 2147483648; omega⟩⟩
def spec_AnyPathDrawn.sh (a0 : List Int) : Option (List UInt8) :=
  ((spec_l00Source.sh a0)).bind fun z1 => ((draw_anyPath.sh a0 z1)).bind fun z8 => some z8.1
theorem spec_AnyPathDrawn.eq (a0 : List Int) {r : List UInt8} (H : spec_AnyPathDrawn.sh a0 = some r) : spec_AnyPathDrawn.sh a0 = some r := H
theorem anyPathDrawn_ok {code : List Int} (hc : ∀ x ∈ code, okB x) (hl : code.length ≤ 1048577) : ∃ t, spec_AnyPathDrawn.sh code = some t ∧ t.length ≤ 100 := by
  obtain ⟨s, e, hs⟩ := source_ok code
  obtain ⟨t, s', e2, _, ht⟩ := anyPath_ok hc hl (by omega) hs
  exact ⟨t, by simp [spec_AnyPathDrawn.sh, e, e2], ht⟩
def spec_RecordDrawn.sh (a0 : List Int) : Option (Rec) :=
  ((spec_l00Source.sh a0)).bind fun z7 => ((draw_path.sh 4 a0 z7)).bind fun z14 => ((draw_record.sh a0 z14.2 z14.1)).bind fun z21 => some z21.1
theorem spec_RecordDrawn.eq (a0 : List Int) {r : Rec} (H : spec_RecordDrawn.sh a0 = some r) : spec_RecordDrawn.sh a0 = some r := H
theorem recordDrawn_ok {code : List Int} (hc : ∀ x ∈ code, okB x) (hl : code.length ≤ 1048577) : ∃ r, spec_RecordDrawn.sh code = some r ∧ recFault r = 0 ∧ isPath 3 r.path := by
  obtain ⟨s, e, hs⟩ := source_ok code
  obtain ⟨t, s1, e2, hs1, ht⟩ := path_ok hc hl (by omega) hs
  obtain ⟨r, s2, e3, _, hr, hrp⟩ := record_ok hc hl (by omega) hs1 ht.ok
  exact ⟨r, by simp [spec_RecordDrawn.sh, e, e2, e3], hr, by rw [hrp]; exact ht⟩
def laws_at.sh (a0 : List Int) (a1 : Int) (a2 : Int) : Option (Int) :=
  bif (decide (a2 ≤ 1)) then (some 0) else (bif (decide ((a0.length : Int) = 0)) then (bif decide (¬ (a2 : Int) = 0) then (some ((IntKind.wrap .i64 (a1 * 7)).tmod a2)) else none) else (bif decide (¬ ((a0.length : Int) : Int) = 0) then (bif inR (a1.tmod (a0.length : Int)) a0.length then (bif decide (¬ ((a0.length : Int) : Int) = 0) then (bif inR ((IntKind.wrap .i64 (a1 + 1)).tmod (a0.length : Int)) a0.length then (bif decide (¬ ((a0.length : Int) : Int) = 0) then (bif decide (¬ (a2 : Int) = 0) then (some ((IntKind.wrap .i64 ((IntKind.wrap .i64 ((IntKind.wrap .i64 ((IntKind.wrap .i64 (gt a0 (a1.tmod (a0.length : Int)))) * 31)) + (IntKind.wrap .i64 (gt a0 ((IntKind.wrap .i64 (a1 + 1)).tmod (a0.length : Int)))))) + (IntKind.wrap .i64 (a1.tdiv (a0.length : Int))))).tmod a2)) else none) else none) else none) else none) else none) else none))
theorem laws_at.eq (a0 : List Int) (a1 a2 : Int) {r : Int} (H : laws_at.sh a0 a1 a2 = some r) : laws_at.sh a0 a1 a2 = some r := H
theorem at_ok {more : List Int} (hc : ∀ x ∈ more, okB x) (hl : more.length ≤ 1048576) {i n : Int} (hi : 0 ≤ i) (hi2 : i ≤ 1000000) (hn : 0 < n) : ∃ r, laws_at.sh more i n = some r ∧ 0 ≤ r ∧ r < n := by
  unfold laws_at.sh
  by_cases h1 : n ≤ 1
  · simp only [decide_eq_true h1, cond_true]; exact ⟨0, rfl, by omega, by omega⟩
  · have hne : decide (¬ (n : Int) = 0) = true := decide_eq_true (by omega)
    simp only [decide_eq_false h1, cond_false, hne, cond_true]
    by_cases h0 : (more.length : Int) = 0
    · simp only [decide_eq_true h0, cond_true]
      rw [wrap_small (n := i * 7) (by omega) (by omega)]
      exact ⟨_, rfl, tmod_range (by omega) hn⟩
    · have hne2 : decide (¬ ((more.length : Int) : Int) = 0) = true := decide_eq_true (by omega)
      have m1 := tmod_range (a := i) (n := (more.length : Int)) hi (by omega)
      have m2 := tmod_range (a := i + 1) (n := (more.length : Int)) (by omega) (by omega)
      have r1 : inR (i.tmod (more.length : Int)) more.length = true := inR_mk m1.1 m1.2
      have r2 : inR ((i + 1).tmod (more.length : Int)) more.length = true := inR_mk m2.1 m2.2
      have b1 := hc _ (gt_mem r1)
      have b2 := hc _ (gt_mem r2)
      obtain ⟨b10, b11⟩ := b1
      obtain ⟨b20, b21⟩ := b2
      have hd : 0 ≤ i.tdiv (more.length : Int) := Int.tdiv_nonneg hi (by omega)
      have hd2 : i.tdiv (more.length : Int) ≤ i := Int.tdiv_le_self _ hi
      have e0 : IntKind.wrap .i64 (i + 1) = i + 1 := wrap_small (by omega) (by omega)
      simp only [decide_eq_false h0, cond_false, hne2, cond_true, r1, e0, r2]
      rw [wrap_small (n := gt more (i.tmod (more.length : Int))) (by omega) (by omega), wrap_small (n := gt more ((i + 1).tmod (more.length : Int))) (by omega) (by omega), wrap_small (n := gt more (i.tmod (more.length : Int)) * 31) (by omega) (by omega),
        wrap_small (n := gt more (i.tmod (more.length : Int)) * 31 + gt more ((i + 1).tmod (more.length : Int))) (by omega) (by omega), wrap_small (n := i.tdiv (more.length : Int)) (by omega) (by omega), wrap_small (n := gt more (i.tmod (more.length : Int)) * 31 + gt more ((i + 1).tmod (more.length : Int)) + i.tdiv (more.length : Int)) (by omega) (by omega)]
      exact ⟨_, rfl, tmod_range (by omega) hn⟩
def law_FnRecords.sh (a0 : List Int) (a1 : List Int) : Option (Bool) :=
  ((bif (decide (1048576 < (a0.length : Int))) then some true else (some (decide (1048576 < (a1.length : Int)))))).bind fun z2 => bif z2 then (some true) else (((spec_RecordDrawn.sh a0)).bind fun z11 => ((spec_AnyPathDrawn.sh a1)).bind fun z24 => ((laws_at.sh a1 0 2)).bind fun z34 => bif inR z34 ([z11.path, z24] : List (List UInt8)).length then (bif inS 0 (if (25 < (a1.length : Int) : Prop) then 25 else (a1.length : Int)) (a1.length : Int) then ((some (bytesOf (sub a1 0 (if (25 < (a1.length : Int) : Prop) then 25 else (a1.length : Int))))).bind fun z135 => ((laws_at.sh a1 1 600)).bind fun z137 => (some ((makeR ⟨1, (gt ([z11.path, z24] : List (List UInt8)) z34), z135, (IntKind.wrap .i64 (z137 - 20)), false⟩).1)).bind fun z143 => (some ((makeR ⟨1, (gt ([z11.path, z24] : List (List UInt8)) z34), z135, (IntKind.wrap .i64 (z137 - 20)), false⟩).2)).bind fun z145 => (some ((makeR ⟨1, (gt ([z11.path, z24] : List (List UInt8)) z34), z135, (IntKind.wrap .i64 (z137 - 20)), false⟩).1)).bind fun z158 => (some ((makeR ⟨1, (gt ([z11.path, z24] : List (List UInt8)) z34), z135, (IntKind.wrap .i64 (z137 - 20)), false⟩).2)).bind fun z160 => ((laws_at.sh a1 2 2)).bind fun z171 => (some ((makeR ⟨3, (gt ([z11.path, z24] : List (List UInt8)) z34), [], (IntKind.wrap .i64 (z137 - 20)), (decide (z171 = 0))⟩).1)).bind fun z177 => (some ((makeR ⟨3, (gt ([z11.path, z24] : List (List UInt8)) z34), [], (IntKind.wrap .i64 (z137 - 20)), (decide (z171 = 0))⟩).2)).bind fun z179 => ((laws_at.sh a1 2 2)).bind fun z190 => (some ((makeR ⟨3, (gt ([z11.path, z24] : List (List UInt8)) z34), [], (IntKind.wrap .i64 (z137 - 20)), (decide (z190 = 0))⟩).1)).bind fun z196 => (some ((makeR ⟨3, (gt ([z11.path, z24] : List (List UInt8)) z34), [], (IntKind.wrap .i64 (z137 - 20)), (decide (z190 = 0))⟩).2)).bind fun z198 => (some ((makeR ⟨2, (gt ([z11.path, z24] : List (List UInt8)) z34), z135, 0, false⟩).1)).bind fun z211 => (some ((makeR ⟨2, (gt ([z11.path, z24] : List (List UInt8)) z34), z135, 0, false⟩).2)).bind fun z213 => (some ((makeR ⟨2, (gt ([z11.path, z24] : List (List UInt8)) z34), z135, 0, false⟩).1)).bind fun z226 => (some ((makeR ⟨2, (gt ([z11.path, z24] : List (List UInt8)) z34), z135, 0, false⟩).2)).bind fun z228 => (some ((makeR ⟨4, (gt ([z11.path, z24] : List (List UInt8)) z34), [], 0, false⟩).1)).bind fun z241 => (some ((makeR ⟨4, (gt ([z11.path, z24] : List (List UInt8)) z34), [], 0, false⟩).2)).bind fun z243 => (some ((makeR ⟨4, (gt ([z11.path, z24] : List (List UInt8)) z34), [], 0, false⟩).1)).bind fun z256 => (some ((makeR ⟨4, (gt ([z11.path, z24] : List (List UInt8)) z34), [], 0, false⟩).2)).bind fun z258 => ((bif (!decide (z143 = z158)) then some true else (some (!decide (z145 = z160))))).bind fun z270 => ((bif (z270 || (!decide (z177 = z196))) then some true else (some (!decide (z179 = z198))))).bind fun z285 => ((bif (z285 || (!decide (z211 = z226))) then some true else (some (!decide (z213 = z228))))).bind fun z300 => ((bif (z300 || (!decide (z241 = z256))) then some true else (some (!decide (z243 = z258))))).bind fun z315 => ((bif (z315 || (!decide ((recFault z11) = 0))) then some true else (some (!(decide (recFault z11 = 0)))))).bind fun z330 => bif z330 then (some false) else (some (((decide ((recFault (⟨z11.kind, z11.path, z11.body, IntKind.wrap .i64 (z137 - 20), (!z11.opq)⟩ : Rec)) = (recFault (⟨z11.kind, z11.path, z11.body, IntKind.wrap .i64 (z137 - 20), (!z11.opq)⟩ : Rec)))) && (decide ((decide (recFault (⟨z11.kind, z11.path, z11.body, IntKind.wrap .i64 (z137 - 20), (!z11.opq)⟩ : Rec) = 0)) = (decide ((recFault (⟨z11.kind, z11.path, z11.body, IntKind.wrap .i64 (z137 - 20), (!z11.opq)⟩ : Rec)) = 0))))) && ((!decide (z160 = 0)) || ((decide (z143.path = (gt ([z11.path, z24] : List (List UInt8)) z34))) && (decide (z143.body = z135))))))) else none) else none)
theorem makeR_zero {r : Rec} (h : (makeR r).2 = 0) : (makeR r).1 = r := by
  unfold makeR at h ⊢
  split at h
  · exact absurd h (by decide)
  · rename_i hc
    rw [if_neg hc]
    unfold made at h ⊢
    split at h
    · rename_i h0; rw [if_pos h0]
    · rename_i h0; exact absurd h h0
theorem guard_of (a0 a1 : List Int) : (bif decide ((1048576 : Int) < (a0.length : Int)) then some true else (some (decide ((1048576 : Int) < (a1.length : Int))))) = some true ∨
    ((bif decide ((1048576 : Int) < (a0.length : Int)) then some true else (some (decide ((1048576 : Int) < (a1.length : Int))))) = some false ∧ a0.length ≤ 1048576 ∧ a1.length ≤ 1048576) := by
  by_cases h0 : (1048576 : Int) < (a0.length : Int)
  · left; rw [decide_eq_true h0]; rfl
  · by_cases h1 : (1048576 : Int) < (a1.length : Int)
    · left; rw [decide_eq_false h0, decide_eq_true h1]; rfl
    · right; rw [decide_eq_false h0, decide_eq_false h1]; exact ⟨rfl, by omega, by omega⟩
theorem law_FnRecords.eq (a0 a1 : List Int) (h2 : ∀ x ∈ a0, okB x) (h3 : a0.length ≤ 9223372036854775807) (h4 : ∀ x ∈ a1, okB x) (h5 : a1.length ≤ 9223372036854775807) : law_FnRecords.sh a0 a1 = some true := by
  unfold law_FnRecords.sh
  rcases guard_of a0 a1 with hg | ⟨hg, l0, l1⟩
  · rw [hg]; rfl
  · rw [hg]
    obtain ⟨r, e1, hr, hp⟩ := recordDrawn_ok h2 (by omega)
    obtain ⟨t, e2, ht⟩ := anyPathDrawn_ok h4 (by omega)
    obtain ⟨i, e3, hi0, hi1⟩ := at_ok h4 l1 (i := 0) (n := 2) (by omega) (by omega) (by omega)
    obtain ⟨m, e4, hm0, hm1⟩ := at_ok h4 l1 (i := 1) (n := 600) (by omega) (by omega) (by omega)
    obtain ⟨o, e5, ho0, ho1⟩ := at_ok h4 l1 (i := 2) (n := 2) (by omega) (by omega) (by omega)
    have hi : inR i ([r.path, t] : List (List UInt8)).length = true := inR_mk hi0 (by simpa using hi1)
    have hs : inS 0 (if (25 < (a1.length : Int) : Prop) then 25 else (a1.length : Int)) (a1.length : Int) = true := inS_mk (by omega) (by split <;> omega) (by split <;> omega)
    simp only [e1, e2, e3, e4, e5, hi, hs, cond_false, cond_true, Option.bind_some]
    generalize gt ([r.path, t] : List (List UInt8)) i = p
    generalize bytesOf (sub a1 0 (if (25 < (a1.length : Int) : Prop) then 25 else (a1.length : Int))) = b
    generalize IntKind.wrap .i64 (m - 20) = n
    simp only [decide_true, Bool.not_true, Bool.false_or, Bool.or_false, hr, cond_false, Bool.true_and, Option.some.injEq, Option.bind_some]
    by_cases hz : (makeR ⟨1, p, b, n, false⟩).2 = 0
    · rw [makeR_zero hz]; simp [hz]
    · simp [hz]

end Go.UL
