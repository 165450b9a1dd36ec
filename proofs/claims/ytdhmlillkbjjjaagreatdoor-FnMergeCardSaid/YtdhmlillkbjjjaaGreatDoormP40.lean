import Derived.Test.YtdhmlillkbjjjaaGreatDoormP34
set_option linter.unusedVariables false
set_option linter.unusedSimpArgs false
namespace Go.UL
open Go.RowKit
set_option linter.unusedSectionVars false
section
variable {x y : List Rec} (hx : Sheet x) (hy : Sheet y) (cx : Yx x = x) (cy : Yx y = y) {p : List UInt8} (hp : qy p = true) (hlt : ∀ q, ltP q p = true → jx x q = jx y q)
include hx hy cx cy hp hlt
end
def jw (r x : Rec) : Bool := !decide (x.path = r.path) && (decide (r.kind = 3) || !yj x.path r.path)
def QC (l : List Rec) (r : Rec) : List Rec := (l.filter fun x => jw r x && ltP x.path r.path) ++ r :: l.filter fun x => jw r x && ltP r.path x.path
def QG (l : List Rec) (p : List UInt8) : Bool := decide (0 ≤ qt l p) && decide ((gt l (qt l p)).kind = 3)
def Qz : Nat → List Rec → Rec → List Rec
 | 0, l, r => QC l r
 | n + 1, l, r => QC (if qb r.path ≠ [] ∧ QG l (qb r.path) = false then Qz n l ⟨3, qb r.path, [], 493, false⟩ else l) r
theorem hasDir_iff {l : List Rec} {p : List UInt8} : QG l p = true ↔ ∃ q, jx l p = some q ∧ q.kind = 3 := by
 unfold QG
 rw [Bool.and_eq_true, decide_eq_true_eq, decide_eq_true_eq]
 constructor
 ·rintro ⟨h1, h2⟩
  cases h : jx l p with
  | none => exact absurd h ((jd l p).1.1 h1)
  | some r => rw [(jd l p).2 r h] at h2; exact ⟨r, rfl, h2⟩
 ·rintro ⟨q, h1, h2⟩
  exact ⟨(jd l p).1.2 (by rw [h1]; simp), by rw [(jd l p).2 q h1]; exact h2⟩
theorem jy {l : List Rec} {r x : Rec} : x ∈ QC l r ↔ x = r ∨ (x ∈ l ∧ jw r x = true) := by
 unfold QC
 simp only [List.mem_append, List.mem_cons, List.mem_filter, Bool.and_eq_true]
 constructor
 ·rintro (⟨h1, h2, _⟩ | h | ⟨h1, h2, _⟩)
  ·exact .inr ⟨h1, h2⟩
  ·exact .inl h
  ·exact .inr ⟨h1, h2⟩
 ·rintro (h | ⟨h1, h2⟩)
  ·exact .inr (.inl h)
  ·rcases qw (ltP x.path r.path) with h3 | h3
   ·exact .inl ⟨h1, h2, h3⟩
   ·rcases qw (ltP r.path x.path) with h4 | h4
    ·exact .inr (.inr ⟨h1, h2, h4⟩)
    ·have := Vf h3 h4
     unfold jw at h2
     rw [decide_eq_true this] at h2; simp at h2
theorem J8 {l : List Rec} {r : Rec} (h : jk (l.map (·.path))) : jk ((QC l r).map (·.path)) := by
 have hf : ∀ q : Rec → Bool, jk ((l.filter q).map (·.path)) := fun q => XK (fun r : Rec => r.path) q h
 unfold QC
 rw [List.map_append, List.map_cons]
 refine List.pairwise_append.2 ⟨hf _, List.pairwise_cons.2 ⟨fun p hp => ?_, hf _⟩, fun a ha b hb => ?_⟩
 ·obtain ⟨x, hx, rfl⟩ := List.mem_map.1 hp
  have := (List.mem_filter.1 hx).2
  rw [Bool.and_eq_true] at this
  exact this.2
 ·obtain ⟨x, hx, rfl⟩ := List.mem_map.1 ha
  have h1 := (List.mem_filter.1 hx).2
  rw [Bool.and_eq_true] at h1
  rcases List.mem_cons.1 hb with rfl | hb
  ·exact h1.2
  ·obtain ⟨y, hy, rfl⟩ := List.mem_map.1 hb
   have h2 := (List.mem_filter.1 hy).2
   rw [Bool.and_eq_true] at h2
   exact Qi h1.2 h2.2
theorem VK {l : List Rec} {r : Rec} (hl : Sheet l) (hr : qz r = 0) (hp : qb r.path ≠ [] → ∃ q ∈ l, q.path = qb r.path ∧ q.kind = 3) : Sheet (QC l r) := by
 have hrp := yA hr
 refine ⟨J8 hl.rise, fun x hx => ?_, fun x hx hpx => ?_⟩
 ·rcases jy.1 hx with rfl | ⟨h1, _⟩
  ·exact hr
  ·exact hl.ok x h1
 ·rcases jy.1 hx with rfl | ⟨h1, h2⟩
  ·obtain ⟨q, q1, q2, q3⟩ := hp hpx
   refine ⟨q, jy.2 (.inr ⟨q1, ?_⟩), q2, q3⟩
   have hb := yN hpx
   unfold jw
   rw [decide_eq_false (by rw [q2]; exact fun e => X5 hb e.symm), q2, Xt hb]; simp
  ·obtain ⟨q, q1, q2, q3⟩ := hl.par x h1 hpx
   unfold jw at h2
   rw [Bool.and_eq_true, Bool.or_eq_true, decide_eq_true_eq] at h2
   by_cases e : q.path = r.path
   ·rcases h2.2 with h3 | h3
    ·exact ⟨r, jy.2 (.inl rfl), by rw [← e, q2], h3⟩
    ·have : yj x.path r.path = true := by rw [← e, q2]; exact yN hpx
     rw [this] at h3; cases h3
   ·refine ⟨q, jy.2 (.inr ⟨q1, ?_⟩), q2, q3⟩
    unfold jw
    rw [decide_eq_false e]
    rcases h2.2 with h3 | h3
    ·simp [h3]
    ·rcases qw (yj q.path r.path) with h4 | h4
     ·have := VZ (yN hpx) (q2 ▸ h4)
      rw [this] at h3; cases h3
     ·simp [h4]
theorem YM {p : List UInt8} (h : qb p ≠ []) : 1 < (cut 47 p).length := by
 have h1 := QO (yN h)
 refine Classical.byContradiction fun h2 => h ?_
 have h3 : cut 47 (qb p) = [] := List.eq_nil_of_length_eq_zero (by omega)
 have := Qn (qb p)
 rw [h3] at this
 exact this.symm
theorem dirR_ok {p : List UInt8} (h : qy p = true) : qz ⟨3, p, [], 493, false⟩ = 0 := (VR _).2 ⟨rfl, h, rfl, rfl, rfl⟩
theorem X7 : ∀ (n : Nat) (l : List Rec) (r : Rec), Sheet l → qz r = 0 → (cut 47 r.path).length ≤ n + 1 → Sheet (Qz n l r) ∧ r ∈ Qz n l r := by
 intro n
 induction n with
 | zero =>
  intro l r hl hr hd
  exact ⟨VK hl hr fun hp => by have := YM hp; omega, jy.2 (.inl rfl)⟩
 | succ n ih =>
  intro l r hl hr hd
  rw [Qz]
  by_cases hc : qb r.path ≠ [] ∧ QG l (qb r.path) = false
  ·rw [if_pos hc]
   have hpp := Vo (yA hr) hc.1
   have hdd := QO (yN hc.1)
   obtain ⟨i1, i2⟩ := ih l ⟨3, qb r.path, [], 493, false⟩ hl (dirR_ok hpp) (by show (cut 47 (qb r.path)).length ≤ n + 1; omega)
   exact ⟨VK i1 hr fun _ => ⟨_, i2, rfl, rfl⟩, jy.2 (.inl rfl)⟩
  ·rw [if_neg hc]
   refine ⟨VK hl hr fun hp => ?_, jy.2 (.inl rfl)⟩
   have hh : QG l (qb r.path) = true := by
    rcases qw (QG l (qb r.path)) with h | h
    ·exact h
    ·exact absurd ⟨hp, h⟩ hc
   obtain ⟨q, q1, q2⟩ := hasDir_iff.1 hh
   obtain ⟨g1, g2⟩ := JP q1
   exact ⟨q, g1, g2, q2⟩
theorem Jb (l : List Rec) (r : Rec) : (QC l r).length ≤ l.length + 1 := by
 have h : ∀ (q : Rec → Bool) (m : List Rec), (m.filter fun x => jw r x && ltP x.path r.path).length + (m.filter fun x => jw r x && ltP r.path x.path).length ≤ m.length := by
  intro _ m
  induction m with
  | nil => simp
  | cons x m ih =>
   rcases qw (ltP x.path r.path) with h1 | h1
   ·have h2 := QJ h1
    rcases qw (jw r x) with h3 | h3 <;> simp [h1, h2, h3] <;> omega
   ·rcases qw (jw r x) with h3 | h3 <;> rcases qw (ltP r.path x.path) with h4 | h4 <;> simp [h1, h3, h4] <;> omega
 have := h (fun _ => true) l
 unfold QC
 simp only [List.length_append, List.length_cons]; omega
theorem putR_len : ∀ (n : Nat) (l : List Rec) (r : Rec), (Qz n l r).length ≤ l.length + n + 1 := by
 intro n
 induction n with
 | zero => intro l r; exact Jb l r
 | succ n ih =>
  intro l r
  rw [Qz]
  split
  ·have h1 := Jb (Qz n l ⟨3, qb r.path, [], 493, false⟩) r
   have h2 := ih l ⟨3, qb r.path, [], 493, false⟩
   omega
  ·have := Jb l r; omega
structure SrcOK (n : Int) (s : DSrc) : Prop where
 p0 : 0 ≤ s.pos
 p1 : s.pos ≤ n
 s0 : 0 ≤ s.seed
 s1 : s.seed < 2147483648
theorem SrcOK.mono {n m : Int} {s : DSrc} (h : SrcOK n s) (k : n ≤ m) : SrcOK m s := ⟨h.p0, Int.le_trans h.p1 k, h.s0, h.s1⟩
def Dr {α : Type} (X : Option (α × DSrc)) (n : Int) (Q : α → Prop) : Prop := ∃ r s, X = some (r, s) ∧ SrcOK n s ∧ Q r
theorem Dr.mono {α : Type} {X : Option (α × DSrc)} {n m : Int} {Q R : α → Prop} (h : Dr X n Q) (k : n ≤ m) (hq : ∀ r, Q r → R r) : Dr X m R := by
 obtain ⟨r, s, h1, h2, h3⟩ := h
 exact ⟨r, s, h1, h2.mono k, hq r h3⟩
theorem Yo {α : Type} [Inhabited α] {l : List α} {i : Int} (h : inR i l.length = true) : gt l i ∈ l := by
 obtain ⟨hj, hje⟩ := Vz h
 rw [← hje]; exact List.getElem_mem hj
theorem QE {a n : Int} (ha : 0 ≤ a) (hn : 0 < n) : 0 ≤ a.tmod n ∧ a.tmod n < n := ⟨Int.tmod_nonneg _ ha, Int.tmod_lt_of_pos _ hn⟩
def vM.sh (a0 : List Int) : Option (DSrc) :=
 some (⟨0, (a0.length : Int).tmod 1000⟩ : DSrc)
theorem vM.eq (a0 : List Int) {r : DSrc} (H : vM.sh a0 = some r) : vM.sh a0 = some r := H
def qU.sh (a0 : List Int) (a1 : DSrc) : Option (Int × DSrc) :=
 bif (decide ((IntKind.wrap .i64 (a1.pos + 1)) ≤ (a0.length : Int))) then (bif inR (IntKind.wrap .i64 ((IntKind.wrap .i64 (a1.pos + 1)) - 1)) a0.length then (bif inR (IntKind.wrap .i64 ((IntKind.wrap .i64 (a1.pos + 1)) - 1)) a0.length then (some (IntKind.wrap .i64 (gt a0 (IntKind.wrap .i64 ((IntKind.wrap .i64 (a1.pos + 1)) - 1))), (⟨IntKind.wrap .i64 (a1.pos + 1), (IntKind.wrap .i64 ((IntKind.wrap .i64 ((IntKind.wrap .i64 (a1.seed * 31)) + (IntKind.wrap .i64 (gt a0 (IntKind.wrap .i64 ((IntKind.wrap .i64 (a1.pos + 1)) - 1)))))) + 7)).tmod 2147483648⟩ : DSrc))) else none) else none) else (bif (decide (3000 < (IntKind.wrap .i64 (a1.pos + 1)))) then (some (0, (⟨IntKind.wrap .i64 (a1.pos + 1), a1.seed⟩ : DSrc))) else (some ((IntKind.wrap .i64 (((IntKind.wrap .i64 ((IntKind.wrap .i64 (a1.seed * 1103515245)) + 12345)).tmod 2147483648).tdiv 65536)).tmod 256, (⟨IntKind.wrap .i64 (a1.pos + 1), (IntKind.wrap .i64 ((IntKind.wrap .i64 (a1.seed * 1103515245)) + 12345)).tmod 2147483648⟩ : DSrc))))
theorem qU.eq (a0 : List Int) (a1 : DSrc) {r : Int × DSrc} (H : qU.sh a0 a1 = some r) : qU.sh a0 a1 = some r := H
theorem JE {code : List Int} (hc : ∀ x ∈ code, okB x) (hl : code.length ≤ 1048577) {n : Int} (hn : n ≤ 1000000000) {s : DSrc} (h : SrcOK n s) : Dr (qU.sh code s) (n + 1) (fun r => 0 ≤ r ∧ r ≤ 255) := by
 obtain ⟨h1, h2, h3, h4⟩ := h
 have e1 : IntKind.wrap .i64 (s.pos + 1) = s.pos + 1 := wrap_small (by omega) (by omega)
 have e2 : IntKind.wrap .i64 (s.pos + 1 - 1) = s.pos := by rw [show s.pos + 1 - 1 = s.pos by omega]; exact wrap_small (by omega) (by omega)
 unfold qU.sh
 simp only [e1, e2]
 by_cases hb : s.pos + 1 ≤ (code.length : Int)
 ·have hr : inR s.pos code.length = true := QU h1 (by omega)
  have hg := hc _ (Yo hr)
  obtain ⟨g0, g1⟩ := hg
  have e3 : IntKind.wrap .i64 (gt code s.pos) = gt code s.pos := wrap_small (by omega) (by omega)
  have e4 : IntKind.wrap .i64 (s.seed * 31) = s.seed * 31 := wrap_small (by omega) (by omega)
  have e5 : IntKind.wrap .i64 (s.seed * 31 + gt code s.pos) = s.seed * 31 + gt code s.pos := wrap_small (by omega) (by omega)
  have e6 : IntKind.wrap .i64 (s.seed * 31 + gt code s.pos + 7) = s.seed * 31 + gt code s.pos + 7 := wrap_small (by omega) (by omega)
  simp only [e3, e4, e5, e6, hr, decide_eq_true hb, cond_true]
  have hm := QE (a := s.seed * 31 + gt code s.pos + 7) (n := 2147483648) (by omega) (by decide)
  exact ⟨_, _, rfl, ⟨by simp; omega, by simp; omega, hm.1, hm.2⟩, g0, g1⟩
 ·simp only [decide_eq_false hb, cond_false]
  by_cases hb2 : 3000 < s.pos + 1
  ·simp only [decide_eq_true hb2, cond_true]
   exact ⟨_, _, rfl, ⟨by simp; omega, by simp; omega, h3, h4⟩, by simp, by simp⟩
  ·simp only [decide_eq_false hb2, cond_false]
   have e4 : IntKind.wrap .i64 (s.seed * 1103515245) = s.seed * 1103515245 := wrap_small (by omega) (by omega)
   have e5 : IntKind.wrap .i64 (s.seed * 1103515245 + 12345) = s.seed * 1103515245 + 12345 := wrap_small (by omega) (by omega)
   simp only [e4, e5]
   have hm := QE (a := s.seed * 1103515245 + 12345) (n := 2147483648) (by omega) (by decide)
   have hd : 0 ≤ ((s.seed * 1103515245 + 12345).tmod 2147483648).tdiv 65536 := Int.tdiv_nonneg hm.1 (by decide)
   have hd2 : ((s.seed * 1103515245 + 12345).tmod 2147483648).tdiv 65536 ≤ (s.seed * 1103515245 + 12345).tmod 2147483648 := Int.tdiv_le_self _ hm.1
   rw [wrap_small (n := ((s.seed * 1103515245 + 12345).tmod 2147483648).tdiv 65536) (by omega) (by omega)]
   have hm2 := QE (a := ((s.seed * 1103515245 + 12345).tmod 2147483648).tdiv 65536) (n := 256) hd (by decide)
   exact ⟨_, _, rfl, ⟨by simp; omega, by simp; omega, hm.1, hm.2⟩, hm2.1, by have := hm2.2; show ((s.seed * 1103515245 + 12345).tmod 2147483648 |>.tdiv 65536).tmod 256 ≤ 255; omega⟩
def vj.sh (a0 : List Int) (a1 : DSrc) (a2 : Int) : Option (Int × DSrc) :=
 bif (decide (a2 ≤ 1)) then (some (0, a1)) else (bif (decide (a2 ≤ 256)) then (((qU.sh a0 a1)).bind fun z3 => bif decide (¬ (a2 : Int) = 0) then (some (z3.1.tmod a2, z3.2)) else none) else (((qU.sh a0 a1)).bind fun z11 => ((qU.sh a0 z11.2)).bind fun z18 => ((qU.sh a0 z18.2)).bind fun z25 => bif decide (¬ (a2 : Int) = 0) then (some ((IntKind.wrap .i64 ((IntKind.wrap .i64 ((IntKind.wrap .i64 (z11.1 * 65536)) + (IntKind.wrap .i64 (z18.1 * 256)))) + z25.1)).tmod a2, z25.2)) else none))
theorem vj.eq (a0 : List Int) (a1 : DSrc) (a2 : Int) {r : Int × DSrc} (H : vj.sh a0 a1 a2 = some r) : vj.sh a0 a1 a2 = some r := H
theorem Vh {code : List Int} (hc : ∀ x ∈ code, okB x) (hl : code.length ≤ 1048577) {n : Int} (hn : n ≤ 900000000) {s : DSrc} (h : SrcOK n s) {m : Int} (hm : 0 < m) : Dr (vj.sh code s m) (n + 3) (fun r => 0 ≤ r ∧ r < m) := by
 unfold vj.sh
 by_cases h1 : m ≤ 1
 ·simp only [decide_eq_true h1, cond_true]
  exact ⟨_, _, rfl, h.mono (by omega), Int.le_refl _, hm⟩
 ·simp only [decide_eq_false h1, cond_false]
  have hne : decide (¬ (m : Int) = 0) = true := decide_eq_true (by omega)
  by_cases h2 : m ≤ 256
  ·simp only [decide_eq_true h2, cond_true]
   obtain ⟨r, s', e, hs, hr⟩ := JE hc hl (by omega) h
   rw [e]
   simp only [Option.bind_some, hne, cond_true]
   have := QE (a := r) (n := m) hr.1 hm
   exact ⟨_, _, rfl, hs.mono (by omega), this⟩
  ·simp only [decide_eq_false h2, cond_false]
   obtain ⟨r, s1, e, hs, hr0, hr1⟩ := JE hc hl (by omega) h
   rw [e]; simp only [Option.bind_some]
   obtain ⟨r2, s2, e, hs, hp0, hp1⟩ := JE hc hl (by omega) hs
   rw [e]; simp only [Option.bind_some]
   obtain ⟨r3, s3, e, hs, hq0, hq1⟩ := JE hc hl (by omega) hs
   rw [e]; simp only [Option.bind_some, hne, cond_true]
   rw [wrap_small (n := r * 65536) (by omega) (by omega), wrap_small (n := r2 * 256) (by omega) (by omega), wrap_small (n := r * 65536 + r2 * 256) (by omega) (by omega), wrap_small (n := r * 65536 + r2 * 256 + r3) (by omega) (by omega)]
   have := QE (a := r * 65536 + r2 * 256 + r3) (n := m) (by omega) hm
   exact ⟨_, _, rfl, hs.mono (by omega), this⟩
def yk.sh (a0 : List Int) (a1 : DSrc) (a2 : Int) : Option (Bool × DSrc) :=
 ((vj.sh a0 a1 a2)).bind fun z1 => some ((decide (z1.1 = (IntKind.wrap .i64 (a2 - 1)))), z1.2)
theorem yk.eq (a0 : List Int) (a1 : DSrc) (a2 : Int) {r : Bool × DSrc} (H : yk.sh a0 a1 a2 = some r) : yk.sh a0 a1 a2 = some r := H
theorem chance_ok {code : List Int} (hc : ∀ x ∈ code, okB x) (hl : code.length ≤ 1048577) {n : Int} (hn : n ≤ 900000000) {s : DSrc} (h : SrcOK n s) {m : Int} (hm : 0 < m) : Dr (yk.sh code s m) (n + 3) (fun _ => True) := by
 unfold yk.sh
 obtain ⟨r, s', e, hs, _⟩ := Vh hc hl hn h hm
 rw [e]; simp only [Option.bind_some]
 exact ⟨_, _, rfl, hs, trivial⟩
def y0.sh (a0 : List Int) (a1 : DSrc) (a2 : Int) : Option (Int × DSrc) :=
 some ((if (a2 < (IntKind.wrap .i64 (1 + (IntKind.wrap .i64 ((a0.length : Int).tdiv 12)))) : Prop) then a2 else (IntKind.wrap .i64 (1 + (IntKind.wrap .i64 ((a0.length : Int).tdiv 12))))), a1)
theorem y0.eq (a0 : List Int) (a1 : DSrc) (a2 : Int) {r : Int × DSrc} (H : y0.sh a0 a1 a2 = some r) : y0.sh a0 a1 a2 = some r := H
theorem room_ok {code : List Int} (hl : code.length ≤ 1048577) {n : Int} {s : DSrc} (h : SrcOK n s) {m : Int} (hm : 0 < m) : Dr (y0.sh code s m) n (fun r => 0 < r ∧ r ≤ m) := by
 unfold y0.sh
 have hd : 0 ≤ (code.length : Int).tdiv 12 := Int.tdiv_nonneg (by omega) (by decide)
 have hd2 : (code.length : Int).tdiv 12 ≤ (code.length : Int) := Int.tdiv_le_self _ (by omega)
 rw [wrap_small (n := (code.length : Int).tdiv 12) (by omega) (by omega), wrap_small (n := 1 + (code.length : Int).tdiv 12) (by omega) (by omega)]
 refine ⟨_, _, rfl, h, ?_, ?_⟩
 ·show 0 < (if m < 1 + (code.length : Int).tdiv 12 then m else 1 + (code.length : Int).tdiv 12); split <;> omega
 ·show (if m < 1 + (code.length : Int).tdiv 12 then m else 1 + (code.length : Int).tdiv 12) ≤ m; split <;> omega
def yy.sh (a0 : List Int) (a1 : DSrc) (a2 : List (List UInt8)) : Option (List UInt8 × DSrc) :=
 bif (decide ((a2.length : Int) = 0)) then (some (([] : List UInt8), a1)) else (((vj.sh a0 a1 (a2.length : Int))).bind fun z2 => bif inR z2.1 a2.length then (some (gt a2 z2.1, z2.2)) else none)
theorem yy.eq (a0 : List Int) (a1 : DSrc) (a2 : List (List UInt8)) {r : List UInt8 × DSrc} (H : yy.sh a0 a1 a2 = some r) : yy.sh a0 a1 a2 = some r := H
theorem G8 {code : List Int} (hc : ∀ x ∈ code, okB x) (hl : code.length ≤ 1048577) {n : Int} (hn : n ≤ 900000000) {s : DSrc} (h : SrcOK n s) {l : List (List UInt8)} (h0 : 0 < l.length) : Dr (yy.sh code s l) (n + 3) (fun r => r ∈ l) := by
 unfold yy.sh
 have hne : decide ((l.length : Int) = 0) = false := decide_eq_false (by omega)
 obtain ⟨r, s', e, hs, hr0, hr1⟩ := Vh hc hl hn h (m := (l.length : Int)) (by omega)
 rw [e, hne]; simp only [cond_false, Option.bind_some]
 have hr : inR r l.length = true := QU hr0 hr1
 simp only [hr, cond_true]
 exact ⟨_, _, rfl, hs, Yo hr⟩
def vK.lit1 : List (List UInt8) := [([97] : List UInt8), ([98] : List UInt8), ([99] : List UInt8), ([97, 46, 98] : List UInt8), ([120] : List UInt8)]
def vK.sh (a0 : List Int) (a1 : DSrc) : Option (List UInt8 × DSrc) :=
 ((yy.sh a0 a1 vK.lit1)).bind fun z7 => some (z7.1, z7.2)
theorem vK.eq (a0 : List Int) (a1 : DSrc) {r : List UInt8 × DSrc} (H : vK.sh a0 a1 = some r) : vK.sh a0 a1 = some r := H
def JO (t : List UInt8) : Prop := yP t = true ∧ t.length ≤ 3 ∧ ∀ b ∈ t, bn b ≠ 47
theorem lit_part : ∀ t ∈ vK.lit1, JO t := by
 intro t ht
 simp only [vK.lit1, List.mem_cons, List.not_mem_nil, or_false] at ht
 rcases ht with rfl | rfl | rfl | rfl | rfl <;> exact ⟨by decide, by decide, by decide⟩
theorem part_ok {code : List Int} (hc : ∀ x ∈ code, okB x) (hl : code.length ≤ 1048577) {n : Int} (hn : n ≤ 900000000) {s : DSrc} (h : SrcOK n s) : Dr (vK.sh code s) (n + 3) JO := by
 unfold vK.sh
 obtain ⟨r, s', e, hs, hr⟩ := G8 hc hl hn h (l := vK.lit1) (by decide)
 rw [e]; simp only [Option.bind_some]
 exact ⟨_, _, rfl, hs, lit_part _ hr⟩
def ya.b1 (a0 : List Int) : List UInt8 × Int × DSrc → Option (Step (List UInt8 × DSrc) (List UInt8 × Int × DSrc) (List UInt8 × DSrc)) :=
 fun q => match q with
 | (x3_15, x4_16, y17) => bif (decide (0 < x4_16)) then (((vK.sh a0 y17)).bind fun z39 => bif decide (([47] : List UInt8).length + z39.1.length ≤ 9223372036854775807) then (bif decide (x3_15.length + (([47] : List UInt8) ++ z39.1).length ≤ 9223372036854775807) then (some (.nxt (x3_15 ++ (([47] : List UInt8) ++ z39.1), IntKind.wrap .i64 (x4_16 - 1), z39.2))) else none) else none) else (some (.brk (x3_15, y17)))
def ya.sh (k : Nat) (a0 : List Int) (a1 : DSrc) : Option (List UInt8 × DSrc) :=
  ((vK.sh a0 a1)).bind fun z1 => ((vj.sh a0 z1.2 3)).bind fun z8 => (qn (ya.b1 a0) k (z1.1, z8.1, z8.2)).bind fun z => match z with | .inl t => some t | .inr (x3_21, y22) => some (x3_21, y22)
theorem ya.eq (a0 : List Int) (a1 : DSrc) {r : List UInt8 × DSrc} (H : ya.sh 4 a0 a1 = some r) : ∃ k, ya.sh k a0 a1 = some r := ⟨4, H⟩
def Vp (m : Nat) (t : List UInt8) : Prop := ∃ l : List (List UInt8), l ≠ [] ∧ l.length ≤ m ∧ (∀ x ∈ l, JO x) ∧ t = ym l
theorem Vp.len {m : Nat} {t : List UInt8} (h : Vp m t) : t.length ≤ 4 * m := by
 obtain ⟨l, h1, h2, h3, rfl⟩ := h
 have : ∀ l : List (List UInt8), (∀ x ∈ l, JO x) → (ym l).length ≤ 4 * l.length := by
  intro l
  induction l with
  | nil => intro _; simp [ym]
  | cons x l ih =>
   intro hx
   have h4 := ih fun y hy => hx y (by simp [hy])
   have h5 := (hx x (by simp)).2.1
   by_cases hl : l = []
   ·subst hl; simp [ym]; omega
   ·rw [QD x hl]; simp; omega
 have := this l h3
 omega
theorem Vp.parts {m : Nat} {t : List UInt8} (h : Vp m t) : (cut 47 t).length ≤ m ∧ ∀ x ∈ cut 47 t, JO x := by
 obtain ⟨l, h1, h2, h3, rfl⟩ := h
 rw [YX h1 fun x hx => (h3 x hx).2.2]
 exact ⟨h2, h3⟩
theorem Vp.ok {t : List UInt8} (h : Vp 3 t) : qy t = true := by
 have h1 := h.len
 obtain ⟨h2, h3⟩ := h.parts
 simp only [qy, Bool.and_eq_true, decide_eq_true_eq, List.all_eq_true]
 exact ⟨by omega, by omega, fun x hx => (h3 x hx).1⟩
theorem path_loop {code : List Int} (hc : ∀ x ∈ code, okB x) (hl : code.length ≤ 1048577) : ∀ (i : Nat) (k : Nat) (m : Nat) (n : Int) (t : List UInt8) (s : DSrc), n + 3 * i ≤ 800000000 → i < k → m + i ≤ 3 → Vp m t → SrcOK n s →
  ∃ t' s', qn (ya.b1 code) k (t, (i : Int), s) = some (.inr (t', s')) ∧ Vp (m + i) t' ∧ SrcOK (n + 3 * i) s' := by
 intro i
 induction i with
 | zero =>
  intro k m n t s hn hk hm ht hs
  obtain ⟨k, rfl⟩ : ∃ k', k = k' + 1 := ⟨k - 1, by omega⟩
  exact ⟨t, s, by simp [qn, ya.b1], by simpa using ht, hs.mono (by omega)⟩
 | succ i ih =>
  intro k m n t s hn hk hm ht hs
  obtain ⟨k, rfl⟩ : ∃ k', k = k' + 1 := ⟨k - 1, by omega⟩
  obtain ⟨r, s1, e, hs1, hr⟩ := part_ok hc hl (by omega) hs
  have hlt := ht.len
  have hlr := hr.2.1
  obtain ⟨l, hl1, hl2, hl3, rfl⟩ := ht
  have hnew : Vp (m + 1) (ym l ++ ([47] ++ r)) := by
   refine ⟨l ++ [r], by simp, by simp; omega, fun x hx => ?_, ?_⟩
   ·rcases List.mem_append.1 hx with h | h
    ·exact hl3 x h
    ·simp at h; subst h; exact hr
   ·rw [Vu r hl1]; rfl
  obtain ⟨t', s', e2, h2, h3⟩ := ih k (m + 1) (n + 3) _ s1 (by omega) (by omega) (by omega) hnew hs1
  refine ⟨t', s', ?_, by rw [show m + (i + 1) = m + 1 + i by omega]; exact h2, h3.mono (by omega)⟩
  have hd : decide ((0 : Int) < ((i + 1 : Nat) : Int)) = true := decide_eq_true (by omega)
  have hw : IntKind.wrap .i64 (((i + 1 : Nat) : Int) - 1) = (i : Int) := by rw [show ((i + 1 : Nat) : Int) - 1 = (i : Int) by omega]; exact wrap_small (by omega) (by omega)
  have hd1 : decide (([47] : List UInt8).length + r.length ≤ 9223372036854775807) = true := decide_eq_true (by simp; omega)
  have hd2 : decide ((ym l).length + (([47] : List UInt8) ++ r).length ≤ 9223372036854775807) = true := decide_eq_true (by simp; omega)
  rw [qn]
  simp only [ya.b1, hd, cond_true, e, Option.bind_some, hd1, hd2, hw]
  exact e2
theorem path_ok {code : List Int} (hc : ∀ x ∈ code, okB x) (hl : code.length ≤ 1048577) {n : Int} (hn : n ≤ 700000000) {s : DSrc} (h : SrcOK n s) : Dr (ya.sh 4 code s) (n + 12) (Vp 3) := by
 unfold ya.sh
 obtain ⟨r, s1, e, hs1, hr⟩ := part_ok hc hl (by omega) h
 rw [e]; simp only [Option.bind_some]
 obtain ⟨i, s2, e, hs2, hi0, hi1⟩ := Vh hc hl (by omega) hs1 (m := 3) (by omega)
 rw [e]; simp only [Option.bind_some]
 obtain ⟨j, rfl⟩ : ∃ j : Nat, i = j := ⟨i.toNat, by omega⟩
 obtain ⟨t', s', e2, h2, h3⟩ := path_loop hc hl j 4 1 (n + 6) r s2 (by omega) (by omega) (by omega) ⟨[r], by simp, by simp, by simpa using hr, rfl⟩ (hs2.mono (by omega))
 rw [e2]
 simp only [Option.bind_some]
 obtain ⟨l, h4, h5, h6⟩ := h2
 exact ⟨_, _, rfl, h3.mono (by omega), l, h4, by omega, h6⟩
def vZ.lit1 : List (List UInt8) := [([] : List UInt8), ([111, 110, 101] : List UInt8), ([116, 119, 111] : List UInt8), ([120, 0, 121] : List UInt8), ([108, 111, 110, 103, 32, 108, 111, 110, 103, 32, 98, 111, 100, 121, 32, 104, 101, 114, 101, 33] : List UInt8)]
def vZ.sh (a0 : List Int) (a1 : DSrc) : Option (List UInt8 × DSrc) :=
 ((yy.sh a0 a1 vZ.lit1)).bind fun z7 => some (z7.1, z7.2)
theorem vZ.eq (a0 : List Int) (a1 : DSrc) {r : List UInt8 × DSrc} (H : vZ.sh a0 a1 = some r) : vZ.sh a0 a1 = some r := H
theorem body_ok {code : List Int} (hc : ∀ x ∈ code, okB x) (hl : code.length ≤ 1048577) {n : Int} (hn : n ≤ 900000000) {s : DSrc} (h : SrcOK n s) : Dr (vZ.sh code s) (n + 3) (fun r => r.length ≤ 20) := by
 unfold vZ.sh
 obtain ⟨r, s', e, hs, hr⟩ := G8 hc hl hn h (l := vZ.lit1) (by decide)
 rw [e]; simp only [Option.bind_some]
 refine ⟨_, _, rfl, hs, ?_⟩
 simp only [vZ.lit1, List.mem_cons, List.not_mem_nil, or_false] at hr
 rcases hr with rfl | rfl | rfl | rfl | rfl <;> decide
def yx.sh (a0 : List Int) (a1 : DSrc) (a2 : List UInt8) : Option (Rec × DSrc) :=
  ((vj.sh a0 a1 8)).bind fun z7 => ((bif (decide (z7.1 = 0)) then (some (.inr (decide (z7.1 = 0)))) else (bif (decide (z7.1 = 1)) then (some (.inr (decide (z7.1 = 1)))) else (some (.inr (decide (z7.1 = 2))))) : Option (((Rec × DSrc) ⊕ (DSrc)) ⊕ (Bool))).bind fun z => match z with | .inl t => some t | .inr x7_21 => bif x7_21 then (((vZ.sh a0 z7.2)).bind fun z33 => ((vj.sh a0 z33.2 3)).bind fun z46 => bif inR z46.1 ([420, 0, 511] : List Int).length then (some (.inl ((⟨1, a2, z33.1, gt ([420, 0, 511] : List Int) z46.1, false⟩ : Rec), z46.2))) else none) else (bif (decide (z7.1 = 3)) then (((yy.sh a0 z7.2 ([([97] : List UInt8), ([46, 46, 47, 98] : List UInt8), ([47] : List UInt8)] : List (List UInt8)))).bind fun z66 => some (.inl ((⟨2, a2, z66.1, 0, false⟩ : Rec), z66.2))) else (bif (decide (z7.1 = 4)) then (bif (decide (z7.1 = 4)) then (some (.inl ((⟨4, a2, ([] : List UInt8), 0, false⟩ : Rec), z7.2))) else (some (.inr z7.2))) else (bif (decide (z7.1 = 5)) then (some (.inl ((⟨4, a2, ([] : List UInt8), 0, false⟩ : Rec), z7.2))) else (some (.inr z7.2))))) : Option ((Rec × DSrc) ⊕ (DSrc))).bind fun z => match z with | .inl t => some t | .inr y17 => ((vj.sh a0 y17 2)).bind fun z98 => bif inR z98.1 ([493, 448] : List Int).length then (((yk.sh a0 z98.2 3)).bind fun z108 => some ((⟨3, a2, ([] : List UInt8), gt ([493, 448] : List Int) z98.1, z108.1⟩ : Rec), z108.2)) else none
theorem yx.eq (a0 : List Int) (a1 : DSrc) (a2 : List UInt8) {r : Rec × DSrc} (H : yx.sh a0 a1 a2 = some r) : yx.sh a0 a1 a2 = some r := H
theorem YC {k m : Int} {p b : List UInt8} {o : Bool} (h1 : within k 1 4 = true) (h2 : qy p = true) (h3 : (decide (20 < b.length) || (decide (k = 2) && decide (b = []))) = false) (h4 : (((decide (k = 3) || decide (k = 4)) && !decide (b = [])) || (!decide (k = 3) && o)) = false)
  (h5 : (!within m 0 511 || ((decide (k = 2) || decide (k = 4)) && !decide (m = 0))) = false) : qz ⟨k, p, b, m, o⟩ = 0 := (VR ⟨k, p, b, m, o⟩).2 ⟨h1, h2, h3, h4, h5⟩
theorem record_ok {code : List Int} (hc : ∀ x ∈ code, okB x) (hl : code.length ≤ 1048577) {n : Int} (hn : n ≤ 700000000) {s : DSrc} (h : SrcOK n s) {p : List UInt8} (hp : qy p = true) : Dr (yx.sh code s p) (n + 12) (fun r => qz r = 0 ∧ r.path = p) := by
  unfold yx.sh
  obtain ⟨i, s1, e, hs1, hi0, hi1⟩ := Vh hc hl (by omega) h (m := 8) (by omega)
  rw [e]; simp only [Option.bind_some]
  have hcase : i = 0 ∨ i = 1 ∨ i = 2 ∨ i = 3 ∨ i = 4 ∨ i = 5 ∨ i = 6 ∨ i = 7 := by omega
  have file : ∀ F : DSrc → Option (Rec × DSrc), Dr ((((vZ.sh code s1)).bind fun z33 => ((vj.sh code z33.2 3)).bind fun z46 => bif inR z46.1 ([420, 0, 511] : List Int).length then (some (Sum.inl ((⟨1, p, z33.1, gt ([420, 0, 511] : List Int) z46.1, false⟩ : Rec), z46.2) : (Rec × DSrc) ⊕ DSrc)) else none).bind fun z => match z with | .inl t => some t | .inr y => F y) (n + 12) (fun r => qz r = 0 ∧ r.path = p) := by
    intro F
    obtain ⟨b, s2, e, hs2, hb⟩ := body_ok hc hl (by omega) hs1
    rw [e]; simp only [Option.bind_some]
    obtain ⟨j, s3, e, hs3, hj0, hj1⟩ := Vh hc hl (by omega) hs2 (m := 3) (by omega)
    rw [e]; simp only [Option.bind_some]
    have hj : inR j ([420, 0, 511] : List Int).length = true := QU hj0 (by simpa using hj1)
    simp only [hj, cond_true, Option.bind_some]
    refine ⟨_, _, rfl, hs3.mono (by omega), ?_, rfl⟩
    have hm := Yo hj
    have hmm : within (gt ([420, 0, 511] : List Int) j) 0 511 = true := by
      have : ∀ x ∈ ([420, 0, 511] : List Int), within x 0 511 = true := by decide
      exact this _ hm
    exact YC (by decide) hp (by simp; omega) (by simp) (by simp [hmm])
  have white : qz ⟨4, p, [], 0, false⟩ = 0 := YC (by decide) hp (by simp) (by simp) (by decide)
  have dir : ∀ s2 : DSrc, SrcOK (n + 3) s2 → Dr (((vj.sh code s2 2)).bind fun z98 => bif inR z98.1 ([493, 448] : List Int).length then (((yk.sh code z98.2 3)).bind fun z108 => some ((⟨3, p, ([] : List UInt8), gt ([493, 448] : List Int) z98.1, z108.1⟩ : Rec), z108.2)) else none) (n + 12) (fun r => qz r = 0 ∧ r.path = p) := by
    intro s2 hs2
    obtain ⟨j, s3, e, hs3, hj0, hj1⟩ := Vh hc hl (by omega) hs2 (m := 2) (by omega)
    rw [e]; simp only [Option.bind_some]
    have hj : inR j ([493, 448] : List Int).length = true := QU hj0 (by simpa using hj1)
    simp only [hj, cond_true]
    obtain ⟨b, s4, e, hs4, _⟩ := chance_ok hc hl (by omega) hs3 (m := 3) (by omega)
    rw [e]; simp only [Option.bind_some]
    refine ⟨_, _, rfl, hs4.mono (by omega), ?_, rfl⟩
    have hm := Yo hj
    have hmm : within (gt ([493, 448] : List Int) j) 0 511 = true := by
      have : ∀ x ∈ ([493, 448] : List Int), within x 0 511 = true := by decide
      exact this _ hm
    exact YC (by decide) hp (by simp) (by simp) (by simp [hmm])
  rcases hcase with rfl | rfl | rfl | rfl | rfl | rfl | rfl | rfl
  · simp
    exact file _
  · simp
    exact file _
  · simp
    exact file _
  · simp
    obtain ⟨b, s2, e, hs2, hb⟩ := G8 hc hl (by omega) hs1 (l := ([([97] : List UInt8), ([46, 46, 47, 98] : List UInt8), ([47] : List UInt8)] : List (List UInt8))) (by decide)
    rw [e]; simp only [Option.bind_some]
    refine ⟨_, _, rfl, hs2.mono (by omega), ?_, rfl⟩
    have hb1 : (decide (20 < b.length) || (decide ((2 : Int) = 2) && decide (b = []))) = false := by
      have : ∀ x ∈ ([([97] : List UInt8), ([46, 46, 47, 98] : List UInt8), ([47] : List UInt8)] : List (List UInt8)), (decide (20 < x.length) || (decide ((2 : Int) = 2) && decide (x = []))) = false := by decide
      exact this _ hb
    exact YC (by decide) hp hb1 (by simp) (by decide)
  · simp
    exact ⟨_, _, rfl, hs1.mono (by omega), white, rfl⟩
  · simp
    exact ⟨_, _, rfl, hs1.mono (by omega), white, rfl⟩
  · have := dir s1 hs1
    simpa using this
  · have := dir s1 hs1
    simpa using this
theorem source_ok (code : List Int) : ∃ s, vM.sh code = some s ∧ SrcOK 0 s := by
 have := QE (a := (code.length : Int)) (n := 1000) (by omega) (by decide)
 exact ⟨_, rfl, ⟨by simp, by simp, this.1, by have := this.2; show (code.length : Int).tmod 1000 < 2147483648; omega⟩⟩
theorem guard_of (a0 a1 : List Int) : (bif decide ((1048576 : Int) < (a0.length : Int)) then some true else (some (decide ((1048576 : Int) < (a1.length : Int))))) = some true ∨
  ((bif decide ((1048576 : Int) < (a0.length : Int)) then some true else (some (decide ((1048576 : Int) < (a1.length : Int))))) = some false ∧ a0.length ≤ 1048576 ∧ a1.length ≤ 1048576) := by
 by_cases h0 : (1048576 : Int) < (a0.length : Int)
 ·left; rw [decide_eq_true h0]; rfl
 ·by_cases h1 : (1048576 : Int) < (a1.length : Int)
  ·left; rw [decide_eq_false h0, decide_eq_true h1]; rfl
  ·right; rw [decide_eq_false h0, decide_eq_false h1]; exact ⟨rfl, by omega, by omega⟩
theorem same_loop {α : Type} [DecidableEq α] [Inhabited α] (a b : List α) (hl : a.length = b.length) (B : Int → Option (Step Bool Int Unit)) (hb : ∀ i : Nat, i < a.length → B i = some (sc (if !decide (a.getD i default = b.getD i default) then some false else none : Option Bool) ((i : Int) + 1))) (hn : B a.length = some (.brk ())) :
    (qn B (a.length + 1) 0).bind (fun z => match z with | .inl t => some t | .inr _ => some true) = some (decide (a = b)) := by
  rw [jg a.length _ hb hn (a.length + 1) (by omega), XX a b hl]
  by_cases he : a = b <;> simp [he]
theorem same_sh {α : Type} [DecidableEq α] [Inhabited α] (a b : List α) (h : a.length ≤ 4611686018427387904) (B : Int → Option (Step Bool Int Unit)) (hB : ∀ i : Nat, i < a.length → i < b.length → B i = bif (!decide (a.getD i default = b.getD i default)) then some (.ret false) else some (.nxt ((i : Int) + 1))) (hn : B a.length = some (.brk ())) :
    (bif (!decide ((a.length : Int) = (b.length : Int))) then some false else ((qn B (a.length + 1) 0).bind fun z => match z with | .inl t => some t | .inr _ => some true)) = some (decide (a = b)) := by
  by_cases hl : a.length = b.length
  · have : (a.length : Int) = (b.length : Int) := by omega
    rw [decide_eq_true this]
    simp only [Bool.not_true, cond_false]
    refine same_loop a b hl B (fun i hi => ?_) hn
    rw [hB i hi (by omega)]
    by_cases he : a.getD i default = b.getD i default
    · simp only [he, decide_true, Bool.not_true, Bool.false_eq_true, if_false, cond_false, Ye]
    · simp only [he, decide_false, Bool.not_false, if_true, cond_true, V8]
  · have h1 : ¬ (a.length : Int) = (b.length : Int) := by omega
    have h2 : a ≠ b := fun e => hl (by rw [e])
    simp [h1, h2]
def vX.b1 (a0 : List (List UInt8)) (a1 : List (List UInt8)) : Int → Option (Step (Bool) (Int) (Unit)) :=
 fun x5_2 => bif (decide (x5_2 < (a0.length : Int))) then (bif inR x5_2 a0.length then (bif inR x5_2 a1.length then (bif (!decide ((gt a0 x5_2) = (gt a1 x5_2))) then (some (.ret false)) else (some (.nxt (IntKind.wrap .i64 (x5_2 + 1))))) else none) else none) else (some (.brk ()))
def vX.sh (k : Nat) (a0 : List (List UInt8)) (a1 : List (List UInt8)) : Option (Bool) :=
  bif (!decide ((a0.length : Int) = (a1.length : Int))) then (some false) else ((qn (vX.b1 a0 a1) k 0).bind fun z => match z with | .inl t => some t | .inr _ => some true)
theorem vX.eq (a0 a1 : List (List UInt8)) (h : a0.length ≤ 4611686018427387904) : ∃ k, vX.sh k a0 a1 = some (decide (a0 = a1)) := by
 refine ⟨a0.length + 1, same_sh a0 a1 h _ (fun i hi hi2 => ?_) (by simp [vX.b1])⟩
 simp only [vX.b1, yY, hi, decide_true, cond_true, qT hi, qT hi2, vJ, vR hi h]
 rfl
theorem X1 {a b : List UInt8} (ha : qy a = true) (hb : qy b = true) : vQ a b = ltP a b := by simp [vQ, ha, hb, ltP]
def Vn (n : Nat) (l : List Rec) (r : Rec) : Bool := j2 l && qy r.path && decide ((cut 47 r.path).length ≤ n + 1) && decide (l.length ≤ 100)
def putQ : Nat → List Rec → Rec → Bool
 | 0, _, _ => false
 | n + 1, l, r => Vn n l r
def putG : Nat → List Rec → Rec → List Rec
 | 0, _, _ => []
 | n + 1, l, r => Qz n l r
theorem GN {n : Nat} {l : List Rec} {r : Rec} (h : Vn n l r = true) : j2 l = true ∧ qy r.path = true ∧ (cut 47 r.path).length ≤ n + 1 ∧ l.length ≤ 100 := by
 simp only [Vn, Bool.and_eq_true, decide_eq_true_eq] at h
 exact ⟨h.1.1.1, h.1.1.2, h.1.2, h.2⟩
theorem GF {n : Nat} {l : List Rec} {r : Rec} (h1 : j2 l = true) (h2 : qy r.path = true) (h3 : (cut 47 r.path).length ≤ n + 1) (h4 : l.length ≤ 100) : Vn n l r = true := by simp [Vn, h1, h2, h3, h4]
def j0 (r x : Rec) (s : List Rec × Bool) : List Rec × Bool :=
 let s1 : List Rec × Bool := if (!s.2 && ltP r.path x.path) = true then (s.1 ++ [r], true) else s
 (if jw r x = true then s1.1 ++ [x] else s1.1, s1.2)
theorem put_after (r : Rec) : ∀ (l : List Rec) (acc : List Rec), (l.foldl (fun s x => j0 r x s) (acc, true)) = (acc ++ l.filter (jw r), true) := by
 intro l
 induction l with
 | nil => intro acc; simp
 | cons x l ih =>
  intro acc
  rw [List.foldl_cons]
  have e : j0 r x (acc, true) = (if jw r x = true then acc ++ [x] else acc, true) := by simp [j0]
  rw [e, ih]
  rcases qw (jw r x) with h | h <;> simp [h]
theorem put_fold (r : Rec) : ∀ (l : List Rec), jk (l.map (·.path)) → ∀ (acc : List Rec), (if (l.foldl (fun s x => j0 r x s) (acc, false)).2 = true then (l.foldl (fun s x => j0 r x s) (acc, false)).1 else (l.foldl (fun s x => j0 r x s) (acc, false)).1 ++ [r]) = acc ++ QC l r := by
 intro l
 induction l with
 | nil => intro _ acc; simp [QC]
 | cons x l ih =>
  intro hr acc
  rw [List.map_cons] at hr
  have hgt := JI hr
  rw [List.foldl_cons]
  rcases qw (ltP r.path x.path) with h | h
  ·have hall : ∀ y ∈ x :: l, ltP r.path y.path = true := by
    intro y hy
    rcases List.mem_cons.1 hy with rfl | hy
    ·exact h
    ·exact Qi h (hgt _ (List.mem_map_of_mem hy))
   have e : j0 r x (acc, false) = (if jw r x = true then acc ++ [r] ++ [x] else acc ++ [r], true) := by simp [j0, h]
   rw [e, put_after]
   have f1 : (x :: l).filter (fun y => jw r y && ltP y.path r.path) = [] := by
    rw [List.filter_eq_nil_iff]
    intro y hy
    rw [QJ (hall y hy)]; simp
   have f2 : (x :: l).filter (fun y => jw r y && ltP r.path y.path) = (x :: l).filter (jw r) := by
    apply List.filter_congr
    intro y hy
    rw [hall y hy]; simp
   unfold QC
   rw [f1, f2]
   rcases qw (jw r x) with h2 | h2 <;> simp [h2]
  ·have e : j0 r x (acc, false) = (if jw r x = true then acc ++ [x] else acc, false) := by simp [j0, h]
   rw [e, ih (JD hr)]
   unfold QC
   rcases qw (jw r x) with h2 | h2
   ·have hne : x.path ≠ r.path := by
     unfold jw at h2
     intro e
     rw [decide_eq_true e] at h2; simp at h2
    have hlt : ltP x.path r.path = true := by
     rcases qw (ltP x.path r.path) with h3 | h3
     ·exact h3
     ·exact absurd (Vf h3 h) hne
    simp [h2, h, hlt]
   ·simp [h2]
theorem put_loop {ρ : Type} (l : List Rec) (r : Rec) (B : List Rec × Bool × Int → Option (Step ρ (List Rec × Bool × Int) (List Rec × Bool)))
  (hB : ∀ (i : Nat) (o : List Rec) (d : Bool), i < l.length → o.length ≤ 2 * i → B (o, d, (i : Int)) = some (.nxt ((j0 r (gt l (i : Int)) (o, d)).1, (j0 r (gt l (i : Int)) (o, d)).2, ((i + 1 : Nat) : Int))))
  (hn : ∀ o d, B (o, d, (l.length : Int)) = some (.brk (o, d))) : qn B (l.length + 1) ([], false, 0) = some (.inr (l.foldl (fun s x => j0 r x s) ([], false))) := by
 have hlen : ∀ x (s : List Rec × Bool), (j0 r x s).1.length ≤ s.1.length + 2 := by
  intro x s
  unfold j0
  simp only []
  split <;> split <;> simp
 have key : ∀ (d i k : Nat) (s : List Rec × Bool), i + d = l.length → d < k → s.1.length ≤ 2 * i → qn B k (s.1, s.2, (i : Int)) = some (.inr ((l.drop i).foldl (fun s x => j0 r x s) s)) := by
  intro d
  induction d with
  | zero =>
   intro i k s hi hk hs
   obtain ⟨k, rfl⟩ : ∃ m, k = m + 1 := ⟨k - 1, by omega⟩
   have : i = l.length := by omega
   subst this
   rw [qn, hn s.1 s.2, List.drop_length]; rfl
  | succ d ih =>
   intro i k s hi hk hs
   obtain ⟨k, rfl⟩ : ∃ m, k = m + 1 := ⟨k - 1, by omega⟩
   have hlt : i < l.length := by omega
   rw [qn, hB i s.1 s.2 hlt hs, JH hlt]
   have hl2 := hlen (gt l (i : Int)) (s.1, s.2)
   exact ih (i + 1) k _ (by omega) (by omega) (by simp only [] at hl2 ⊢; omega)
 exact key l.length 0 (l.length + 1) ([], false) (by omega) (by omega) (by simp)
theorem Vx {l : List Rec} {r : Rec} (h : j2 l = true) (hr : qy r.path = true) : j2 (QC l r) = true := by
 refine Ja (fun x hx => ?_) (J8 (Jl h))
 rcases jy.1 hx with rfl | ⟨h1, _⟩
 ·exact hr
 ·exact V4 h x h1
theorem XO : ∀ (n : Nat) (l : List Rec) (r : Rec), j2 l = true → qy r.path = true → j2 (Qz n l r) = true := by
 intro n
 induction n with
 | zero => intro l r h hr; exact Vx h hr
 | succ n ih =>
  intro l r h hr
  rw [Qz]
  split
  ·rename_i hc
   exact Vx (ih _ _ h (Vo hr hc.1)) hr
  ·exact Vx h hr
theorem Xd {p : List UInt8} {n : Nat} (h : qb p ≠ []) (hd : (cut 47 p).length ≤ n + 2) : (cut 47 (qb p)).length ≤ n + 1 := by
 have := QO (yN h); omega
theorem hasDir_neg {l : List Rec} {p : List UInt8} (h : qt l p < 0) : QG l p = false := by
 unfold QG
 rw [decide_eq_false (by omega)]; rfl
theorem JM {l : List Rec} {p : List UInt8} (h : ¬ qt l p < 0) : QG l p = decide ((gt l (qt l p)).kind = 3) := by
 unfold QG
 rw [decide_eq_true (by omega)]; rfl
def qx.b1 (a1 : Rec) (x0_13 : List Rec) : List Rec × Bool × Int → Option (Step (List Rec) (List Rec × Bool × Int) (List Rec × Bool)) :=
  fun q => match q with
  | (x7_47, x8_49, x9_50) => bif (decide (x9_50 < (x0_13.length : Int))) then (bif (!(!x8_49) || (inR x9_50 x0_13.length)) then (bif (!(!x8_49) || (decide (a1.path.length ≤ 1048576))) then (bif (!(!x8_49) || (decide (((gt x0_13 x9_50).path).length ≤ 1048576))) then ((bif ((!x8_49) && (vP (cut 47 a1.path) (cut 47 ((gt x0_13 x9_50).path)))) then (bif decide ((x7_47.length + ([a1] : List Rec).length) * 56 ≤ 140737488355328) then (some (.inr (x7_47 ++ ([a1] : List Rec), true))) else none) else (some (.inr (x7_47, x8_49))) : Option ((Step (List Rec) (List Rec × Bool × Int) (List Rec × Bool)) ⊕ (List Rec × Bool))).bind fun z => match z with | .inl t => some t | .inr (x7_104, x8_106) => bif inR x9_50 x0_13.length then (bif (!((!decide (((gt x0_13 x9_50).path) = a1.path)) && (!(decide (a1.kind = 3)))) || (inR x9_50 x0_13.length)) then (bif ((!decide (((gt x0_13 x9_50).path) = a1.path)) && ((decide (a1.kind = 3)) || (!((decide (a1.path = []) && !decide (((gt x0_13 x9_50).path) = [])) || yj ((gt x0_13 x9_50).path) a1.path)))) then (bif inR x9_50 x0_13.length then (bif decide ((x7_104.length + ([gt x0_13 x9_50] : List Rec).length) * 56 ≤ 140737488355328) then (some (.nxt (x7_104 ++ ([gt x0_13 x9_50] : List Rec), x8_106, IntKind.wrap .i64 (x9_50 + 1)))) else none) else none) else (some (.nxt (x7_104, x8_106, IntKind.wrap .i64 (x9_50 + 1))))) else none) else none) else none) else none) else none) else (some (.brk (x7_47, x8_49)))
def qx.sh (n : Nat) (k : Nat) (a0 : List Rec) (a1 : Rec) : Option (List Rec) :=
  bif decide (a1.path.length ≤ 4611686018427387904) then ((bif (!decide ((qb a1.path) = ([] : List UInt8))) then (bif decide (a0.length ≤ 1048576) then (((bif (decide ((qt a0 (qb a1.path)) < 0)) then some true else (bif inR (qt a0 (qb a1.path)) a0.length then (some (!decide (((gt a0 (qt a0 (qb a1.path))).kind) = 3))) else none))).bind fun z20 => bif z20 then (bif decide (putQ n a0 (⟨3, (qb a1.path), ([] : List UInt8), 493, false⟩ : Rec) = true) then (some (.inr (putG n a0 (⟨3, (qb a1.path), ([] : List UInt8), 493, false⟩ : Rec)))) else none) else (some (.inr a0))) else none) else (some (.inr a0)) : Option ((List Rec) ⊕ (List Rec))).bind fun z => match z with | .inl t => some t | .inr x0_13 => (qn (qx.b1 a1 x0_13) k (([] : List Rec), false, 0)).bind fun z => match z with | .inl t => some t | .inr (x7_54, x8_56) => bif (!x8_56) then (bif decide ((x7_54.length + ([a1] : List Rec).length) * 56 ≤ 140737488355328) then (some (x7_54 ++ ([a1] : List Rec))) else none) else (some x7_54)) else none
theorem qx.body (a0 : List Rec) (a1 : Rec) (hs : j2 a0 = true) (hp : qy a1.path = true) (hl : a0.length ≤ 200) :
    ((qn (qx.b1 a1 a0) (a0.length + 1) (([] : List Rec), false, 0)).bind fun z => match z with | .inl t => some t | .inr (x7_54, x8_56) => bif (!x8_56) then (bif decide ((x7_54.length + ([a1] : List Rec).length) * 56 ≤ 140737488355328) then (some (x7_54 ++ ([a1] : List Rec))) else none) else (some x7_54)) = some (QC a0 a1) := by
  have hp1 := yi hp
  have hne := pathOK_ne hp
  have hlen : ∀ (l : List Rec) (s : List Rec × Bool), (l.foldl (fun s x => j0 a1 x s) s).1.length ≤ s.1.length + 2 * l.length := by
    intro l
    induction l with
    | nil => intro s; simp
    | cons x l ih =>
      intro s
      rw [List.foldl_cons]
      have h1 := ih (j0 a1 x s)
      have h2 : (j0 a1 x s).1.length ≤ s.1.length + 2 := by
        unfold j0
        simp only []
        split <;> split <;> simp
      simp only [List.length_cons]; omega
  rw [put_loop a0 a1 (qx.b1 a1 a0) (fun i o d hi ho => by
    have hx := yi (V4 hs _ (Yo (qT hi)))
    have ho2 : ∀ m : Nat, m ≤ o.length + 2 → (decide (m * 56 ≤ 140737488355328)) = true := fun m hm => decide_eq_true (by omega)
    simp only [qx.b1, yY, hi, decide_true, cond_true, qT hi, decide_eq_true hp1, decide_eq_true hx, Bool.or_true, vR hi (by omega)]
    show ((bif (!d && ltP a1.path (gt a0 (i : Int)).path) then _ else _ : Option _).bind _) = _
    have hk : ((!decide (((gt a0 (i : Int)).path) = a1.path)) && ((decide (a1.kind = 3)) || (!((decide (a1.path = []) && !decide (((gt a0 (i : Int)).path) = [])) || yj ((gt a0 (i : Int)).path) a1.path)))) = jw a1 (gt a0 (i : Int)) := by
      rw [decide_eq_false hne]; simp [jw]
    rw [hk]
    unfold j0
    rw [ho2 (o.length + [a1].length) (by simp)]
    rcases qw (!d && ltP a1.path (gt a0 (i : Int)).path) with h1 | h1
    · rw [h1]
      simp only [cond_true, Option.bind_some, if_true]
      rw [ho2 ((o ++ [a1]).length + [gt a0 (i : Int)].length) (by simp)]
      rcases qw (jw a1 (gt a0 (i : Int))) with h2 | h2 <;> simp [h2]
    · rw [h1]
      simp only [cond_false, Option.bind_some, Bool.false_eq_true, if_false]
      rw [ho2 (o.length + [gt a0 (i : Int)].length) (by simp)]
      rcases qw (jw a1 (gt a0 (i : Int))) with h2 | h2 <;> simp [h2]) (fun o d => by simp [qx.b1])]
  have hf := put_fold a1 a0 (Jl hs) []
  have hl2 := hlen a0 ([], false)
  obtain ⟨s, hs2⟩ : ∃ s, a0.foldl (fun s x => j0 a1 x s) ([], false) = s := ⟨_, rfl⟩
  rw [hs2] at hf hl2 ⊢
  obtain ⟨o, d⟩ := s
  simp only [List.nil_append, List.length_nil] at hf hl2
  simp only [Option.bind_some]
  have hd : decide ((o.length + [a1].length) * 56 ≤ 140737488355328) = true := decide_eq_true (by simp; omega)
  rw [hd]
  cases d with
  | true => simpa using hf
  | false => simpa using hf
theorem qx.eq (n : Nat) (hn : n ≤ 50) (a0 : List Rec) (a1 : Rec) (h : Vn n a0 a1 = true) : ∃ k, qx.sh n k a0 a1 = some (Qz n a0 a1) := by
  cases n with
  | zero =>
    obtain ⟨h1, h2, h3, h4⟩ := GN h
    have hpar : qb a1.path = [] := by
      by_cases hp : qb a1.path = []
      · exact hp
      · have := YM hp; omega
    have hpl := yi h2
    have hd : decide (a1.path.length ≤ 4611686018427387904) = true := decide_eq_true (by omega)
    refine ⟨a0.length + 1, ?_⟩
    unfold qx.sh
    simp only [hd, hpar, cond_true, decide_true, Bool.not_true, cond_false, Option.bind_some]
    exact qx.body a0 a1 h1 h2 (by omega)
  | succ m =>
    obtain ⟨h1, h2, h3, h4⟩ := GN h
    have hpl := yi h2
    have hd : decide (a1.path.length ≤ 4611686018427387904) = true := decide_eq_true (by omega)
    have hd2 : decide (a0.length ≤ 1048576) = true := decide_eq_true (by omega)
    have plain : QG a0 (qb a1.path) = true ∨ qb a1.path = [] → Qz (m + 1) a0 a1 = QC a0 a1 := by
      intro hc
      rw [Qz, if_neg]
      rintro ⟨c1, c2⟩
      rcases hc with hc | hc
      · rw [hc] at c2; cases c2
      · exact c1 hc
    have made : qb a1.path ≠ [] → QG a0 (qb a1.path) = false → Vn m a0 ⟨3, qb a1.path, [], 493, false⟩ = true ∧ ∃ k, ((qn (qx.b1 a1 (Qz m a0 ⟨3, qb a1.path, [], 493, false⟩)) k (([] : List Rec), false, 0)).bind fun z => match z with | .inl t => some t | .inr (x7_54, x8_56) => bif (!x8_56) then (bif decide ((x7_54.length + ([a1] : List Rec).length) * 56 ≤ 140737488355328) then (some (x7_54 ++ ([a1] : List Rec))) else none) else (some x7_54)) = some (Qz (m + 1) a0 a1) := by
      intro hp hd
      have hpp := Vo h2 hp
      have hk := GF (n := m) (l := a0) (r := ⟨3, qb a1.path, [], 493, false⟩) h1 hpp (Xd hp h3) h4
      refine ⟨hk, (Qz m a0 ⟨3, qb a1.path, [], 493, false⟩).length + 1, ?_⟩
      have e9 : Qz (m + 1) a0 a1 = QC (Qz m a0 ⟨3, qb a1.path, [], 493, false⟩) a1 := (show _ = QC (if qb a1.path ≠ [] ∧ QG a0 (qb a1.path) = false then _ else a0) a1 from rfl).trans (by rw [if_pos ⟨hp, hd⟩])
      rw [e9]
      have hl := putR_len m a0 ⟨3, qb a1.path, [], 493, false⟩
      exact qx.body _ a1 (XO m _ _ h1 hpp) h2 (by omega)
    by_cases hp : qb a1.path = []
    · refine ⟨a0.length + 1, ?_⟩
      rw [plain (.inr hp)]
      unfold qx.sh
      simp only [hd, hp, cond_true, decide_true, Bool.not_true, cond_false, Option.bind_some]
      exact qx.body a0 a1 h1 h2 (by omega)
    · by_cases hf : qt a0 (qb a1.path) < 0
      · obtain ⟨hk, k, e⟩ := made hp (hasDir_neg hf)
        refine ⟨k, ?_⟩
        unfold qx.sh
        simp only [hd, hd2, decide_eq_false hp, decide_eq_true hf, cond_true, Bool.not_false, Option.bind_some, putQ, putG, hk, decide_true]
        exact e
      · have hr := YE hf
        by_cases hkd : (gt a0 (qt a0 (qb a1.path))).kind = 3
        · refine ⟨a0.length + 1, ?_⟩
          rw [plain (.inl (by rw [JM hf, decide_eq_true hkd]))]
          unfold qx.sh
          simp only [hd, hd2, decide_eq_false hp, decide_eq_false hf, cond_true, cond_false, Bool.not_false, Option.bind_some, hr, decide_eq_true hkd, Bool.not_true]
          exact qx.body a0 a1 h1 h2 (by omega)
        · obtain ⟨hk, k, e⟩ := made hp (by rw [JM hf, decide_eq_false hkd])
          refine ⟨k, ?_⟩
          unfold qx.sh
          simp only [hd, hd2, decide_eq_false hp, decide_eq_false hf, cond_true, cond_false, Bool.not_false, Option.bind_some, hr, decide_eq_false hkd, putQ, putG, hk, decide_true]
          exact e
theorem Sheet.bool {l : List Rec} (h : Sheet l) : j2 l = true := Ja (fun x hx => yA (h.ok x hx)) h.rise
theorem mem_putR : ∀ (n : Nat) (l : List Rec) (r x : Rec), x ∈ Qz n l r → x = r ∨ x ∈ l ∨ (x.kind = 3 ∧ (cut 47 x.path).length ≤ (cut 47 r.path).length) := by
 intro n
 induction n with
 | zero =>
  intro l r x hx
  rcases jy.1 hx with h | ⟨h, _⟩
  ·exact .inl h
  ·exact .inr (.inl h)
 | succ n ih =>
  intro l r x hx
  rw [Qz] at hx
  rcases jy.1 hx with h | ⟨h, _⟩
  ·exact .inl h
  ·split at h
   ·rename_i hc
    have hd := QO (yN hc.1)
    rcases ih _ _ _ h with h2 | h2 | ⟨h2, h3⟩
    ·subst h2; exact .inr (.inr ⟨rfl, Nat.le_of_lt hd⟩)
    ·exact .inr (.inl h2)
    ·exact .inr (.inr ⟨h2, Nat.le_trans h3 (Nat.le_of_lt hd)⟩)
   ·exact .inr (.inl h)
structure Lay (l : List Rec) : Prop where
 sheet : Sheet l
 len : l.length ≤ 16
 deep : ∀ r ∈ l, (cut 47 r.path).length ≤ 3
theorem Lay.nil : Lay [] := ⟨Sheet.nil, by simp, by simp⟩
theorem put_ok {l : List Rec} {r : Rec} (hl : Lay l) (hr : qz r = 0) (hd : (cut 47 r.path).length ≤ 3) : Vn 2 l r = true ∧ ((Qz 2 l r).length ≤ 16 → Lay (Qz 2 l r)) := by
 have h16 := hl.len
 refine ⟨GF hl.sheet.bool (yA hr) (by omega) (by omega), fun h => ⟨(X7 2 l r hl.sheet hr (by omega)).1, h, fun x hx => ?_⟩⟩
 rcases mem_putR 2 l r x hx with rfl | h2 | ⟨_, h2⟩
 ·exact hd
 ·exact hl.deep x h2
 ·omega
def vE.b1 (a0 : List Int) : List Rec × Int × DSrc → Option (Step (List Rec × DSrc) (List Rec × Int × DSrc) (List Rec × DSrc)) :=
 fun q => match q with
 | (x3_21, x4_23, y24) => bif (decide (0 < x4_23)) then (((ya.sh 4 a0 y24)).bind fun z48 => ((yx.sh a0 z48.2 z48.1)).bind fun z55 => bif decide (Vn 2 x3_21 z55.1 = true) then (bif (decide (((Qz 2 x3_21 z55.1).length : Int) ≤ 16)) then (some (.nxt ((Qz 2 x3_21 z55.1), IntKind.wrap .i64 (x4_23 - 1), z55.2))) else (some (.nxt (x3_21, IntKind.wrap .i64 (x4_23 - 1), z55.2)))) else none) else (some (.brk (x3_21, y24)))
def vE.sh (k : Nat) (a0 : List Int) (a1 : DSrc) : Option (List Rec × DSrc) :=
  ((y0.sh a0 a1 6)).bind fun z7 => ((vj.sh a0 z7.2 (IntKind.wrap .i64 (z7.1 + 3)))).bind fun z14 => (qn (vE.b1 a0) k (([] : List Rec), z14.1, z14.2)).bind fun z => match z with | .inl t => some t | .inr (x3_28, y30) => some (x3_28, y30)
theorem vE.eq (a0 : List Int) (a1 : DSrc) {r : List Rec × DSrc} (H : vE.sh 12 a0 a1 = some r) : ∃ k, vE.sh k a0 a1 = some r := ⟨12, H⟩
theorem layer_loop {code : List Int} (hc : ∀ x ∈ code, okB x) (hl : code.length ≤ 1048577) : ∀ (i : Nat) (k : Nat) (n : Int) (l : List Rec) (s : DSrc), n + 24 * i ≤ 400000000 → i < k → Lay l → SrcOK n s →
  ∃ l' s', qn (vE.b1 code) k (l, (i : Int), s) = some (.inr (l', s')) ∧ Lay l' ∧ SrcOK (n + 24 * i) s' := by
 intro i
 induction i with
 | zero =>
  intro k n l s hn hk hs hS
  obtain ⟨k, rfl⟩ : ∃ k', k = k' + 1 := ⟨k - 1, by omega⟩
  exact ⟨l, s, by simp [qn, vE.b1], hs, hS.mono (by omega)⟩
 | succ i ih =>
  intro k n l s hn hk hs hS
  obtain ⟨k, rfl⟩ : ∃ k', k = k' + 1 := ⟨k - 1, by omega⟩
  have hd : decide ((0 : Int) < ((i + 1 : Nat) : Int)) = true := decide_eq_true (by omega)
  have hbig : (i : Int) ≤ 400000000 := by have := hS.p0; have := hS.p1; omega
  have hw : IntKind.wrap .i64 (((i + 1 : Nat) : Int) - 1) = (i : Int) := by rw [show ((i + 1 : Nat) : Int) - 1 = (i : Int) by omega]; exact wrap_small (by omega) (by omega)
  obtain ⟨t, s1, e1, hs1, ht⟩ := path_ok hc hl (by omega) hS
  obtain ⟨r, s2, e2, hs2, hr, hrp⟩ := record_ok hc hl (by omega) hs1 ht.ok
  obtain ⟨p1, p2⟩ := put_ok hs hr (by rw [hrp]; exact ht.parts.1)
  rw [qn]
  simp only [vE.b1, hd, cond_true, e1, e2, Option.bind_some, hw, p1, decide_true]
  by_cases hlen : ((Qz 2 l r).length : Int) ≤ 16
  ·obtain ⟨l', s', e, q1, q3⟩ := ih k (n + 24) (Qz 2 l r) s2 (by omega) (by omega) (p2 (by omega)) (hs2.mono (by omega))
   rw [decide_eq_true hlen]
   exact ⟨l', s', e, q1, q3.mono (by omega)⟩
  ·obtain ⟨l', s', e, q1, q3⟩ := ih k (n + 24) l s2 (by omega) (by omega) hs (hs2.mono (by omega))
   rw [decide_eq_false hlen]
   exact ⟨l', s', e, q1, q3.mono (by omega)⟩
theorem layer_ok {code : List Int} (hc : ∀ x ∈ code, okB x) (hl : code.length ≤ 1048577) {n : Int} (hn : n ≤ 300000000) {s : DSrc} (h : SrcOK n s) : Dr (vE.sh 12 code s) (n + 300) Lay := by
 unfold vE.sh
 obtain ⟨m, s1, e, hs1, hm0, hm1⟩ := room_ok hl h (m := 6) (by omega)
 rw [e]; simp only [Option.bind_some]
 rw [wrap_small (n := m + 3) (by omega) (by omega)]
 obtain ⟨i, s2, e, hs2, hi0, hi1⟩ := Vh hc hl (by omega) hs1 (m := m + 3) (by omega)
 rw [e]; simp only [Option.bind_some]
 obtain ⟨j, rfl⟩ : ∃ j : Nat, i = j := ⟨i.toNat, by omega⟩
 obtain ⟨l', s', e, q1, q3⟩ := layer_loop hc hl j 12 (n + 3) [] s2 (by omega) (by omega) Lay.nil hs2
 rw [e]; simp only [Option.bind_some]
 exact ⟨_, _, rfl, q3.mono (by omega), q1⟩
end Go.UL
