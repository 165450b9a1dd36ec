/- Plain Lean: what the functions compute. -/
import Derived.Test.YtfefjaohlhkmaaaGreatDoortP32
set_option linter.unusedVariables false
set_option linter.unusedSimpArgs false
namespace Go.UL
open Go.RowKit
/-! ### stacks: what they make of each path; one pass gives the same as one after the other -/
theorem Sheet.nil : Sheet [] := ⟨List.Pairwise.nil, by simp, by simp⟩
/-! winners -/
/-! ### the laws of squashing, of one pass, of replacing: plain -/
theorem wood_eq {s t : List Nd} (hs : Wood s) (ht : Wood t) (h : ∀ p, pathOK p = true → lookT s p = lookT t p) : s = t := by
  refine riseF_uniq (fun n : Nd => n.path) hs.rise ht.rise fun p => ?_
  rcases bool_two (pathOK p) with hp | hp
  · exact h p hp
  · have hno : ∀ {t : List Nd}, Wood t → lookT t p = none := fun {t} hw => by
      cases hl : lookT t p with
      | none => rfl
      | some n =>
        obtain ⟨h1, h2⟩ := look_some hl
        rw [← h2, nodeOK_path (hw.ok n h1)] at hp; cases hp
    exact (hno hs).trans (hno ht).symm
theorem apply_wood {l : List Rec} {t : List Nd} (hl : Sheet l) (ht : Wood t) : Wood (applyL l t) := (applyL_spec t ht _ l rfl hl).1
/-! ### a tree of which two layers make different ones -/
/-! a name that is free: z and a number -/
/-! the tree that is told -/
set_option linter.unusedSectionVars false
section
variable {x y : List Rec} (hx : Sheet x) (hy : Sheet y) (cx : canonL x = x) (cy : canonL y = y) {p : List UInt8} (hp : pathOK p = true) (hlt : ∀ q, ltP q p = true → lookR x q = lookR y q)
include hx hy cx cy hp hlt
end
/-! ### layers that are drawn: records put in one by one -/
def keepR (r x : Rec) : Bool := !decide (x.path = r.path) && (decide (r.kind = 3) || !belowP x.path r.path)
def putR1 (l : List Rec) (r : Rec) : List Rec := (l.filter fun x => keepR r x && ltP x.path r.path) ++ r :: l.filter fun x => keepR r x && ltP r.path x.path
def hasDir (l : List Rec) (p : List UInt8) : Bool := decide (0 ≤ findR l p) && decide ((gt l (findR l p)).kind = 3)
def putR : Nat → List Rec → Rec → List Rec
  | 0, l, r => putR1 l r
  | n + 1, l, r => putR1 (if parentP r.path ≠ [] ∧ hasDir l (parentP r.path) = false then putR n l ⟨3, parentP r.path, [], 493, false⟩ else l) r
theorem hasDir_iff {l : List Rec} {p : List UInt8} : hasDir l p = true ↔ ∃ q, lookR l p = some q ∧ q.kind = 3 := by
  unfold hasDir
  rw [Bool.and_eq_true, decide_eq_true_eq, decide_eq_true_eq]
  constructor
  · rintro ⟨h1, h2⟩
    cases h : lookR l p with
    | none => exact absurd h ((findR_look l p).1.1 h1)
    | some r => rw [(findR_look l p).2 r h] at h2; exact ⟨r, rfl, h2⟩
  · rintro ⟨q, h1, h2⟩
    exact ⟨(findR_look l p).1.2 (by rw [h1]; simp), by rw [(findR_look l p).2 q h1]; exact h2⟩
theorem mem_putR1 {l : List Rec} {r x : Rec} : x ∈ putR1 l r ↔ x = r ∨ (x ∈ l ∧ keepR r x = true) := by
  unfold putR1
  simp only [List.mem_append, List.mem_cons, List.mem_filter, Bool.and_eq_true]
  constructor
  · rintro (⟨h1, h2, _⟩ | h | ⟨h1, h2, _⟩)
    · exact .inr ⟨h1, h2⟩
    · exact .inl h
    · exact .inr ⟨h1, h2⟩
  · rintro (h | ⟨h1, h2⟩)
    · exact .inr (.inl h)
    · rcases bool_two (ltP x.path r.path) with h3 | h3
      · exact .inl ⟨h1, h2, h3⟩
      · rcases bool_two (ltP r.path x.path) with h4 | h4
        · exact .inr (.inr ⟨h1, h2, h4⟩)
        · have := ltP_tri h3 h4
          unfold keepR at h2
          rw [decide_eq_true this] at h2; simp at h2
theorem putR1_rise {l : List Rec} {r : Rec} (h : Rise (l.map (·.path))) : Rise ((putR1 l r).map (·.path)) := by
  have hf : ∀ q : Rec → Bool, Rise ((l.filter q).map (·.path)) := fun q => rise_filter (fun r : Rec => r.path) q h
  unfold putR1
  rw [List.map_append, List.map_cons]
  refine List.pairwise_append.2 ⟨hf _, List.pairwise_cons.2 ⟨fun p hp => ?_, hf _⟩, fun a ha b hb => ?_⟩
  · obtain ⟨x, hx, rfl⟩ := List.mem_map.1 hp
    have := (List.mem_filter.1 hx).2
    rw [Bool.and_eq_true] at this
    exact this.2
  · obtain ⟨x, hx, rfl⟩ := List.mem_map.1 ha
    have h1 := (List.mem_filter.1 hx).2
    rw [Bool.and_eq_true] at h1
    rcases List.mem_cons.1 hb with rfl | hb
    · exact h1.2
    · obtain ⟨y, hy, rfl⟩ := List.mem_map.1 hb
      have h2 := (List.mem_filter.1 hy).2
      rw [Bool.and_eq_true] at h2
      exact ltP_trans h1.2 h2.2
theorem putR1_Sheet {l : List Rec} {r : Rec} (hl : Sheet l) (hr : recFault r = 0) (hp : parentP r.path ≠ [] → ∃ q ∈ l, q.path = parentP r.path ∧ q.kind = 3) : Sheet (putR1 l r) := by
  have hrp := recFault_path hr
  refine ⟨putR1_rise hl.rise, fun x hx => ?_, fun x hx hpx => ?_⟩
  · rcases mem_putR1.1 hx with rfl | ⟨h1, _⟩
    · exact hr
    · exact hl.ok x h1
  · rcases mem_putR1.1 hx with rfl | ⟨h1, h2⟩
    · obtain ⟨q, q1, q2, q3⟩ := hp hpx
      refine ⟨q, mem_putR1.2 (.inr ⟨q1, ?_⟩), q2, q3⟩
      have hb := below_parent hpx
      unfold keepR
      rw [decide_eq_false (by rw [q2]; exact fun e => below_ne hb e.symm), q2, below_asymm hb]; simp
    · obtain ⟨q, q1, q2, q3⟩ := hl.par x h1 hpx
      unfold keepR at h2
      rw [Bool.and_eq_true, Bool.or_eq_true, decide_eq_true_eq] at h2
      by_cases e : q.path = r.path
      · rcases h2.2 with h3 | h3
        · exact ⟨r, mem_putR1.2 (.inl rfl), by rw [← e, q2], h3⟩
        · have : belowP x.path r.path = true := by rw [← e, q2]; exact below_parent hpx
          rw [this] at h3; cases h3
      · refine ⟨q, mem_putR1.2 (.inr ⟨q1, ?_⟩), q2, q3⟩
        unfold keepR
        rw [decide_eq_false e]
        rcases h2.2 with h3 | h3
        · simp [h3]
        · rcases bool_two (belowP q.path r.path) with h4 | h4
          · have := below_trans (below_parent hpx) (q2 ▸ h4)
            rw [this] at h3; cases h3
          · simp [h4]
theorem parent_short {p : List UInt8} (h : parentP p ≠ []) : 1 < (cut 47 p).length := by
  have h1 := depth_below (below_parent h)
  refine Classical.byContradiction fun h2 => h ?_
  have h3 : cut 47 (parentP p) = [] := List.eq_nil_of_length_eq_zero (by omega)
  have := joinL_cut (parentP p)
  rw [h3] at this
  exact this.symm
theorem dirR_ok {p : List UInt8} (h : pathOK p = true) : recFault ⟨3, p, [], 493, false⟩ = 0 := (recFault_parts _).2 ⟨rfl, h, rfl, rfl, rfl⟩
theorem putR_Sheet : ∀ (n : Nat) (l : List Rec) (r : Rec), Sheet l → recFault r = 0 → (cut 47 r.path).length ≤ n + 1 → Sheet (putR n l r) ∧ r ∈ putR n l r := by
  intro n
  induction n with
  | zero =>
    intro l r hl hr hd
    exact ⟨putR1_Sheet hl hr fun hp => by have := parent_short hp; omega, mem_putR1.2 (.inl rfl)⟩
  | succ n ih =>
    intro l r hl hr hd
    rw [putR]
    by_cases hc : parentP r.path ≠ [] ∧ hasDir l (parentP r.path) = false
    · rw [if_pos hc]
      have hpp := pathOK_parent (recFault_path hr) hc.1
      have hdd := depth_below (below_parent hc.1)
      obtain ⟨i1, i2⟩ := ih l ⟨3, parentP r.path, [], 493, false⟩ hl (dirR_ok hpp) (by show (cut 47 (parentP r.path)).length ≤ n + 1; omega)
      exact ⟨putR1_Sheet i1 hr fun _ => ⟨_, i2, rfl, rfl⟩, mem_putR1.2 (.inl rfl)⟩
    · rw [if_neg hc]
      refine ⟨putR1_Sheet hl hr fun hp => ?_, mem_putR1.2 (.inl rfl)⟩
      have hh : hasDir l (parentP r.path) = true := by
        rcases bool_two (hasDir l (parentP r.path)) with h | h
        · exact h
        · exact absurd ⟨hp, h⟩ hc
      obtain ⟨q, q1, q2⟩ := hasDir_iff.1 hh
      obtain ⟨g1, g2⟩ := lookR_some q1
      exact ⟨q, g1, g2, q2⟩
theorem putR1_len (l : List Rec) (r : Rec) : (putR1 l r).length ≤ l.length + 1 := by
  have h : ∀ (q : Rec → Bool) (m : List Rec), (m.filter fun x => keepR r x && ltP x.path r.path).length + (m.filter fun x => keepR r x && ltP r.path x.path).length ≤ m.length := by
    intro _ m
    induction m with
    | nil => simp
    | cons x m ih =>
      rcases bool_two (ltP x.path r.path) with h1 | h1
      · have h2 := ltP_asymm h1
        rcases bool_two (keepR r x) with h3 | h3 <;> simp [h1, h2, h3] <;> omega
      · rcases bool_two (keepR r x) with h3 | h3 <;> rcases bool_two (ltP r.path x.path) with h4 | h4 <;> simp [h1, h3, h4] <;> omega
  have := h (fun _ => true) l
  unfold putR1
  simp only [List.length_append, List.length_cons]; omega
theorem putR_len : ∀ (n : Nat) (l : List Rec) (r : Rec), (putR n l r).length ≤ l.length + n + 1 := by
  intro n
  induction n with
  | zero => intro l r; exact putR1_len l r
  | succ n ih =>
    intro l r
    rw [putR]
    split
    · have h1 := putR1_len (putR n l ⟨3, parentP r.path, [], 493, false⟩) r
      have h2 := ih l ⟨3, parentP r.path, [], 493, false⟩
      omega
    · have := putR1_len l r; omega
/-- Without white records and flags a layer is a tree's. -/
theorem sheet_wood {l : List Rec} (hl : Sheet l) (h : ∀ r ∈ l, r.kind ≠ 4) : Wood (l.map ndOf) := by
  refine ⟨by rw [List.map_map]; exact hl.rise, fun n hn => ?_, fun n hn hp => ?_⟩
  · obtain ⟨r, hr, rfl⟩ := List.mem_map.1 hn
    exact nodeOK_ndOf (hl.ok r hr) (h r hr)
  · obtain ⟨r, hr, rfl⟩ := List.mem_map.1 hn
    obtain ⟨q, q1, q2, q3⟩ := hl.par r hr hp
    exact ⟨ndOf q, List.mem_map.2 ⟨q, q1, rfl⟩, q2, q3⟩

/-! ### what the sources give -/
structure SrcOK (n : Int) (s : DSrc) : Prop where
  p0 : 0 ≤ s.pos
  p1 : s.pos ≤ n
  s0 : 0 ≤ s.seed
  s1 : s.seed < 2147483648
theorem SrcOK.mono {n m : Int} {s : DSrc} (h : SrcOK n s) (k : n ≤ m) : SrcOK m s := ⟨h.p0, Int.le_trans h.p1 k, h.s0, h.s1⟩
/-- A draw: it comes to something that has Q; the source has moved on to at most n. -/
def Dr {α : Type} (X : Option (α × DSrc)) (n : Int) (Q : α → Prop) : Prop := ∃ r s, X = some (r, s) ∧ SrcOK n s ∧ Q r
theorem Dr.mono {α : Type} {X : Option (α × DSrc)} {n m : Int} {Q R : α → Prop} (h : Dr X n Q) (k : n ≤ m) (hq : ∀ r, Q r → R r) : Dr X m R := by
  obtain ⟨r, s, h1, h2, h3⟩ := h
  exact ⟨r, s, h1, h2.mono k, hq r h3⟩
theorem gt_mem {α : Type} [Inhabited α] {l : List α} {i : Int} (h : inR i l.length = true) : gt l i ∈ l := by
  obtain ⟨hj, hje⟩ := gt_get h
  rw [← hje]; exact List.getElem_mem hj
theorem tmod_range {a n : Int} (ha : 0 ≤ a) (hn : 0 < n) : 0 ≤ a.tmod n ∧ a.tmod n < n := ⟨Int.tmod_nonneg _ ha, Int.tmod_lt_of_pos _ hn⟩
def spec_l00Source.sh (a0 : List Int) : Option (DSrc) :=
  some (⟨0, (a0.length : Int).tmod 1000⟩ : DSrc)
theorem spec_l00Source.eq (a0 : List Int) {r : DSrc} (H : spec_l00Source.sh a0 = some r) : spec_l00Source.sh a0 = some r := H
def draw_byte.sh (a0 : List Int) (a1 : DSrc) : Option (Int × DSrc) :=
  bif (decide ((IntKind.wrap .i64 (a1.pos + 1)) ≤ (a0.length : Int))) then (bif inR (IntKind.wrap .i64 ((IntKind.wrap .i64 (a1.pos + 1)) - 1)) a0.length then (bif inR (IntKind.wrap .i64 ((IntKind.wrap .i64 (a1.pos + 1)) - 1)) a0.length then (some (IntKind.wrap .i64 (gt a0 (IntKind.wrap .i64 ((IntKind.wrap .i64 (a1.pos + 1)) - 1))), (⟨IntKind.wrap .i64 (a1.pos + 1), (IntKind.wrap .i64 ((IntKind.wrap .i64 ((IntKind.wrap .i64 (a1.seed * 31)) + (IntKind.wrap .i64 (gt a0 (IntKind.wrap .i64 ((IntKind.wrap .i64 (a1.pos + 1)) - 1)))))) + 7)).tmod 2147483648⟩ : DSrc))) else none) else none) else (bif (decide (3000 < (IntKind.wrap .i64 (a1.pos + 1)))) then (some (0, (⟨IntKind.wrap .i64 (a1.pos + 1), a1.seed⟩ : DSrc))) else (some ((IntKind.wrap .i64 (((IntKind.wrap .i64 ((IntKind.wrap .i64 (a1.seed * 1103515245)) + 12345)).tmod 2147483648).tdiv 65536)).tmod 256, (⟨IntKind.wrap .i64 (a1.pos + 1), (IntKind.wrap .i64 ((IntKind.wrap .i64 (a1.seed * 1103515245)) + 12345)).tmod 2147483648⟩ : DSrc))))
theorem draw_byte.eq (a0 : List Int) (a1 : DSrc) {r : Int × DSrc} (H : draw_byte.sh a0 a1 = some r) : draw_byte.sh a0 a1 = some r := H
theorem byte_ok {code : List Int} (hc : ∀ x ∈ code, okB x) (hl : code.length ≤ 1048577) {n : Int} (hn : n ≤ 1000000000) {s : DSrc} (h : SrcOK n s) : Dr (draw_byte.sh code s) (n + 1) (fun r => 0 ≤ r ∧ r ≤ 255) := by
  obtain ⟨h1, h2, h3, h4⟩ := h
  have e1 : IntKind.wrap .i64 (s.pos + 1) = s.pos + 1 := wrap_small (by omega) (by omega)
  have e2 : IntKind.wrap .i64 (s.pos + 1 - 1) = s.pos := by rw [show s.pos + 1 - 1 = s.pos by omega]; exact wrap_small (by omega) (by omega)
  unfold draw_byte.sh
  simp only [e1, e2]
  by_cases hb : s.pos + 1 ≤ (code.length : Int)
  · have hr : inR s.pos code.length = true := inR_mk h1 (by omega)
    have hg := hc _ (gt_mem hr)
    obtain ⟨g0, g1⟩ := hg
    have e3 : IntKind.wrap .i64 (gt code s.pos) = gt code s.pos := wrap_small (by omega) (by omega)
    have e4 : IntKind.wrap .i64 (s.seed * 31) = s.seed * 31 := wrap_small (by omega) (by omega)
    have e5 : IntKind.wrap .i64 (s.seed * 31 + gt code s.pos) = s.seed * 31 + gt code s.pos := wrap_small (by omega) (by omega)
    have e6 : IntKind.wrap .i64 (s.seed * 31 + gt code s.pos + 7) = s.seed * 31 + gt code s.pos + 7 := wrap_small (by omega) (by omega)
    simp only [e3, e4, e5, e6, hr, decide_eq_true hb, cond_true]
    have hm := tmod_range (a := s.seed * 31 + gt code s.pos + 7) (n := 2147483648) (by omega) (by decide)
    exact ⟨_, _, rfl, ⟨by simp; omega, by simp; omega, hm.1, hm.2⟩, g0, g1⟩
  · simp only [decide_eq_false hb, cond_false]
    by_cases hb2 : 3000 < s.pos + 1
    · simp only [decide_eq_true hb2, cond_true]
      exact ⟨_, _, rfl, ⟨by simp; omega, by simp; omega, h3, h4⟩, by simp, by simp⟩
    · simp only [decide_eq_false hb2, cond_false]
      have e4 : IntKind.wrap .i64 (s.seed * 1103515245) = s.seed * 1103515245 := wrap_small (by omega) (by omega)
      have e5 : IntKind.wrap .i64 (s.seed * 1103515245 + 12345) = s.seed * 1103515245 + 12345 := wrap_small (by omega) (by omega)
      simp only [e4, e5]
      have hm := tmod_range (a := s.seed * 1103515245 + 12345) (n := 2147483648) (by omega) (by decide)
      have hd : 0 ≤ ((s.seed * 1103515245 + 12345).tmod 2147483648).tdiv 65536 := Int.tdiv_nonneg hm.1 (by decide)
      have hd2 : ((s.seed * 1103515245 + 12345).tmod 2147483648).tdiv 65536 ≤ (s.seed * 1103515245 + 12345).tmod 2147483648 := Int.tdiv_le_self _ hm.1
      rw [wrap_small (n := ((s.seed * 1103515245 + 12345).tmod 2147483648).tdiv 65536) (by omega) (by omega)]
      have hm2 := tmod_range (a := ((s.seed * 1103515245 + 12345).tmod 2147483648).tdiv 65536) (n := 256) hd (by decide)
      exact ⟨_, _, rfl, ⟨by simp; omega, by simp; omega, hm.1, hm.2⟩, hm2.1, by have := hm2.2; show ((s.seed * 1103515245 + 12345).tmod 2147483648 |>.tdiv 65536).tmod 256 ≤ 255; omega⟩
def draw_next.sh (a0 : List Int) (a1 : DSrc) (a2 : Int) : Option (Int × DSrc) :=
  bif (decide (a2 ≤ 1)) then (some (0, a1)) else (bif (decide (a2 ≤ 256)) then (((draw_byte.sh a0 a1)).bind fun z3 => bif decide (¬ (a2 : Int) = 0) then (some (z3.1.tmod a2, z3.2)) else none) else (((draw_byte.sh a0 a1)).bind fun z11 => ((draw_byte.sh a0 z11.2)).bind fun z18 => ((draw_byte.sh a0 z18.2)).bind fun z25 => bif decide (¬ (a2 : Int) = 0) then (some ((IntKind.wrap .i64 ((IntKind.wrap .i64 ((IntKind.wrap .i64 (z11.1 * 65536)) + (IntKind.wrap .i64 (z18.1 * 256)))) + z25.1)).tmod a2, z25.2)) else none))
theorem draw_next.eq (a0 : List Int) (a1 : DSrc) (a2 : Int) {r : Int × DSrc} (H : draw_next.sh a0 a1 a2 = some r) : draw_next.sh a0 a1 a2 = some r := H
theorem next_ok {code : List Int} (hc : ∀ x ∈ code, okB x) (hl : code.length ≤ 1048577) {n : Int} (hn : n ≤ 900000000) {s : DSrc} (h : SrcOK n s) {m : Int} (hm : 0 < m) : Dr (draw_next.sh code s m) (n + 3) (fun r => 0 ≤ r ∧ r < m) := by
  unfold draw_next.sh
  by_cases h1 : m ≤ 1
  · simp only [decide_eq_true h1, cond_true]
    exact ⟨_, _, rfl, h.mono (by omega), Int.le_refl _, hm⟩
  · simp only [decide_eq_false h1, cond_false]
    have hne : decide (¬ (m : Int) = 0) = true := decide_eq_true (by omega)
    by_cases h2 : m ≤ 256
    · simp only [decide_eq_true h2, cond_true]
      obtain ⟨r, s', e, hs, hr⟩ := byte_ok hc hl (by omega) h
      rw [e]
      simp only [Option.bind_some, hne, cond_true]
      have := tmod_range (a := r) (n := m) hr.1 hm
      exact ⟨_, _, rfl, hs.mono (by omega), this⟩
    · simp only [decide_eq_false h2, cond_false]
      obtain ⟨r, s1, e, hs, hr0, hr1⟩ := byte_ok hc hl (by omega) h
      rw [e]; simp only [Option.bind_some]
      obtain ⟨r2, s2, e, hs, hp0, hp1⟩ := byte_ok hc hl (by omega) hs
      rw [e]; simp only [Option.bind_some]
      obtain ⟨r3, s3, e, hs, hq0, hq1⟩ := byte_ok hc hl (by omega) hs
      rw [e]; simp only [Option.bind_some, hne, cond_true]
      rw [wrap_small (n := r * 65536) (by omega) (by omega), wrap_small (n := r2 * 256) (by omega) (by omega), wrap_small (n := r * 65536 + r2 * 256) (by omega) (by omega), wrap_small (n := r * 65536 + r2 * 256 + r3) (by omega) (by omega)]
      have := tmod_range (a := r * 65536 + r2 * 256 + r3) (n := m) (by omega) hm
      exact ⟨_, _, rfl, hs.mono (by omega), this⟩
def draw_chance.sh (a0 : List Int) (a1 : DSrc) (a2 : Int) : Option (Bool × DSrc) :=
  ((draw_next.sh a0 a1 a2)).bind fun z1 => some ((decide (z1.1 = (IntKind.wrap .i64 (a2 - 1)))), z1.2)
theorem draw_chance.eq (a0 : List Int) (a1 : DSrc) (a2 : Int) {r : Bool × DSrc} (H : draw_chance.sh a0 a1 a2 = some r) : draw_chance.sh a0 a1 a2 = some r := H
theorem chance_ok {code : List Int} (hc : ∀ x ∈ code, okB x) (hl : code.length ≤ 1048577) {n : Int} (hn : n ≤ 900000000) {s : DSrc} (h : SrcOK n s) {m : Int} (hm : 0 < m) : Dr (draw_chance.sh code s m) (n + 3) (fun _ => True) := by
  unfold draw_chance.sh
  obtain ⟨r, s', e, hs, _⟩ := next_ok hc hl hn h hm
  rw [e]; simp only [Option.bind_some]
  exact ⟨_, _, rfl, hs, trivial⟩
def draw_room.sh (a0 : List Int) (a1 : DSrc) (a2 : Int) : Option (Int × DSrc) :=
  some ((if (a2 < (IntKind.wrap .i64 (1 + (IntKind.wrap .i64 ((a0.length : Int).tdiv 12)))) : Prop) then a2 else (IntKind.wrap .i64 (1 + (IntKind.wrap .i64 ((a0.length : Int).tdiv 12))))), a1)
theorem draw_room.eq (a0 : List Int) (a1 : DSrc) (a2 : Int) {r : Int × DSrc} (H : draw_room.sh a0 a1 a2 = some r) : draw_room.sh a0 a1 a2 = some r := H
theorem room_ok {code : List Int} (hl : code.length ≤ 1048577) {n : Int} {s : DSrc} (h : SrcOK n s) {m : Int} (hm : 0 < m) : Dr (draw_room.sh code s m) n (fun r => 0 < r ∧ r ≤ m) := by
  unfold draw_room.sh
  have hd : 0 ≤ (code.length : Int).tdiv 12 := Int.tdiv_nonneg (by omega) (by decide)
  have hd2 : (code.length : Int).tdiv 12 ≤ (code.length : Int) := Int.tdiv_le_self _ (by omega)
  rw [wrap_small (n := (code.length : Int).tdiv 12) (by omega) (by omega), wrap_small (n := 1 + (code.length : Int).tdiv 12) (by omega) (by omega)]
  refine ⟨_, _, rfl, h, ?_, ?_⟩
  · show 0 < (if m < 1 + (code.length : Int).tdiv 12 then m else 1 + (code.length : Int).tdiv 12); split <;> omega
  · show (if m < 1 + (code.length : Int).tdiv 12 then m else 1 + (code.length : Int).tdiv 12) ≤ m; split <;> omega
def draw_pick.sh (a0 : List Int) (a1 : DSrc) (a2 : List (List UInt8)) : Option (List UInt8 × DSrc) :=
  bif (decide ((a2.length : Int) = 0)) then (some (([] : List UInt8), a1)) else (((draw_next.sh a0 a1 (a2.length : Int))).bind fun z2 => bif inR z2.1 a2.length then (some (gt a2 z2.1, z2.2)) else none)
theorem draw_pick.eq (a0 : List Int) (a1 : DSrc) (a2 : List (List UInt8)) {r : List UInt8 × DSrc} (H : draw_pick.sh a0 a1 a2 = some r) : draw_pick.sh a0 a1 a2 = some r := H
theorem pick_ok {code : List Int} (hc : ∀ x ∈ code, okB x) (hl : code.length ≤ 1048577) {n : Int} (hn : n ≤ 900000000) {s : DSrc} (h : SrcOK n s) {l : List (List UInt8)} (h0 : 0 < l.length) : Dr (draw_pick.sh code s l) (n + 3) (fun r => r ∈ l) := by
  unfold draw_pick.sh
  have hne : decide ((l.length : Int) = 0) = false := decide_eq_false (by omega)
  obtain ⟨r, s', e, hs, hr0, hr1⟩ := next_ok hc hl hn h (m := (l.length : Int)) (by omega)
  rw [e, hne]; simp only [cond_false, Option.bind_some]
  have hr : inR r l.length = true := inR_mk hr0 hr1
  simp only [hr, cond_true]
  exact ⟨_, _, rfl, hs, gt_mem hr⟩
def draw_part.lit1 : List (List UInt8) := [([97] : List UInt8), ([98] : List UInt8), ([99] : List UInt8), ([97, 46, 98] : List UInt8), ([120] : List UInt8)]
def draw_part.sh (a0 : List Int) (a1 : DSrc) : Option (List UInt8 × DSrc) :=
  ((draw_pick.sh a0 a1 draw_part.lit1)).bind fun z7 => some (z7.1, z7.2)
theorem draw_part.eq (a0 : List Int) (a1 : DSrc) {r : List UInt8 × DSrc} (H : draw_part.sh a0 a1 = some r) : draw_part.sh a0 a1 = some r := H
/-- What the drawn parts are. -/
def isPart (t : List UInt8) : Prop := partOK t = true ∧ t.length ≤ 3 ∧ ∀ b ∈ t, bn b ≠ 47
theorem lit_part : ∀ t ∈ draw_part.lit1, isPart t := by
  intro t ht
  simp only [draw_part.lit1, List.mem_cons, List.not_mem_nil, or_false] at ht
  rcases ht with rfl | rfl | rfl | rfl | rfl <;> exact ⟨by decide, by decide, by decide⟩
theorem part_ok {code : List Int} (hc : ∀ x ∈ code, okB x) (hl : code.length ≤ 1048577) {n : Int} (hn : n ≤ 900000000) {s : DSrc} (h : SrcOK n s) : Dr (draw_part.sh code s) (n + 3) isPart := by
  unfold draw_part.sh
  obtain ⟨r, s', e, hs, hr⟩ := pick_ok hc hl hn h (l := draw_part.lit1) (by decide)
  rw [e]; simp only [Option.bind_some]
  exact ⟨_, _, rfl, hs, lit_part _ hr⟩
def draw_path.b1 (a0 : List Int) : List UInt8 × Int × DSrc → Option (Step (List UInt8 × DSrc) (List UInt8 × Int × DSrc) (List UInt8 × DSrc)) :=
  fun q => match q with
  | (x3_15, x4_16, y17) => bif (decide (0 < x4_16)) then (((draw_part.sh a0 y17)).bind fun z39 => bif decide (([47] : List UInt8).length + z39.1.length ≤ 9223372036854775807) then (bif decide (x3_15.length + (([47] : List UInt8) ++ z39.1).length ≤ 9223372036854775807) then (some (.nxt (x3_15 ++ (([47] : List UInt8) ++ z39.1), IntKind.wrap .i64 (x4_16 - 1), z39.2))) else none) else none) else (some (.brk (x3_15, y17)))
def draw_path.sh (k : Nat) (a0 : List Int) (a1 : DSrc) : Option (List UInt8 × DSrc) :=
  ((draw_part.sh a0 a1)).bind fun z1 => ((draw_next.sh a0 z1.2 3)).bind fun z8 => (loopF (draw_path.b1 a0) k (z1.1, z8.1, z8.2)).bind fun z => match z with | .inl t => some t | .inr (x3_21, y22) => some (x3_21, y22)
theorem draw_path.eq (a0 : List Int) (a1 : DSrc) {r : List UInt8 × DSrc} (H : draw_path.sh 4 a0 a1 = some r) : ∃ k, draw_path.sh k a0 a1 = some r := ⟨4, H⟩
/-- A path of at most m parts. -/
def isPath (m : Nat) (t : List UInt8) : Prop := ∃ l : List (List UInt8), l ≠ [] ∧ l.length ≤ m ∧ (∀ x ∈ l, isPart x) ∧ t = joinL l
theorem isPath.len {m : Nat} {t : List UInt8} (h : isPath m t) : t.length ≤ 4 * m := by
  obtain ⟨l, h1, h2, h3, rfl⟩ := h
  have : ∀ l : List (List UInt8), (∀ x ∈ l, isPart x) → (joinL l).length ≤ 4 * l.length := by
    intro l
    induction l with
    | nil => intro _; simp [joinL]
    | cons x l ih =>
      intro hx
      have h4 := ih fun y hy => hx y (by simp [hy])
      have h5 := (hx x (by simp)).2.1
      by_cases hl : l = []
      · subst hl; simp [joinL]; omega
      · rw [joinL_cons x hl]; simp; omega
  have := this l h3
  omega
theorem isPath.parts {m : Nat} {t : List UInt8} (h : isPath m t) : (cut 47 t).length ≤ m ∧ ∀ x ∈ cut 47 t, isPart x := by
  obtain ⟨l, h1, h2, h3, rfl⟩ := h
  rw [cut_joinL h1 fun x hx => (h3 x hx).2.2]
  exact ⟨h2, h3⟩
theorem isPath.ok {t : List UInt8} (h : isPath 3 t) : pathOK t = true := by
  have h1 := h.len
  obtain ⟨h2, h3⟩ := h.parts
  simp only [pathOK, Bool.and_eq_true, decide_eq_true_eq, List.all_eq_true]
  exact ⟨by omega, by omega, fun x hx => (h3 x hx).1⟩
theorem path_loop {code : List Int} (hc : ∀ x ∈ code, okB x) (hl : code.length ≤ 1048577) : ∀ (i : Nat) (k : Nat) (m : Nat) (n : Int) (t : List UInt8) (s : DSrc), n + 3 * i ≤ 800000000 → i < k → m + i ≤ 3 → isPath m t → SrcOK n s →
    ∃ t' s', loopF (draw_path.b1 code) k (t, (i : Int), s) = some (.inr (t', s')) ∧ isPath (m + i) t' ∧ SrcOK (n + 3 * i) s' := by
  intro i
  induction i with
  | zero =>
    intro k m n t s hn hk hm ht hs
    obtain ⟨k, rfl⟩ : ∃ k', k = k' + 1 := ⟨k - 1, by omega⟩
    exact ⟨t, s, by simp [loopF, draw_path.b1], by simpa using ht, hs.mono (by omega)⟩
  | succ i ih =>
    intro k m n t s hn hk hm ht hs
    obtain ⟨k, rfl⟩ : ∃ k', k = k' + 1 := ⟨k - 1, by omega⟩
    obtain ⟨r, s1, e, hs1, hr⟩ := part_ok hc hl (by omega) hs
    have hlt := ht.len
    have hlr := hr.2.1
    obtain ⟨l, hl1, hl2, hl3, rfl⟩ := ht
    have hnew : isPath (m + 1) (joinL l ++ ([47] ++ r)) := by
      refine ⟨l ++ [r], by simp, by simp; omega, fun x hx => ?_, ?_⟩
      · rcases List.mem_append.1 hx with h | h
        · exact hl3 x h
        · simp at h; subst h; exact hr
      · rw [joinL_append r hl1]; rfl
    obtain ⟨t', s', e2, h2, h3⟩ := ih k (m + 1) (n + 3) _ s1 (by omega) (by omega) (by omega) hnew hs1
    refine ⟨t', s', ?_, by rw [show m + (i + 1) = m + 1 + i by omega]; exact h2, h3.mono (by omega)⟩
    have hd : decide ((0 : Int) < ((i + 1 : Nat) : Int)) = true := decide_eq_true (by omega)
    have hw : IntKind.wrap .i64 (((i + 1 : Nat) : Int) - 1) = (i : Int) := by rw [show ((i + 1 : Nat) : Int) - 1 = (i : Int) by omega]; exact wrap_small (by omega) (by omega)
    have hd1 : decide (([47] : List UInt8).length + r.length ≤ 9223372036854775807) = true := decide_eq_true (by simp; omega)
    have hd2 : decide ((joinL l).length + (([47] : List UInt8) ++ r).length ≤ 9223372036854775807) = true := decide_eq_true (by simp; omega)
    rw [loopF]
    simp only [draw_path.b1, hd, cond_true, e, Option.bind_some, hd1, hd2, hw]
    exact e2
theorem path_ok {code : List Int} (hc : ∀ x ∈ code, okB x) (hl : code.length ≤ 1048577) {n : Int} (hn : n ≤ 700000000) {s : DSrc} (h : SrcOK n s) : Dr (draw_path.sh 4 code s) (n + 12) (isPath 3) := by
  unfold draw_path.sh
  obtain ⟨r, s1, e, hs1, hr⟩ := part_ok hc hl (by omega) h
  rw [e]; simp only [Option.bind_some]
  obtain ⟨i, s2, e, hs2, hi0, hi1⟩ := next_ok hc hl (by omega) hs1 (m := 3) (by omega)
  rw [e]; simp only [Option.bind_some]
  obtain ⟨j, rfl⟩ : ∃ j : Nat, i = j := ⟨i.toNat, by omega⟩
  obtain ⟨t', s', e2, h2, h3⟩ := path_loop hc hl j 4 1 (n + 6) r s2 (by omega) (by omega) (by omega) ⟨[r], by simp, by simp, by simpa using hr, rfl⟩ (hs2.mono (by omega))
  rw [e2]
  simp only [Option.bind_some]
  obtain ⟨l, h4, h5, h6⟩ := h2
  exact ⟨_, _, rfl, h3.mono (by omega), l, h4, by omega, h6⟩
def draw_body.lit1 : List (List UInt8) := [([] : List UInt8), ([111, 110, 101] : List UInt8), ([116, 119, 111] : List UInt8), ([120, 0, 121] : List UInt8), ([108, 111, 110, 103, 32, 108, 111, 110, 103, 32, 98, 111, 100, 121, 32, 104, 101, 114, 101, 33] : List UInt8)]
def draw_body.sh (a0 : List Int) (a1 : DSrc) : Option (List UInt8 × DSrc) :=
  ((draw_pick.sh a0 a1 draw_body.lit1)).bind fun z7 => some (z7.1, z7.2)
theorem draw_body.eq (a0 : List Int) (a1 : DSrc) {r : List UInt8 × DSrc} (H : draw_body.sh a0 a1 = some r) : draw_body.sh a0 a1 = some r := H
theorem body_ok {code : List Int} (hc : ∀ x ∈ code, okB x) (hl : code.length ≤ 1048577) {n : Int} (hn : n ≤ 900000000) {s : DSrc} (h : SrcOK n s) : Dr (draw_body.sh code s) (n + 3) (fun r => r.length ≤ 20) := by
  unfold draw_body.sh
  obtain ⟨r, s', e, hs, hr⟩ := pick_ok hc hl hn h (l := draw_body.lit1) (by decide)
  rw [e]; simp only [Option.bind_some]
  refine ⟨_, _, rfl, hs, ?_⟩
  simp only [draw_body.lit1, List.mem_cons, List.not_mem_nil, or_false] at hr
  rcases hr with rfl | rfl | rfl | rfl | rfl <;> decide
def draw_record.sh (a0 : List Int) (a1 : DSrc) (a2 : List UInt8) : Option (Rec × DSrc) :=
  ((draw_next.sh a0 a1 8)).bind fun z7 => ((bif (decide (z7.1 = 0)) then (some (.inr (decide (z7.1 = 0)))) else (bif (decide (z7.1 = 1)) then (some (.inr (decide (z7.1 = 1)))) else (some (.inr (decide (z7.1 = 2))))) : Option (((Rec × DSrc) ⊕ (DSrc)) ⊕ (Bool))).bind fun z => match z with | .inl t => some t | .inr x7_21 => bif x7_21 then (((draw_body.sh a0 z7.2)).bind fun z33 => ((draw_next.sh a0 z33.2 3)).bind fun z46 => bif inR z46.1 ([420, 0, 511] : List Int).length then (some (.inl ((⟨1, a2, z33.1, gt ([420, 0, 511] : List Int) z46.1, false⟩ : Rec), z46.2))) else none) else (bif (decide (z7.1 = 3)) then (((draw_pick.sh a0 z7.2 ([([97] : List UInt8), ([46, 46, 47, 98] : List UInt8), ([47] : List UInt8)] : List (List UInt8)))).bind fun z66 => some (.inl ((⟨2, a2, z66.1, 0, false⟩ : Rec), z66.2))) else (bif (decide (z7.1 = 4)) then (bif (decide (z7.1 = 4)) then (some (.inl ((⟨4, a2, ([] : List UInt8), 0, false⟩ : Rec), z7.2))) else (some (.inr z7.2))) else (bif (decide (z7.1 = 5)) then (some (.inl ((⟨4, a2, ([] : List UInt8), 0, false⟩ : Rec), z7.2))) else (some (.inr z7.2))))) : Option ((Rec × DSrc) ⊕ (DSrc))).bind fun z => match z with | .inl t => some t | .inr y17 => ((draw_next.sh a0 y17 2)).bind fun z98 => bif inR z98.1 ([493, 448] : List Int).length then (((draw_chance.sh a0 z98.2 3)).bind fun z108 => some ((⟨3, a2, ([] : List UInt8), gt ([493, 448] : List Int) z98.1, z108.1⟩ : Rec), z108.2)) else none
theorem draw_record.eq (a0 : List Int) (a1 : DSrc) (a2 : List UInt8) {r : Rec × DSrc} (H : draw_record.sh a0 a1 a2 = some r) : draw_record.sh a0 a1 a2 = some r := H
theorem fault_mk {k m : Int} {p b : List UInt8} {o : Bool} (h1 : within k 1 4 = true) (h2 : pathOK p = true) (h3 : (decide (20 < b.length) || (decide (k = 2) && decide (b = []))) = false) (h4 : (((decide (k = 3) || decide (k = 4)) && !decide (b = [])) || (!decide (k = 3) && o)) = false)
    (h5 : (!within m 0 511 || ((decide (k = 2) || decide (k = 4)) && !decide (m = 0))) = false) : recFault ⟨k, p, b, m, o⟩ = 0 := (recFault_parts ⟨k, p, b, m, o⟩).2 ⟨h1, h2, h3, h4, h5⟩
theorem record_ok {code : List Int} (hc : ∀ x ∈ code, okB x) (hl : code.length ≤ 1048577) {n : Int} (hn : n ≤ 700000000) {s : DSrc} (h : SrcOK n s) {p : List UInt8} (hp : pathOK p = true) : Dr (draw_record.sh code s p) (n + 12) (fun r => recFault r = 0 ∧ r.path = p) := by
  unfold draw_record.sh
  obtain ⟨i, s1, e, hs1, hi0, hi1⟩ := next_ok hc hl (by omega) h (m := 8) (by omega)
  rw [e]; simp only [Option.bind_some]
  have hcase : i = 0 ∨ i = 1 ∨ i = 2 ∨ i = 3 ∨ i = 4 ∨ i = 5 ∨ i = 6 ∨ i = 7 := by omega
  have file : ∀ F : DSrc → Option (Rec × DSrc), Dr ((((draw_body.sh code s1)).bind fun z33 => ((draw_next.sh code z33.2 3)).bind fun z46 => bif inR z46.1 ([420, 0, 511] : List Int).length then (some (Sum.inl ((⟨1, p, z33.1, gt ([420, 0, 511] : List Int) z46.1, false⟩ : Rec), z46.2) : (Rec × DSrc) ⊕ DSrc)) else none).bind fun z => match z with | .inl t => some t | .inr y => F y) (n + 12) (fun r => recFault r = 0 ∧ r.path = p) := by
    intro F
    obtain ⟨b, s2, e, hs2, hb⟩ := body_ok hc hl (by omega) hs1
    rw [e]; simp only [Option.bind_some]
    obtain ⟨j, s3, e, hs3, hj0, hj1⟩ := next_ok hc hl (by omega) hs2 (m := 3) (by omega)
    rw [e]; simp only [Option.bind_some]
    have hj : inR j ([420, 0, 511] : List Int).length = true := inR_mk hj0 (by simpa using hj1)
    simp only [hj, cond_true, Option.bind_some]
    refine ⟨_, _, rfl, hs3.mono (by omega), ?_, rfl⟩
    have hm := gt_mem hj
    have hmm : within (gt ([420, 0, 511] : List Int) j) 0 511 = true := by
      have : ∀ x ∈ ([420, 0, 511] : List Int), within x 0 511 = true := by decide
      exact this _ hm
    exact fault_mk (by decide) hp (by simp; omega) (by simp) (by simp [hmm])
  have white : recFault ⟨4, p, [], 0, false⟩ = 0 := fault_mk (by decide) hp (by simp) (by simp) (by decide)
  have dir : ∀ s2 : DSrc, SrcOK (n + 3) s2 → Dr (((draw_next.sh code s2 2)).bind fun z98 => bif inR z98.1 ([493, 448] : List Int).length then (((draw_chance.sh code z98.2 3)).bind fun z108 => some ((⟨3, p, ([] : List UInt8), gt ([493, 448] : List Int) z98.1, z108.1⟩ : Rec), z108.2)) else none) (n + 12) (fun r => recFault r = 0 ∧ r.path = p) := by
    intro s2 hs2
    obtain ⟨j, s3, e, hs3, hj0, hj1⟩ := next_ok hc hl (by omega) hs2 (m := 2) (by omega)
    rw [e]; simp only [Option.bind_some]
    have hj : inR j ([493, 448] : List Int).length = true := inR_mk hj0 (by simpa using hj1)
    simp only [hj, cond_true]
    obtain ⟨b, s4, e, hs4, _⟩ := chance_ok hc hl (by omega) hs3 (m := 3) (by omega)
    rw [e]; simp only [Option.bind_some]
    refine ⟨_, _, rfl, hs4.mono (by omega), ?_, rfl⟩
    have hm := gt_mem hj
    have hmm : within (gt ([493, 448] : List Int) j) 0 511 = true := by
      have : ∀ x ∈ ([493, 448] : List Int), within x 0 511 = true := by decide
      exact this _ hm
    exact fault_mk (by decide) hp (by simp) (by simp) (by simp [hmm])
  rcases hcase with rfl | rfl | rfl | rfl | rfl | rfl | rfl | rfl
  · simp
    exact file _
  · simp
    exact file _
  · simp
    exact file _
  · simp
    obtain ⟨b, s2, e, hs2, hb⟩ := pick_ok hc hl (by omega) hs1 (l := ([([97] : List UInt8), ([46, 46, 47, 98] : List UInt8), ([47] : List UInt8)] : List (List UInt8))) (by decide)
    rw [e]; simp only [Option.bind_some]
    refine ⟨_, _, rfl, hs2.mono (by omega), ?_, rfl⟩
    have hb1 : (decide (20 < b.length) || (decide ((2 : Int) = 2) && decide (b = []))) = false := by
      have : ∀ x ∈ ([([97] : List UInt8), ([46, 46, 47, 98] : List UInt8), ([47] : List UInt8)] : List (List UInt8)), (decide (20 < x.length) || (decide ((2 : Int) = 2) && decide (x = []))) = false := by decide
      exact this _ hb
    exact fault_mk (by decide) hp hb1 (by simp) (by decide)
  · simp
    exact ⟨_, _, rfl, hs1.mono (by omega), white, rfl⟩
  · simp
    exact ⟨_, _, rfl, hs1.mono (by omega), white, rfl⟩
  · have := dir s1 hs1
    simpa using this
  · have := dir s1 hs1
    simpa using this
theorem source_ok (code : List Int) : ∃ s, spec_l00Source.sh code = some s ∧ SrcOK 0 s := by
  have := tmod_range (a := (code.length : Int)) (n := 1000) (by omega) (by decide)
  exact ⟨_, rfl, ⟨by simp, by simp, this.1, by have := this.2; show (code.length : Int).tmod 1000 < 2147483648; omega⟩⟩
def spec_RecordDrawn.sh (a0 : List Int) : Option (Rec) :=
  ((spec_l00Source.sh a0)).bind fun z7 => ((draw_path.sh 4 a0 z7)).bind fun z14 => ((draw_record.sh a0 z14.2 z14.1)).bind fun z21 => some z21.1
theorem spec_RecordDrawn.eq (a0 : List Int) {r : Rec} (H : spec_RecordDrawn.sh a0 = some r) : spec_RecordDrawn.sh a0 = some r := H
theorem recordDrawn_ok {code : List Int} (hc : ∀ x ∈ code, okB x) (hl : code.length ≤ 1048577) : ∃ r, spec_RecordDrawn.sh code = some r ∧ recFault r = 0 ∧ isPath 3 r.path := by
  obtain ⟨s, e, hs⟩ := source_ok code
  obtain ⟨t, s1, e2, hs1, ht⟩ := path_ok hc hl (by omega) hs
  obtain ⟨r, s2, e3, _, hr, hrp⟩ := record_ok hc hl (by omega) hs1 ht.ok
  exact ⟨r, by simp [spec_RecordDrawn.sh, e, e2, e3], hr, by rw [hrp]; exact ht⟩
theorem guard_of (a0 a1 : List Int) : (bif decide ((1048576 : Int) < (a0.length : Int)) then some true else (some (decide ((1048576 : Int) < (a1.length : Int))))) = some true ∨
    ((bif decide ((1048576 : Int) < (a0.length : Int)) then some true else (some (decide ((1048576 : Int) < (a1.length : Int))))) = some false ∧ a0.length ≤ 1048576 ∧ a1.length ≤ 1048576) := by
  by_cases h0 : (1048576 : Int) < (a0.length : Int)
  · left; rw [decide_eq_true h0]; rfl
  · by_cases h1 : (1048576 : Int) < (a1.length : Int)
    · left; rw [decide_eq_false h0, decide_eq_true h1]; rfl
    · right; rw [decide_eq_false h0, decide_eq_false h1]; exact ⟨rfl, by omega, by omega⟩

/-! ### what the laws compare with; paths -/
theorem same_loop {α : Type} [DecidableEq α] [Inhabited α] (a b : List α) (hl : a.length = b.length) (B : Int → Option (Step Bool Int Unit)) (hb : ∀ i : Nat, i < a.length → B i = some (sc (if !decide (a.getD i default = b.getD i default) then some false else none : Option Bool) ((i : Int) + 1))) (hn : B a.length = some (.brk ())) :
    (loopF B (a.length + 1) 0).bind (fun z => match z with | .inl t => some t | .inr _ => some true) = some (decide (a = b)) := by
  rw [loop_scan0 a.length _ hb hn (a.length + 1) (by omega), list_ne_any a b hl]
  by_cases he : a = b <;> simp [he]
theorem same_sh {α : Type} [DecidableEq α] [Inhabited α] (a b : List α) (h : a.length ≤ 4611686018427387904) (B : Int → Option (Step Bool Int Unit)) (hB : ∀ i : Nat, i < a.length → i < b.length → B i = bif (!decide (a.getD i default = b.getD i default)) then some (.ret false) else some (.nxt ((i : Int) + 1))) (hn : B a.length = some (.brk ())) :
    (bif (!decide ((a.length : Int) = (b.length : Int))) then some false else ((loopF B (a.length + 1) 0).bind fun z => match z with | .inl t => some t | .inr _ => some true)) = some (decide (a = b)) := by
  by_cases hl : a.length = b.length
  · have : (a.length : Int) = (b.length : Int) := by omega
    rw [decide_eq_true this]
    simp only [Bool.not_true, cond_false]
    refine same_loop a b hl B (fun i hi => ?_) hn
    rw [hB i hi (by omega)]
    by_cases he : a.getD i default = b.getD i default
    · simp only [he, decide_true, Bool.not_true, Bool.false_eq_true, if_false, cond_false, sc_none]
    · simp only [he, decide_false, Bool.not_false, if_true, cond_true, sc_some]
  · have h1 : ¬ (a.length : Int) = (b.length : Int) := by omega
    have h2 : a ≠ b := fun e => hl (by rw [e])
    simp [h1, h2]
def laws_sameTexts.b1 (a0 : List (List UInt8)) (a1 : List (List UInt8)) : Int → Option (Step (Bool) (Int) (Unit)) :=
  fun x5_2 => bif (decide (x5_2 < (a0.length : Int))) then (bif inR x5_2 a0.length then (bif inR x5_2 a1.length then (bif (!decide ((gt a0 x5_2) = (gt a1 x5_2))) then (some (.ret false)) else (some (.nxt (IntKind.wrap .i64 (x5_2 + 1))))) else none) else none) else (some (.brk ()))
def laws_sameTexts.sh (k : Nat) (a0 : List (List UInt8)) (a1 : List (List UInt8)) : Option (Bool) :=
  bif (!decide ((a0.length : Int) = (a1.length : Int))) then (some false) else ((loopF (laws_sameTexts.b1 a0 a1) k 0).bind fun z => match z with | .inl t => some t | .inr _ => some true)
theorem laws_sameTexts.eq (a0 a1 : List (List UInt8)) (h : a0.length ≤ 4611686018427387904) : ∃ k, laws_sameTexts.sh k a0 a1 = some (decide (a0 = a1)) := by
  refine ⟨a0.length + 1, same_sh a0 a1 h _ (fun i hi hi2 => ?_) (by simp [laws_sameTexts.b1])⟩
  simp only [laws_sameTexts.b1, lt_nat, hi, decide_true, cond_true, inR_nat hi, inR_nat hi2, getD_gt, wrap_succ hi h]
  rfl
def laws_sameNodes.b1 (a0 : List Nd) (a1 : List Nd) : Int → Option (Step (Bool) (Int) (Unit)) :=
  fun x5_2 => bif (decide (x5_2 < (a0.length : Int))) then (bif inR x5_2 a0.length then (bif inR x5_2 a1.length then (bif (!decide ((gt a0 x5_2) = (gt a1 x5_2))) then (some (.ret false)) else (some (.nxt (IntKind.wrap .i64 (x5_2 + 1))))) else none) else none) else (some (.brk ()))
def laws_sameNodes.sh (k : Nat) (a0 : List Nd) (a1 : List Nd) : Option (Bool) :=
  bif (!decide ((a0.length : Int) = (a1.length : Int))) then (some false) else ((loopF (laws_sameNodes.b1 a0 a1) k 0).bind fun z => match z with | .inl t => some t | .inr _ => some true)
theorem laws_sameNodes.eq (a0 a1 : List Nd) (h : a0.length ≤ 4611686018427387904) : ∃ k, laws_sameNodes.sh k a0 a1 = some (decide (a0 = a1)) := by
  refine ⟨a0.length + 1, same_sh a0 a1 h _ (fun i hi hi2 => ?_) (by simp [laws_sameNodes.b1])⟩
  simp only [laws_sameNodes.b1, lt_nat, hi, decide_true, cond_true, inR_nat hi, inR_nat hi2, getD_gt, wrap_succ hi h]
  rfl
def laws_find.b1 (a0 : List Nd) (a1 : List UInt8) : Int → Option (Step (Int) (Int) (Unit)) :=
  fun x5_1 => bif (decide (x5_1 < (a0.length : Int))) then (bif inR x5_1 a0.length then (bif (decide (((gt a0 x5_1).path) = a1)) then (some (.ret x5_1)) else (some (.nxt (IntKind.wrap .i64 (x5_1 + 1))))) else none) else (some (.brk ()))
def laws_find.sh (k : Nat) (a0 : List Nd) (a1 : List UInt8) : Option (Int) :=
  (loopF (laws_find.b1 a0 a1) k 0).bind fun z => match z with | .inl t => some t | .inr _ => some (-1)
theorem laws_find.eq (a0 : List Nd) (a1 : List UInt8) (h : a0.length ≤ 4611686018427387904) : ∃ k, laws_find.sh k a0 a1 = some (findN a0 a1) := by
  refine ⟨a0.length + 1, ?_⟩
  unfold laws_find.sh findN
  rw [findI_run (fun r : Nd => decide (r.path = a1)) a0 (laws_find.b1 a0 a1) (fun i hi => by
    simp only [laws_find.b1, lt_nat, hi, decide_true, cond_true, inR_nat hi, getD_gt, wrap_succ hi (by omega)]
    rfl) (by simp [laws_find.b1])]
  by_cases hm : findI (fun r : Nd => decide (r.path = a1)) a0 = -1
  · simp [hm]
  · simp [hm]
theorem isBelow_of {a b : List UInt8} (ha : pathOK a = true) (hb : pathOK b = true) : isBelow a b = belowP a b := by
  have := pathOK_ne hb
  simp [isBelow, ha, hb, this]
end Go.UL
