/- Plain Lean: what the functions compute. -/
import Derived.Test.YthpjkenkbfkdhaaGreatDoorYP22
set_option linter.unusedVariables false
set_option linter.unusedSimpArgs false
namespace Go.UL
open Go.RowKit
/-! ### a node's place among nodes in order -/
def riseN (t : List Nd) : Bool := decide (t.Pairwise fun a b => ltP a.path b.path = true)
theorem riseN_rise {t : List Nd} (h : riseN t = true) : Rise (t.map (·.path)) := List.pairwise_map.2 (of_decide_eq_true h)
theorem riseN_mk {t : List Nd} (h : Rise (t.map (·.path))) : riseN t = true := decide_eq_true (List.pairwise_map.1 h)
def lessC (t : List Nd) (p : List UInt8) : Nat := (t.filter fun x => ltP x.path p).length
def placeL (t : List Nd) (n : Nd) : List Nd := t.filter (fun x => ltP x.path n.path) ++ n :: t.filter (fun x => !ltP x.path n.path)
theorem lessC_le (t : List Nd) (p : List UInt8) : lessC t p ≤ t.length := List.length_filter_le _ _
theorem notless_all {x : Nd} {t : List Nd} {p : List UInt8} (hr : Rise ((x :: t).map (·.path))) (hx : ltP x.path p = false) : ∀ y ∈ t, ltP y.path p = false := by
  intro y hy
  have h1 : ltP x.path y.path = true := rise_lt hr y.path (List.mem_map_of_mem hy)
  rcases bool_two (ltP y.path p) with h | h
  · rw [ltP_trans h1 h] at hx; cases hx
  · exact h
theorem less_iff : ∀ {t : List Nd} {p : List UInt8}, Rise (t.map (·.path)) → ∀ h, h < t.length → ltP (t.getD h default).path p = decide (h < lessC t p) := by
  intro t p
  induction t with
  | nil => intro _ h hh; simp at hh
  | cons x t ih =>
    intro hr h hh
    have hr2 := rise_tl hr
    rcases bool_two (ltP x.path p) with hx | hx
    · have hc : lessC (x :: t) p = lessC t p + 1 := by simp [lessC, hx]
      cases h with
      | zero => simp [hx, hc]
      | succ h =>
        rw [List.getD_cons_succ, ih hr2 h (by simpa using hh), hc]
        rw [decide_eq_decide]; omega
    · have hall := notless_all hr hx
      have hc : lessC (x :: t) p = 0 := by
        unfold lessC
        rw [List.length_eq_zero_iff, List.filter_eq_nil_iff]
        intro y hy
        rcases List.mem_cons.1 hy with rfl | hy
        · rw [hx]; simp
        · rw [hall y hy]; simp
      rw [hc]
      have hm : (x :: t).getD h default ∈ x :: t := by rw [getD_el hh]; exact List.getElem_mem hh
      rcases List.mem_cons.1 hm with he | hm
      · rw [he, hx]; simp
      · rw [hall _ hm]; simp
theorem less_split : ∀ {t : List Nd} {p : List UInt8}, Rise (t.map (·.path)) → t.take (lessC t p) = t.filter (fun x => ltP x.path p) ∧ t.drop (lessC t p) = t.filter (fun x => !ltP x.path p) := by
  intro t p
  induction t with
  | nil => intro _; exact ⟨rfl, rfl⟩
  | cons x t ih =>
    intro hr
    obtain ⟨i1, i2⟩ := ih (rise_tl hr)
    rcases bool_two (ltP x.path p) with hx | hx
    · have hc : lessC (x :: t) p = lessC t p + 1 := by simp [lessC, hx]
      rw [hc, List.take_succ_cons, List.drop_succ_cons, i1, i2]
      simp [hx]
    · have hall := notless_all hr hx
      have hc : lessC (x :: t) p = 0 := by
        unfold lessC
        rw [List.length_eq_zero_iff, List.filter_eq_nil_iff]
        intro y hy
        rcases List.mem_cons.1 hy with rfl | hy
        · rw [hx]; simp
        · rw [hall y hy]; simp
      have h1 : (x :: t).filter (fun x => ltP x.path p) = [] := List.length_eq_zero_iff.1 hc
      have h2 : (x :: t).filter (fun x => !ltP x.path p) = x :: t := List.filter_eq_self.2 fun y hy => by
        rcases List.mem_cons.1 hy with rfl | hy
        · rw [hx]; rfl
        · rw [hall y hy]; rfl
      rw [hc, h1, h2]
      exact ⟨rfl, rfl⟩
def cmpN (x y : Nd) : Option Int := bif decide (x.path.length ≤ 1048576) then (bif decide (y.path.length ≤ 1048576) then some (cmpL (cut 47 x.path) (cut 47 y.path)) else none) else none
theorem cmpN_some {x y : Nd} {r : Int} (h : cmpN x y = some r) : x.path.length ≤ 1048576 ∧ y.path.length ≤ 1048576 ∧ r = cmpL (cut 47 x.path) (cut 47 y.path) := by
  unfold cmpN at h
  by_cases h1 : x.path.length ≤ 1048576
  · by_cases h2 : y.path.length ≤ 1048576
    · simp [h1, h2] at h; exact ⟨h1, h2, h.symm⟩
    · simp [h1, h2] at h
  · simp [h1] at h
def slices_BinSearchN.b1 (a0 : List Nd) (a1 : Nd) (a2 : Nd → Nd → Option Int) : Int × Int → Option (Step (Int × Bool) (Int × Int) (Int)) :=
  fun q => match q with
  | (x9_7, x10_8) => bif (decide (x9_7 < x10_8)) then (bif inR (IntKind.wrap .i64 ((IntKind.wrap .u64 (IntKind.wrap .i64 (x9_7 + x10_8))).fdiv (2 ^ 1))) a0.length then ((a2 (gt a0 (IntKind.wrap .i64 ((IntKind.wrap .u64 (IntKind.wrap .i64 (x9_7 + x10_8))).fdiv (2 ^ 1)))) a1).bind fun z31 => bif (decide (z31 < 0)) then (some (.nxt (IntKind.wrap .i64 ((IntKind.wrap .i64 ((IntKind.wrap .u64 (IntKind.wrap .i64 (x9_7 + x10_8))).fdiv (2 ^ 1))) + 1), x10_8))) else (some (.nxt (x9_7, IntKind.wrap .i64 ((IntKind.wrap .u64 (IntKind.wrap .i64 (x9_7 + x10_8))).fdiv (2 ^ 1)))))) else none) else (some (.brk x9_7))
def slices_BinSearchN.sh (k : Nat) (a0 : List Nd) (a1 : Nd) (a2 : Nd → Nd → Option Int) : Option (Int × Bool) :=
  (loopF (slices_BinSearchN.b1 a0 a1 a2) k (0, (a0.length : Int))).bind fun z => match z with | .inl t => some t | .inr x9_12 => bif (!(decide (x9_12 < (a0.length : Int))) || (inR x9_12 a0.length)) then ((a2 (gt a0 x9_12) a1).bind fun z112 => some (x9_12, ((decide (x9_12 < (a0.length : Int))) && (decide (z112 = 0))))) else none
theorem slices_BinSearchN.eq (a0 : List Nd) (a1 : Nd) (a2 : Nd → Nd → Option Int) {r : Int × Bool} (H : slices_BinSearchN.sh 64 a0 a1 a2 = some r) : ∃ k, slices_BinSearchN.sh k a0 a1 a2 = some r := ⟨64, H⟩
theorem binS_loop {t : List Nd} {n : Nd} (h0 : t.length ≤ 1048575) (h1 : Rise (t.map (·.path))) (h2 : ∀ x ∈ t, x.path.length ≤ 1048576) (h3 : n.path.length ≤ 1048576) :
    ∀ (d i j k : Nat), j - i < 2 ^ d → d < k → i ≤ lessC t n.path → lessC t n.path ≤ j → j ≤ t.length → loopF (slices_BinSearchN.b1 t n cmpN) k ((i : Int), (j : Int)) = some (.inr (lessC t n.path : Int)) := by
  intro d
  induction d with
  | zero =>
    intro i j k hd hk hi hj hl
    obtain ⟨k, rfl⟩ : ∃ m, k = m + 1 := ⟨k - 1, by omega⟩
    have hij : i = j := by simp at hd; omega
    subst hij
    have he : lessC t n.path = i := by omega
    rw [loopF]
    have d1 : decide ((i : Int) < (i : Int)) = false := decide_eq_false (by omega)
    simp only [slices_BinSearchN.b1, d1, cond_false, he]; rfl
  | succ d ih =>
    intro i j k hd hk hi hj hl
    obtain ⟨k, rfl⟩ : ∃ m, k = m + 1 := ⟨k - 1, by omega⟩
    rw [loopF]
    by_cases hij : i < j
    · have d1 : decide ((i : Int) < (j : Int)) = true := decide_eq_true (by omega)
      obtain ⟨m, hm⟩ : ∃ m : Nat, m = (i + j) / 2 := ⟨_, rfl⟩
      have w1 : IntKind.wrap .i64 ((i : Int) + (j : Int)) = ((i + j : Nat) : Int) := by rw [wrap_small (by omega) (by omega)]; omega
      have w2 : IntKind.wrap .u64 ((i + j : Nat) : Int) = ((i + j : Nat) : Int) := by rw [IntKind.wrap_u64]; omega
      have w3 : (((i + j : Nat) : Int)).fdiv (2 ^ 1) = (m : Int) := by
        rw [hm, show ((2 : Int) ^ 1) = 2 by rfl, Int.fdiv_eq_ediv_of_nonneg _ (by omega)]; omega
      have w4 : IntKind.wrap .i64 (m : Int) = (m : Int) := wrap_small (by omega) (by omega)
      have w5 : IntKind.wrap .i64 ((m : Int) + 1) = ((m + 1 : Nat) : Int) := by rw [wrap_small (by omega) (by omega)]; omega
      have hml : m < t.length := by omega
      have hp : (t.getD m default).path.length ≤ 1048576 := h2 _ (by rw [getD_el hml]; exact List.getElem_mem hml)
      have hc : cmpN (gt t (m : Int)) n = some (cmpL (cut 47 (t.getD m default).path) (cut 47 n.path)) := by
        unfold cmpN; rw [getD_gt]; simp only [decide_eq_true hp, decide_eq_true h3, cond_true]
      have hcl : decide (cmpL (cut 47 (t.getD m default).path) (cut 47 n.path) < 0) = decide (m < lessC t n.path) := by
        rw [cmpL_less]; exact less_iff h1 m hml
      have hpow : 2 ^ (d + 1) = 2 * 2 ^ d := by rw [Nat.pow_succ]; omega
      simp only [slices_BinSearchN.b1, d1, cond_true, w1, w2, w3, w4, w5, inR_nat hml, hc, Option.bind_some, hcl]
      by_cases hlt : m < lessC t n.path
      · simp only [hlt, decide_true, cond_true]
        exact ih (m + 1) j k (by omega) (by omega) (by omega) hj hl
      · simp only [hlt, decide_false, cond_false]
        exact ih i m k (by omega) (by omega) hi (by omega) (by omega)
    · have he : lessC t n.path = i := by omega
      have d1 : decide ((i : Int) < (j : Int)) = false := decide_eq_false (by omega)
      simp only [slices_BinSearchN.b1, d1, cond_false, he]; rfl
theorem binS_run {t : List Nd} {n : Nd} (h0 : t.length ≤ 1048575) (h1 : riseN t = true) (h2 : ∀ x ∈ t, x.path.length ≤ 1048576) (h3 : n.path.length ≤ 1048576) :
    ∃ fd : Bool, slices_BinSearchN.sh 64 t n cmpN = some ((lessC t n.path : Int), fd) := by
  have hl := binS_loop h0 (riseN_rise h1) h2 h3 20 0 t.length 64 (by omega) (by omega) (Nat.zero_le _) (lessC_le _ _) (Nat.le_refl _)
  have hle := lessC_le t n.path
  unfold slices_BinSearchN.sh
  rw [show ((0 : Int)) = ((0 : Nat) : Int) from rfl, hl]
  have hc : ∃ z, cmpN (gt t (lessC t n.path : Int)) n = some z := by
    unfold cmpN
    have hp : (gt t (lessC t n.path : Int)).path.length ≤ 1048576 := by
      rw [getD_gt]
      by_cases hlt : lessC t n.path < t.length
      · rw [getD_el hlt]; exact h2 _ (List.getElem_mem hlt)
      · rw [List.getD_eq_getElem?_getD, List.getElem?_eq_none (by omega)]; exact Nat.zero_le _
    exact ⟨_, by simp only [decide_eq_true hp, decide_eq_true h3, cond_true]; rfl⟩
  obtain ⟨z, hz⟩ := hc
  have hg : (!(decide ((lessC t n.path : Int) < (t.length : Int))) || inR (lessC t n.path : Int) t.length) = true := by
    by_cases hlt : lessC t n.path < t.length
    · rw [inR_nat hlt]; simp
    · have : decide ((lessC t n.path : Int) < (t.length : Int)) = false := decide_eq_false (by omega)
      rw [this]; rfl
  exact ⟨_, by simp only [Option.bind_some, hg, cond_true, hz]; rfl⟩
def impl_place_1.sh (a0 : Nd) (a1 : Nd) : Option (Int) :=
  bif decide (a0.path.length ≤ 1048576) then (bif decide (a1.path.length ≤ 1048576) then (some (cmpL (cut 47 a0.path) (cut 47 a1.path))) else none) else none
theorem impl_place_1.eq (a0 a1 : Nd) (h0 : a0.path.length ≤ 1048576) (h1 : a1.path.length ≤ 1048576) : impl_place_1.sh a0 a1 = some (cmpL (cut 47 a0.path) (cut 47 a1.path)) := by simp [impl_place_1.sh, h0, h1]

end Go.UL
