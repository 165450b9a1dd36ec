/- Plain Lean: what the functions compute. -/
import Derived.Test.YthpjkenkbfkdhaaGreatDoorJP19
set_option linter.unusedVariables false
set_option linter.unusedSimpArgs false
namespace Go.UL
open Go.RowKit
def impl_paths.b2 (a0 : List (List Rec)) (x11_9 : Int) : List (List UInt8) × Int → Option (Step (Step (List (List UInt8)) (List (List UInt8) × Int) (List (List UInt8))) (List (List UInt8) × Int) (List (List UInt8))) :=
  fun q => match q with
  | (x3_36, x17_38) => bif (decide (x17_38 < ((gt a0 x11_9).length : Int))) then (bif inR x17_38 (gt a0 x11_9).length then (bif decide ((x3_36.length + ([(gt (gt a0 x11_9) x17_38).path] : List (List UInt8)).length) * 16 ≤ 140737488355328) then (some (.nxt (x3_36 ++ ([(gt (gt a0 x11_9) x17_38).path] : List (List UInt8)), IntKind.wrap .i64 (x17_38 + 1)))) else none) else none) else (some (.brk x3_36))
def impl_paths.b1 (k : Nat) (a0 : List (List Rec)) : List (List UInt8) × Int → Option (Step (List (List UInt8)) (List (List UInt8) × Int) (List (List UInt8))) :=
  fun q => match q with
  | (x3_7, x11_9) => bif (decide (x11_9 < (a0.length : Int))) then (bif inR x11_9 a0.length then ((loopF (impl_paths.b2 a0 x11_9) k (x3_7, 0)).bind fun z => match z with | .inl t => some t | .inr x3_42 => some (.nxt (x3_42, IntKind.wrap .i64 (x11_9 + 1)))) else none) else (some (.brk x3_7))
def impl_paths.sh (k : Nat) (a0 : List (List Rec)) : Option (List (List UInt8)) :=
  (loopF (impl_paths.b1 k a0) k (([] : List (List UInt8)), 0)).bind fun z => match z with | .inl t => some t | .inr x3_13 => bif decide (∀ x ∈ x3_13, x.length ≤ 1048576) then (bif decide (x3_13.length ≤ 4611686018427387903) then (some (riseOf x3_13)) else none) else none
theorem impl_paths.in {a0 : List (List Rec)} {x : Nat} (hg : (gt a0 (x : Int)).length ≤ 1048576) : ∀ (m i K : Nat) (acc : List (List UInt8)), i + m = (gt a0 (x : Int)).length → m < K → acc.length + m ≤ 8000000 → loopF (impl_paths.b2 a0 (x : Int)) K (acc, (i : Int)) = some (.inr (acc ++ ((gt a0 (x : Int)).drop i).map (·.path))) := by
  intro m
  induction m with
  | zero =>
    intro i K acc hi hK _
    obtain ⟨K, rfl⟩ : ∃ j, K = j + 1 := ⟨K - 1, by omega⟩
    have d1 : decide ((i : Int) < ((gt a0 (x : Int)).length : Int)) = false := decide_eq_false (by omega)
    have hd : (gt a0 (x : Int)).drop i = [] := List.drop_eq_nil_of_le (by omega)
    rw [loopF, hd]
    simp only [impl_paths.b2, d1, cond_false, List.map_nil, List.append_nil]; rfl
  | succ m ih =>
    intro i K acc hi hK hb
    obtain ⟨K, rfl⟩ : ∃ j, K = j + 1 := ⟨K - 1, by omega⟩
    have hlt : i < (gt a0 (x : Int)).length := by omega
    have d1 : decide ((i : Int) < ((gt a0 (x : Int)).length : Int)) = true := decide_eq_true (by omega)
    have e1 : ∀ z : List UInt8, decide ((acc.length + ([z] : List (List UInt8)).length) * 16 ≤ 140737488355328) = true := fun z => decide_eq_true (by simp; omega)
    have w1 : IntKind.wrap .i64 ((i : Int) + 1) = ((i + 1 : Nat) : Int) := by rw [wrap_small (by omega) (by omega)]; omega
    have hI := ih (i + 1) K (acc ++ [(gt (gt a0 (x : Int)) (i : Int)).path]) (by omega) (by omega) (by simp; omega)
    rw [loopF, drop_gt hlt]
    simp only [impl_paths.b2, d1, cond_true, inR_nat hlt, e1, w1]
    refine hI.trans ?_
    simp
theorem impl_paths.out {a0 : List (List Rec)} (h0 : a0.length ≤ 5) (h1 : ∀ l ∈ a0, l.length ≤ 1048576) : ∀ (m i K : Nat) (acc : List (List UInt8)), i + m = a0.length → m < K → acc.length ≤ i * 1048576 → loopF (impl_paths.b1 1048577 a0) K (acc, (i : Int)) = some (.inr (acc ++ ((a0.drop i).flatten).map (·.path))) := by
  intro m
  induction m with
  | zero =>
    intro i K acc hi hK _
    obtain ⟨K, rfl⟩ : ∃ j, K = j + 1 := ⟨K - 1, by omega⟩
    have d1 : decide ((i : Int) < (a0.length : Int)) = false := decide_eq_false (by omega)
    have hd : a0.drop i = [] := List.drop_eq_nil_of_le (by omega)
    rw [loopF]
    simp only [impl_paths.b1, d1, cond_false, hd, List.flatten_nil, List.map_nil, List.append_nil]; rfl
  | succ m ih =>
    intro i K acc hi hK hb
    obtain ⟨K, rfl⟩ : ∃ j, K = j + 1 := ⟨K - 1, by omega⟩
    have hlt : i < a0.length := by omega
    have hli : (gt a0 (i : Int)).length ≤ 1048576 := by rw [getD_gt, getD_el hlt]; exact h1 _ (List.getElem_mem hlt)
    have d1 : decide ((i : Int) < (a0.length : Int)) = true := decide_eq_true (by omega)
    have w1 : IntKind.wrap .i64 ((i : Int) + 1) = ((i + 1 : Nat) : Int) := by rw [wrap_small (by omega) (by omega)]; omega
    have hin := impl_paths.in hli (gt a0 (i : Int)).length 0 1048577 acc (by omega) (by omega) (by omega)
    rw [List.drop_zero] at hin
    have hin' : loopF (impl_paths.b2 a0 (i : Int)) 1048577 (acc, 0) = some (.inr (acc ++ (gt a0 (i : Int)).map (·.path))) := hin
    have hI := ih (i + 1) K (acc ++ (gt a0 (i : Int)).map (·.path)) (by omega) (by omega) (by simp only [List.length_append, List.length_map]; omega)
    rw [loopF]
    simp only [impl_paths.b1, d1, cond_true, inR_nat hlt, hin', Option.bind_some, w1]
    refine hI.trans ?_
    rw [drop_gt hlt]
    simp
theorem impl_paths.eq (a0 : List (List Rec)) (h0 : a0.length ≤ 5) (h1 : ∀ l ∈ a0, l.length ≤ 1048576) (h2 : ∀ l ∈ a0, ∀ x ∈ l, x.path.length ≤ 1048576) : ∃ k, impl_paths.sh k a0 = some (pathsL a0) := by
  refine ⟨1048577, ?_⟩
  unfold impl_paths.sh
  have ho := impl_paths.out h0 h1 a0.length 0 1048577 [] (by omega) (by omega) (by simp)
  rw [List.drop_zero, List.nil_append] at ho
  have ho' : loopF (impl_paths.b1 1048577 a0) 1048577 ([], 0) = some (.inr (a0.flatten.map (·.path))) := ho
  have e1 : decide (∀ x ∈ a0.flatten.map (·.path), x.length ≤ 1048576) = true := decide_eq_true fun x hx => by
    obtain ⟨r, hr, rfl⟩ := List.mem_map.1 hx
    obtain ⟨l, hl, hrl⟩ := List.mem_flatten.1 hr
    exact h2 l hl r hrl
  have hlen : ∀ (ls : List (List Rec)), (∀ l ∈ ls, l.length ≤ 1048576) → ls.flatten.length ≤ ls.length * 1048576 := by
    intro ls
    induction ls with
    | nil => intro _; simp
    | cons l ls ih =>
      intro h
      have a1 := h l (List.mem_cons_self ..)
      have a2 := ih fun x hx => h x (List.mem_cons_of_mem _ hx)
      simp only [List.flatten_cons, List.length_append, List.length_cons]; omega
  have e2 : decide ((a0.flatten.map (·.path)).length ≤ 4611686018427387903) = true := decide_eq_true (by have := hlen a0 h1; rw [List.length_map]; omega)
  rw [ho']
  simp only [Option.bind_some, e1, e2, cond_true]
  rfl

end Go.UL
