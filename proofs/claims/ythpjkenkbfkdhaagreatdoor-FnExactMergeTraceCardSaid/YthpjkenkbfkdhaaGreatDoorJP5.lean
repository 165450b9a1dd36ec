/- Plain Lean: what the functions compute. -/
import Derived.Test.YthpjkenkbfkdhaaGreatDoorJP4
set_option linter.unusedVariables false
set_option linter.unusedSimpArgs false
namespace Go.UL
open Go.RowKit
/-! ### loops, once more -/
/-- A loop that fills a new slice. -/
theorem fill_run {α T : Type} (ys : List α) (m : Nat → α) (b : Int × List α → Option (Step T (Int × List α) (List α)))
    (hb : ∀ i : Nat, i < ys.length → ∀ y : List α, y.length = ys.length → b ((i : Int), y) = some (.nxt ((i : Int) + 1, setI y i (m i)))) (hn : ∀ y : List α, y.length = ys.length → b ((ys.length : Int), y) = some (.brk y)) :
    loopF b (ys.length + 1) (0, ys) = some (.inr ((List.range ys.length).map m)) := by
  have key : ∀ d i k, i + d = ys.length → d < k → loopF b k ((i : Int), (List.range i).map m ++ ys.drop i) = some (.inr ((List.range ys.length).map m)) := by
    intro d
    induction d with
    | zero =>
      intro i k hi hk
      obtain ⟨k, rfl⟩ : ∃ j, k = j + 1 := ⟨k - 1, by omega⟩
      have : i = ys.length := by omega
      subst this
      have h9 := hn ((List.range ys.length).map m ++ ys.drop ys.length) (by simp)
      rw [loopF, h9]
      simp
    | succ d ih =>
      intro i k hi hk
      obtain ⟨k, rfl⟩ : ∃ j, k = j + 1 := ⟨k - 1, by omega⟩
      have hlt : i < ys.length := by omega
      have h9 := hb i hlt ((List.range i).map m ++ ys.drop i) (by simp; omega)
      rw [loopF, h9]
      simp only [Option.bind_some, marks_set ys m i hlt]
      have := ih (i + 1) k (by omega) (by omega)
      rw [Int.natCast_add, Int.natCast_one] at this
      exact this
  have := key ys.length 0 (ys.length + 1) (by omega) (by omega)
  simpa using this
theorem map_getD {α : Type} (d : α) (xs : List α) : (List.range xs.length).map (fun i => xs.getD i d) = xs := by
  apply List.ext_getElem (by simp)
  intro i h1 h2
  simp [List.getD_eq_getElem?_getD, List.getElem?_eq_getElem h2]
theorem find_agree_lt {β : Type} {f g : Nat → Option β} (n : Nat) : ∀ (m i : Nat), i + m = n → (∀ j, j < i → f j = none) → (∀ i, i < n → (∀ j, j < i → f j = none) → g i = f i) → (List.range' i m).findSome? g = (List.range' i m).findSome? f := by
  intro m
  induction m with
  | zero => intro i _ _ _; rfl
  | succ m ih =>
    intro i hn hp h
    simp only [List.range'_succ, List.findSome?_cons, h i (by omega) hp]
    cases hf : f i with
    | some t => rfl
    | none => exact ih (i + 1) (by omega) (fun j hj => by by_cases e : j = i
                                                          · subst e; exact hf
                                                          · exact hp j (by omega)) h
/-- Where the first stands that a test holds of, -1 if nowhere. -/
def findI {α : Type} (q : α → Bool) : List α → Int
  | [] => -1
  | x :: l => if q x then 0 else if findI q l = -1 then -1 else findI q l + 1
theorem idxO_some {α : Type} {p : α → Option Bool} {q : α → Bool} : ∀ {l : List α}, (∀ x ∈ l, p x = some (q x)) → idxO p l = some (findI q l) := by
  intro l
  induction l with
  | nil => intro _; rfl
  | cons x l ih =>
    intro h
    simp only [idxO, findI, h x (by simp), Option.bind_some]
    rw [ih fun y hy => h y (by simp [hy])]
    cases q x <;> simp
theorem findI_ge {α : Type} (q : α → Bool) (l : List α) : -1 ≤ findI q l := (idxO_any (p := fun x => some (q x)) (idxO_some (fun _ _ => rfl))).1
theorem findI_lt {α : Type} (q : α → Bool) : ∀ (l : List α), findI q l < l.length := by
  intro l
  induction l with
  | nil => simp [findI]
  | cons x l ih => simp only [findI, List.length_cons]; split
                   · omega
                   · split <;> omega
theorem findI_get {α : Type} [Inhabited α] (q : α → Bool) : ∀ (l : List α), 0 ≤ findI q l → inR (findI q l) l.length = true ∧ q (gt l (findI q l)) = true := by
  intro l h
  refine ⟨inR_mk h (findI_lt q l), ?_⟩
  induction l with
  | nil => simp [findI] at h
  | cons x l ih =>
    simp only [findI] at h ⊢
    by_cases hq : q x = true
    · simp [hq, gt]
    · simp only [hq] at h ⊢
      by_cases hm : findI q l = -1
      · simp [hm] at h
      · have hge := findI_ge q l
        have := ih (by omega)
        simp only [hm, if_false, Bool.false_eq_true]
        have e : (findI q l + 1).toNat = (findI q l).toNat + 1 := by omega
        simpa [gt, e] using this
/-- A loop that looks for the first. -/
theorem findI_run {α : Type} [Inhabited α] (q : α → Bool) (l : List α) (b : Int → Option (Step Int Int Unit)) (hb : ∀ i : Nat, i < l.length → b i = bif q (l.getD i default) then some (.ret (i : Int)) else some (.nxt ((i : Int) + 1))) (hn : b l.length = some (.brk ())) :
    loopF b (l.length + 1) 0 = some (if findI q l = -1 then .inr () else .inl (findI q l)) := by
  have := idxO_find (p := fun x => some (q x)) l l.length 0 (by omega) (findI q l) (by simpa using idxO_some (p := fun x => some (q x)) (q := q) (l := l) (fun _ _ => rfl)) b (fun i hi => by rw [hb i hi]; rfl) hn (l.length + 1) (by omega)
  simpa using this
/-! ### made records -/
def zeroR : Rec := ⟨0, [], [], 0, false⟩
def made (r : Rec) : Rec × Int := if recFault r = 0 then (r, 0) else (zeroR, recFault r)
def laws_eqRecord.sh (a0 : Rec) (a1 : Rec) : Option (Bool) :=
  bif (!decide (a0.kind = a1.kind)) then (some false) else (bif (!decide (a0.path = a1.path)) then (some false) else (bif (!decide (a0.body = a1.body)) then (some false) else (bif (!decide (a0.mode = a1.mode)) then (some false) else (bif (!decide (a0.opq = a1.opq)) then (some false) else (some true)))))
theorem laws_eqRecord.eq (a0 a1 : Rec) : laws_eqRecord.sh a0 a1 = some (decide (a0 = a1)) := by
  obtain ⟨k, p, b, m, o⟩ := a0
  obtain ⟨k', p', b', m', o'⟩ := a1
  unfold laws_eqRecord.sh
  simp only [Rec.mk.injEq]
  by_cases h1 : k = k' <;> by_cases h2 : p = p' <;> by_cases h3 : b = b' <;> by_cases h4 : m = m' <;> by_cases h5 : o = o' <;> simp [h1, h2, h3, h4, h5]

end Go.UL
