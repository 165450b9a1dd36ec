/- Plain Lean: what the functions compute. -/
import Derived.Test.YtfefjaohlhkmaaaGreatDooroP3
set_option linter.unusedVariables false
set_option linter.unusedSimpArgs false
namespace Go.UL
open Go.RowKit
/-! ### marks -/
/-! ### loops, once more -/
theorem find_agree_lt {β : Type} {f g : Nat → Option β} (n : Nat) : ∀ (m i : Nat), i + m = n → (∀ j, j < i → f j = none) → (∀ i, i < n → (∀ j, j < i → f j = none) → g i = f i) → (List.range' i m).findSome? g = (List.range' i m).findSome? f := by
  intro m
  induction m with
  | zero => intro i _ _ _; rfl
  | succ m ih =>
    intro i hn hp h
    simp only [List.range'_succ, List.findSome?_cons, h i (by omega) hp]
    cases hf : f i with
    | some t => rfl
    | none => exact ih (i + 1) (by omega) (fun j hj => by by_cases e : j = i
                                                          · subst e; exact hf
                                                          · exact hp j (by omega)) h
/-- Where the first stands that a test holds of, -1 if nowhere. -/
def findI {α : Type} (q : α → Bool) : List α → Int
  | [] => -1
  | x :: l => if q x then 0 else if findI q l = -1 then -1 else findI q l + 1
theorem idxO_some {α : Type} {p : α → Option Bool} {q : α → Bool} : ∀ {l : List α}, (∀ x ∈ l, p x = some (q x)) → idxO p l = some (findI q l) := by
  intro l
  induction l with
  | nil => intro _; rfl
  | cons x l ih =>
    intro h
    simp only [idxO, findI, h x (by simp), Option.bind_some]
    rw [ih fun y hy => h y (by simp [hy])]
    cases q x <;> simp
theorem findI_ge {α : Type} (q : α → Bool) (l : List α) : -1 ≤ findI q l := (idxO_any (p := fun x => some (q x)) (idxO_some (fun _ _ => rfl))).1
theorem findI_lt {α : Type} (q : α → Bool) : ∀ (l : List α), findI q l < l.length := by
  intro l
  induction l with
  | nil => simp [findI]
  | cons x l ih => simp only [findI, List.length_cons]; split
                   · omega
                   · split <;> omega
theorem findI_get {α : Type} [Inhabited α] (q : α → Bool) : ∀ (l : List α), 0 ≤ findI q l → inR (findI q l) l.length = true ∧ q (gt l (findI q l)) = true := by
  intro l h
  refine ⟨inR_mk h (findI_lt q l), ?_⟩
  induction l with
  | nil => simp [findI] at h
  | cons x l ih =>
    simp only [findI] at h ⊢
    by_cases hq : q x = true
    · simp [hq, gt]
    · simp only [hq] at h ⊢
      by_cases hm : findI q l = -1
      · simp [hm] at h
      · have hge := findI_ge q l
        have := ih (by omega)
        simp only [hm, if_false, Bool.false_eq_true]
        have e : (findI q l + 1).toNat = (findI q l).toNat + 1 := by omega
        simpa [gt, e] using this
/-- A loop that looks for the first. -/
theorem findI_run {α : Type} [Inhabited α] (q : α → Bool) (l : List α) (b : Int → Option (Step Int Int Unit)) (hb : ∀ i : Nat, i < l.length → b i = bif q (l.getD i default) then some (.ret (i : Int)) else some (.nxt ((i : Int) + 1))) (hn : b l.length = some (.brk ())) :
    loopF b (l.length + 1) 0 = some (if findI q l = -1 then .inr () else .inl (findI q l)) := by
  have := idxO_find (p := fun x => some (q x)) l l.length 0 (by omega) (findI q l) (by simpa using idxO_some (p := fun x => some (q x)) (q := q) (l := l) (fun _ _ => rfl)) b (fun i hi => by rw [hb i hi]; rfl) hn (l.length + 1) (by omega)
  simpa using this
/-! ### made records -/
def zeroR : Rec := ⟨0, [], [], 0, false⟩
def made (r : Rec) : Rec × Int := if recFault r = 0 then (r, 0) else (zeroR, recFault r)
/-! ### what is above a path -/
/-- Where the last stroke stands, -1 if nowhere. -/
def lastSlash : List UInt8 → Int
  | [] => -1
  | b :: l => if lastSlash l = -1 then (if bn b = 47 then 0 else -1) else lastSlash l + 1
theorem lastSlash_spec (t : List UInt8) : (lastSlash t = -1 ∧ ∀ j, j < t.length → bn (t.getD j 0) ≠ 47) ∨ ∃ i : Nat, i < t.length ∧ lastSlash t = i ∧ bn (t.getD i 0) = 47 ∧ ∀ j, i < j → j < t.length → bn (t.getD j 0) ≠ 47 := by
  induction t with
  | nil => left; exact ⟨rfl, by simp⟩
  | cons b l ih =>
    rcases ih with ⟨h1, h2⟩ | ⟨i, hi, h1, h2, h3⟩
    · by_cases hb : bn b = 47
      · right
        refine ⟨0, by simp, by simp [lastSlash, h1, hb], by simpa using hb, ?_⟩
        intro j hj hl
        obtain ⟨j, rfl⟩ : ∃ k, j = k + 1 := ⟨j - 1, by omega⟩
        simpa using h2 j (by simpa using hl)
      · left
        refine ⟨by simp [lastSlash, h1, hb], ?_⟩
        intro j hl
        cases j with
        | zero => simpa using hb
        | succ j => simpa using h2 j (by simpa using hl)
    · right
      refine ⟨i + 1, by simpa using hi, ?_, by simpa using h2, ?_⟩
      · have : lastSlash l ≠ -1 := by rw [h1]; omega
        simp only [lastSlash, this, if_false, h1]; omega
      · intro j hj hl
        obtain ⟨j, rfl⟩ : ∃ k, j = k + 1 := ⟨j - 1, by omega⟩
        simpa using h3 j (by omega) (by simpa using hl)
theorem lastSlash_no {t : List UInt8} (h : ∀ j, j < t.length → bn (t.getD j 0) ≠ 47) : lastSlash t = -1 := by
  rcases lastSlash_spec t with ⟨h1, _⟩ | ⟨i, hi, _, h2, _⟩
  · exact h1
  · exact absurd h2 (h i hi)
theorem lastSlash_of {t : List UInt8} {i : Nat} (hi : i < t.length) (h : bn (t.getD i 0) = 47) (hn : ∀ j, i < j → j < t.length → bn (t.getD j 0) ≠ 47) : lastSlash t = i := by
  rcases lastSlash_spec t with ⟨_, h2⟩ | ⟨k, hk, h1, h2, h3⟩
  · exact absurd h (h2 i hi)
  · by_cases e : i = k
    · rw [h1, e]
    · by_cases hlt : i < k
      · exact absurd h2 (hn k hlt hk)
      · exact absurd h (h3 i (by omega) hi)
theorem lastSlash_ge (t : List UInt8) : -1 ≤ lastSlash t := by
  rcases lastSlash_spec t with ⟨h, _⟩ | ⟨i, _, h, _⟩ <;> omega
theorem lastSlash_lt (t : List UInt8) : lastSlash t < t.length := by
  rcases lastSlash_spec t with ⟨h, _⟩ | ⟨i, hi, h, _⟩ <;> omega
/-- What is above; empty of a path of one part. -/
def parentP (t : List UInt8) : List UInt8 := t.take (lastSlash t).toNat
theorem parentP_len (t : List UInt8) : (parentP t).length ≤ t.length := by simp [parentP]; omega
def spec_l01Parent.b1 (a0 : List UInt8) : Int → Option (Step (List UInt8) (Int) (Unit)) :=
  fun x3_1 => bif (decide (0 ≤ x3_1)) then (bif inR x3_1 a0.length then (bif (decide ((byt a0 x3_1) = 47)) then (bif inS 0 x3_1 (a0.length : Int) then (some (.ret (sub a0 0 x3_1))) else none) else (some (.nxt (IntKind.wrap .i64 (x3_1 - 1))))) else none) else (some (.brk ()))
def spec_l01Parent.sh (k : Nat) (a0 : List UInt8) : Option (List UInt8) :=
  (loopF (spec_l01Parent.b1 a0) k (IntKind.wrap .i64 ((a0.length : Int) - 1))).bind fun z => match z with | .inl t => some t | .inr _ => some ([] : List UInt8)
theorem spec_l01Parent.eq (a0 : List UInt8) (h : a0.length ≤ 4611686018427387904) : ∃ k, spec_l01Parent.sh k a0 = some (parentP a0) := by
  refine ⟨a0.length + 1, ?_⟩
  unfold spec_l01Parent.sh
  rw [wrap_small (n := (a0.length : Int) - 1) (by omega) (by omega)]
  have key : ∀ (m k : Nat), m ≤ a0.length → m < k → (∀ j, m ≤ j → j < a0.length → bn (a0.getD j 0) ≠ 47) →
      loopF (spec_l01Parent.b1 a0) k ((m : Int) - 1) = some (if lastSlash a0 = -1 then .inr () else .inl (parentP a0)) := by
    intro m
    induction m with
    | zero =>
      intro k _ hk hn
      obtain ⟨k, rfl⟩ : ∃ j, k = j + 1 := ⟨k - 1, by omega⟩
      have := lastSlash_no fun j hj => hn j (by omega) hj
      have h0 : ¬ (0 : Int) ≤ ((0 : Nat) : Int) - 1 := by omega
      simp [loopF, spec_l01Parent.b1, this]
    | succ m ih =>
      intro k hm hk hn
      obtain ⟨k, rfl⟩ : ∃ j, k = j + 1 := ⟨k - 1, by omega⟩
      have hlt : m < a0.length := by omega
      have e : ((m + 1 : Nat) : Int) - 1 = (m : Int) := by omega
      rw [e]
      have h0 : (0 : Int) ≤ (m : Int) := by omega
      simp only [loopF, spec_l01Parent.b1, h0, decide_true, cond_true, inR_nat hlt, byt_nat]
      by_cases hb : bn (a0.getD m 0) = 47
      · have hl := lastSlash_of hlt hb fun j hj hj2 => hn j (by omega) hj2
        have hne : lastSlash a0 ≠ -1 := by omega
        simp only [hb, decide_true, cond_true, inS_mk (l := 0) (h := (m : Int)) (n := (a0.length : Int)) (by omega) (by omega) (by omega), Option.bind_some, hne, if_false]
        simp [sub, parentP, hl]
      · simp only [hb, decide_false, cond_false, Option.bind_some]
        rw [wrap_small (n := (m : Int) - 1) (by omega) (by omega)]
        exact ih k (by omega) (by omega) fun j hj hj2 => by
          by_cases e : j = m
          · subst e; exact hb
          · exact hn j (by omega) hj2
  rw [key a0.length (a0.length + 1) (by omega) (by omega) (fun j h1 h2 => by omega)]
  by_cases hl : lastSlash a0 = -1
  · simp [hl, parentP]
  · simp [hl]
def impl_parent.sh (a0 : List UInt8) : Option (List UInt8) :=
  bif decide (a0.length ≤ 1048576) then (bif decide (([47] : List UInt8) = [47]) then (bif inS 0 (if ((lastSlash a0) < 0 : Prop) then 0 else (lastSlash a0)) (a0.length : Int) then (some (sub a0 0 (if ((lastSlash a0) < 0 : Prop) then 0 else (lastSlash a0)))) else none) else none) else none
theorem impl_parent.eq (a0 : List UInt8) (h : a0.length ≤ 1048576) : impl_parent.sh a0 = some (parentP a0) := by
  unfold impl_parent.sh
  have hge := lastSlash_ge a0
  have hlt := lastSlash_lt a0
  have hm : (if (lastSlash a0 < 0 : Prop) then 0 else lastSlash a0) = ((lastSlash a0).toNat : Int) := by split <;> omega
  simp only [h, decide_true, cond_true, hm]
  rw [inS_mk (l := 0) (h := ((lastSlash a0).toNat : Int)) (n := (a0.length : Int)) (by omega) (by omega) (by omega)]
  simp [sub, parentP]
  omega

/-! ### layers: sizes, copies, places -/
/-- Where the record of a path stands, -1 if nowhere. -/
def findR (l : List Rec) (p : List UInt8) : Int := findI (fun r => decide (r.path = p)) l
def spec_l03At.b1 (a0 : List Rec) (a1 : List UInt8) : Int → Option (Step (Int) (Int) (Unit)) :=
  fun x5_1 => bif (decide (x5_1 < (a0.length : Int))) then (bif inR x5_1 a0.length then (bif (decide (((gt a0 x5_1).path) = a1)) then (some (.ret x5_1)) else (some (.nxt (IntKind.wrap .i64 (x5_1 + 1))))) else none) else (some (.brk ()))
def spec_l03At.sh (k : Nat) (a0 : List Rec) (a1 : List UInt8) : Option (Int) :=
  (loopF (spec_l03At.b1 a0 a1) k 0).bind fun z => match z with | .inl t => some t | .inr _ => some (-1)
theorem spec_l03At.eq (a0 : List Rec) (a1 : List UInt8) (h : a0.length ≤ 1048576) : ∃ k, spec_l03At.sh k a0 a1 = some (findR a0 a1) := by
  refine ⟨a0.length + 1, ?_⟩
  unfold spec_l03At.sh findR
  rw [findI_run (fun r : Rec => decide (r.path = a1)) a0 (spec_l03At.b1 a0 a1) (fun i hi => by
    simp only [spec_l03At.b1, lt_nat, hi, decide_true, cond_true, inR_nat hi, getD_gt, wrap_succ hi (by omega)]
    rfl) (by simp [spec_l03At.b1])]
  by_cases hm : findI (fun r : Rec => decide (r.path = a1)) a0 = -1
  · simp [hm]
  · simp [hm]
def impl_isLongListR.sh (a0 : List Rec) : Option (Bool) :=
  some (decide (4096 < (a0.length : Int)))
theorem impl_isLongListR.eq (a0 : List Rec) : impl_isLongListR.sh a0 = some (decide (4096 < a0.length)) := by
  have : (4096 : Int) < (a0.length : Int) ↔ 4096 < a0.length := by omega
  simp [impl_isLongListR.sh, this]
def impl_find_1.sh (a0 : Rec) (a1 : List UInt8) : Option (Bool) :=
  some (decide (a0.path = a1))
theorem impl_find_1.eq (a0 : Rec) (a1 : List UInt8) : impl_find_1.sh a0 a1 = some (decide (a0.path = a1)) := rfl
def slices_IndexFuncR.b1 (a0 : List Rec) (a1 : Rec → Option Bool) : Int → Option (Step (Int) (Int) (Unit)) :=
  fun x8_1 => bif (decide (x8_1 < (a0.length : Int))) then (bif inR x8_1 a0.length then ((a1 (gt a0 x8_1)).bind fun z22 => bif z22 then (some (.ret x8_1)) else (some (.nxt (IntKind.wrap .i64 (x8_1 + 1))))) else none) else (some (.brk ()))
def slices_IndexFuncR.sh (k : Nat) (a0 : List Rec) (a1 : Rec → Option Bool) : Option (Int) :=
  (loopF (slices_IndexFuncR.b1 a0 a1) k 0).bind fun z => match z with | .inl t => some t | .inr _ => some (-1)
theorem slices_IndexFuncR.eq (a0 : List Rec) (a1 : Rec → Option Bool) (h : a0.length ≤ 4611686018427387904) {r : Int} (H : idxO a1 a0 = some r) : ∃ k, slices_IndexFuncR.sh k a0 a1 = some r := by
  refine ⟨a0.length + 1, ?_⟩
  have := idxO_find a0 a0.length 0 (by omega) r (by simpa using H) (slices_IndexFuncR.b1 a0 a1) (fun i hi => by
    simp only [slices_IndexFuncR.b1, lt_nat, hi, decide_true, cond_true, inR_nat hi, getD_gt, wrap_succ hi h]) (by simp [slices_IndexFuncR.b1]) (a0.length + 1) (by omega)
  simp only [Int.natCast_zero] at this
  unfold slices_IndexFuncR.sh
  rw [this]
  by_cases hr : r = -1
  · simp [hr]
  · simp [hr]
def impl_find.sh (a0 : List Rec) (a1 : List UInt8) : Option (Int) :=
  bif decide (a0.length ≤ 4611686018427387904) then (((idxO (fun (x0_ : Rec) => some (decide (x0_.path = a1))) a0)).bind fun z12 => some z12) else none
theorem impl_find.eq (a0 : List Rec) (a1 : List UInt8) (h : a0.length ≤ 1048576) : impl_find.sh a0 a1 = some (findR a0 a1) := by
  have h1 : a0.length ≤ 4611686018427387904 := by omega
  have h2 := idxO_some (p := fun (x0_ : Rec) => some (decide (x0_.path = a1))) (q := fun r => decide (r.path = a1)) (l := a0) (fun _ _ => rfl)
  simp only [impl_find.sh, h1, decide_true, cond_true, h2, Option.bind_some, findR]
/-! ### what is wrong with a layer -/
/-- What is wrong with the record at place i, if nothing is wrong ahead of it. -/
def codeAt (l : List Rec) (i : Nat) : Int :=
  if i = 16 then 6 else if recFault (l.getD i default) ≠ 0 then recFault (l.getD i default)
  else if 0 < i ∧ (l.getD i default).path = (l.getD (i - 1) default).path then 18
  else if 0 < i ∧ lessL (cut 47 (l.getD (i - 1) default).path) (cut 47 (l.getD i default).path) = false then 11
  else if parentP (l.getD i default).path = [] then 0
  else if findR (l.take i) (parentP (l.getD i default).path) < 0 then 12
  else if (gt l (findR (l.take i) (parentP (l.getD i default).path))).kind ≠ 3 then 13 else 0
def layerFault (l : List Rec) : Int × Int := match (List.range l.length).findSome? (fun i => if codeAt l i = 0 then none else some ((i : Int), codeAt l i)) with
  | some x => x
  | none => (0, 0)
def layerFaultL (l : List Rec) : Int × Int := if 4096 < l.length then (0, 2) else layerFault l
theorem gt_nat {α : Type} [Inhabited α] (l : List α) (i : Nat) : gt l (i : Int) = l.getD i default := rfl
theorem getD_mem {l : List Rec} {i : Nat} (h : i < l.length) : l.getD i default ∈ l := by
  have : l.getD i default = l[i] := by simp [List.getD_eq_getElem?_getD, List.getElem?_eq_getElem h]
  rw [this]; exact List.getElem_mem h
theorem findR_take {l : List Rec} {p : List UInt8} {i : Nat} (hi : i ≤ l.length) (h : ¬ findR (l.take i) p < 0) : inR (findR (l.take i) p) l.length = true := by
  have h1 : findR (l.take i) p < (l.take i).length := findI_lt _ _
  have h2 : (l.take i).length ≤ i := by simp; omega
  exact inR_mk (by omega) (by omega)
def spec_l03Fault.b1 (a0 : List Rec) : Int → Option (Step (Int × Int) (Int) (Unit)) :=
  fun x4_1 => bif (decide (x4_1 < (a0.length : Int))) then (bif (decide (x4_1 = 16)) then (some (.ret (x4_1, 6))) else (bif inR x4_1 a0.length then (bif (!decide ((recFault (gt a0 x4_1)) = 0)) then (some (.ret (x4_1, (recFault (gt a0 x4_1))))) else (bif (!(decide (0 < x4_1)) || (inR x4_1 a0.length)) then (bif (!(decide (0 < x4_1)) || (inR (IntKind.wrap .i64 (x4_1 - 1)) a0.length)) then (bif ((decide (0 < x4_1)) && (decide (((gt a0 x4_1).path) = ((gt a0 (IntKind.wrap .i64 (x4_1 - 1))).path)))) then (some (.ret (x4_1, 18))) else (bif (!(decide (0 < x4_1)) || (inR (IntKind.wrap .i64 (x4_1 - 1)) a0.length)) then (bif (!(decide (0 < x4_1)) || (inR x4_1 a0.length)) then (bif (!(decide (0 < x4_1)) || (decide (((gt a0 (IntKind.wrap .i64 (x4_1 - 1))).path).length ≤ 1048576))) then (bif (!(decide (0 < x4_1)) || (decide (((gt a0 x4_1).path).length ≤ 1048576))) then (bif ((decide (0 < x4_1)) && (!(lessL (cut 47 ((gt a0 (IntKind.wrap .i64 (x4_1 - 1))).path)) (cut 47 ((gt a0 x4_1).path))))) then (some (.ret (x4_1, 11))) else (bif inR x4_1 a0.length then (bif decide (((gt a0 x4_1).path).length ≤ 4611686018427387904) then (bif (decide ((parentP ((gt a0 x4_1).path)) = ([] : List UInt8))) then (some (.nxt (IntKind.wrap .i64 (x4_1 + 1)))) else (bif inS 0 x4_1 (a0.length : Int) then (bif decide ((sub a0 0 x4_1).length ≤ 1048576) then (bif (decide ((findR (sub a0 0 x4_1) (parentP ((gt a0 x4_1).path))) < 0)) then (some (.ret (x4_1, 12))) else (bif inR (findR (sub a0 0 x4_1) (parentP ((gt a0 x4_1).path))) a0.length then (bif (!decide (((gt a0 (findR (sub a0 0 x4_1) (parentP ((gt a0 x4_1).path)))).kind) = 3)) then (some (.ret (x4_1, 13))) else (some (.nxt (IntKind.wrap .i64 (x4_1 + 1))))) else none)) else none) else none)) else none) else none)) else none) else none) else none) else none)) else none) else none)) else none)) else (some (.brk ()))
def spec_l03Fault.sh (k : Nat) (a0 : List Rec) : Option (Int × Int) :=
  (loopF (spec_l03Fault.b1 a0) k 0).bind fun z => match z with | .inl t => some t | .inr _ => some (0, 0)
theorem spec_l03Fault.eq (a0 : List Rec) (h0 : a0.length ≤ 1048576) (h1 : ∀ x ∈ a0, x.path.length ≤ 1048576) : ∃ k, spec_l03Fault.sh k a0 = some ((layerFault a0).1, (layerFault a0).2) := by
  refine ⟨a0.length + 1, ?_⟩
  unfold spec_l03Fault.sh
  have hb : ∀ i : Nat, i < a0.length → spec_l03Fault.b1 a0 i = some (sc (if codeAt a0 i = 0 then none else some ((i : Int), codeAt a0 i) : Option (Int × Int)) ((i : Int) + 1)) := by
    intro i hi
    have hp := h1 _ (getD_mem hi)
    have hp2 : (a0.getD i default).path.length ≤ 4611686018427387904 := by omega
    simp only [spec_l03Fault.b1, lt_nat, hi, decide_true, cond_true, inR_nat hi, gt_nat, wrap_succ hi (by omega), Bool.or_true, hp, hp2]
    have e16 : decide ((i : Int) = 16) = decide (i = 16) := by rw [decide_eq_decide]; omega
    rw [e16]
    unfold codeAt
    obtain ⟨r, hr⟩ : ∃ r, a0.getD i default = r := ⟨_, rfl⟩
    simp only [hr] at hp hp2 ⊢
    by_cases h16 : i = 16
    · subst h16; simp
    · simp only [h16, decide_false, cond_false, if_false]
      by_cases hf : recFault r = 0
      · simp only [hf, decide_true, Bool.not_true, cond_false, ne_eq, not_true_eq_false, if_false]
        by_cases hz : i = 0
        · subst hz
          simp only [Int.natCast_zero, Int.lt_irrefl, decide_false, Bool.not_false, Bool.true_or, cond_true, Bool.false_and, cond_false, Nat.lt_irrefl, false_and, if_false]
          by_cases hpp : parentP r.path = []
          · simp [hpp]
          · simp only [hpp, decide_false, cond_false, if_false]
            have hs : sub a0 0 ((0 : Nat) : Int) = a0.take 0 := rfl
            simp only [Int.natCast_zero] at hs
            rw [inS_mk (l := 0) (h := 0) (n := (a0.length : Int)) (by omega) (by omega) (by omega)]
            simp only [hs]
            simp [findR, findI]
        · have hi1 : i - 1 < a0.length := by omega
          have hw : IntKind.wrap .i64 ((i : Int) - 1) = ((i - 1 : Nat) : Int) := by rw [wrap_small (by omega) (by omega)]; omega
          have hpos : (0 : Int) < (i : Int) := by omega
          have hpos' : 0 < i := by omega
          have hp3 := h1 _ (getD_mem hi1)
          simp only [hw, gt_nat, inR_nat hi1, hpos, hpos', hp3, decide_true, Bool.not_true, Bool.false_or, Bool.or_true, cond_true, Bool.true_and, true_and]
          obtain ⟨q, hq0⟩ : ∃ q, a0.getD (i - 1) default = q := ⟨_, rfl⟩
          simp only [hq0]
          by_cases hq : r.path = q.path
          · simp [hq]
          · simp only [hq, decide_false, cond_false, if_false]
            cases hL : lessL (cut 47 q.path) (cut 47 r.path) with
            | false => simp
            | true =>
              simp only [Bool.not_true, cond_false, Bool.true_eq_false, if_false]
              by_cases hpp : parentP r.path = []
              · simp [hpp]
              · simp only [hpp, decide_false, cond_false, if_false]
                have hs : sub a0 0 (i : Int) = a0.take i := by simp [sub]
                have hl : (a0.take i).length ≤ 1048576 := by simp; omega
                rw [inS_mk (l := 0) (h := (i : Int)) (n := (a0.length : Int)) (by omega) (by omega) (by omega)]
                simp only [hs, cond_true, hl, decide_true]
                by_cases hk : findR (a0.take i) (parentP r.path) < 0
                · simp [hk]
                · simp only [hk, decide_false, cond_false, if_false, findR_take (Nat.le_of_lt hi) hk, cond_true]
                  by_cases hd : (gt a0 (findR (a0.take i) (parentP r.path))).kind = 3
                  · simp [hd]
                  · simp [hd]
      · simp [hf]
  have hn : spec_l03Fault.b1 a0 a0.length = some (.brk ()) := by simp [spec_l03Fault.b1]
  rw [loop_scan0 a0.length _ hb hn _ (by omega)]
  unfold layerFault
  cases (List.range a0.length).findSome? _ <;> rfl
def spec_l03OK.sh (a0 : List Rec) : Option (Bool) :=
  bif decide (a0.length ≤ 1048576) then (bif decide (∀ x ∈ a0, x.path.length ≤ 1048576) then (some (decide (((layerFault a0).2) = 0))) else none) else none
theorem spec_l03OK.eq (a0 : List Rec) (h0 : a0.length ≤ 1048576) (h1 : ∀ x ∈ a0, x.path.length ≤ 1048576) : spec_l03OK.sh a0 = some (decide ((layerFault a0).2 = 0)) := by
  simp only [spec_l03OK.sh, h0, decide_true, cond_true, decide_eq_true h1]
def faultAt (l : List Rec) (i : Int) : Int :=
  if 16 ≤ i then 6 else if recFault (gt l i) ≠ 0 then recFault (gt l i) else if 0 < i ∧ (gt l (i - 1)).path = (gt l i).path then 18
  else if 0 < i ∧ pathLess (gt l (i - 1)).path (gt l i).path = false then 11 else if parentP (gt l i).path = [] then 0
  else if findR (l.take i.toNat) (parentP (gt l i).path) < 0 then 12 else if (gt l (findR (l.take i.toNat) (parentP (gt l i).path))).kind ≠ 3 then 13 else 0
def impl_faultAt.sh (a0 : List Rec) (a1 : Int) : Option (Int) :=
  bif inR a1 a0.length then (bif decide (((gt a0 a1).path).length ≤ 1048576) then ((bif (!decide ((parentP ((gt a0 a1).path)) = ([] : List UInt8))) then (bif inS 0 a1 (a0.length : Int) then (bif decide ((sub a0 0 a1).length ≤ 1048576) then (some (.inr (findR (sub a0 0 a1) (parentP ((gt a0 a1).path))))) else none) else none) else (some (.inr 0)) : Option ((Int) ⊕ (Int))).bind fun z => match z with | .inl t => some t | .inr x6_19 => bif (!(decide (0 < a1)) || (inR (if ((IntKind.wrap .i64 (a1 - 1)) < 0 : Prop) then 0 else (IntKind.wrap .i64 (a1 - 1))) a0.length)) then (bif (!(decide (0 < a1)) || (inR (if ((IntKind.wrap .i64 (a1 - 1)) < 0 : Prop) then 0 else (IntKind.wrap .i64 (a1 - 1))) a0.length)) then (bif decide (((gt a0 a1).path).length ≤ 1048576) then (bif (!(!decide ((parentP ((gt a0 a1).path)) = ([] : List UInt8))) || (inR (if (x6_19 < 0 : Prop) then 0 else x6_19) a0.length)) then (bif decide (([.inl (!(decide (recFault (gt a0 a1) = 0))), .inr (recFault (gt a0 a1)), .inl ((decide (0 < a1)) && (decide (((gt a0 (if ((IntKind.wrap .i64 (a1 - 1)) < 0 : Prop) then 0 else (IntKind.wrap .i64 (a1 - 1)))).path) = ((gt a0 a1).path)))), .inr 18, .inl ((decide (0 < a1)) && (!(pathLess ((gt a0 (if ((IntKind.wrap .i64 (a1 - 1)) < 0 : Prop) then 0 else (IntKind.wrap .i64 (a1 - 1)))).path) ((gt a0 a1).path)))), .inr 11, .inl (decide (x6_19 < 0)), .inr 12, .inl ((!decide ((parentP ((gt a0 a1).path)) = ([] : List UInt8))) && (!decide (((gt a0 (if (x6_19 < 0 : Prop) then 0 else x6_19)).kind) = 3))), .inr 13] : List (Bool ⊕ Int)).length ≤ 4611686018427387904) then (bif decide (([.inl (decide (16 ≤ a1)), .inr 6, .inl true, .inr (firstOf ([.inl (!(decide (recFault (gt a0 a1) = 0))), .inr (recFault (gt a0 a1)), .inl ((decide (0 < a1)) && (decide (((gt a0 (if ((IntKind.wrap .i64 (a1 - 1)) < 0 : Prop) then 0 else (IntKind.wrap .i64 (a1 - 1)))).path) = ((gt a0 a1).path)))), .inr 18, .inl ((decide (0 < a1)) && (!(pathLess ((gt a0 (if ((IntKind.wrap .i64 (a1 - 1)) < 0 : Prop) then 0 else (IntKind.wrap .i64 (a1 - 1)))).path) ((gt a0 a1).path)))), .inr 11, .inl (decide (x6_19 < 0)), .inr 12, .inl ((!decide ((parentP ((gt a0 a1).path)) = ([] : List UInt8))) && (!decide (((gt a0 (if (x6_19 < 0 : Prop) then 0 else x6_19)).kind) = 3))), .inr 13] : List (Bool ⊕ Int)))] : List (Bool ⊕ Int)).length ≤ 4611686018427387904) then (some (firstOf ([.inl (decide (16 ≤ a1)), .inr 6, .inl true, .inr (firstOf ([.inl (!(decide (recFault (gt a0 a1) = 0))), .inr (recFault (gt a0 a1)), .inl ((decide (0 < a1)) && (decide (((gt a0 (if ((IntKind.wrap .i64 (a1 - 1)) < 0 : Prop) then 0 else (IntKind.wrap .i64 (a1 - 1)))).path) = ((gt a0 a1).path)))), .inr 18, .inl ((decide (0 < a1)) && (!(pathLess ((gt a0 (if ((IntKind.wrap .i64 (a1 - 1)) < 0 : Prop) then 0 else (IntKind.wrap .i64 (a1 - 1)))).path) ((gt a0 a1).path)))), .inr 11, .inl (decide (x6_19 < 0)), .inr 12, .inl ((!decide ((parentP ((gt a0 a1).path)) = ([] : List UInt8))) && (!decide (((gt a0 (if (x6_19 < 0 : Prop) then 0 else x6_19)).kind) = 3))), .inr 13] : List (Bool ⊕ Int)))] : List (Bool ⊕ Int)))) else none) else none) else none) else none) else none) else none) else none) else none
theorem firstOf_c (b : Bool) (n : Int) (l : List (Bool ⊕ Int)) : firstOf (.inl b :: .inr n :: l) = if b then n else firstOf l := rfl
theorem impl_faultAt.eq (a0 : List Rec) (a1 : Int) (h0 : a0.length ≤ 1048576) (h1 : ∀ x ∈ a0, x.path.length ≤ 1048576) (h2 : inR a1 a0.length = true) : impl_faultAt.sh a0 a1 = some (faultAt a0 a1) := by
  obtain ⟨i, rfl⟩ : ∃ i : Nat, a1 = i := ⟨a1.toNat, by have := inR_lo h2; omega⟩
  have hi : i < a0.length := by have := inR_hi h2; omega
  have hp := h1 _ (getD_mem hi)
  obtain ⟨r, hr⟩ : ∃ r, a0.getD i default = r := ⟨_, rfl⟩
  have hs : sub a0 0 (i : Int) = a0.take i := by simp [sub]
  have hl : (a0.take i).length ≤ 1048576 := by simp; omega
  have hm : (if (IntKind.wrap .i64 ((i : Int) - 1) < 0 : Prop) then (0 : Int) else IntKind.wrap .i64 ((i : Int) - 1)) = ((i - 1 : Nat) : Int) := by
    rw [wrap_small (by omega) (by omega)]; split <;> omega
  have hi1 : i - 1 < a0.length := by omega
  obtain ⟨q, hq⟩ : ∃ q, a0.getD (i - 1) default = q := ⟨_, rfl⟩
  have hq2 : ∀ _ : 0 < i, gt a0 ((i : Int) - 1) = q := fun h => by
    have : ((i : Int) - 1) = ((i - 1 : Nat) : Int) := by omega
    rw [this, gt_nat, hq]
  rw [hr] at hp
  have e16 : decide ((16 : Int) ≤ (i : Int)) = decide (16 ≤ i) := by rw [decide_eq_decide]; omega
  have epos : decide ((0 : Int) < (i : Int)) = decide (0 < i) := by rw [decide_eq_decide]; omega
  have e16' : ((16 : Int) ≤ (i : Int)) = (16 ≤ i) := propext (by omega)
  have epos' : ((0 : Int) < (i : Int)) = (0 < i) := propext (by omega)
  unfold impl_faultAt.sh faultAt
  simp only [inR_nat hi, gt_nat, hr, hp, hs, hl, hm, hq, inR_nat hi1, e16, epos, decide_true, cond_true, Bool.or_true, Int.toNat_natCast, inS_mk (l := 0) (h := (i : Int)) (n := (a0.length : Int)) (by omega) (by omega) (by omega), firstOf_c, List.length_cons, List.length_nil]
  simp only [e16', epos']
  by_cases hpp : parentP r.path = []
  · have h00 : inR (if (0 : Int) < 0 then 0 else 0) a0.length = true := inR_mk (by omega) (by simp; omega)
    by_cases c0 : 0 < i
    · simp only [hq2 c0]
      by_cases c16 : 16 ≤ i <;> by_cases cf : recFault r = 0 <;> by_cases cq : q.path = r.path <;> cases cl : pathLess q.path r.path <;> simp [hpp, c16, cf, cq, cl, c0, firstOf]
    · by_cases c16 : 16 ≤ i <;> by_cases cf : recFault r = 0 <;> simp [hpp, c16, cf, c0, firstOf]
  · by_cases ck : findR (a0.take i) (parentP r.path) < 0
    · have h00 : inR 0 a0.length = true := inR_mk (by omega) (by omega)
      by_cases c0 : 0 < i
      · simp only [hq2 c0]
        by_cases c16 : 16 ≤ i <;> by_cases cf : recFault r = 0 <;> by_cases cq : q.path = r.path <;> cases cl : pathLess q.path r.path <;> simp [hpp, c16, cf, cq, cl, c0, ck, h00]
      · by_cases c16 : 16 ≤ i <;> by_cases cf : recFault r = 0 <;> simp [hpp, c16, cf, c0, ck, h00]
    · have hk := findR_take (Nat.le_of_lt hi) ck
      by_cases cd : (gt a0 (findR (a0.take i) (parentP r.path))).kind = 3
      · by_cases c0 : 0 < i
        · simp only [hq2 c0]
          by_cases c16 : 16 ≤ i <;> by_cases cf : recFault r = 0 <;> by_cases cq : q.path = r.path <;> cases cl : pathLess q.path r.path <;> simp [hpp, c16, cf, cq, cl, c0, ck, hk, cd, firstOf]
        · by_cases c16 : 16 ≤ i <;> by_cases cf : recFault r = 0 <;> simp [hpp, c16, cf, c0, ck, hk, cd, firstOf]
      · by_cases c0 : 0 < i
        · simp only [hq2 c0]
          by_cases c16 : 16 ≤ i <;> by_cases cf : recFault r = 0 <;> by_cases cq : q.path = r.path <;> cases cl : pathLess q.path r.path <;> simp [hpp, c16, cf, cq, cl, c0, ck, hk, cd, firstOf]
        · by_cases c16 : 16 ≤ i <;> by_cases cf : recFault r = 0 <;> simp [hpp, c16, cf, c0, ck, hk, cd, firstOf]

/-! ### layers: both ways agree -/
theorem recFault_path {r : Rec} (h : recFault r = 0) : pathOK r.path = true := by
  unfold recFault at h
  split at h
  · cases h
  · split at h
    · cases h
    · rename_i h2; simpa using h2
theorem codeAt_rec {l : List Rec} {i : Nat} (h : codeAt l i = 0) : recFault (l.getD i default) = 0 := by
  unfold codeAt at h
  split at h
  · cases h
  · split at h
    · rename_i h1; exact absurd h h1
    · rename_i h1; simpa using h1
theorem faultAt_code (l : List Rec) (i : Nat) (hp : ∀ j, j < i → codeAt l j = 0) : faultAt l (i : Int) = codeAt l i := by
  have h16 : ¬ 16 < i := fun h => by have := hp 16 h; simp [codeAt] at this
  unfold faultAt codeAt
  have e : ((16 : Int) ≤ (i : Int)) = (i = 16) := propext (by omega)
  have epos : ((0 : Int) < (i : Int)) = (0 < i) := propext (by omega)
  simp only [e, epos, gt_nat, Int.toNat_natCast]
  by_cases c16 : i = 16
  · simp [c16]
  · simp only [c16, if_false]
    obtain ⟨r, hr⟩ : ∃ r, l.getD i default = r := ⟨_, rfl⟩
    simp only [hr]
    by_cases cf : recFault r = 0
    · simp only [cf, ne_eq, not_true_eq_false, if_false]
      by_cases c0 : 0 < i
      · have hg : gt l ((i : Int) - 1) = l.getD (i - 1) default := by
          have : ((i : Int) - 1) = ((i - 1 : Nat) : Int) := by omega
          rw [this, gt_nat]
        obtain ⟨q, hq⟩ : ∃ q, l.getD (i - 1) default = q := ⟨_, rfl⟩
        have hqok : pathOK q.path = true := by rw [← hq]; exact recFault_path (codeAt_rec (hp (i - 1) (by omega)))
        have hrok := recFault_path cf
        have e1 : pathLess q.path r.path = lessL (cut 47 q.path) (cut 47 r.path) := by simp [pathLess, hqok, hrok]
        have e2 : (q.path = r.path) = (r.path = q.path) := propext ⟨Eq.symm, Eq.symm⟩
        simp only [hg, hq, e1, e2, c0, true_and]
      · simp only [c0, false_and, if_false]
    · simp only [cf, ne_eq, not_false_eq_true, if_true]
def impl_fault.b1 (a0 : List Rec) : Int → Option (Step (Int × Int) (Int) (Unit)) :=
  fun x8_1 => bif (decide (x8_1 < (a0.length : Int))) then (bif decide (a0.length ≤ 1048576) then (bif decide (∀ x ∈ a0, x.path.length ≤ 1048576) then (bif decide (inR x8_1 a0.length = true) then (bif (!decide ((faultAt a0 x8_1) = 0)) then (some (.ret (x8_1, (faultAt a0 x8_1)))) else (some (.nxt (IntKind.wrap .i64 (x8_1 + 1))))) else none) else none) else none) else (some (.brk ()))
def impl_fault.sh (k : Nat) (a0 : List Rec) : Option (Int × Int) :=
  (loopF (impl_fault.b1 a0) k 0).bind fun z => match z with | .inl t => some t | .inr _ => some (0, 0)
theorem impl_fault.eq (a0 : List Rec) (h0 : a0.length ≤ 1048576) (h1 : ∀ x ∈ a0, x.path.length ≤ 1048576) : ∃ k, impl_fault.sh k a0 = some ((layerFault a0).1, (layerFault a0).2) := by
  refine ⟨a0.length + 1, ?_⟩
  unfold impl_fault.sh
  have hb : ∀ i : Nat, i < a0.length → impl_fault.b1 a0 i = some (sc (if faultAt a0 i = 0 then none else some ((i : Int), faultAt a0 i) : Option (Int × Int)) ((i : Int) + 1)) := by
    intro i hi
    simp only [impl_fault.b1, lt_nat, hi, decide_true, cond_true, inR_nat hi, h0, decide_eq_true h1, wrap_succ hi (by omega)]
    by_cases hf : faultAt a0 i = 0 <;> simp [hf]
  have hn : impl_fault.b1 a0 a0.length = some (.brk ()) := by simp [impl_fault.b1]
  rw [loop_scan0 a0.length _ hb hn _ (by omega)]
  have hag := find_agree_lt (f := fun i => if codeAt a0 i = 0 then none else some ((i : Int), codeAt a0 i)) (g := fun i => if faultAt a0 i = 0 then none else some ((i : Int), faultAt a0 i)) a0.length a0.length 0 (by omega) (fun j hj => by omega) (fun i _ hp => by
    have : faultAt a0 i = codeAt a0 i := faultAt_code a0 i fun j hj => by
      have := hp j hj
      by_cases h : codeAt a0 j = 0
      · exact h
      · simp [h] at this
    simp only [this])
  rw [List.range_eq_range', hag, ← List.range_eq_range']
  unfold layerFault
  cases (List.range a0.length).findSome? _ <;> rfl
def impl_LayerFault.sh (a0 : List Rec) : Option (Int × Int) :=
  bif (decide (4096 < a0.length)) then (some (0, 2)) else (bif decide (a0.length ≤ 1048576) then (bif decide (∀ x ∈ a0, x.path.length ≤ 1048576) then (some ((layerFault a0).1, (layerFault a0).2)) else none) else none)
theorem impl_LayerFault.eq (a0 : List Rec) (h0 : a0.length ≤ 1048576) (h1 : ∀ x ∈ a0, x.path.length ≤ 1048576) : impl_LayerFault.sh a0 = some ((layerFaultL a0).1, (layerFaultL a0).2) := by
  unfold impl_LayerFault.sh layerFaultL
  by_cases h : 4096 < a0.length
  · simp [h]
  · simp only [h, h0, decide_false, decide_true, cond_false, cond_true, if_false, decide_eq_true h1]
def impl_LayerOK.sh (a0 : List Rec) : Option (Bool) :=
  bif decide (a0.length ≤ 1048576) then (bif decide (∀ x ∈ a0, x.path.length ≤ 1048576) then (some (decide (((layerFaultL a0).2) = 0))) else none) else none
theorem impl_LayerOK.eq (a0 : List Rec) (h0 : a0.length ≤ 1048576) (h1 : ∀ x ∈ a0, x.path.length ≤ 1048576) : impl_LayerOK.sh a0 = some (decide ((layerFaultL a0).2 = 0)) := by
  simp only [impl_LayerOK.sh, h0, decide_true, cond_true, decide_eq_true h1]
/-! ### a record of a path -/
theorem findR_in {l : List Rec} {p : List UInt8} (h : ¬ findR l p < 0) : inR (findR l p) l.length = true := (findI_get _ l (by unfold findR at h; omega)).1
/-! ### equal layers -/
end Go.UL
