import Derived.Test.YtdhmlillkbjjjaaGreatDoorwP33
set_option linter.unusedVariables false
set_option linter.unusedSimpArgs false
namespace Go.UL
open Go.RowKit
theorem Gv {l : List Rec} (hl : Sheet l) (h : l.length < 128) : qb (qb l) = qb l := by
 have := YE l
 exact GL (Ye hl) hl (by omega) fun p hp => view_canon hl hp
def jI (p : List UInt8) : List Nd := ((vx p).reverse.map fun q => (⟨3, q, [], 0⟩ : Nd)) ++ [⟨1, p, [], 0⟩]
theorem fileT_paths (p : List UInt8) : (jI p).map (·.path) = (vx p).reverse ++ [p] := by
 unfold jI
 rw [List.map_append, List.map_map]
 congr 1
 exact List.map_id'' (fun _ => rfl) _
theorem ancs_rise : ∀ (n : Nat) (p : List UInt8), (cut 47 p).length ≤ n → vV ((vx p).reverse ++ [p]) := by
 intro n
 induction n with
 | zero =>
  intro p hn
  have : vx p = [] := by
   cases h : vx p with
   | nil => rfl
   | cons x t => have := Qa (yH (t := p) (x := x) (by rw [h]; simp)); omega
  rw [this]; simp [vV]
 | succ n ih =>
  intro p hn
  by_cases hp : qd p = []
  ·rw [Ys hp]; simp [vV]
  ·have hd := Qa (jD hp)
   have h := ih (qd p) (by omega)
   rw [Qt hp, List.reverse_cons]
   refine List.pairwise_append.2 ⟨h, by simp, fun a ha b hb => ?_⟩
   rw [List.mem_singleton.1 hb]
   rcases List.mem_append.1 ha with ha | ha
   ·exact VA (QG (jD hp) (yH (List.mem_reverse.1 ha)))
   ·rw [List.mem_singleton.1 ha]; exact Q8 hp
theorem dir_ok {q : List UInt8} (h : qz q = true) : QR ⟨3, q, [], 0⟩ = true := by
 have : qB (recOf ⟨3, q, [], 0⟩) = 0 := (jA _).2 ⟨rfl, h, rfl, rfl, rfl⟩
 simp [QR, this]
theorem file_ok {q : List UInt8} (h : qz q = true) : QR ⟨1, q, [], 0⟩ = true := by
 have : qB (recOf ⟨1, q, [], 0⟩) = 0 := (jA _).2 ⟨rfl, h, rfl, rfl, rfl⟩
 simp [QR, this]
theorem Q9 {p : List UInt8} (hp : qz p = true) : Wood (jI p) := by
 have hdir : ∀ q ∈ vx p, (⟨3, q, [], 0⟩ : Nd) ∈ jI p := fun q hq => List.mem_append_left _ (List.mem_map.2 ⟨q, List.mem_reverse.2 hq, rfl⟩)
 have hcase : ∀ n ∈ jI p, (∃ q ∈ vx p, n = ⟨3, q, [], 0⟩) ∨ n = ⟨1, p, [], 0⟩ := fun n hn => by
  rcases List.mem_append.1 hn with hn | hn
  ·obtain ⟨q, hq, e⟩ := List.mem_map.1 hn
   exact .inl ⟨q, List.mem_reverse.1 hq, e.symm⟩
  ·exact .inr (List.mem_singleton.1 hn)
 refine ⟨by rw [fileT_paths]; exact ancs_rise _ p (Nat.le_refl _), fun n hn => ?_, fun n hn hpar => ?_⟩
 ·rcases hcase n hn with ⟨q, hq, rfl⟩ | rfl
  ·exact dir_ok (Xq hp hq)
  ·exact file_ok hp
 ·rcases hcase n hn with ⟨q, hq, rfl⟩ | rfl
  ·have : qd q ∈ vx q := by rw [Qt hpar]; exact List.mem_cons_self
   exact ⟨_, hdir _ (YQ hp hq this), rfl, rfl⟩
  ·have : qd p ∈ vx p := by rw [Qt hpar]; exact List.mem_cons_self
   exact ⟨_, hdir _ this, rfl, rfl⟩
theorem GO {p : List UInt8} (hp : qz p = true) : (jI p).length ≤ 4 := by
 have h1 := VJ hp
 have h2 := Gc hp
 have h3 := congrArg List.length h2
 simp only [List.length_reverse, List.length_map, List.length_range] at h3
 simp only [jI, List.length_append, List.length_map, List.length_reverse, List.length_singleton]
 omega
theorem Gq {p : List UInt8} (hp : qz p = true) : vr (jI p) p = some ⟨1, p, [], 0⟩ :=
 yS (Q9 hp).rise (n := ⟨1, p, [], 0⟩) (List.mem_append_right _ (List.mem_singleton.2 rfl))
def yQ (i : Nat) : List UInt8 := if i < 10 then [UInt8.ofNat (48 + i)] else [UInt8.ofNat (48 + i / 10), UInt8.ofNat (48 + i % 10)]
def nmP (p : List UInt8) (i : Nat) : List UInt8 := jc p (122 :: yQ i)
def Qz (x y : List Rec) (p : List UInt8) (i : Nat) : Bool := decide (qJ x (nmP p i) < 0) && decide (qJ y (nmP p i) < 0)
def Vj (x y : List Rec) (p : List UInt8) : Nat := ((List.range 100).find? (Qz x y p)).getD 0
theorem digs_part : ∀ i, i < 100 → yt (122 :: yQ i) = true ∧ cut 47 (122 :: yQ i) = [122 :: yQ i] := by
 have h : (List.range 100).all (fun i => yt (122 :: yQ i) && decide (cut 47 (122 :: yQ i) = [122 :: yQ i])) = true := by decide +kernel
 intro i hi
 have := (List.all_eq_true.1 h) i (List.mem_range.2 hi)
 rw [Bool.and_eq_true, decide_eq_true_eq] at this
 exact this
theorem digs_inj {i j : Nat} (hi : i < 100) (hj : j < 100) (h : yQ i = yQ j) : i = j := by
 unfold yQ at h
 by_cases h1 : i < 10 <;> by_cases h2 : j < 10
 ·rw [if_pos h1, if_pos h2] at h
  injection h with h _
  have e := congrArg UInt8.toNat h
  simp only [UInt8.toNat_ofNat'] at e
  omega
 ·rw [if_pos h1, if_neg h2] at h; simp at h
 ·rw [if_neg h1, if_pos h2] at h; simp at h
 ·rw [if_neg h1, if_neg h2] at h
  injection h with h3 h
  injection h with h4 _
  have e1 := congrArg UInt8.toNat h3
  have e2 := congrArg UInt8.toNat h4
  simp only [UInt8.toNat_ofNat'] at e1 e2
  omega
theorem Jq (l : List Rec) (p : List UInt8) : qJ l p < 0 ↔ qG l p = none := by
 have h := (yf l p).1
 constructor
 ·intro h1
  cases hl : qG l p with
  | none => rfl
  | some r => exact absurd (h.2 (by rw [hl]; simp)) (by omega)
 ·intro h1
  refine Classical.byContradiction fun h2 => h.1 (by omega) h1
theorem nmP_eq {p : List UInt8} (hp : p ≠ []) (i : Nat) : nmP p i = p ++ 47 :: 122 :: yQ i := by
 unfold nmP jc; rw [if_neg hp]; simp
theorem G3 {x y : List Rec} (hlen : x.length + y.length < 100) {p : List UInt8} (hp : p ≠ []) : ∃ i, i < 100 ∧ (List.range 100).find? (Qz x y p) = some i ∧ Qz x y p i = true := by
 have key : ∃ i, i < 100 ∧ Qz x y p i = true := by
  refine Classical.byContradiction fun hno => ?_
  have hall : ∀ i, i < 100 → nmP p i ∈ x.map (·.path) ++ y.map (·.path) := fun i hi => by
   refine Classical.byContradiction fun h => hno ⟨i, hi, ?_⟩
   rw [List.mem_append, not_or] at h
   have hn : ∀ l : List Rec, nmP p i ∉ l.map (·.path) → qJ l (nmP p i) < 0 := fun l hl => (Jq l _).2 (by
    cases hk : qG l (nmP p i) with
    | none => rfl
    | some r => exact absurd (QI.1 (by rw [hk]; simp)) hl)
   unfold Qz
   rw [decide_eq_true (hn x h.1), decide_eq_true (hn y h.2)]; rfl
  have hnd : ((List.range 100).map fun i => nmP p i).Nodup := by
   refine List.pairwise_map.2 (List.Pairwise.imp_of_mem (R := fun i j => i < j) (fun {i j} hi hj hlt e => ?_) List.pairwise_lt_range)
   rw [nmP_eq hp, nmP_eq hp] at e
   have h1 := List.append_cancel_left e
   injection h1 with _ h1
   injection h1 with _ h1
   have := digs_inj (List.mem_range.1 hi) (List.mem_range.1 hj) h1
   omega
  have hle := pigeon _ _ hnd fun z hz => by
   obtain ⟨i, hi, rfl⟩ := List.mem_map.1 hz
   exact hall i (List.mem_range.1 hi)
  simp at hle
  omega
 cases hf : (List.range 100).find? (Qz x y p) with
 | none =>
  obtain ⟨i, hi, h⟩ := key
  have := List.find?_eq_none.1 hf i (List.mem_range.2 hi)
  exact absurd h this
 | some i => exact ⟨i, List.mem_range.1 (List.mem_of_find?_eq_some hf), rfl, List.find?_some hf⟩
def qL (l : List Rec) (p : List UInt8) : Rec := if 0 ≤ qJ l p then gt l (qJ l p) else QN
theorem yK (l : List Rec) (p : List UInt8) : qL l p = (qG l p).getD QN := by
 unfold qL
 cases h : qG l p with
 | none => rw [if_neg (fun h2 => (yf l p).1.1 h2 h)]; rfl
 | some r => rw [if_pos ((yf l p).1.2 (by rw [h]; simp)), (yf l p).2 r h]; rfl
def V6 (x y : List Rec) (p : List UInt8) : List Nd :=
 if ((qL x p).kind = 4 ∧ (qL y p).kind = 0) ∨ ((qL x p).kind = 0 ∧ (qL y p).kind = 4) then jI p
 else if (qL x p).kind = 3 ∧ (qL y p).kind = 3 ∧ (qL x p).mode = (qL y p).mode then jI (nmP p (Vj x y p)) else []
theorem canon_fix {x : List Rec} (hs : Sheet x) (hc : qb x = x) {p : List UInt8} {r : Rec} (h : qG x p = some r) : yE x r = some r := by
 have := jQ hs p
 rw [hc, h] at this
 exact this.symm
theorem VS {x : List Rec} (hs : Sheet x) (hc : qb x = x) {p : List UInt8} {r : Rec} (h : qG x p = some r) (hw : r.kind = 4 ∨ r.opq = true) : vq x p = false ∧ (r.opq = true → (cut 47 p).length < 4) := by
 have hf := canon_fix hs hc h
 have e := (vw h).2
 rcases qw (vq x p) with hu | hu
 ·rw [QX (by rw [e]; exact hu)] at hf
  split at hf
  ·cases hf
  ·rename_i hk
   have := congrArg Rec.opq (Option.some.inj hf)
   simp only at this
   rcases hw with hw | hw
   ·exact absurd hw hk
   ·rw [hw] at this; cases this
 ·refine ⟨hu, fun ho => ?_⟩
  rw [j8 (by rw [e]; exact hu)] at hf
  have := congrArg Rec.opq (Option.some.inj hf)
  simp only [ho, Bool.true_and, decide_eq_true_eq, e] at this
  exact this
theorem YR {r : Rec} (h : qB r = 0) : r.kind = 1 ∨ r.kind = 2 ∨ r.kind = 3 ∨ r.kind = 4 := by
 have h1 := ((jA r).1 h).1
 simp only [within, Bool.and_eq_true, decide_eq_true_eq] at h1
 omega
set_option linter.unusedSectionVars false
section
variable {x y : List Rec} (hx : Sheet x) (hy : Sheet y) (cx : qb x = x) (cy : qb y = y) {p : List UInt8} (hp : qz p = true) (hlt : ∀ q, ltP q p = true → qG x q = qG y q)
include hx hy cx cy hp hlt
theorem X2 : ∀ q ∈ vx p, qG x q = qG y q := fun q hq => hlt q (VA (yH hq))
theorem GC : vq x p = vq y p := by
 have h := X2 hx hy cx cy hp hlt
 rw [Bool.eq_iff_iff, yB, yB]
 constructor
 ·rintro ⟨q, hq, r, hr, ho⟩; exact ⟨q, hq, r, by rw [← h q hq]; exact hr, ho⟩
 ·rintro ⟨q, hq, r, hr, ho⟩; exact ⟨q, hq, r, by rw [h q hq]; exact hr, ho⟩
theorem JP {r : Rec} (hr : qG x p = some r) (hk : r.kind = 4) (hn : qG y p = none) : vr (yz x (jI p)) p = none ∧ vr (yz y (jI p)) p ≠ none := by
 have hw := Q9 hp
 have hu := (VS hx cx hr (.inl hk)).1
 have h1 : jK x p = some none := by rw [V9 hr]; unfold jP; rw [if_pos hk]
 have h2 : jK y p = none := by
  unfold jK
  rw [hn]
  show (if Qf y p = true then some none else none) = none
  rw [Ju fun q hq m hm => ?_, ← GC hx hy cx cy hp hlt, hu]
  ·rfl
  ·obtain ⟨m2, g1, g2⟩ := hx.anc hr hq
   rw [X2 hx hy cx cy hp hlt q hq, hm] at g1
   rw [Option.some.inj g1]; exact g2
 rw [Qy hx hw, Qy hy hw, h1, h2, Gq hp]
 exact ⟨rfl, by simp⟩
theorem Y2 {r s : Rec} (hr : qG x p = some r) (hs : qG y p = some s) (ho : r.opq = true) (hso : s.opq = false) (hsk : s.kind = 3) {q : List UInt8} (hq : qz q = true) (hqp : qd q = p) (hxq : qG x q = none) (hyq : qG y q = none) :
  vr (yz x (jI q)) q = none ∧ vr (yz y (jI q)) q ≠ none := by
 have hw := Q9 hq
 have hne : qd q ≠ [] := by rw [hqp]; exact Q3 hp
 have hu := (VS hx cx hr (.inr ho)).1
 have h1 : jK x q = some none := by
  rw [VU hx hq hne (by rw [hqp]; exact hr) (hx.opqk hr ho) hxq, hqp]
  unfold Vv; rw [hr]; simp [ho]
 have h2 : jK y q = none := by
  rw [VU hy hq hne (by rw [hqp]; exact hs) hsk hyq, hqp]
  unfold Vv; rw [hs, ← GC hx hy cx cy hp hlt, hu]; simp [hso]
 rw [Qy hx hw, Qy hy hw, h1, h2, Gq hq]
 exact ⟨rfl, by simp⟩
end
theorem rec_eq {r s : Rec} (h : j0 r = j0 s) (ho : r.opq = s.opq) : r = s := by
 obtain ⟨a, b, c, d, e⟩ := r
 obtain ⟨a', b', c', d', e'⟩ := s
 simp only [j0, Nd.mk.injEq] at h
 simp only at ho
 obtain ⟨rfl, rfl, rfl, rfl⟩ := h
 rw [ho]
theorem wit_differs {x y : List Rec} (hx : Sheet x) (hy : Sheet y) (cx : qb x = x) (cy : qb y = y) (hlen : x.length + y.length < 100) {p : List UInt8} (hlt : ∀ q, ltP q p = true → qG x q = qG y q) (hd : qG x p ≠ qG y p) :
  Wood (V6 x y p) ∧ (V6 x y p).length ≤ 4 ∧ yz x (V6 x y p) ≠ yz y (V6 x y p) := by
 have hp : qz p = true := by
  cases h1 : qG x p with
  | some r => exact hx.path h1
  | none =>
   cases h2 : qG y p with
   | some r => exact hy.path h2
   | none => rw [h1, h2] at hd; exact absurd rfl hd
 have hltc : ∀ q, ltP q p = true → qG y q = qG x q := fun q h => (hlt q h).symm
 have tell : ∀ {w : List Nd} {q : List UInt8}, (vr (yz x w) q = none ∧ vr (yz y w) q ≠ none) ∨ (vr (yz y w) q = none ∧ vr (yz x w) q ≠ none) → yz x w ≠ yz y w := fun h e => by
  rcases h with ⟨h1, h2⟩ | ⟨h1, h2⟩
  ·rw [e] at h1; exact h2 h1
  ·rw [← e] at h1; exact h2 h1
 have hz : ∀ {l : List Rec}, Sheet l → ∀ {q : List UInt8}, (qL l q).kind = 0 ↔ qG l q = none := fun {l} hl {q} => by
  rw [yK]
  cases h : qG l q with
  | none => exact ⟨fun _ => rfl, fun _ => rfl⟩
  | some r =>
   have := YR (hl.fault h)
   refine ⟨fun h2 => ?_, fun h2 => by cases h2⟩
   have h2 : r.kind = 0 := h2
   omega
 have hr : ∀ {l : List Rec} {q : List UInt8} {r : Rec}, qG l q = some r → qL l q = r := fun {l q r} h => by rw [yK, h]; rfl
 unfold V6
 by_cases c1 : ((qL x p).kind = 4 ∧ (qL y p).kind = 0) ∨ ((qL x p).kind = 0 ∧ (qL y p).kind = 4)
 ·rw [if_pos c1]
  refine ⟨Q9 hp, GO hp, tell (q := p) ?_⟩
  rcases c1 with ⟨k1, k2⟩ | ⟨k1, k2⟩
  ·have hn := (hz hy).1 k2
   cases h1 : qG x p with
   | none => rw [hn, h1] at hd; exact absurd rfl hd
   | some r => exact .inl (JP hx hy cx cy hp hlt h1 (by rw [← hr h1]; exact k1) hn)
  ·have hn := (hz hx).1 k1
   cases h1 : qG y p with
   | none => rw [hn, h1] at hd; exact absurd rfl hd
   | some r => exact .inr (JP hy hx cy cx hp hltc h1 (by rw [← hr h1]; exact k2) hn)
 ·rw [if_neg c1]
  by_cases c2 : (qL x p).kind = 3 ∧ (qL y p).kind = 3 ∧ (qL x p).mode = (qL y p).mode
  ·rw [if_pos c2]
   obtain ⟨k1, k2, k3⟩ := c2
   cases h1 : qG x p with
   | none => rw [(hz hx).2 h1] at k1; cases k1
   | some r =>
    cases h2 : qG y p with
    | none => rw [(hz hy).2 h2] at k2; cases k2
    | some s =>
     rw [hr h1] at k1 k3
     rw [hr h2] at k2 k3
     have hnd : j0 r = j0 s := by
      unfold j0
      rw [k1, k2, k3, (vw h1).2, (vw h2).2, Y7 (hx.fault h1) k1, Y7 (hy.fault h2) k2]
     have hoo : r.opq ≠ s.opq := fun e => hd (by rw [h1, h2, rec_eq hnd e])
     have hdep : (cut 47 p).length < 4 := by
      rcases qw r.opq with ho | ho
      ·exact (VS hx cx h1 (.inr ho)).2 ho
      ·rcases qw s.opq with hs | hs
       ·exact (VS hy cy h2 (.inr hs)).2 hs
       ·rw [ho, hs] at hoo; exact absurd rfl hoo
     have hpne := Q3 hp
     obtain ⟨i, hi, hfi, hfr⟩ := G3 hlen (x := x) (y := y) hpne
     have hI : Vj x y p = i := by unfold Vj; rw [hfi]; rfl
     rw [hI]
     obtain ⟨d1, d2⟩ := digs_part i hi
     have hq := X6 hp hdep d1 d2
     rw [← nmP_eq hpne] at hq
     unfold Qz at hfr
     rw [Bool.and_eq_true, decide_eq_true_eq, decide_eq_true_eq] at hfr
     have f1 := (Jq _ _).1 hfr.1
     have f2 := (Jq _ _).1 hfr.2
     refine ⟨Q9 hq.1, GO hq.1, tell (q := nmP p i) ?_⟩
     rcases qw r.opq with ho | ho
     ·have hs : s.opq = false := by
       rcases qw s.opq with hs | hs
       ·rw [ho, hs] at hoo; exact absurd rfl hoo
       ·exact hs
      exact .inl (Y2 hx hy cx cy hp hlt h1 h2 ho hs k2 hq.1 hq.2 f1 f2)
     ·have hs : s.opq = true := by
       rcases qw s.opq with hs | hs
       ·exact hs
       ·rw [ho, hs] at hoo; exact absurd rfl hoo
      exact .inr (Y2 hy hx cy cx hp hltc h2 h1 hs ho k1 hq.1 hq.2 f2 f1)
  ·rw [if_neg c2]
   refine ⟨Gf, by simp, fun e => ?_⟩
   have e2 := congrArg (fun t => vr t p) e
   simp only [Qy hx Gf, Qy hy Gf] at e2
   have hnil : vr [] p = none := rfl
   rw [hnil] at e2
   have hsh : ∀ {l : List Rec}, Sheet l → ∀ {r : Rec}, qG l p = some r → (jK l p).getD none = jP r := fun hl r h => by rw [V9 h]; rfl
   have hno : ∀ {l : List Rec}, qG l p = none → (jK l p).getD none = none := fun {l} h => by
    unfold jK; rw [h]
    show (if Qf l p = true then some none else none).getD none = none
    split <;> rfl
   cases h1 : qG x p with
   | none =>
    cases h2 : qG y p with
    | none => rw [h1, h2] at hd; exact hd rfl
    | some s =>
     rw [hno h1, hsh hy h2] at e2
     unfold jP at e2
     split at e2
     ·rename_i hk; exact c1 (.inr ⟨(hz hx).2 h1, by rw [hr h2]; exact hk⟩)
     ·cases e2
   | some r =>
    cases h2 : qG y p with
    | none =>
     rw [hsh hx h1, hno h2] at e2
     unfold jP at e2
     split at e2
     ·rename_i hk; exact c1 (.inl ⟨by rw [hr h1]; exact hk, (hz hy).2 h2⟩)
     ·cases e2
    | some s =>
     rw [hsh hx h1, hsh hy h2] at e2
     unfold jP at e2
     have p1 := (vw h1).2
     have p2 := (vw h2).2
     by_cases k1 : r.kind = 4
     ·rw [if_pos k1] at e2
      by_cases k2 : s.kind = 4
      ·obtain ⟨u1, u2, u3⟩ := Vp (hx.fault h1) k1
       obtain ⟨v1, v2, v3⟩ := Vp (hy.fault h2) k2
       exact hd (by rw [h1, h2]; congr 1; exact rec_eq (by unfold j0; rw [k1, k2, u1, u2, v1, v2, p1, p2]) (by rw [u3, v3]))
      ·rw [if_neg k2] at e2; cases e2
     ·rw [if_neg k1] at e2
      by_cases k2 : s.kind = 4
      ·rw [if_pos k2] at e2; cases e2
      ·rw [if_neg k2] at e2
       have hnd := Option.some.inj e2
       have hoo : r.opq ≠ s.opq := fun e => hd (by rw [h1, h2, rec_eq hnd e])
       have hk : r.kind = s.kind := by have := congrArg Nd.kind hnd; exact this
       have hm : r.mode = s.mode := by have := congrArg Nd.mode hnd; exact this
       have h3 : r.kind = 3 := by
        rcases qw r.opq with ho | ho
        ·exact hx.opqk h1 ho
        ·rcases qw s.opq with hs | hs
         ·rw [hk]; exact hy.opqk h2 hs
         ·rw [ho, hs] at hoo; exact absurd rfl hoo
       exact c2 ⟨by rw [hr h1]; exact h3, by rw [hr h2, ← hk]; exact h3, by rw [hr h1, hr h2]; exact hm⟩
structure SrcOK (n : Int) (s : DSrc) : Prop where
 p0 : 0 ≤ s.pos
 p1 : s.pos ≤ n
 s0 : 0 ≤ s.seed
 s1 : s.seed < 2147483648
theorem SrcOK.mono {n m : Int} {s : DSrc} (h : SrcOK n s) (k : n ≤ m) : SrcOK m s := ⟨h.p0, Int.le_trans h.p1 k, h.s0, h.s1⟩
def Dr {α : Type} (X : Option (α × DSrc)) (n : Int) (Q : α → Prop) : Prop := ∃ r s, X = some (r, s) ∧ SrcOK n s ∧ Q r
theorem Dr.mono {α : Type} {X : Option (α × DSrc)} {n m : Int} {Q R : α → Prop} (h : Dr X n Q) (k : n ≤ m) (hq : ∀ r, Q r → R r) : Dr X m R := by
 obtain ⟨r, s, h1, h2, h3⟩ := h
 exact ⟨r, s, h1, h2.mono k, hq r h3⟩
theorem gt_mem {α : Type} [Inhabited α] {l : List α} {i : Int} (h : inR i l.length = true) : gt l i ∈ l := by
 obtain ⟨hj, hje⟩ := V7 h
 rw [← hje]; exact List.getElem_mem hj
def isPart (t : List UInt8) : Prop := yt t = true ∧ t.length ≤ 3 ∧ ∀ b ∈ t, bn b ≠ 47
def JF (m : Nat) (t : List UInt8) : Prop := ∃ l : List (List UInt8), l ≠ [] ∧ l.length ≤ m ∧ (∀ x ∈ l, isPart x) ∧ t = ye l
theorem JF.len {m : Nat} {t : List UInt8} (h : JF m t) : t.length ≤ 4 * m := by
 obtain ⟨l, h1, h2, h3, rfl⟩ := h
 have : ∀ l : List (List UInt8), (∀ x ∈ l, isPart x) → (ye l).length ≤ 4 * l.length := by
  intro l
  induction l with
  | nil => intro _; simp [ye]
  | cons x l ih =>
   intro hx
   have h4 := ih fun y hy => hx y (by simp [hy])
   have h5 := (hx x (by simp)).2.1
   by_cases hl : l = []
   ·subst hl; simp [ye]; omega
   ·rw [QA x hl]; simp; omega
 have := this l h3
 omega
theorem JF.parts {m : Nat} {t : List UInt8} (h : JF m t) : (cut 47 t).length ≤ m ∧ ∀ x ∈ cut 47 t, isPart x := by
 obtain ⟨l, h1, h2, h3, rfl⟩ := h
 rw [Jp h1 fun x hx => (h3 x hx).2.2]
 exact ⟨h2, h3⟩
theorem JF.ok {t : List UInt8} (h : JF 3 t) : qz t = true := by
 have h1 := h.len
 obtain ⟨h2, h3⟩ := h.parts
 simp only [qz, Bool.and_eq_true, decide_eq_true_eq, List.all_eq_true]
 exact ⟨by omega, by omega, fun x hx => (h3 x hx).1⟩
theorem Sheet.bool {l : List Rec} (h : Sheet l) : sheetB l = true := sheetB_mk (fun x hx => yw (h.ok x hx)) h.rise
structure Lay (l : List Rec) : Prop where
 sheet : Sheet l
 len : l.length ≤ 16
 deep : ∀ r ∈ l, (cut 47 r.path).length ≤ 3
theorem Lay.nil : Lay [] := ⟨Sheet.nil, by simp, by simp⟩
end Go.UL
