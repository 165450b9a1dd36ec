/- Sorting of records by path: what the shelf's contract leaves, in the words of own slices. -/
import Derived.Test.YtdhmlillkbjjjaaGreatDoorySrt
import Derived.Test.YtdhmlillkbjjjaaGreatDoorKL
import Derived.Test.YtdhmlillkbjjjaaGreatDoorSrr
import Derived.Shelf.SlSortCmp.WholeK
set_option linter.unusedVariables false
namespace Go.UL
open Go.Proofs Go.RowKit
/-! ### sorting records by path -/
abbrev Rp := {x : Rec // x.path.length ≤ 1048576}
instance : Inhabited Rp := ⟨⟨⟨0, [], [], 0, false⟩, by simp⟩⟩
def yQ (x : Rp) : List Value := qv x.val
def cfR (x y : Rp) : Int := cmpL (cut 47 x.val.path) (cut 47 y.val.path)
theorem Yf (x y : Rp) : Go.Proofs.ltOf cfR x y = ltP x.val.path y.val.path := by unfold Go.Proofs.ltOf cfR ltP; exact Vo _ _
theorem swo_cfR : Go.Sort.SWO (Go.Proofs.ltOf cfR) where
  irrefl x := by rw [Yf]; exact Qd _
  trans x y z h1 h2 := by rw [Yf] at *; exact jc h1 h2
  ntrans x y z h1 h2 := by
    rw [Yf] at *
    rcases qH (ltP x.val.path z.val.path) with h | h
    · rcases qH (ltP y.val.path x.val.path) with h3 | h3
      · rw [jc h3 h] at h2; cases h2
      · rw [QS h1 h3] at h; rw [h] at h2; cases h2
    · exact h
theorem cmp_laysR {w : World} (gv : GV 0 w) {blk off size : Nat} (hb : blk ≠ 0) : Go.Proofs.CmpLays Tryz.prog 178 #[] yQ 5 cfR blk off size w := by
  intro m os dk _ x y
  have gv' : Go.UD.GV 0 (Go.Proofs.sortWorldK yQ 5 w blk off m dk os) := by
    obtain ⟨v, hv⟩ := gv
    refine ⟨v, ?_⟩
    have hlt := World.block_lt_of_cell? w _ hv
    unfold Go.Proofs.sortWorldK Go.Sort.putRowK
    rw [Go.Sort.cell?_grow _ _ _ (by simpa using hlt), Go.Sort.cell?_putRow_other _ _ _ _ _ _ (.inl (fun e => hb e.symm)), Go.Sort.cell?_ahead]
    exact hv
  have hc := Go.Proofs.YtdhmlillkbjjjaaGreatDoor.UD.impl_between_2.calls (w := Go.Proofs.sortWorldK yQ 5 w blk off m dk os) (a0 := ⟨x.val.kind, x.val.path, x.val.body, x.val.mode, x.val.opq⟩) (a1 := ⟨y.val.kind, y.val.path, y.val.body, y.val.mode, y.val.opq⟩) gv' x.2 y.2
  rw [JS, VV, VV] at hc
  refine hc.mono fun e w' h => ?_
  obtain ⟨v, rfl, h1, rfl⟩ := h
  obtain ⟨q, os', h⟩ := XH h1
  exact ⟨rfl, q, os', h⟩
theorem flatRp (zs : List Rp) : zs.flatMap yQ = (zs.map (·.val)).flatMap qv := by
  induction zs with
  | nil => rfl
  | cons z zs ih => rw [List.flatMap_cons, List.map_cons, List.flatMap_cons, ih]; rfl
theorem Y3 (zs : List Rp) : (Go.Sort.flatK yQ 5 zs.toArray).toList = zs.flatMap yQ := by
  have hl : (zs.flatMap yQ).length = zs.length * 5 := ja yQ 5 zs fun _ _ => rfl
  apply List.ext_getElem?
  intro j
  by_cases hj : j < zs.length * 5
  · have h1 : j / 5 < zs.length := (Nat.div_lt_iff_lt_mul (by decide)).2 hj
    have hf : j % 5 < (yQ zs[j / 5]).length := Nat.mod_lt _ (by decide)
    have h2 := QM yQ 5 zs (fun _ _ => rfl) (j / 5) h1 (j % 5) _ (List.getElem?_eq_getElem hf)
    rw [show j / 5 * 5 + j % 5 = j from Nat.div_add_mod' j 5] at h2
    rw [h2]
    have h3 := Go.Sort.get_flatK yQ 5 zs.toArray j (by simpa using hj)
    have hs : j < (Go.Sort.flatK yQ 5 zs.toArray).size := by simpa using hj
    rw [getElem!_pos _ j hs] at h3
    rw [Array.getElem?_toList, Array.getElem?_eq_getElem hs, h3]
    have h4 : zs.toArray[j / 5]! = zs[j / 5] := by rw [getElem!_pos _ _ (by simpa using h1)]; simp
    rw [h4, getElem!_pos (yQ zs[j / 5]) (j % 5) hf]
  · rw [List.getElem?_eq_none (by simp; omega), List.getElem?_eq_none (by omega)]
theorem Xo {w : World} {g n : Nat} {cur : Array Value} {e : TypeId} {zs : List Rp} (hh : Blk w g cur e) (hn : zs.length = n) (ht : cur.toList.take (n * 5) = zs.flatMap yQ) : Go.Sort.HoldsK yQ 5 w g 0 zs.toArray := by
  intro j hj
  have hj' : j < n * 5 := by simpa [hn] using hj
  refine ⟨?_, Blk.frozen hh⟩
  have e1 : (cur.toList.take (n * 5))[j]? = (Go.Sort.flatK yQ 5 zs.toArray).toList[j]? := by rw [ht, Y3]
  rw [List.getElem?_take, if_pos hj', Array.getElem?_toList, Array.getElem?_toList, Array.getElem?_eq_getElem hj] at e1
  rw [Nat.zero_add, hh.cell, e1, getElem!_pos _ j hj]; rfl
theorem put_take (F cur : Array Value) (h : F.size ≤ cur.size) : (Go.Sort.putCells id 0 F cur).toList.take F.size = F.toList := by
  apply List.ext_getElem?
  intro j
  rw [List.getElem?_take, Array.getElem?_toList, Array.getElem?_toList]
  by_cases hj : j < F.size
  · have hjc : j < cur.size := by omega
    simp only [if_pos hj, Go.Sort.putCells, Array.getElem?_mapIdx, Array.getElem?_eq_getElem hjc, Option.map_some, Nat.zero_le, Nat.zero_add, true_and, Nat.sub_zero, id_eq]
    rw [getElem!_pos F j hj, Array.getElem?_eq_getElem hj]
  · rw [if_neg hj, Array.getElem?_eq_none (by omega)]
theorem Yo.calls {w : World} {B : Nat} {v : Value} {xs : List Rec} (hO : Ow 52 5 qv B w v xs) (gv : GV 0 w) (hB : 0 < B) (hx : ∀ x ∈ xs, x.path.length ≤ 1048576) (hn : xs.length ≤ 4611686018427387903) :
    Calls Tryz.prog 177 #[v, .func (.func 178) #[] #[]] w (Rt (fun r w' => r = .tuple #[] ∧ (∀ W, Below B W w → Below B W w') ∧ ∃ ys : List Rec, ys.Perm xs ∧ (ys.Pairwise fun a b => ltP b.path a.path = false) ∧ Ow 52 5 qv B w' v ys)) := by
  by_cases h0 : xs.length = 0
  · have hx0 : xs = [] := List.eq_nil_of_length_eq_zero h0
    subst hx0
    obtain ⟨A, c, hv⟩ := hO.rd.shape
    have hc := Go.Proofs.AnyF.slices_SortFunc_none (P := Tryz.prog) (ρ := Tryz.sortLaysR_ren) Tryz.sortLaysR A c (.func (.func 178) #[] #[]) w
    change Calls Tryz.prog 177 _ _ _ at hc
    have hv' : v = .slice A 0 c := hv
    rw [hv']
    refine hc.mono fun e' w' h => ?_
    obtain ⟨rfl, rfl⟩ := h
    rw [hv'] at hO
    exact ⟨_, rfl, rfl, fun _ h => h, [], List.Perm.refl _, List.Pairwise.nil, hO⟩
  · obtain ⟨g, cap, cur, hv, hb, hh, hnc, hcm, hsz, htk⟩ := hO.row (by omega)
    replace hh : Blk w g cur 52 := hh
    obtain ⟨zs, hzv⟩ : ∃ zs : List Rp, zs.map (·.val) = xs := ⟨xs.attach.map fun x => ⟨x.1, hx x.1 x.2⟩, by simp⟩
    have hzl : zs.length = xs.length := by rw [← hzv, List.length_map]
    have hH : Go.Sort.HoldsK yQ 5 w g 0 zs.toArray := Xo hh hzl (by rw [htk, flatRp, hzv])
    have hlt := Blk.lt hh
    have hds : zs.toArray.size = xs.length := by simpa using hzl
    have hc := Go.Proofs.AnyQ.slices_SortFunc (P := Tryz.prog) (ρ := Tryz.sortLaysR_ren) Tryz.sortLaysR 5 Tryz.isAgg52 Tryz.sizeOf52 yQ (fun _ => rfl) (fun x => jH [x.val] x.val (by simp)) cfR swo_cfR 178 #[] g 0 cap zs.toArray w (fun _ _ => Tryz.call178 _ _) (cmp_laysR gv (by omega)) hH hlt (by rw [hds]; omega)
    change Calls Tryz.prog 177 _ _ _ at hc
    rw [hds] at hc
    rw [hv]
    refine hc.mono fun e' w' h => ?_
    obtain ⟨rfl, d', n, os, hp, hs, rfl⟩ := h
    obtain ⟨hps, _, hpp⟩ := hp
    rw [hds] at hps
    have hpl : d'.toList.length = xs.length := by simpa using hps
    have hpp2 : d'.toList.Perm zs := by
      have e1 : d'.extract 0 xs.length = d' := by rw [← hps]; simp
      have e2 : zs.toArray.extract 0 xs.length = zs.toArray := by rw [← hds]; simp
      rw [e1, e2] at hpp
      simpa using hpp
    refine ⟨_, rfl, rfl, fun W hW => ?_, d'.toList.map (·.val), ?_, ?_, ?_⟩
    · have h1 := Go.Lib.below_putRow (enc := id) (q := n) (d := Go.Sort.flatK yQ 5 d') hW hb
      exact h1.trans ((V1 _ os).mono (by have := h1.size; have := hlt; simp; omega))
    · have := hpp2.map (·.val)
      rw [hzv] at this
      exact this
    · rw [List.pairwise_map, List.pairwise_iff_getElem]
      intro i j hi hj hij
      have hj' : j < d'.size := by simpa using hj
      have hi' : i < d'.size := by simpa using hi
      have := hs i j (Nat.zero_le _) hij (by rw [hps] at hj'; exact hj')
      rw [Yf, getElem!_pos _ j hj', getElem!_pos _ i hi'] at this
      simpa using this
    · have hF : (Go.Sort.flatK yQ 5 d').size = xs.length * 5 := by rw [Go.Sort.size_flatK, hps]
      have hk : Blk (Go.Sort.putRowK yQ 5 (Go.Sort.ahead w n) g 0 d') g (Go.Sort.putCells id 0 (Go.Sort.flatK yQ 5 d') cur) 52 := by
        unfold Blk at hh ⊢
        simp [Go.Sort.putRowK, Go.Sort.putRow, Go.Sort.mapBlock, Go.Sort.ahead, Array.getElem?_modify, hh, Go.Sort.onCells]
      have hcs : (Go.Sort.putCells id 0 (Go.Sort.flatK yQ 5 d') cur).size = cur.size := by simp [Go.Sort.putCells]
      have hle : xs.length * 5 ≤ cur.size := by rw [hsz]; exact Nat.mul_le_mul_right _ hnc
      have hml : (d'.toList.map (·.val)).length = xs.length := by simpa using hpl
      have htk2 : (Go.Sort.putCells id 0 (Go.Sort.flatK yQ 5 d') cur).toList.take (xs.length * 5) = (d'.toList.map (·.val)).flatMap qv := by
        have := put_take (Go.Sort.flatK yQ 5 d') cur (by rw [hF]; exact hle)
        rw [hF] at this
        rw [this, ← flatRp]
        have h9 := Y3 d'.toList
        rwa [Array.toArray_toList] at h9
      have h2 : Ow 52 5 qv B (Go.Sort.putRowK yQ 5 (Go.Sort.ahead w n) g 0 d') (.slice (some ⟨g, 0, none⟩) xs.length cap) (d'.toList.map (·.val)) := by
        have := Ow.of_row (enc := qv) (sz := 5) (B := B) (C := cap) (row := (Go.Sort.putCells id 0 (Go.Sort.flatK yQ 5 d') cur).toList) (R := (Go.Sort.putCells id 0 (Go.Sort.flatK yQ 5 d') cur).toList.drop (xs.length * 5)) (ys := d'.toList.map (·.val)) hb hk (by rw [← htk2, List.take_append_drop]) (fun _ _ => rfl) (by omega) hcm (by rw [Array.length_toList, hcs, hsz])
        rw [hml] at this
        exact this
      exact h2.ext (V1 _ os)
end Go.UL
