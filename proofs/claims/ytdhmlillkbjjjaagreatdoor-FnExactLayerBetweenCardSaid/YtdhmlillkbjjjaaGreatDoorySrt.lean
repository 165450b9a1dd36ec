/- Sorting and compacting of strings: what the shelf's contracts leave, in the words of own slices. -/
import Derived.Test.YtdhmlillkbjjjaaGreatDooryP54
import Derived.Test.YtdhmlillkbjjjaaGreatDoorUW
import Derived.Lib.SlicesCompact
import Derived.Lib.OwnBridge
import Derived.Shelf.SlSortCmp.NoneTotal
import Derived.Test.YtdhmlillkbjjjaaGreatDoorSrs
import Derived.Test.YtdhmlillkbjjjaaGreatDoorShelf
import Derived.Lib.RowBridge
set_option linter.unusedVariables false
namespace Go.UL
open Go.Proofs Go.RowKit
theorem JX (d : Array (List UInt8)) (hs : ∀ i j, i < j → j < d.size → ltP d[j]! d[i]! = false) : ∀ m, m ≤ d.size → ju (Lib.compactUpTo d m) ∧ ∀ z, z ∈ Lib.compactUpTo d m ↔ ∃ j, j < m ∧ d[j]! = z := by
  intro m
  induction m with
  | zero => intro _; exact ⟨List.Pairwise.nil, fun z => by simp [Lib.compactUpTo]⟩
  | succ m ih =>
    intro hm
    obtain ⟨h1, h2⟩ := ih (by omega)
    rw [Lib.compactUpTo_succ]
    rcases qH (Lib.keeps d m) with hk | hk
    · rw [hk, if_pos rfl]
      have hlt : ∀ j, j < m → ltP d[j]! d[m]! = true := by
        intro j hj
        have hk' := of_decide_eq_true hk
        have hne : d[m]! ≠ d[m - 1]! := hk'.resolve_left (by omega)
        have h3 : ltP d[m - 1]! d[m]! = true := by
          rcases qH (ltP d[m - 1]! d[m]!) with h | h
          · exact h
          · exact absurd (QS h (hs (m - 1) m (by omega) (by omega))).symm hne
        by_cases hjm : j = m - 1
        · rw [hjm]; exact h3
        · have h4 := hs j (m - 1) (by omega) (by omega)
          rcases qH (ltP d[j]! d[m - 1]!) with h | h
          · exact jc h h3
          · rw [QS h h4]; exact h3
      refine ⟨?_, fun z => ?_⟩
      · unfold ju
        rw [List.pairwise_append]
        refine ⟨h1, List.pairwise_singleton _ _, fun x hx y hy => ?_⟩
        obtain ⟨j, hj, rfl⟩ := (h2 x).1 hx
        rw [List.mem_singleton.1 hy]
        exact hlt j hj
      · rw [List.mem_append, h2, List.mem_singleton]
        constructor
        · rintro (⟨j, hj, h⟩ | h)
          · exact ⟨j, by omega, h⟩
          · exact ⟨m, by omega, h.symm⟩
        · rintro ⟨j, hj, h⟩
          by_cases hjm : j = m
          · subst hjm; exact .inr h.symm
          · exact .inl ⟨j, by omega, h⟩
    · rw [hk]
      simp only [Bool.false_eq_true, if_false, List.append_nil]
      refine ⟨h1, fun z => ?_⟩
      rw [h2]
      have hk' : ¬ (m = 0 ∨ d[m]! ≠ d[m - 1]!) := of_decide_eq_false hk
      have hm0 : m ≠ 0 := fun e => hk' (.inl e)
      have he : d[m]! = d[m - 1]! := by
        by_cases e : d[m]! = d[m - 1]!
        · exact e
        · exact absurd (.inr e) hk'
      constructor
      · rintro ⟨j, hj, h⟩; exact ⟨j, by omega, h⟩
      · rintro ⟨j, hj, h⟩
        by_cases hjm : j = m
        · subst hjm; exact ⟨j - 1, by omega, by rw [← he]; exact h⟩
        · exact ⟨j, by omega, h⟩
theorem Jb {l d : List (List UInt8)} (hp : d.Perm l) (hs : ∀ i j, i < j → j < d.toArray.size → ltP d.toArray[j]! d.toArray[i]! = false) : Lib.compact d = jy l := by
  obtain ⟨h1, h2⟩ := JX d.toArray hs d.toArray.size (Nat.le_refl _)
  refine ju.uniq h1 (Qq l) fun z => ?_
  rw [Qg, ← hp.mem_iff]
  refine (h2 z).trans ?_
  constructor
  · rintro ⟨j, hj, rfl⟩
    have hj' : j < d.length := by simpa using hj
    rw [getElem!_pos _ j hj]
    simp
  · intro hz
    obtain ⟨j, hj, rfl⟩ := List.getElem_of_mem hz
    exact ⟨j, by simpa using hj, by rw [getElem!_pos _ j (by simpa using hj)]; simp⟩
/-! ### what a sort asks of impl.compare -/
theorem XH {W w' : World} (h : Go.UD.Ext W w') : ∃ q os, w' = Go.Sort.grow (W.drewN q) os := by
  refine ⟨w'.drawn - W.drawn, w'.heap.extract W.heap.size w'.heap.size, ?_⟩
  have h1 := h.os; have h2 := h.tape; have h3 := h.output; have h4 := h.size; have h5 := h.block; have h6 := h.drawn
  cases w' with
  | mk heap tape drawn os output =>
    cases W with
    | mk heap0 tape0 drawn0 os0 output0 =>
      simp only at h1 h2 h3 h4 h5 h6
      subst h1; subst h2; subst h3
      simp only [Go.Sort.grow, World.drewN]
      have e1 : drawn = drawn0 + (drawn - drawn0) := by omega
      have e2 : heap = heap0 ++ heap.extract heap0.size heap.size := by
        apply Array.ext_getElem?
        intro i
        by_cases hi : i < heap0.size
        · rw [Array.getElem?_append_left hi, h5 i hi]
        · rw [Array.getElem?_append_right (by omega), Array.getElem?_extract]
          by_cases hi2 : i < heap.size
          · rw [if_pos (by omega)]; congr 1; omega
          · rw [if_neg (by omega), Array.getElem?_eq_none (by omega)]
      rw [← e2, ← e1]
theorem XT (p : List UInt8) (l : List (List UInt8)) : Go.UD.preL p l = preL p l := by cases l <;> rfl
theorem VV (c : Int) : ∀ l : List UInt8, Go.UD.cut c l = cut c l := by
  intro l
  induction l with
  | nil => rfl
  | cons b l ih =>
    unfold Go.UD.cut cut
    rw [ih, XT]
theorem JS : ∀ a b : List (List UInt8), Go.UD.cmpL a b = cmpL a b := by
  intro a
  induction a with
  | nil => intro b; cases b <;> rfl
  | cons x a ih =>
    intro b
    cases b with
    | nil => rfl
    | cons y b =>
      show (if Go.UD.cmpS x y = 0 then Go.UD.cmpL a b else Go.UD.cmpS x y) = if cmpS x y = 0 then cmpL a b else cmpS x y
      rw [ih b]; rfl
abbrev Sp := {x : List UInt8 // x.length ≤ 1048576}
instance : Inhabited Sp := ⟨⟨[], by simp⟩⟩
def Vz (x : Sp) : Value := S x.val
def cfP (x y : Sp) : Int := cmpL (cut 47 x.val) (cut 47 y.val)
theorem V8 (x y : Sp) : Go.Proofs.ltOf cfP x y = ltP x.val y.val := by unfold Go.Proofs.ltOf cfP ltP; exact Vo _ _
theorem swo_cfP : Go.Sort.SWO (Go.Proofs.ltOf cfP) where
  irrefl x := by rw [V8]; exact Qd _
  trans x y z h1 h2 := by rw [V8] at *; exact jc h1 h2
  ntrans x y z h1 h2 := by
    rw [V8] at *
    rcases qH (ltP x.val z.val) with h | h
    · rcases qH (ltP y.val x.val) with h3 | h3
      · rw [jc h3 h] at h2; cases h2
      · rw [QS h1 h3] at h; rw [h] at h2; cases h2
    · exact h
theorem cmp_lays {w : World} (gv : GV 0 w) {blk off size : Nat} (hb : blk ≠ 0) : Go.Proofs.CmpLays1 Tryz.prog 102 #[] Vz cfP blk off size w := by
  intro m os dk _ x y
  have gv' : Go.UD.GV 0 (Go.Proofs.sortWorld Vz w blk off m dk os) := by
    obtain ⟨v, hv⟩ := gv
    refine ⟨v, ?_⟩
    have hlt := World.block_lt_of_cell? w _ hv
    unfold Go.Proofs.sortWorld
    rw [Go.Sort.cell?_grow _ _ _ (by simpa using hlt), Go.Sort.cell?_putRow_other _ _ _ _ _ _ (.inl (fun e => hb e.symm)), Go.Sort.cell?_ahead]
    exact hv
  have hc := Go.Proofs.YtdhmlillkbjjjaaGreatDoor.UD.impl_compare.calls (w := Go.Proofs.sortWorld Vz w blk off m dk os) (a0 := x.val) (a1 := y.val) gv' x.2 y.2
  rw [JS, VV, VV] at hc
  refine hc.mono fun e w' h => ?_
  obtain ⟨v, rfl, h1, rfl⟩ := h
  obtain ⟨q, os', h⟩ := XH h1
  exact ⟨rfl, q, os', h⟩
theorem L_idx2o {P : Program} {N : Nat} {Q : yb} {σ : Fr} {w w0 : World} {ops : Array Oper} {rest : List Oper} {o : Oper} {α : Type} {sz : Nat} {enc : α → List Value} {d : Nat} {t e : TypeId} {x y : Operand} {v : Value} {xs : List (List α)} {k : IntKind} {i : Int} (ht : Tk N ops σ o) (hd : o.dst = some d) (hN : d < N) (ho : o.op = .indexAddr t x y)
    (hu : P.underlying t = some (.slice e)) (hs : ∀ w, (sizeOf e).run P w = .ok 1 w) (hx : ev σ x = v) (hR : Rd2 sz enc w0 v xs) (hE : Ext w0 w) (hy : ev σ y = .int k i) (hi : inR i xs.length = true)
    (h : ∀ p u, At w p [u] → Rd sz enc w0 u (gt xs i) → WL P N ops Q rest (upd σ d (.pointer (some p))) w) : WL P N ops Q (o :: rest) σ w := by
  obtain ⟨vs, hl, hR1, hi2⟩ := hR
  have hi' : inR i vs.length = true := by rw [hl]; exact hi
  haveI : Inhabited Value := ⟨undef⟩
  have h2 := VP (xs := vs) hi'
  obtain ⟨hj, he⟩ := h2
  obtain ⟨hj2, he2⟩ := VP (xs := xs) hi
  refine vo (xs := vs) ht hd hN ho hu hs hx (hR1.ext hE) hy hi' fun p hA => h p _ hA ?_
  refine hi2 i.toNat _ _ ?_ ?_
  · rw [List.getElem?_eq_getElem hj, he]
  · rw [List.getElem?_eq_getElem hj2, he2]
theorem V1 (w : World) (os : Array Obj) : Ext w (Go.Sort.grow w os) :=
  ⟨rfl, rfl, rfl, by simp [Go.Sort.grow], fun k hk => Go.Sort.heap_grow_old w os hk⟩
theorem Gg (xs : List (List UInt8)) : xs.flatMap vI = xs.map S := by
  induction xs with
  | nil => rfl
  | cons x xs ih => rw [List.flatMap_cons, ih]; rfl
theorem Yq.calls {e : TypeId} {w : World} {B : Nat} {v : Value} {xs : List (List UInt8)} (hO : Ow e 1 vI B w v xs) (gv : GV 0 w) (hB : 0 < B) (hx : ∀ x ∈ xs, x.length ≤ 1048576) (hn : xs.length ≤ 4611686018427387903) :
    Calls Tryz.prog 136 #[v, .func (.func 102) #[] #[]] w (Rt (fun r w' => r = .tuple #[] ∧ (∀ W, Below B W w → Below B W w') ∧ ∃ ys, ys.Perm xs ∧ (∀ i j, i < j → j < ys.toArray.size → ltP ys.toArray[j]! ys.toArray[i]! = false) ∧ Ow e 1 vI B w' v ys)) := by
  by_cases h0 : xs.length = 0
  · have hx0 : xs = [] := List.eq_nil_of_length_eq_zero h0
    subst hx0
    obtain ⟨A, c, hv⟩ := hO.rd.shape
    have hc := Go.Proofs.AnyF.slices_SortFunc_none (P := Tryz.prog) (ρ := Tryz.sortLays_ren) { Tryz.sortLays with } A c (.func (.func 102) #[] #[]) w
    change Calls Tryz.prog 136 _ _ _ at hc
    have hv' : v = .slice A 0 c := hv
    rw [hv']
    refine hc.mono fun e' w' h => ?_
    obtain ⟨rfl, rfl⟩ := h
    rw [hv'] at hO
    exact ⟨_, rfl, rfl, fun _ h => h, [], List.Perm.refl _, fun i j _ hj => by simp at hj, hO⟩
  · obtain ⟨g, cap, cur, hv, hb, hh, hnc, hcm, hsz, htk⟩ := hO.row (by omega)
    obtain ⟨zs, hzv⟩ : ∃ zs : List Sp, zs.map (·.val) = xs := ⟨xs.attach.map fun x => ⟨x.1, hx x.1 x.2⟩, by simp⟩
    have hzl : zs.length = xs.length := by rw [← hzv, List.length_map]
    have hze : zs.map Vz = xs.flatMap vI := by
      have : zs.map Vz = (zs.map (·.val)).map S := by rw [List.map_map]; rfl
      rw [this, hzv, Gg]
    have hown : w.ownsRow B e 1 v xs.length (zs.map Vz) := by
      rw [hze]
      exact ⟨ja vI 1 xs hO.2.1, .inr ⟨g, cap, cur, hv, hb, hh, hnc, hcm, hsz, htk⟩⟩
    have hne : v ≠ .slice none 0 0 := by rw [hv]; intro h; injection h with h; cases h
    obtain ⟨g', cap', hv', hb', hlt, hn', _, hl', hH⟩ := Go.Lib.holds_of_ownsRow hown hne
    have hgg : g' = g ∧ cap' = cap := by rw [hv'] at hv; injection hv with h1 _ h3; injection h1 with h1; injection h1 with h1; exact ⟨h1, h3⟩
    obtain ⟨rfl, rfl⟩ := hgg
    have hds : zs.toArray.size = xs.length := by simpa using hzl
    have hc := Go.Proofs.Any.slices_SortFunc (P := Tryz.prog) (ρ := Tryz.sortLays_ren) Tryz.sortLays Vz (fun _ => rfl) cfP swo_cfP 102 #[] g' 0 cap' zs.toArray w (fun _ _ => Tryz.call102 _ _) (cmp_lays gv (by omega)) hH hlt (by rw [hds]; omega)
    change Calls Tryz.prog 136 _ _ _ at hc
    rw [hds] at hc
    rw [hv]
    refine hc.mono fun e' w' h => ?_
    obtain ⟨rfl, d', n, os, hp, hs, rfl⟩ := h
    obtain ⟨hps, _, hpp⟩ := hp
    rw [hds] at hps
    have hpl : d'.toList.length = xs.length := by simpa using hps
    have hpp2 : d'.toList.Perm zs := by
      have e1 : d'.extract 0 xs.length = d' := by rw [← hps]; simp
      have e2 : zs.toArray.extract 0 xs.length = zs.toArray := by rw [← hds]; simp
      rw [e1, e2] at hpp
      simpa using hpp
    have how := Go.Lib.ownsRow_putRow (q := n) (k := xs.length) (ys := d'.toList) (by rw [← hv]; exact hown) hpl (Nat.le_refl _)
    rw [List.take_of_length_le (by omega)] at how
    have hmap : (d'.toList.map (·.val)).flatMap vI = d'.toList.map Vz := by rw [Gg, List.map_map]; rfl
    refine ⟨_, rfl, rfl, fun W hW => ?_, d'.toList.map (·.val), ?_, ?_, ?_⟩
    · have h1 := Go.Lib.below_putRow (enc := Vz) (q := n) (d := d') hW hb
      exact h1.trans ((V1 _ os).mono (by have := h1.size; have := hlt; simp; omega))
    · have := hpp2.map (·.val)
      rw [hzv] at this
      exact this
    · intro i j hij hj
      have hj' : j < d'.size := by simpa using hj
      have hi' : i < d'.size := by omega
      have := hs i j (Nat.zero_le _) hij (by rw [hps] at hj'; exact hj')
      rw [V8, getElem!_pos _ j hj', getElem!_pos _ i hi'] at this
      rw [getElem!_pos _ j hj, getElem!_pos _ i (by simpa using hi')]
      simpa using this
    · have h2 : Ow e 1 vI B (Go.Sort.putRow Vz (Go.Sort.ahead w n) g' 0 d') (.slice (some ⟨g', 0, none⟩) xs.length cap') (d'.toList.map (·.val)) := by
        refine ⟨.inl ?_, fun _ _ => rfl, by simpa [hpl] using hO.2.2⟩
        rw [hmap]
        have e9 : (d'.toList.map (·.val)).length = xs.length := by simpa using hpl
        rw [e9]
        simpa using how
      exact h2.ext (V1 _ os)
theorem GV.pos {w : World} (h : GV 0 w) : 0 < w.heap.size := by
  obtain ⟨m, h⟩ := h
  exact World.block_lt_of_cell? w _ h
theorem YI.calls {e : TypeId} {w : World} {B : Nat} {v : Value} {xs l : List (List UInt8)} (hO : Ow e 1 vI B w v xs) (hp : xs.Perm l) (hs : ∀ i j, i < j → j < xs.toArray.size → ltP xs.toArray[j]! xs.toArray[i]! = false) :
    Calls Tryz.prog 137 #[v] w (Rt (fun r w' => (∀ W, Below B W w → Below B W w') ∧ Ow e 1 vI B w' r (jy l))) := by
  rw [← Jb hp hs]
  by_cases h0 : xs.length = 0
  · have hx0 : xs = [] := List.eq_nil_of_length_eq_zero h0
    subst hx0
    obtain ⟨A, c, hv⟩ := hO.rd.shape
    have hv' : v = .slice A 0 c := hv
    rw [hv']
    refine (Tryz.slices_Compact_string_empty A c w).mono fun e' w' h => ?_
    obtain ⟨rfl, rfl⟩ := h
    rw [hv'] at hO
    exact ⟨_, rfl, fun _ h => h, hO⟩
  · obtain ⟨g, cap, cur, hv, hb, hh, hnc, hcm, hsz, htk⟩ := hO.row (by omega)
    have hze : xs.map Go.Proofs.encStr = xs.flatMap vI := by rw [Gg]
    have hown : w.ownsRow B e 1 v xs.length (xs.map Go.Proofs.encStr) := by
      rw [hze]
      exact ⟨ja vI 1 xs hO.2.1, .inr ⟨g, cap, cur, hv, hb, hh, hnc, hcm, hsz, htk⟩⟩
    have hne : v ≠ .slice none 0 0 := by rw [hv]; intro h; injection h with h; cases h
    obtain ⟨g', cap', hv', hb', hlt, hn', _, hl', hH⟩ := Go.Lib.holds_of_ownsRow hown hne
    have hgg : g' = g ∧ cap' = cap := by rw [hv'] at hv; injection hv with h1 _ h3; injection h1 with h1; injection h1 with h1; exact ⟨h1, h3⟩
    obtain ⟨rfl, rfl⟩ := hgg
    have hle := Go.Lib.compact_length_le xs
    rw [hv]
    refine (Tryz.slices_Compact_string g' 0 cap' xs w hH hO.2.2 hnc).mono fun e' w' h => ?_
    obtain ⟨rfl, q, rfl⟩ := h
    have how := Go.Lib.ownsRow_putRow (q := q) (k := (Go.Lib.compact xs).length) (ys := Go.Lib.compact xs ++ List.replicate (xs.length - (Go.Lib.compact xs).length) []) (by rw [← hv]; exact hown) (by simp; omega) hle
    rw [List.take_left] at how
    have hze2 : (Go.Lib.compact xs).map Go.Proofs.encStr = (Go.Lib.compact xs).flatMap vI := by rw [Gg]
    rw [hze2] at how
    refine ⟨_, rfl, fun W hW => Go.Lib.below_putRow hW hb, .inl how, fun _ _ => rfl, by have := hO.2.2; omega⟩
end Go.UL
