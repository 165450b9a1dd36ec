/- The walks, by program (wip/tools). -/
import Derived.Test.YtfefjaohlhkmaaaGreatDoorProg
import Derived.Test.YtfefjaohlhkmaaaGreatDoorKI
import Derived.Test.YtfefjaohlhkmaaaGreatDoorKJ
import Derived.Test.YtfefjaohlhkmaaaGreatDoorKL
import Derived.Test.YtfefjaohlhkmaaaGreatDoortWA
set_option linter.unusedVariables false
set_option linter.unusedSimpArgs false
set_option maxRecDepth 10000
namespace Go.Proofs.YtfefjaohlhkmaaaGreatDoor
open Go.UL Go.RowKit
/-! impl.resolve, by text -/
theorem impl_resolve.calls {w : World} {a0 : List Nd} {a1 : List UInt8} {v_a0 : Value} (f_a0 : Rd 4 encNd w v_a0 a0) (h0 : a0.length ≤ 1048576) (h1 : a1.length ≤ 1048576) :
    Calls Tryz.prog 155 #[v_a0, S a1] w (Rt (RP w (.tuple #[.int .i64 (resolveT a0 a1).1, .int .i64 (resolveT a0 a1).2]))) := by
  letI : Inhabited Value := ⟨undef⟩
  refine callsIn_wide.1 (callsIn_of_WI (n := 3) Tryz.func155 rfl (Nat.le_of_ble_eq_true rfl) Tryz.ntmps155 ?_)
  refine WI_seq <| WI_reg <| LI_box openWide rfl rfl rfl (ltb rfl) rfl rfl <| fun b2 w1 hz1 hz1' e1 k2 => LI_alloc openWide rfl rfl rfl (ltb rfl) rfl Tryz.zeroValue3 <| fun b4 w2 hz2 hz2' e2 k4 => LI_alloc openWide rfl rfl rfl (ltb rfl) rfl Tryz.zeroValue3 <| fun b5 w3 hz3 hz3' e3 k5 => LI_nil ?_
  have hla := ancs_len a1
  refine WI_seq <| WI_of_W <| W_reg <| lp rfl rfl (X_move (v := S a1) rfl) <| L_lit (.plain rfl) rfl (ltb rfl) rfl Tryz.underlying42 Tryz.sizeOf9 Tryz.zeroValue9 rfl rfl rfl (vs := [S a1]) rfl (lit_all rfl) <| fun b6 w4 hz4 hz4' e4 k6 => lp rfl rfl (X_move (v := S a1) rfl) <|
    L_callO (.plain rfl) rfl (ltb rfl) rfl Tryz.call218 (impl_ancestors.calls (w := w4) (a0 := a1) h1) rfl <| fun v7 w5 e5 o7 => ?_
  refine L_append (enc := encS) (.plain rfl) rfl (ltb rfl) rfl El.t42 rfl rfl (Ow.ext (Ow.new (xs := [a1]) (sz := 1) (enc := encS) (base := w3.heap.size) k6 (Nat.le_of_eq hz4) rfl (fun _ _ => rfl) (Nat.le_of_ble_eq_true rfl)) e5) (Ow.rd o7) (ones_S _) (by have := hla; simp; omega) (e4.t e5).size <| fun v8 w6 o8 hz6 g6 => lp rfl rfl (xa v8 rfl) <| L_nil ?_
  have e6 : Ext w3 w6 := g6 _ (e4.t e5)
  have eA : Ext w w6 := Ext.trans ((e1.t e2).t e3) e6
  have hR8 : Rd 1 encV w6 v8 (([a1] ++ ancs a1).map S) := Rd.toV (Ow.rd o8)
  obtain ⟨A8, c8, hv8⟩ := hR8.shape
  have hall : ∀ i, i < (([a1] ++ ancs a1).map S).length → (([a1] ++ ancs a1).map S).getD i undef = S (([a1] ++ ancs a1).getD i []) := by
    intro i hi
    have hi2 : i < ([a1] ++ ancs a1).length := by simpa using hi
    simp only [List.getD_eq_getElem?_getD, List.getElem?_map, List.getElem?_eq_getElem hi2, Option.map_some, Option.getD_some]
  have hlv : (([a1] ++ ancs a1).map S).length = (ancs a1).length + 1 := by simp
  generalize ([a1] ++ ancs a1).map S = vs at hR8 hv8 hall hlv
  refine WI_seq <| WI_seq <| WI_reg <| LI_op openWide rfl rfl rfl (ltb rfl) (xm v8 rfl) <| LI_callA openWide (vs := #[v8]) rfl rfl (ltb rfl) rfl Tryz.call217 (slices_BackwardS.calls hv8) rfl <| fun u w7 hA => ?_
  obtain ⟨e7, b8, hb8, k8, rfl⟩ := hA
  refine LI_nil ?_
  have eB : Ext w w7 := Ext.trans eA e7
  have k2' : Blk w7 b2 #[v_a0] 29 := (Blk.cs k2 (Rd.cs f_a0)).ext (((e2.t e3).t e6).t e7)
  have k4' : Blk w7 b4 #[.int .i64 0] 3 := k4.ext ((e3.t e6).t e7)
  have k5' : Blk w7 b5 #[.int .i64 0] 3 := k5.ext (e6.t e7)
  have hn4 : w.heap.size ≤ b4 := by have := e1.size; omega
  have hn5 : w.heap.size ≤ b5 := by have := (e1.t e2).size; omega
  have h45 : b4 ≠ b5 := by omega
  have fR := f_a0.ext eB
  -- what is stored ends the call
  have wr2 : ∀ (W W1 W2 : World) (x y : Value), Ext w W → Blk W b4 #[.int .i64 0] 3 → Blk W b5 #[.int .i64 0] 3 → Wr b4 W W1 → Blk W1 b4 #[x] 3 → Wr b5 W1 W2 → Blk W2 b5 #[y] 3 → Ext w W2 ∧ Blk W2 b4 #[x] 3 ∧ Blk W2 b5 #[y] 3 := by
    intro W W1 W2 x y hE h4 h5 hw1 hk1 hw2 hk2
    refine ⟨Ext.wr (Ext.wr hE hw1 hn4 (Nat.le_refl _)) hw2 hn5 (Nat.le_refl _), ?_, hk2⟩
    unfold Blk at hk1 ⊢
    rw [hw2.grown.block b4 (Array.getElem?_eq_some_iff.1 hk1).1 (fun e => h45 (by injection e)), hk1]
  have b5of : ∀ (W W1 : World) (y : Value), Wr b4 W W1 → Blk W b5 #[y] 3 → Blk W1 b5 #[y] 3 := by
    intro W W1 y hw hk
    unfold Blk at hk ⊢
    rw [hw.grown.block b5 (Array.getElem?_eq_some_iff.1 hk).1 (fun e => h45 (by injection e with e; exact e.symm)), hk]
  refine WI_block <| WI_range (n := 3) (α := Fin vs.length) (by omega) (gf := 266) rfl Tryz.call266
    (slices_BackwardS_it.stops (w0 := w7) (v := v8) (b0 := b8) (vs := vs) (by omega) (Kp := Below w7.heap.size) (H := Below w7.heap.size w7) (fun _ h => h) (fun _ _ h k => h.trans k) (fun W h => k8.ext h) (fun W h => (hR8.ext e7).ext h) (n := 3 - 1))
    (fun h k => h.trans k) (belowK_b (Nat.le_refl _)) (Below.refl _ _) (fun _ => rfl)
    (fun pre W => Ext w7 W ∧ ∀ i ∈ pre, i.val ≠ 0 ∧ resStep a0 (([a1] ++ ancs a1).getD i.val []) i.val = none)
    (fun c pre W => c = .ret ∧ ∃ i p x, pre = p ++ [i] ∧ (∀ j ∈ p, j.val ≠ 0 ∧ resStep a0 (([a1] ++ ancs a1).getD j.val []) j.val = none) ∧ resStep a0 (([a1] ++ ancs a1).getD i.val []) i.val = some x ∧ Ext w W ∧ Blk W b4 #[.int .i64 x.1] 3 ∧ Blk W b5 #[.int .i64 x.2] 3)
    ?_ ?_ ⟨Ext.refl _, by simp⟩
    (fun i => upd (upd (upd (upd (upd (upd (upd (upd (upd (upd (upd (upd (upd (upd (upd (fun t => (#[v_a0, S a1] : Array Value).getD t undef) 2 (.pointer (some ⟨b2, 0, none⟩))) 4 (.pointer (some ⟨b4, 0, none⟩))) 5 (.pointer (some ⟨b5, 0, none⟩))) 10 (S a1)) 11 (.slice (some ⟨b6, 0, none⟩) 1 1)) 12 (S a1)) 13 v7) 14 v8) 6 v8) 15 v8) 16 (.func (.func 266) #[] #[.pointer (some ⟨b8, 0, none⟩)])) 17 (.int .i64 (i.val : Int))) 18 (vs.getD i.val undef)) 7 (.int .i64 (i.val : Int))) 8 (vs.getD i.val undef))
    ?_ ?_ ?_ ?_ ?_
  · intro s W W' row hs hg hr
    exact ⟨hs.1.grow hg (Nat.le_refl _) hr, hs.2⟩
  · intro c s W W' row hs hg hr
    obtain ⟨hc, i, p, x, h1, h2, h3, h4, h5, h6⟩ := hs
    exact ⟨hc, i, p, x, h1, h2, h3, h4.grow hg eB.size hr, h5.grow hg hr, h6.grow hg hr⟩
  · intro hf x
    exact upd_far (by decide) (upd_far (by decide) (upd_far (by decide) (upd_far (by decide) hf)))
  · intro l x W a K ha hK
    refine ⟨_, ha.two 17 18 (by decide) (by decide) (.int .i64 (x.val : Int)) (vs.getD x.val undef), ?_⟩
    refine WI_seq <| WI_reg <| LI_op (openRound l) rfl rfl rfl (ltb rfl) (X_assign rfl) <| LI_nil <| ?_
    exact WI_reg <| LI_op (openRound l) rfl rfl rfl (ltb rfl) (X_assign rfl) <| LI_nil hK
  · rintro l pre x W ⟨eW, hpre⟩ hlen
    obtain ⟨q, hq⟩ : ∃ q, ([a1] ++ ancs a1).getD x.val [] = q := ⟨_, rfl⟩
    have hu : vs.getD x.val undef = S q := by rw [hall x.val x.isLt, hq]
    obtain ⟨k, hk⟩ : ∃ k, findN a0 q = k := ⟨_, rfl⟩
    refine WI_block <| WI_seq <| WI_reg <| LI_op (openRound l) rfl rfl rfl (ltb rfl) (X_loadB (v := v_a0) Tryz.isAgg29 (k2'.ext eW) rfl rfl) <| LI_op (openRound l) rfl rfl rfl (ltb rfl) (X_move (v := S q) hu) <|
      LI_callA (openRound l) (vs := #[v_a0, S q]) rfl rfl (ltb rfl) rfl Tryz.call210 (impl_at.calls (w := W) (a0 := a0) (a1 := q) (fR.ext eW) h0) rfl <| fun u w8 hA => ?_
    obtain ⟨e8, rfl⟩ := hA
    rw [hk]
    have eC : Ext w w8 := Ext.trans (Ext.trans eB eW) e8
    have j4 := (k4'.ext eW).ext e8
    have j5 := (k5'.ext eW).ext e8
    refine LI_op (openRound l) rfl rfl rfl (ltb rfl) (X_assign (v := .int .i64 k) rfl) <| LI_nil ?_
    refine WI_block <| WI_seq <| WI_reg <| LI_op (openRound l) rfl rfl rfl (ltb rfl) (X_move (v := .int .i64 k) rfl) <| LI_op (openRound l) rfl rfl rfl (ltb rfl) (X_lss rfl rfl) <| LI_op (openRound l) rfl rfl rfl (ltb rfl) (X_assign (v := .bool (decide (k < 0))) rfl) <| LI_nil ?_
    have out : ∀ (W1 W2 : World) (y z : Int), resStep a0 q x.val = some (y, z) → Wr b4 w8 W1 → Blk W1 b4 #[.int .i64 y] 3 → Wr b5 W1 W2 → Blk W2 b5 #[.int .i64 z] 3 →
        KeepsOthers W W2 ∧ (Code.ret = .ret ∧ ∃ i p x', pre ++ [x] = p ++ [i] ∧ (∀ j ∈ p, j.val ≠ 0 ∧ resStep a0 (([a1] ++ ancs a1).getD j.val []) j.val = none) ∧ resStep a0 (([a1] ++ ancs a1).getD i.val []) i.val = some x' ∧ Ext w W2 ∧ Blk W2 b4 #[.int .i64 x'.1] 3 ∧ Blk W2 b5 #[.int .i64 x'.2] 3) := by
      intro W1 W2 y z hs hw1 hk1 hw2 hk2
      have h9 := wr2 w8 W1 W2 _ _ eC j4 j5 hw1 hk1 hw2 hk2
      exact ⟨((keeps_ext e8).trans (keeps_wr hw1 j4)).trans (keeps_wr hw2 (b5of _ _ _ hw1 j5)), rfl, x, pre, (y, z), rfl, hpre, by rw [hq]; exact hs, h9.1, h9.2.1, h9.2.2⟩
    refine WI_cond (decide (k < 0)) rfl (fun hc => ?_) (fun hc => ?_)
    · have hc' : k < 0 := od hc
      refine WI_seq <| WI_reg <| LI_store1 (openRound l) rfl rfl rfl Tryz.sizeOf3 rfl rfl rfl j4 (ltb rfl) <| fun w9 hw9 k9 => LI_store1 (openRound l) rfl rfl rfl Tryz.sizeOf3 rfl rfl rfl (b5of _ _ _ hw9 j5) (ltb rfl) <| fun w10 hw10 k10 => LI_nil <| WI_ret ?_
      exact out w9 w10 0 5 (by simp [resStep, hk, hc']) hw9 k9 hw10 k10
    · have hc' : ¬ k < 0 := of_decide_eq_false hc
      refine WI_seq <| WI_reg <| LI_op (openRound l) rfl rfl rfl (ltb rfl) (X_move (v := .int .i64 (x.val : Int)) rfl) <| LI_op (openRound l) rfl rfl rfl (ltb rfl) (X_eql rfl rfl) <| LI_op (openRound l) rfl rfl rfl (ltb rfl) (X_assign (v := .bool (decide ((x.val : Int) = 0))) rfl) <| LI_nil ?_
      refine WI_cond (decide ((x.val : Int) = 0)) rfl (fun hd => ?_) (fun hd => ?_)
      · have hd' : x.val = 0 := by have := od hd; omega
        refine WI_seq <| WI_reg <| LI_op (openRound l) rfl rfl rfl (ltb rfl) (X_move (v := .int .i64 k) rfl) <| LI_store1 (openRound l) rfl rfl rfl Tryz.sizeOf3 rfl rfl rfl j4 (ltb rfl) <| fun w9 hw9 k9 => LI_store1 (openRound l) rfl rfl rfl Tryz.sizeOf3 rfl rfl rfl (b5of _ _ _ hw9 j5) (ltb rfl) <| fun w10 hw10 k10 => LI_nil <| WI_ret ?_
        exact out w9 w10 k 0 (by simp [resStep, hk, hc', hd']) hw9 k9 hw10 k10
      · have hd' : x.val ≠ 0 := by have := of_decide_eq_false hd; omega
        have hin : inR k a0.length = true := inR_mk (by omega) (by rw [← hk]; exact findN_lt _ _)
        refine WI_seq <| WI_reg <| LI_op (openRound l) rfl rfl rfl (ltb rfl) (X_loadB (v := v_a0) Tryz.isAgg29 ((k2'.ext eW).ext e8) rfl rfl) <| LI_op (openRound l) rfl rfl rfl (ltb rfl) (X_move (v := .int .i64 k) rfl) <|
          LI_idx (openRound l) rfl rfl rfl (ltb rfl) rfl Tryz.underlying29 Tryz.sizeOf60 rfl ((fR.ext eW).ext e8) rfl hin <| fun p hA => LI_op (openRound l) rfl rfl rfl (ltb rfl) (X_fieldAddr Tryz.underlying60 rfl Tryz.sizeOf3 rfl rfl) <|
          LI_op (openRound l) rfl rfl rfl (ltb rfl) (X_loadF (v := .int .i64 (gt a0 k).kind) Tryz.isAgg3 (j := 0) hA rfl rfl) <| LI_op (openRound l) rfl rfl rfl (ltb rfl) (X_neq rfl rfl) <| LI_op (openRound l) rfl rfl rfl (ltb rfl) (X_assign (v := .bool (!decide ((gt a0 k).kind = 3))) rfl) <| LI_nil ?_
        refine WI_cond (!decide ((gt a0 k).kind = 3)) rfl (fun hf => ?_) (fun hf => WI_skip ?_)
        · have hf' : ¬ (gt a0 k).kind = 3 := by simpa using hf
          refine WI_seq <| WI_reg <| LI_store1 (openRound l) rfl rfl rfl Tryz.sizeOf3 rfl rfl rfl j4 (ltb rfl) <| fun w9 hw9 k9 => LI_store1 (openRound l) rfl rfl rfl Tryz.sizeOf3 rfl rfl rfl (b5of _ _ _ hw9 j5) (ltb rfl) <| fun w10 hw10 k10 => LI_nil <| WI_ret ?_
          exact out w9 w10 0 13 (by simp [resStep, hk, hc', hd', hf']) hw9 k9 hw10 k10
        · have hf' : (gt a0 k).kind = 3 := by simpa using hf
          refine ⟨keeps_ext e8, e8.mono eW.size, Ext.trans eW e8, ?_⟩
          intro i hi
          rcases List.mem_append.1 hi with h | h
          · exact hpre i h
          · obtain rfl := List.mem_singleton.1 h
            exact ⟨hd', by rw [hq]; simp [resStep, hk, hc', hd', hf']⟩
  · rintro D xs W hD hS ⟨eW, hpre⟩ hk
    exact absurd rfl (hpre ⟨0, by omega⟩ (by rw [hS]; exact downTo_all _)).1
  · rintro D c pre W hD hS ⟨rfl, i, p, x, rfl, h3, h4, h5, h6, h7⟩ hk
    refine WI_ret ?_
    have hz : resolveT a0 a1 = x := resGo_some _ (by have := i.isLt; simp; omega) h4 fun j hj1 hj2 => (h3 ⟨j, by simp at hj2; omega⟩ (downTo_split hS ⟨j, by simp at hj2; omega⟩ hj1)).2
    exact ⟨.inr rfl, .inr ⟨D, rfl, hk, _, fun tmps hg => res_cell2 rfl Tryz.isAgg3 Tryz.isAgg3 (putD_blk h6 _ hk) (putD_blk h7 _ hk) tmps (hg 4) (hg 5), ⟨_, rfl, putD_ext h5 (by have := eB.size; omega) _ hk, by rw [hz]⟩⟩⟩

/-! impl.FindNode -/
theorem impl_FindNode.walk {w : World} {a0 : List Nd} {a1 : List UInt8} (gv : GV 0 w) {v_a0 : Value} (f_a0 : Rd 4 encNd w v_a0 a0) {r : Nd × Int} (H : impl_FindNode.sh a0 a1 = some r) :
  Calls Tryz.prog 64 #[v_a0, S a1] w (Rt (RP w (.tuple #[.agg (encNd r.1).toArray, .int .i64 r.2]))) := by
 unfold impl_FindNode.sh at H
 refine calls_of_WG Tryz.func64 rfl (Nat.le_of_ble_eq_true rfl) Tryz.ntmps64 ?_
 refine wr <| L_alloc (.plain rfl) rfl (ltb rfl) rfl Tryz.zeroValue60 <| fun b1 w2 z3 z4 e5 k6 => lp rfl rfl (xa (.int .i64 0) rfl) <| nx <| W_seq <| wr <| lp rfl rfl (xm (S a1) rfl) <| L_lit (.plain rfl) rfl (ltb rfl) rfl Tryz.underlying42 Tryz.sizeOf9 Tryz.zeroValue9 rfl rfl rfl (vs := [(S a1)]) rfl (lit_all rfl) <| fun b7 w8 z9 z10 e11 k12 => ?_
 obtain ⟨c13, H⟩ := bif_some H
 refine lc rfl rfl rfl Tryz.call149 (impl_isLong.calls (w := w8) (a0 := ([a1] : List (List UInt8))) (Ow.rd (Ow.new (xs := [a1]) (sz := 1) (enc := encS) (base := w2.heap.size) k12 (Nat.le_of_eq z9) rfl (fun _ _ => by rfl) (Nat.le_of_ble_eq_true rfl))) (od c13)) rfl <| fun w14 e15 => lp rfl rfl (X_move rfl) <| L_grp 3 [(13, 16)] 15 (.bool ((([a1] : List (List UInt8)).any fun t => decide (65536 < t.length)) || (decide (4096 < a0.length)))) ?_ ?_
 ·rcases bool_two (([a1] : List (List UInt8)).any fun t => decide (65536 < t.length)) with b15_ | b15_
  ·exact ls rfl rfl rfl (cb b15_) rfl <| ls rfl rfl rfl (cb b15_) rfl <| lp rfl rfl (X_pick (b := true) (v := (.bool true)) (cb b15_) rfl) <| nx ⟨(ku3 kz rfl), (or_t b15_), er⟩
  ·exact lg rfl rfl rfl rfl (cb b15_) (xm v_a0 rfl) <| L_callP (tg rfl rfl rfl (cb b15_)) rfl (ltb rfl) rfl Tryz.call127 (impl_isLongListN.calls (w := w14) (a0 := a0) (Rd.ext f_a0 ((e5.t e11).t e15))) rfl <| fun w17 e18 => lp rfl rfl (X_pick (b := false) (v := (.bool (decide (4096 < a0.length)))) (cb b15_) rfl) <| nx ⟨(ku3 kz rfl), (or_f b15_), e18⟩
 intro s21 w17 K18 h19 e20
 refine lp rfl rfl (X_mkiface Tryz.underlying4 rfl h19) <| lp rfl rfl (X_mkiface Tryz.underlying3 rfl rfl) <| lp rfl rfl (xm v_a0 (K18 0 rfl)) ?_
 obtain ⟨c22, H⟩ := bif_some H
 obtain ⟨c23, H⟩ := bif_some H
 refine lc rfl rfl rfl Tryz.call43 (impl_TreeOK.calls (w := w17) (a0 := a0) (GV.ext gv (((e5.t e11).t e15).t e20)) (Rd.ext f_a0 (((e5.t e11).t e15).t e20)) (od c22) (od c23)) rfl <| fun w24 e25 => lp rfl rfl (X_not rfl) <| lp rfl rfl (X_mkiface Tryz.underlying4 rfl rfl) <| lp rfl rfl (X_mkiface Tryz.underlying3 rfl rfl) <| lp rfl rfl (xm (S a1) (K18 1 rfl)) <| lc rfl rfl rfl Tryz.call150 (impl_PathOK.calls (w := w24) (a0 := a1) (GV.ext gv ((((e5.t e11).t e15).t e20).t e25))) rfl <| fun w26 e27 => lp rfl rfl (X_not rfl) <| lp rfl rfl (X_mkiface Tryz.underlying4 rfl rfl) <| lp rfl rfl (X_mkiface Tryz.underlying3 rfl rfl) <| L_lit (.plain rfl) rfl (ltb rfl) rfl Tryz.underlying171 Tryz.sizeOf20 Tryz.zeroValue20 rfl rfl rfl (vs := [(.iface 4 (.bool ((([a1] : List (List UInt8)).any fun t => decide (65536 < t.length)) || (decide (4096 < a0.length))))), (.iface 3 (.int .i64 2)), (.iface 4 (.bool (!(treeOK a0)))), (.iface 3 (.int .i64 1)), (.iface 4 (.bool (!(pathOK a1)))), (.iface 3 (.int .i64 10))]) rfl (lit_all rfl) <| fun b28 w29 z30 z31 e32 k33 => ?_
 obtain ⟨c34, H⟩ := bif_some H
 obtain ⟨z37, x38, H⟩ := bind_some H
 replace x38 := si x38
 refine lc rfl rfl rfl Tryz.call125 (impl_first.calls (w := w29) (a0 := ([.inl ((([a1] : List (List UInt8)).any fun t => decide (65536 < t.length)) || (decide (4096 < a0.length))), .inr 2, .inl (!(treeOK a0)), .inr 1, .inl (!(pathOK a1)), .inr 10] : List (Bool ⊕ Int))) (Ow.rd (Ow.new (xs := [.inl ((([a1] : List (List UInt8)).any fun t => decide (65536 < t.length)) || (decide (4096 < a0.length))), .inr 2, .inl (!(treeOK a0)), .inr 1, .inl (!(pathOK a1)), .inr 10]) (sz := 1) (enc := (encAny 4 3)) (base := w26.heap.size) k33 (Nat.le_of_eq z30) rfl (fun _ _ => by first | rfl | exact encAny_len _ _ _) (Nat.le_of_ble_eq_true rfl))) (od c34)) rfl <| fun w35 e36 => lp rfl rfl (xa (.int .i64 z37) (congrArg (Value.int .i64) x38)) <| nx <| wr <| lp rfl rfl (xm (.int .i64 z37) rfl) <| lp rfl rfl (X_neq rfl rfl) <| nx ?_
 rcases bif_two H with ⟨q39, H⟩ | ⟨q39, H⟩
 ·refine W_true (cb q39) <| wr <| lp rfl rfl (X_build1 (vs := []) (pl := #[(0, 1), (1, 1), (2, 1), (3, 1)]) Tryz.underlying60 Tryz.zeroValue60 rfl (fun _ => by kernel_rfl) rfl rfl rfl) <| lp rfl rfl (xm (.int .i64 z37) rfl) <| L_storeA (.plain rfl) rfl rfl Tryz.sizeOf60 (K18 4 rfl) rfl rfl rfl rfl (Blk.ext k6 ((((((e11.t e15).t e20).t e25).t e27).t e32).t e36)) <| fun w40 h41 k42 => lp rfl rfl (xa (.int .i64 z37) rfl) <| nx <| W_ret <| thn_r <| finG_r ?_
  obtain rfl := si H
  exact finC2 rfl (K18 4 rfl) k42 Tryz.isAgg60 Tryz.sizeOf60 rfl rfl (Below.trans (((((((e5.t e11).t e15).t e20).t e25).t e27).t e32).t e36) (Wr.below h41 (Nat.le_of_eq z3)))
 ·refine W_false (cb q39) <| W_skip <| thn_n <| wr <| lp rfl rfl (xm v_a0 (K18 0 rfl)) <| lp rfl rfl (xm (S a1) (K18 1 rfl)) ?_
  obtain ⟨c43, H⟩ := bif_some H
  obtain ⟨c44, H⟩ := bif_some H
  refine lc rfl rfl rfl Tryz.call155 (impl_resolve.calls (w := w35) (a0 := a0) (a1 := a1) (Rd.ext f_a0 (((((((e5.t e11).t e15).t e20).t e25).t e27).t e32).t e36)) (od c43) (od c44)) rfl <| fun w45 e46 => lp rfl rfl (X_move rfl) <| lp rfl rfl (X_extract (v := (.int .i64 ((resolveT a0 a1).1))) rfl rfl) <| lp rfl rfl (X_extract (v := (.int .i64 ((resolveT a0 a1).2))) rfl rfl) <| lp rfl rfl (xa (.int .i64 ((resolveT a0 a1).1)) rfl) <| lp rfl rfl (xa (.int .i64 ((resolveT a0 a1).2)) rfl) <| nx <| W_seq <| wr <| lp rfl rfl (xm (.int .i64 ((resolveT a0 a1).2)) rfl) <| lp rfl rfl (X_neq rfl rfl) <| nx ?_
  rcases bif_two H with ⟨q47, H⟩ | ⟨q47, H⟩
  ·refine W_true (cb q47) <| wr <| lp rfl rfl (X_build1 (vs := []) (pl := #[(0, 1), (1, 1), (2, 1), (3, 1)]) Tryz.underlying60 Tryz.zeroValue60 rfl (fun _ => by kernel_rfl) rfl rfl rfl) <| lp rfl rfl (xm (.int .i64 ((resolveT a0 a1).2)) rfl) <| L_storeA (.plain rfl) rfl rfl Tryz.sizeOf60 (K18 4 rfl) rfl rfl rfl rfl (Blk.ext k6 (((((((e11.t e15).t e20).t e25).t e27).t e32).t e36).t e46)) <| fun w48 h49 k50 => lp rfl rfl (xa (.int .i64 ((resolveT a0 a1).2)) rfl) <| nx <| W_ret <| thn_r <| finG_r ?_
   obtain rfl := si H
   exact finC2 rfl (K18 4 rfl) k50 Tryz.isAgg60 Tryz.sizeOf60 rfl rfl (Below.trans ((((((((e5.t e11).t e15).t e20).t e25).t e27).t e32).t e36).t e46) (Wr.below h49 (Nat.le_of_eq z3)))
  ·refine W_false (cb q47) <| W_skip <| thn_n <| wr <| lp rfl rfl (xm v_a0 (K18 0 rfl)) <| lp rfl rfl (xm (.int .i64 ((resolveT a0 a1).1)) rfl) ?_
   obtain ⟨c51, H⟩ := bif_some H
   refine L_idx (.plain rfl) rfl (ltb rfl) rfl Tryz.underlying29 Tryz.sizeOf60 rfl (Rd.ext f_a0 ((((((((e5.t e11).t e15).t e20).t e25).t e27).t e32).t e36).t e46)) rfl c51 <| fun p52 h53 => lp rfl rfl (X_loadS Tryz.isAgg60 Tryz.sizeOf60 rfl rfl h53) <| L_storeA (.plain rfl) rfl rfl Tryz.sizeOf60 (K18 4 rfl) rfl rfl rfl rfl (Blk.ext k6 (((((((e11.t e15).t e20).t e25).t e27).t e32).t e36).t e46)) <| fun w54 h55 k56 => lp rfl rfl (xa (.int .i64 0) rfl) <| nx <| W_ret <| finG_r ?_
   obtain rfl := si H
   exact finC2 rfl (K18 4 rfl) k56 Tryz.isAgg60 Tryz.sizeOf60 rfl rfl (Below.trans ((((((((e5.t e11).t e15).t e20).t e25).t e27).t e32).t e36).t e46) (Wr.below h55 (Nat.le_of_eq z3)))
theorem impl_FindNode.calls {w : World} {a0 : List Nd} {a1 : List UInt8} (gv : GV 0 w) {v_a0 : Value} (f_a0 : Rd 4 encNd w v_a0 a0) (h0 : a0.length ≤ 1048576) (h1 : ∀ x ∈ a0, x.path.length ≤ 1048576) :
  Calls Tryz.prog 64 #[v_a0, S a1] w (Rt (RP w (.tuple #[.agg (encNd ((findNode a0 a1).1)).toArray, .int .i64 ((findNode a0 a1).2)]))) := impl_FindNode.walk gv f_a0 (impl_FindNode.eq a0 a1 h0 h1)
/-! spec.l04Layer -/
theorem spec_l04Layer.calls {w : World} {a0 : List Nd} {v_a0 : Value} (f_a0 : Rd 4 encNd w v_a0 a0) (h0 : a0.length ≤ 1048576) :
  Calls Tryz.prog 173 #[v_a0] w (Rt (RO 58 5 encRec w (a0.map recOf))) := by
 obtain ⟨k, H⟩ := spec_l04Layer.eq a0 h0
 generalize (a0.map recOf) = r at H ⊢
 unfold spec_l04Layer.sh at H
 refine calls_of_W Tryz.func173 rfl (Nat.le_of_ble_eq_true rfl) Tryz.ntmps173 rfl ?_
 refine wr <| lp rfl rfl (xa (.slice none 0 0) rfl) <| nx <| wr <| L_lit (.plain rfl) rfl (ltb rfl) rfl Tryz.underlying35 Tryz.sizeOf58 Tryz.zeroValue58 rfl rfl rfl (vs := []) rfl (lit_all rfl) <| fun b1 w2 z3 z4 e5 k6 => lp rfl rfl (xa (.slice (some ⟨b1, 0, none⟩) 0 0) rfl) <| nx <| W_seq <| wr <| lp rfl rfl (xa (.int .i64 0) rfl) <| nx ?_
 obtain ⟨z10, L11, C12⟩ := bind_some H
 clear H
 refine  W_cutQ (fun s0 sQ wQ => ∃ (x3_13 : List Rec) (v14 : Value), Kp [(3, 5), (6, 20)] s0 sQ ∧ sQ 3 = v14 ∧ Ow 58 5 encRec w2.heap.size wQ v14 x3_13 ∧ Ext w2 wQ ∧ z10 = .inr x3_13) ?_ ?_
 ·refine W_block <| W_loopI (fun s0 kk sQ wQ => ∃ (x3_7 : List Rec) (v8 : Value) (x4_9 : Int), Kp [(3, 5), (6, 20)] s0 sQ ∧ sQ 3 = v8 ∧ Ow 58 5 encRec w2.heap.size wQ v8 x3_7 ∧ sQ 4 = .int .i64 x4_9 ∧ Ext w2 wQ ∧ loopF (spec_l04Layer.b1 a0) kk (x3_7, x4_9) = some z10) k ⟨([] : List Rec), (.slice (some ⟨b1, 0, none⟩) 0 0), 0, kz, rfl, (Ow.zero), rfl, er, L11⟩ ?_
  rintro k19 s20 w21 ⟨x3_7, v8, x4_9, K22, h25, h26, h27, e23, L24⟩
  cases k19 with
  | zero => exact absurd L24 (by simp [loopF])
  | succ k19 =>
   obtain ⟨t28, H, S29⟩ := loopF_succ L24
   clear L24
   unfold spec_l04Layer.b1 at H
   refine W_seq <| wr <| lp rfl rfl (X_move h27) <| lp rfl rfl (xm v_a0 (K22 0 rfl)) <| lp rfl rfl (X_lenR Tryz.underlying29 rfl (Rd.ext f_a0 (e5.t e23))) <| lp rfl rfl (X_lss rfl rfl) <| nx ?_
   rcases bif_two H with ⟨q30, H⟩ | ⟨q30, H⟩
   ·refine W_true (cb q30) <| W_skip <| thn_n <| W_seq <| W_block <| W_reg <| lp rfl rfl (X_move h25) <| lp rfl rfl (xm v_a0 (K22 0 rfl)) <| lp rfl rfl (X_move h27) ?_
    obtain ⟨c31, H⟩ := bif_some H
    refine L_idx (.plain rfl) rfl (ltb rfl) rfl Tryz.underlying29 Tryz.sizeOf60 rfl (Rd.ext f_a0 (e5.t e23)) rfl c31 <| fun p32 h33 => lp rfl rfl (X_loadS Tryz.isAgg60 Tryz.sizeOf60 rfl rfl h33) <| lc rfl rfl rfl Tryz.call159 (spec_l04Record.calls (w := w21) (a0 := gt a0 x4_9)) rfl <| fun w34 e35 => L_lit (.plain rfl) rfl (ltb rfl) rfl Tryz.underlying35 Tryz.sizeOf58 Tryz.zeroValue58 rfl rfl rfl (vs := [(.agg (encRec (recOf (gt a0 x4_9))).toArray)]) rfl (lit_all rfl) <| fun b36 w37 z38 z39 e40 k41 => ?_
    obtain ⟨c42, H⟩ := bif_some H
    refine L_append (enc := encRec) (.plain rfl) rfl (ltb rfl) rfl El.t35 rfl rfl (Ow.ext h26 (e35.t e40)) (Ow.rd (Ow.new (xs := [(recOf (gt a0 x4_9))]) (sz := 5) (enc := encRec) (base := w34.heap.size) k41 (Nat.le_of_eq z38) rfl (fun _ _ => by rfl) (Nat.le_of_ble_eq_true rfl))) (ones_Rec _) (od c42) (((e23.t e35).t e40)).size <| fun v43 w44 o45 z46 g47 => lp rfl rfl (xa v43 rfl) <| L_nil <| blk_n <| thn_n <| W_reg <| lp rfl rfl (X_move h27) <| lp rfl rfl (X_add rfl rfl) <| lp rfl rfl (xa (.int .i64 (IntKind.wrap .i64 (x4_9 + 1))) rfl) <| nx ?_
    obtain rfl := si H
    exact ⟨_, Nat.lt_succ_self _, x3_7 ++ ([(recOf (gt a0 x4_9))] : List Rec), v43, IntKind.wrap .i64 (x4_9 + 1), (ku8 (ku8 K22 rfl) rfl), rfl, o45, rfl, (g47 _ ((e23.t e35).t e40)), S29⟩
   ·refine W_false (cb q30) <| W_exit <| thn_x <| thn_x <| blk_x <| thn_n ?_
    obtain rfl := si H
    obtain rfl := si S29
    exact ⟨x3_7, v8, (ku4 K22 rfl), h25, h26, e23, rfl⟩
 ·rintro s16 w15 ⟨x3_13, v14, K17, h48, h49, e18, y50⟩
  rw [y50] at C12
  have H := C12
  replace H : _ = some _ := H
  refine thn_n <| wr <| lp rfl rfl (X_move h48) <| lp rfl rfl (xa v14 rfl) <| nx <| W_ret <| fin_r ?_
  obtain rfl := si H
  exact fin1o rfl (e5.t e18) h49 (e5).size
/-! spec.LayerOfTree -/
theorem spec_LayerOfTree.walk {w : World} {a0 : List Nd} {v_a0 : Value} (f_a0 : Rd 4 encNd w v_a0 a0) {r : List Rec × Int} (H : spec_LayerOfTree.sh a0 = some r) :
  Calls Tryz.prog 70 #[v_a0] w (Rt (RT 58 5 encRec w r.1 (.int .i64 r.2))) := by
 unfold spec_LayerOfTree.sh at H
 refine calls_of_W Tryz.func70 rfl (Nat.le_of_ble_eq_true rfl) Tryz.ntmps70 rfl ?_
 refine wr <| lp rfl rfl (xa (.slice none 0 0) rfl) <| lp rfl rfl (xa (.int .i64 0) rfl) <| nx <| W_seq <| wr <| lp rfl rfl (xm v_a0 rfl) <| lp rfl rfl (X_lenR Tryz.underlying29 rfl f_a0) <| lp rfl rfl (X_gtr rfl rfl) <| nx ?_
 rcases bif_two H with ⟨q1, H⟩ | ⟨q1, H⟩
 ·refine W_true (cb q1) <| wr <| L_lit (.plain rfl) rfl (ltb rfl) rfl Tryz.underlying35 Tryz.sizeOf58 Tryz.zeroValue58 rfl rfl rfl (vs := []) rfl (lit_all rfl) <| fun b2 w3 z4 z5 e6 k7 => lp rfl rfl (xa (.slice (some ⟨b2, 0, none⟩) 0 0) rfl) <| lp rfl rfl (xa (.int .i64 2) rfl) <| nx <| W_ret <| thn_r <| fin_r ?_
  obtain rfl := si H
  exact fin2o rfl rfl e6 (Ow.zero (base := w.heap.size)) (Nat.le_refl _)
 ·refine W_false (cb q1) <| W_skip <| thn_n <| W_seq <| wr <| lp rfl rfl (xm v_a0 rfl) ?_
  obtain ⟨c8, H⟩ := bif_some H
  refine lc rfl rfl rfl Tryz.call130 (spec_l04OK.calls (w := w) (a0 := a0) f_a0 (od c8)) rfl <| fun w9 e10 => lp rfl rfl (X_not rfl) <| nx ?_
  rcases bif_two H with ⟨q11, H⟩ | ⟨q11, H⟩
  ·refine W_true (cb q11) <| wr <| L_lit (.plain rfl) rfl (ltb rfl) rfl Tryz.underlying35 Tryz.sizeOf58 Tryz.zeroValue58 rfl rfl rfl (vs := []) rfl (lit_all rfl) <| fun b12 w13 z14 z15 e16 k17 => lp rfl rfl (xa (.slice (some ⟨b12, 0, none⟩) 0 0) rfl) <| lp rfl rfl (xa (.int .i64 1) rfl) <| nx <| W_ret <| thn_r <| fin_r ?_
   obtain rfl := si H
   exact fin2o rfl rfl (e10.t e16) (Ow.zero (base := w.heap.size)) (Nat.le_refl _)
  ·refine W_false (cb q11) <| W_skip <| thn_n <| W_seq <| wr <| lp rfl rfl (xm v_a0 rfl) <| lp rfl rfl (X_lenR Tryz.underlying29 rfl (Rd.ext f_a0 e10)) <| lp rfl rfl (X_gtr rfl rfl) <| nx ?_
   rcases bif_two H with ⟨q18, H⟩ | ⟨q18, H⟩
   ·refine W_true (cb q18) <| wr <| L_lit (.plain rfl) rfl (ltb rfl) rfl Tryz.underlying35 Tryz.sizeOf58 Tryz.zeroValue58 rfl rfl rfl (vs := []) rfl (lit_all rfl) <| fun b19 w20 z21 z22 e23 k24 => lp rfl rfl (xa (.slice (some ⟨b19, 0, none⟩) 0 0) rfl) <| lp rfl rfl (xa (.int .i64 6) rfl) <| nx <| W_ret <| thn_r <| fin_r ?_
    obtain rfl := si H
    exact fin2o rfl rfl (e10.t e23) (Ow.zero (base := w.heap.size)) (Nat.le_refl _)
   ·refine W_false (cb q18) <| W_skip <| thn_n <| wr <| lp rfl rfl (xm v_a0 rfl) ?_
    obtain ⟨c25, H⟩ := bif_some H
    refine L_callO (.plain rfl) rfl (ltb rfl) rfl Tryz.call173 (spec_l04Layer.calls (w := w9) (a0 := a0) (Rd.ext f_a0 e10) (od c25)) rfl <| fun v28 w26 e27 o29 => lp rfl rfl (xa v28 rfl) <| lp rfl rfl (xa (.int .i64 0) rfl) <| nx <| W_ret <| fin_r ?_
    obtain rfl := si H
    exact fin2o rfl rfl (e10.t e27) o29 (e10).size
theorem spec_LayerOfTree.calls {w : World} {a0 : List Nd} {v_a0 : Value} (f_a0 : Rd 4 encNd w v_a0 a0) (h0 : a0.length ≤ 1048576) (h1 : ∀ x ∈ a0, x.path.length ≤ 1048576) :
  Calls Tryz.prog 70 #[v_a0] w (Rt (RT 58 5 encRec w ((layerOfT a0).1) (.int .i64 ((layerOfT a0).2)))) := spec_LayerOfTree.walk f_a0 (spec_LayerOfTree.eq a0 h0 h1)
/-! impl.records -/
theorem impl_records.calls {w : World} {a0 : List Nd} {v_a0 : Value} (f_a0 : Rd 4 encNd w v_a0 a0) (h0 : a0.length ≤ 1048576) :
  Calls Tryz.prog 172 #[v_a0] w (Rt (RO 58 5 encRec w (a0.map recOf))) := by
 obtain ⟨k, H⟩ := impl_records.eq a0 h0
 generalize (a0.map recOf) = r at H ⊢
 unfold impl_records.sh at H
 refine calls_of_W Tryz.func172 rfl (Nat.le_of_ble_eq_true rfl) Tryz.ntmps172 rfl ?_
 refine wr <| lp rfl rfl (xa (.slice none 0 0) rfl) <| nx <| wr <| L_lit (.plain rfl) rfl (ltb rfl) rfl Tryz.underlying35 Tryz.sizeOf58 Tryz.zeroValue58 rfl rfl rfl (vs := []) rfl (lit_all rfl) <| fun b1 w2 z3 z4 e5 k6 => lp rfl rfl (xa (.slice (some ⟨b1, 0, none⟩) 0 0) rfl) <| nx <| W_seq <| wr <| lp rfl rfl (xm v_a0 rfl) <| lp rfl rfl (X_lenR Tryz.underlying29 rfl (Rd.ext f_a0 e5)) <| lp rfl rfl (xm (.int .i64 0) rfl) <| nx ?_
 obtain ⟨z10, L11, C12⟩ := bind_some H
 clear H
 refine  W_cutQ (fun s0 sQ wQ => ∃ (x3_13 : List Rec) (v14 : Value), Kp [(3, 4), (5, 6), (9, 19)] s0 sQ ∧ sQ 3 = v14 ∧ Ow 58 5 encRec w2.heap.size wQ v14 x3_13 ∧ Ext w2 wQ ∧ z10 = .inr x3_13) ?_ ?_
 ·refine W_block <| W_loopI (fun s0 kk sQ wQ => ∃ (x3_7 : List Rec) (v8 : Value) (x9_9 : Int), Kp [(3, 4), (5, 6), (9, 19)] s0 sQ ∧ sQ 3 = v8 ∧ Ow 58 5 encRec w2.heap.size wQ v8 x3_7 ∧ sQ 9 = .int .i64 x9_9 ∧ Ext w2 wQ ∧ loopF (impl_records.b1 a0) kk (x3_7, x9_9) = some z10) k ⟨([] : List Rec), (.slice (some ⟨b1, 0, none⟩) 0 0), 0, kz, rfl, (Ow.zero), rfl, er, L11⟩ ?_
  rintro k19 s20 w21 ⟨x3_7, v8, x9_9, K22, h25, h26, h27, e23, L24⟩
  cases k19 with
  | zero => exact absurd L24 (by simp [loopF])
  | succ k19 =>
   obtain ⟨t28, H, S29⟩ := loopF_succ L24
   clear L24
   unfold impl_records.b1 at H
   refine wr <| lp rfl rfl (X_lss h27 (K22 8 rfl)) <| nx <| W_seq ?_
   rcases bif_two H with ⟨q30, H⟩ | ⟨q30, H⟩
   ·refine W_true (cb q30) <| W_skip <| thn_n <| W_seq <| W_block <| wr ?_
    obtain ⟨c31, H⟩ := bif_some H
    refine L_idx (.plain rfl) rfl (ltb rfl) rfl Tryz.underlying29 Tryz.sizeOf60 (K22 7 rfl) (Rd.ext f_a0 (e5.t e23)) h27 c31 <| fun p32 h33 => lp rfl rfl (X_loadS Tryz.isAgg60 Tryz.sizeOf60 rfl rfl h33) <| L_alloc (.plain rfl) rfl (ltb rfl) rfl Tryz.zeroValue60 <| fun b34 w35 z36 z37 e38 k39 => L_storeA (.plain rfl) rfl rfl Tryz.sizeOf60 rfl rfl rfl rfl rfl k39 <| fun w40 h41 k42 => nx <| W_reg <| lp rfl rfl (X_move h25) <| lp rfl rfl (X_loadS Tryz.isAgg60 Tryz.sizeOf60 rfl rfl (Blk.at0 k42)) <| lc rfl rfl rfl Tryz.call225 (impl_Node_record.calls (w := w40) (a0 := (gt a0 x9_9))) rfl <| fun w43 e44 => L_lit (.plain rfl) rfl (ltb rfl) rfl Tryz.underlying35 Tryz.sizeOf58 Tryz.zeroValue58 rfl rfl rfl (vs := [(.agg (encRec (recOf (gt a0 x9_9))).toArray)]) rfl (lit_all rfl) <| fun b45 w46 z47 z48 e49 k50 => ?_
    obtain ⟨c51, H⟩ := bif_some H
    refine L_append (enc := encRec) (.plain rfl) rfl (ltb rfl) rfl El.t35 rfl rfl (Ow.ext h26 (Ext.trans (Ext.trans (Below.trans e38 (Wr.below h41 (Nat.le_of_eq z36))) e44) e49)) (Ow.rd (Ow.new (xs := [(recOf (gt a0 x9_9))]) (sz := 5) (enc := encRec) (base := w43.heap.size) k50 (Nat.le_of_eq z47) rfl (fun _ _ => by rfl) (Nat.le_of_ble_eq_true rfl))) (ones_Rec _) (od c51) ((((e23.t (Below.trans e38 (Wr.below h41 (Nat.le_of_eq z36)))).t e44).t e49)).size <| fun v52 w53 o54 z55 g56 => lp rfl rfl (xa v52 rfl) <| L_nil <| blk_n <| thn_n <| W_reg <| lp rfl rfl (X_add h27 rfl) <| lp rfl rfl (xm (.int .i64 (IntKind.wrap .i64 (x9_9 + 1))) rfl) <| nx ?_
    obtain rfl := si H
    exact ⟨_, Nat.lt_succ_self _, x3_7 ++ ([(recOf (gt a0 x9_9))] : List Rec), v52, IntKind.wrap .i64 (x9_9 + 1), (ku4 (ku8 K22 rfl) rfl), rfl, o54, rfl, (g56 _ (((e23.t (Below.trans e38 (Wr.below h41 (Nat.le_of_eq z36)))).t e44).t e49)), S29⟩
   ·refine W_false (cb q30) <| W_exit <| thn_x <| thn_x <| blk_x <| thn_n ?_
    obtain rfl := si H
    obtain rfl := si S29
    exact ⟨x3_7, v8, (ku1 K22 rfl), h25, h26, e23, rfl⟩
 ·rintro s16 w15 ⟨x3_13, v14, K17, h57, h58, e18, y59⟩
  rw [y59] at C12
  have H := C12
  replace H : _ = some _ := H
  refine thn_n <| wr <| lp rfl rfl (X_move h57) <| lp rfl rfl (xa v14 rfl) <| nx <| W_ret <| fin_r ?_
  obtain rfl := si H
  exact fin1o rfl (e5.t e18) h58 (e5).size
/-! impl.LayerOfTree -/
theorem impl_LayerOfTree.walk {w : World} {a0 : List Nd} (gv : GV 0 w) {v_a0 : Value} (f_a0 : Rd 4 encNd w v_a0 a0) {r : List Rec × Int} (H : impl_LayerOfTree.sh a0 = some r) :
  Calls Tryz.prog 69 #[v_a0] w (Rt (RT 58 5 encRec w r.1 (.int .i64 r.2))) := by
 unfold impl_LayerOfTree.sh at H
 refine calls_of_W Tryz.func69 rfl (Nat.le_of_ble_eq_true rfl) Tryz.ntmps69 rfl ?_
 refine wr <| lp rfl rfl (xa (.slice none 0 0) rfl) <| lp rfl rfl (xa (.int .i64 0) rfl) <| nx <| W_seq <| wr <| lp rfl rfl (xm v_a0 rfl) <| lc rfl rfl rfl Tryz.call127 (impl_isLongListN.calls (w := w) (a0 := a0) f_a0) rfl <| fun w1 e2 => lp rfl rfl (X_mkiface Tryz.underlying4 rfl rfl) <| lp rfl rfl (X_mkiface Tryz.underlying3 rfl rfl) <| lp rfl rfl (xm v_a0 rfl) ?_
 obtain ⟨c3, H⟩ := bif_some H
 obtain ⟨c4, H⟩ := bif_some H
 refine lc rfl rfl rfl Tryz.call43 (impl_TreeOK.calls (w := w1) (a0 := a0) (GV.ext gv e2) (Rd.ext f_a0 e2) (od c3) (od c4)) rfl <| fun w5 e6 => lp rfl rfl (X_not rfl) <| lp rfl rfl (X_mkiface Tryz.underlying4 rfl rfl) <| lp rfl rfl (X_mkiface Tryz.underlying3 rfl rfl) <| lp rfl rfl (xm v_a0 rfl) <| lp rfl rfl (X_lenR Tryz.underlying29 rfl (Rd.ext f_a0 (e2.t e6))) <| lp rfl rfl (X_gtr rfl rfl) <| lp rfl rfl (X_mkiface Tryz.underlying4 rfl rfl) <| lp rfl rfl (X_mkiface Tryz.underlying3 rfl rfl) <| L_lit (.plain rfl) rfl (ltb rfl) rfl Tryz.underlying171 Tryz.sizeOf20 Tryz.zeroValue20 rfl rfl rfl (vs := [(.iface 4 (.bool (decide (4096 < a0.length)))), (.iface 3 (.int .i64 2)), (.iface 4 (.bool (!(treeOK a0)))), (.iface 3 (.int .i64 1)), (.iface 4 (.bool (decide (16 < (a0.length : Int))))), (.iface 3 (.int .i64 6))]) rfl (lit_all rfl) <| fun b7 w8 z9 z10 e11 k12 => ?_
 obtain ⟨c13, H⟩ := bif_some H
 obtain ⟨z16, x17, H⟩ := bind_some H
 replace x17 := si x17
 refine lc rfl rfl rfl Tryz.call125 (impl_first.calls (w := w8) (a0 := ([.inl (decide (4096 < a0.length)), .inr 2, .inl (!(treeOK a0)), .inr 1, .inl (decide (16 < (a0.length : Int))), .inr 6] : List (Bool ⊕ Int))) (Ow.rd (Ow.new (xs := [.inl (decide (4096 < a0.length)), .inr 2, .inl (!(treeOK a0)), .inr 1, .inl (decide (16 < (a0.length : Int))), .inr 6]) (sz := 1) (enc := (encAny 4 3)) (base := w5.heap.size) k12 (Nat.le_of_eq z9) rfl (fun _ _ => by first | rfl | exact encAny_len _ _ _) (Nat.le_of_ble_eq_true rfl))) (od c13)) rfl <| fun w14 e15 => lp rfl rfl (xa (.int .i64 z16) (congrArg (Value.int .i64) x17)) <| nx <| wr <| lp rfl rfl (xm (.int .i64 z16) rfl) <| lp rfl rfl (X_neq rfl rfl) <| nx ?_
 rcases bif_two H with ⟨q18, H⟩ | ⟨q18, H⟩
 ·refine W_true (cb q18) <| wr <| lp rfl rfl (xm (.int .i64 z16) rfl) <| lp rfl rfl (xa (.slice none 0 0) rfl) <| lp rfl rfl (xa (.int .i64 z16) rfl) <| nx <| W_ret <| thn_r <| fin_r ?_
  obtain rfl := si H
  exact fin2o rfl rfl (((e2.t e6).t e11).t e15) (Ow.zero (base := w.heap.size)) (Nat.le_refl _)
 ·refine W_false (cb q18) <| W_skip <| thn_n <| wr <| lp rfl rfl (xm v_a0 rfl) ?_
  obtain ⟨c19, H⟩ := bif_some H
  refine L_callO (.plain rfl) rfl (ltb rfl) rfl Tryz.call172 (impl_records.calls (w := w14) (a0 := a0) (Rd.ext f_a0 (((e2.t e6).t e11).t e15)) (od c19)) rfl <| fun v22 w20 e21 o23 => lp rfl rfl (xa v22 rfl) <| lp rfl rfl (xa (.int .i64 0) rfl) <| nx <| W_ret <| fin_r ?_
  obtain rfl := si H
  exact fin2o rfl rfl ((((e2.t e6).t e11).t e15).t e21) o23 ((((e2.t e6).t e11).t e15)).size
theorem impl_LayerOfTree.calls {w : World} {a0 : List Nd} (gv : GV 0 w) {v_a0 : Value} (f_a0 : Rd 4 encNd w v_a0 a0) (h0 : a0.length ≤ 1048576) (h1 : ∀ x ∈ a0, x.path.length ≤ 1048576) :
  Calls Tryz.prog 69 #[v_a0] w (Rt (RT 58 5 encRec w ((layerOfT a0).1) (.int .i64 ((layerOfT a0).2)))) := impl_LayerOfTree.walk gv f_a0 (impl_LayerOfTree.eq a0 h0 h1)
/-! spec.l04List -/
theorem spec_l04List.calls {w : World} {a0 : List Nd} {a1 : List UInt8} {v_a0 : Value} (f_a0 : Rd 4 encNd w v_a0 a0) (h0 : a0.length ≤ 1048576) (h1 : ∀ x ∈ a0, x.path.length ≤ 1048576) :
  Calls Tryz.prog 168 #[v_a0, S a1] w (Rt (RO 9 1 encS w (listT a0 a1))) := by
 obtain ⟨k, H⟩ := spec_l04List.eq a0 a1 h0 h1
 generalize (listT a0 a1) = r at H ⊢
 unfold spec_l04List.sh at H
 refine calls_of_W Tryz.func168 rfl (Nat.le_of_ble_eq_true rfl) Tryz.ntmps168 rfl ?_
 refine wr <| lp rfl rfl (xa (.slice none 0 0) rfl) <| nx <| wr <| L_lit (.plain rfl) rfl (ltb rfl) rfl Tryz.underlying42 Tryz.sizeOf9 Tryz.zeroValue9 rfl rfl rfl (vs := []) rfl (lit_all rfl) <| fun b1 w2 z3 z4 e5 k6 => lp rfl rfl (xa (.slice (some ⟨b1, 0, none⟩) 0 0) rfl) <| nx <| W_seq <| wr <| lp rfl rfl (xa (.int .i64 0) rfl) <| nx ?_
 obtain ⟨z10, L11, C12⟩ := bind_some H
 clear H
 refine  W_cutQ (fun s0 sQ wQ => ∃ (x5_13 : List (List UInt8)) (v14 : Value), Kp [(5, 8), (9, 38)] s0 sQ ∧ sQ 5 = v14 ∧ Ow 9 1 encS w2.heap.size wQ v14 x5_13 ∧ Ext w2 wQ ∧ z10 = .inr x5_13) ?_ ?_
 ·refine W_block <| W_loopI (fun s0 kk sQ wQ => ∃ (x5_7 : List (List UInt8)) (v8 : Value) (x6_9 : Int), Kp [(5, 8), (9, 38)] s0 sQ ∧ sQ 5 = v8 ∧ Ow 9 1 encS w2.heap.size wQ v8 x5_7 ∧ sQ 6 = .int .i64 x6_9 ∧ Ext w2 wQ ∧ loopF (spec_l04List.b1 a0 a1) kk (x5_7, x6_9) = some z10) k ⟨([] : List (List UInt8)), (.slice (some ⟨b1, 0, none⟩) 0 0), 0, kz, rfl, (Ow.zero), rfl, er, L11⟩ ?_
  rintro k19 s20 w21 ⟨x5_7, v8, x6_9, K22, h25, h26, h27, e23, L24⟩
  cases k19 with
  | zero => exact absurd L24 (by simp [loopF])
  | succ k19 =>
   obtain ⟨t28, H, S29⟩ := loopF_succ L24
   clear L24
   unfold spec_l04List.b1 at H
   refine W_seq <| wr <| lp rfl rfl (X_move h27) <| lp rfl rfl (xm v_a0 (K22 0 rfl)) <| lp rfl rfl (X_lenR Tryz.underlying29 rfl (Rd.ext f_a0 (e5.t e23))) <| lp rfl rfl (X_lss rfl rfl) <| nx ?_
   rcases bif_two H with ⟨q30, H⟩ | ⟨q30, H⟩
   ·refine W_true (cb q30) <| W_skip <| thn_n <| W_seq <| W_block <| wr <| lp rfl rfl (xm v_a0 (K22 0 rfl)) <| lp rfl rfl (X_move h27) ?_
    obtain ⟨c31, H⟩ := bif_some H
    refine L_idx (.plain rfl) rfl (ltb rfl) rfl Tryz.underlying29 Tryz.sizeOf60 rfl (Rd.ext f_a0 (e5.t e23)) rfl c31 <| fun p32 h33 => lp rfl rfl (X_fieldAddr Tryz.underlying60 rfl Tryz.sizeOf9 rfl rfl) <| lp rfl rfl (X_loadF Tryz.isAgg9 (j := 1) h33 rfl rfl) ?_
    obtain ⟨c34, H⟩ := bif_some H
    refine lc rfl rfl rfl Tryz.call161 (spec_l01Parent.calls (w := w21) (a0 := (gt a0 x6_9).path) (od c34)) rfl <| fun w35 e36 => lp rfl rfl (xm (S a1) (K22 1 rfl)) <| lp rfl rfl (X_seq rfl rfl) <| nx ?_
    rcases bif_two H with ⟨q37, H⟩ | ⟨q37, H⟩
    ·refine W_true (cb q37) <| wr <| lp rfl rfl (xm v_a0 (K22 0 rfl)) <| lp rfl rfl (X_move h27) ?_
     obtain ⟨c38, H⟩ := bif_some H
     refine L_idx (.plain rfl) rfl (ltb rfl) rfl Tryz.underlying29 Tryz.sizeOf60 rfl (Rd.ext f_a0 ((e5.t e23).t e36)) rfl c38 <| fun p39 h40 => lp rfl rfl (X_fieldAddr Tryz.underlying60 rfl Tryz.sizeOf9 rfl rfl) <| lp rfl rfl (X_loadF Tryz.isAgg9 (j := 1) h40 rfl rfl) ?_
     obtain ⟨c41, H⟩ := bif_some H
     refine L_callO (.plain rfl) rfl (ltb rfl) rfl Tryz.call209 (spec_l00Cut.calls (w := w35) (a0 := (gt a0 x6_9).path) (a1 := 47) (od c41)) rfl <| fun v44 w42 e43 o45 => lp rfl rfl (xa v44 rfl) <| nx <| W_reg <| lp rfl rfl (X_move h25) <| lp rfl rfl (xm v44 rfl) <| lp rfl rfl (xm v44 rfl) <| lp rfl rfl (X_lenR Tryz.underlying42 rfl (Ow.rd o45)) <| lp rfl rfl (X_sub rfl rfl) ?_
     obtain ⟨c46, H⟩ := bif_some H
     refine L_idx (.plain rfl) rfl (ltb rfl) rfl Tryz.underlying42 Tryz.sizeOf9 rfl (Ow.rd o45) rfl c46 <| fun p47 h48 => lp rfl rfl (X_loadAt Tryz.isAgg9 rfl h48 rfl) <| L_lit (.plain rfl) rfl (ltb rfl) rfl Tryz.underlying42 Tryz.sizeOf9 Tryz.zeroValue9 rfl rfl rfl (vs := [(S (gt (cut 47 ((gt a0 x6_9).path)) (IntKind.wrap .i64 (((cut 47 ((gt a0 x6_9).path)).length : Int) - 1))))]) rfl (lit_all rfl) <| fun b49 w50 z51 z52 e53 k54 => ?_
     obtain ⟨c55, H⟩ := bif_some H
     refine L_append (enc := encS) (.plain rfl) rfl (ltb rfl) rfl El.t42 rfl rfl (Ow.ext h26 ((e36.t e43).t e53)) (Ow.rd (Ow.new (xs := [gt (cut 47 ((gt a0 x6_9).path)) (IntKind.wrap .i64 (((cut 47 ((gt a0 x6_9).path)).length : Int) - 1))]) (sz := 1) (enc := encS) (base := w42.heap.size) k54 (Nat.le_of_eq z51) rfl (fun _ _ => by rfl) (Nat.le_of_ble_eq_true rfl))) (ones_S _) (od c55) ((((e23.t e36).t e43).t e53)).size <| fun v56 w57 o58 z59 g60 => lp rfl rfl (xa v56 rfl) <| L_nil <| blk_n <| thn_n <| W_reg <| lp rfl rfl (X_move h27) <| lp rfl rfl (X_add rfl rfl) <| lp rfl rfl (xa (.int .i64 (IntKind.wrap .i64 (x6_9 + 1))) rfl) <| nx ?_
     obtain rfl := si H
     exact ⟨_, Nat.lt_succ_self _, x5_7 ++ ([gt (cut 47 ((gt a0 x6_9).path)) (IntKind.wrap .i64 (((cut 47 ((gt a0 x6_9).path)).length : Int) - 1))] : List (List UInt8)), v56, IntKind.wrap .i64 (x6_9 + 1), (ku8 (ku8 (ku8 (ku8 K22 rfl) rfl) rfl) rfl), rfl, o58, rfl, (g60 _ (((e23.t e36).t e43).t e53)), S29⟩
    ·refine W_false (cb q37) <| W_skip <| blk_n <| thn_n <| W_reg <| lp rfl rfl (X_move h27) <| lp rfl rfl (X_add rfl rfl) <| lp rfl rfl (xa (.int .i64 (IntKind.wrap .i64 (x6_9 + 1))) rfl) <| nx ?_
     obtain rfl := si H
     exact ⟨_, Nat.lt_succ_self _, x5_7, v8, IntKind.wrap .i64 (x6_9 + 1), (ku3 (ku4 (ku8 K22 rfl) rfl) rfl), h25, (Ow.ext h26 e36), rfl, (e23.t e36), S29⟩
   ·refine W_false (cb q30) <| W_exit <| thn_x <| thn_x <| blk_x <| thn_n ?_
    obtain rfl := si H
    obtain rfl := si S29
    exact ⟨x5_7, v8, (ku4 K22 rfl), h25, h26, e23, rfl⟩
 ·rintro s16 w15 ⟨x5_13, v14, K17, h61, h62, e18, y63⟩
  rw [y63] at C12
  have H := C12
  replace H : _ = some _ := H
  refine thn_n <| wr <| lp rfl rfl (X_move h61) <| lp rfl rfl (xa v14 rfl) <| nx <| W_ret <| fin_r ?_
  obtain rfl := si H
  exact fin1o rfl (e5.t e18) h62 (e5).size
/-! spec.ListDir -/
theorem spec_ListDir.walk {w : World} {a0 : List Nd} {a1 : List UInt8} {v_a0 : Value} (f_a0 : Rd 4 encNd w v_a0 a0) {r : List (List UInt8) × Int} (H : spec_ListDir.sh a0 a1 = some r) :
  Calls Tryz.prog 63 #[v_a0, S a1] w (Rt (RT 9 1 encS w r.1 (.int .i64 r.2))) := by
 unfold spec_ListDir.sh at H
 refine calls_of_W Tryz.func63 rfl (Nat.le_of_ble_eq_true rfl) Tryz.ntmps63 rfl ?_
 refine wr <| lp rfl rfl (xa (.slice none 0 0) rfl) <| lp rfl rfl (xa (.int .i64 0) rfl) <| nx <| W_seq <| wr <| lp rfl rfl (xm v_a0 rfl) <| lp rfl rfl (X_lenR Tryz.underlying29 rfl f_a0) <| lp rfl rfl (X_gtr rfl rfl) <| lp rfl rfl (xm (.bool (decide (4096 < (a0.length : Int)))) rfl) <| L_grp 4 [(13, 17)] 16 (.bool ((decide (4096 < (a0.length : Int))) || (decide (65536 < (a1.length : Int))))) ?_ ?_
 ·rcases bool_two (decide (4096 < (a0.length : Int))) with b0_ | b0_
  ·exact ls rfl rfl rfl (cb b0_) rfl <| ls rfl rfl rfl (cb b0_) rfl <| ls rfl rfl rfl (cb b0_) rfl <| lp rfl rfl (X_pick (b := true) (v := (.bool true)) (cb b0_) rfl) <| nx ⟨(ku4 kz rfl), (or_t b0_), er⟩
  ·exact lg rfl rfl rfl rfl (cb b0_) (xm (S a1) rfl) <| lg rfl rfl rfl rfl (cb b0_) (X_lenS Tryz.underlying9 rfl) <| lg rfl rfl rfl rfl (cb b0_) (X_gtr rfl rfl) <| lp rfl rfl (X_pick (b := false) (v := (.bool (decide (65536 < (a1.length : Int))))) (cb b0_) rfl) <| nx ⟨(ku4 kz rfl), (or_f b0_), er⟩
 intro s6 w2 K3 h4 e5
 refine nx ?_
 rcases bif_two H with ⟨q7, H⟩ | ⟨q7, H⟩
 ·refine W_true (h4.trans (cb q7)) <| wr <| L_lit (.plain rfl) rfl (ltb rfl) rfl Tryz.underlying42 Tryz.sizeOf9 Tryz.zeroValue9 rfl rfl rfl (vs := []) rfl (lit_all rfl) <| fun b8 w9 z10 z11 e12 k13 => lp rfl rfl (xa (.slice (some ⟨b8, 0, none⟩) 0 0) rfl) <| lp rfl rfl (xa (.int .i64 2) rfl) <| nx <| W_ret <| thn_r <| fin_r ?_
  obtain rfl := si H
  exact fin2o rfl rfl (e5.t e12) (Ow.zero (base := w.heap.size)) (Nat.le_refl _)
 ·refine W_false (h4.trans (cb q7)) <| W_skip <| thn_n <| W_seq <| wr <| lp rfl rfl (xm v_a0 (K3 0 rfl)) <| lp rfl rfl (xm (S a1) (K3 1 rfl)) ?_
  obtain ⟨c14, H⟩ := bif_some H
  refine lc rfl rfl rfl Tryz.call167 (spec_l04Ask.calls (w := w2) (a0 := a0) (a1 := a1) (Rd.ext f_a0 e5) (od c14)) rfl <| fun w15 e16 => lp rfl rfl (xa (.int .i64 (askT a0 a1)) rfl) <| nx <| wr <| lp rfl rfl (xm (.int .i64 (askT a0 a1)) rfl) <| lp rfl rfl (X_neq rfl rfl) <| nx ?_
  rcases bif_two H with ⟨q17, H⟩ | ⟨q17, H⟩
  ·refine W_true (cb q17) <| wr <| L_lit (.plain rfl) rfl (ltb rfl) rfl Tryz.underlying42 Tryz.sizeOf9 Tryz.zeroValue9 rfl rfl rfl (vs := []) rfl (lit_all rfl) <| fun b18 w19 z20 z21 e22 k23 => lp rfl rfl (xm (.int .i64 (askT a0 a1)) rfl) <| lp rfl rfl (xa (.slice (some ⟨b18, 0, none⟩) 0 0) rfl) <| lp rfl rfl (xa (.int .i64 (askT a0 a1)) rfl) <| nx <| W_ret <| thn_r <| fin_r ?_
   obtain rfl := si H
   exact fin2o rfl rfl ((e5.t e16).t e22) (Ow.zero (base := w.heap.size)) (Nat.le_refl _)
  ·refine W_false (cb q17) <| W_skip <| thn_n <| W_seq <| wr <| lp rfl rfl (xm (S a1) (K3 1 rfl)) <| lp rfl rfl (X_seq rfl rfl) <| nx ?_
   rcases bif_two H with ⟨q24, H⟩ | ⟨q24, H⟩
   ·refine W_true (cb q24) <| wr <| lp rfl rfl (xm v_a0 (K3 0 rfl)) <| lp rfl rfl (xm (S a1) (K3 1 rfl)) ?_
    obtain ⟨c25, H⟩ := bif_some H
    obtain ⟨c26, H⟩ := bif_some H
    refine L_callO (.plain rfl) rfl (ltb rfl) rfl Tryz.call168 (spec_l04List.calls (w := w15) (a0 := a0) (a1 := a1) (Rd.ext f_a0 (e5.t e16)) (od c25) (od c26)) rfl <| fun v29 w27 e28 o30 => lp rfl rfl (xa v29 rfl) <| lp rfl rfl (xa (.int .i64 0) rfl) <| nx <| W_ret <| thn_r <| fin_r ?_
    obtain rfl := si H
    exact fin2o rfl rfl ((e5.t e16).t e28) o30 ((e5.t e16)).size
   ·refine W_false (cb q24) <| W_skip <| thn_n <| W_seq <| wr <| lp rfl rfl (xm (S a1) (K3 1 rfl)) <| lc rfl rfl rfl Tryz.call146 (spec_l01OK.calls (w := w15) (a0 := a1)) rfl <| fun w31 e32 => lp rfl rfl (X_not rfl) <| nx ?_
    rcases bif_two H with ⟨q33, H⟩ | ⟨q33, H⟩
    ·refine W_true (cb q33) <| wr <| L_lit (.plain rfl) rfl (ltb rfl) rfl Tryz.underlying42 Tryz.sizeOf9 Tryz.zeroValue9 rfl rfl rfl (vs := []) rfl (lit_all rfl) <| fun b34 w35 z36 z37 e38 k39 => lp rfl rfl (xa (.slice (some ⟨b34, 0, none⟩) 0 0) rfl) <| lp rfl rfl (xa (.int .i64 10) rfl) <| nx <| W_ret <| thn_r <| fin_r ?_
     obtain rfl := si H
     exact fin2o rfl rfl (((e5.t e16).t e32).t e38) (Ow.zero (base := w.heap.size)) (Nat.le_refl _)
    ·refine W_false (cb q33) <| W_skip <| thn_n <| wr <| lp rfl rfl (xm v_a0 (K3 0 rfl)) <| lp rfl rfl (xm (S a1) (K3 1 rfl)) ?_
     obtain ⟨c40, H⟩ := bif_some H
     obtain ⟨c41, H⟩ := bif_some H
     refine lc rfl rfl rfl Tryz.call160 (spec_l04Find.calls (w := w31) (a0 := a0) (a1 := a1) (Rd.ext f_a0 ((e5.t e16).t e32)) (od c40) (od c41)) rfl <| fun w42 e43 => lp rfl rfl (X_move rfl) <| lp rfl rfl (X_extract (v := (.agg (encNd ((findNd a0 a1).1)).toArray)) rfl rfl) <| lp rfl rfl (X_extract (v := (.int .i64 ((findNd a0 a1).2))) rfl rfl) <| L_alloc (.plain rfl) rfl (ltb rfl) rfl Tryz.zeroValue60 <| fun b44 w45 z46 z47 e48 k49 => L_storeA (.plain rfl) rfl rfl Tryz.sizeOf60 rfl rfl rfl rfl rfl k49 <| fun w50 h51 k52 => lp rfl rfl (xa (.int .i64 ((findNd a0 a1).2)) rfl) <| nx <| W_seq <| wr <| lp rfl rfl (xm (.int .i64 ((findNd a0 a1).2)) rfl) <| lp rfl rfl (X_neq rfl rfl) <| nx ?_
     rcases bif_two H with ⟨q53, H⟩ | ⟨q53, H⟩
     ·refine W_true (cb q53) <| wr <| L_lit (.plain rfl) rfl (ltb rfl) rfl Tryz.underlying42 Tryz.sizeOf9 Tryz.zeroValue9 rfl rfl rfl (vs := []) rfl (lit_all rfl) <| fun b54 w55 z56 z57 e58 k59 => lp rfl rfl (xm (.int .i64 ((findNd a0 a1).2)) rfl) <| lp rfl rfl (xa (.slice (some ⟨b54, 0, none⟩) 0 0) rfl) <| lp rfl rfl (xa (.int .i64 ((findNd a0 a1).2)) rfl) <| nx <| W_ret <| thn_r <| fin_r ?_
      obtain rfl := si H
      exact fin2o rfl rfl (((((e5.t e16).t e32).t e43).t (Below.trans e48 (Wr.below h51 (Nat.le_of_eq z46)))).t e58) (Ow.zero (base := w.heap.size)) (Nat.le_refl _)
     ·refine W_false (cb q53) <| W_skip <| thn_n <| W_seq <| wr <| lp rfl rfl (X_fieldAddr Tryz.underlying60 rfl Tryz.sizeOf3 rfl rfl) <| lp rfl rfl (X_loadB Tryz.isAgg3 k52 rfl rfl) <| lp rfl rfl (X_neq rfl rfl) <| nx ?_
      rcases bif_two H with ⟨q60, H⟩ | ⟨q60, H⟩
      ·refine W_true (cb q60) <| wr <| L_lit (.plain rfl) rfl (ltb rfl) rfl Tryz.underlying42 Tryz.sizeOf9 Tryz.zeroValue9 rfl rfl rfl (vs := []) rfl (lit_all rfl) <| fun b61 w62 z63 z64 e65 k66 => lp rfl rfl (xa (.slice (some ⟨b61, 0, none⟩) 0 0) rfl) <| lp rfl rfl (xa (.int .i64 13) rfl) <| nx <| W_ret <| thn_r <| fin_r ?_
       obtain rfl := si H
       exact fin2o rfl rfl (((((e5.t e16).t e32).t e43).t (Below.trans e48 (Wr.below h51 (Nat.le_of_eq z46)))).t e65) (Ow.zero (base := w.heap.size)) (Nat.le_refl _)
      ·refine W_false (cb q60) <| W_skip <| thn_n <| wr <| lp rfl rfl (xm v_a0 (K3 0 rfl)) <| lp rfl rfl (xm (S a1) (K3 1 rfl)) ?_
       obtain ⟨c67, H⟩ := bif_some H
       obtain ⟨c68, H⟩ := bif_some H
       refine L_callO (.plain rfl) rfl (ltb rfl) rfl Tryz.call168 (spec_l04List.calls (w := w50) (a0 := a0) (a1 := a1) (Rd.ext f_a0 ((((e5.t e16).t e32).t e43).t (Below.trans e48 (Wr.below h51 (Nat.le_of_eq z46))))) (od c67) (od c68)) rfl <| fun v71 w69 e70 o72 => lp rfl rfl (xa v71 rfl) <| lp rfl rfl (xa (.int .i64 0) rfl) <| nx <| W_ret <| fin_r ?_
       obtain rfl := si H
       exact fin2o rfl rfl (((((e5.t e16).t e32).t e43).t (Below.trans e48 (Wr.below h51 (Nat.le_of_eq z46)))).t e70) o72 (((((e5.t e16).t e32).t e43).t (Below.trans e48 (Wr.below h51 (Nat.le_of_eq z46))))).size
theorem spec_ListDir.calls {w : World} {a0 : List Nd} {a1 : List UInt8} {v_a0 : Value} (f_a0 : Rd 4 encNd w v_a0 a0) (h0 : a0.length ≤ 1048576) (h1 : ∀ x ∈ a0, x.path.length ≤ 1048576) :
  Calls Tryz.prog 63 #[v_a0, S a1] w (Rt (RT 9 1 encS w ((listDir a0 a1).1) (.int .i64 ((listDir a0 a1).2)))) := spec_ListDir.walk f_a0 (spec_ListDir.eq a0 a1 h0 h1)
/-! impl.last -/
theorem impl_last.calls {w : World} {a0 : List UInt8} (h0 : a0.length ≤ 1048576) :
  Calls Tryz.prog 166 #[S a0] w (Rt (RP w (S (lastP a0)))) := by
 have H := impl_last.eq a0 h0
 generalize (lastP a0) = r at H ⊢
 unfold impl_last.sh at H
 refine calls_of_W Tryz.func166 rfl (Nat.le_of_ble_eq_true rfl) Tryz.ntmps166 rfl ?_
 refine wr <| lp rfl rfl (xa (S ([] : List UInt8)) rfl) <| nx <| wr <| lp rfl rfl (xm (S a0) rfl) <| lp rfl rfl (xm (S a0) rfl) ?_
 obtain ⟨c1, H⟩ := bif_some H
 obtain ⟨c2, H⟩ := bif_some H
 refine lc rfl rfl rfl Tryz.call226 (strings_LastIndex.calls (w := w) (a0 := a0) (a1 := ([47] : List UInt8)) (od c1) (od c2)) rfl <| fun w3 e4 => lp rfl rfl (X_add rfl rfl) ?_
 obtain ⟨c5, H⟩ := bif_some H
 refine lp rfl rfl (X_sliceS Tryz.underlying9 rfl (l := IntKind.wrap .i64 ((lastSlash a0) + 1)) (h := (a0.length : Int)) ⟨_, rfl⟩ rfl (inS_1 c5) (inS_2 c5) (inS_3 c5)) <| lp rfl rfl (X_assign rfl) <| nx <| W_ret <| fin_r ?_
 obtain rfl := si H
 exact fin1 rfl e4
/-! impl.ListDir -/
theorem impl_ListDir.walk {k : Nat} {w : World} {a0 : List Nd} {a1 : List UInt8} (gv : GV 0 w) {v_a0 : Value} (f_a0 : Rd 4 encNd w v_a0 a0) {r : List (List UInt8) × Int} (H : impl_ListDir.sh k a0 a1 = some r) :
  Calls Tryz.prog 62 #[v_a0, S a1] w (Rt (RT 9 1 encS w r.1 (.int .i64 r.2))) := by
 unfold impl_ListDir.sh at H
 refine calls_of_W Tryz.func62 rfl (Nat.le_of_ble_eq_true rfl) Tryz.ntmps62 rfl ?_
 refine wr <| lp rfl rfl (xa (.slice none 0 0) rfl) <| lp rfl rfl (xa (.int .i64 0) rfl) <| nx <| W_seq <| wr <| lp rfl rfl (xm (S a1) rfl) <| L_lit (.plain rfl) rfl (ltb rfl) rfl Tryz.underlying42 Tryz.sizeOf9 Tryz.zeroValue9 rfl rfl rfl (vs := [(S a1)]) rfl (lit_all rfl) <| fun b1 w2 z3 z4 e5 k6 => ?_
 obtain ⟨c7, H⟩ := bif_some H
 refine lc rfl rfl rfl Tryz.call149 (impl_isLong.calls (w := w2) (a0 := ([a1] : List (List UInt8))) (Ow.rd (Ow.new (xs := [a1]) (sz := 1) (enc := encS) (base := w.heap.size) k6 (Nat.le_of_eq z3) rfl (fun _ _ => by rfl) (Nat.le_of_ble_eq_true rfl))) (od c7)) rfl <| fun w8 e9 => lp rfl rfl (X_move rfl) <| L_grp 3 [(16, 19)] 18 (.bool ((([a1] : List (List UInt8)).any fun t => decide (65536 < t.length)) || (decide (4096 < a0.length)))) ?_ ?_
 ·rcases bool_two (([a1] : List (List UInt8)).any fun t => decide (65536 < t.length)) with b9_ | b9_
  ·exact ls rfl rfl rfl (cb b9_) rfl <| ls rfl rfl rfl (cb b9_) rfl <| lp rfl rfl (X_pick (b := true) (v := (.bool true)) (cb b9_) rfl) <| nx ⟨(ku3 kz rfl), (or_t b9_), er⟩
  ·exact lg rfl rfl rfl rfl (cb b9_) (xm v_a0 rfl) <| L_callP (tg rfl rfl rfl (cb b9_)) rfl (ltb rfl) rfl Tryz.call127 (impl_isLongListN.calls (w := w8) (a0 := a0) (Rd.ext f_a0 (e5.t e9))) rfl <| fun w11 e12 => lp rfl rfl (X_pick (b := false) (v := (.bool (decide (4096 < a0.length)))) (cb b9_) rfl) <| nx ⟨(ku3 kz rfl), (or_f b9_), e12⟩
 intro s15 w11 K12 h13 e14
 refine lp rfl rfl (X_mkiface Tryz.underlying4 rfl h13) <| lp rfl rfl (X_mkiface Tryz.underlying3 rfl rfl) <| lp rfl rfl (xm v_a0 (K12 0 rfl)) ?_
 obtain ⟨c16, H⟩ := bif_some H
 obtain ⟨c17, H⟩ := bif_some H
 refine lc rfl rfl rfl Tryz.call43 (impl_TreeOK.calls (w := w11) (a0 := a0) (GV.ext gv ((e5.t e9).t e14)) (Rd.ext f_a0 ((e5.t e9).t e14)) (od c16) (od c17)) rfl <| fun w18 e19 => lp rfl rfl (X_not rfl) <| lp rfl rfl (X_mkiface Tryz.underlying4 rfl rfl) <| lp rfl rfl (X_mkiface Tryz.underlying3 rfl rfl) <| lp rfl rfl (xm (S a1) (K12 1 rfl)) <| lc rfl rfl rfl Tryz.call165 (impl_isPlace.calls (w := w18) (a0 := a1) (GV.ext gv (((e5.t e9).t e14).t e19))) rfl <| fun w20 e21 => lp rfl rfl (X_not rfl) <| lp rfl rfl (X_mkiface Tryz.underlying4 rfl rfl) <| lp rfl rfl (X_mkiface Tryz.underlying3 rfl rfl) <| L_lit (.plain rfl) rfl (ltb rfl) rfl Tryz.underlying171 Tryz.sizeOf20 Tryz.zeroValue20 rfl rfl rfl (vs := [(.iface 4 (.bool ((([a1] : List (List UInt8)).any fun t => decide (65536 < t.length)) || (decide (4096 < a0.length))))), (.iface 3 (.int .i64 2)), (.iface 4 (.bool (!(treeOK a0)))), (.iface 3 (.int .i64 1)), (.iface 4 (.bool (!(decide (a1 = []) || pathOK a1)))), (.iface 3 (.int .i64 10))]) rfl (lit_all rfl) <| fun b22 w23 z24 z25 e26 k27 => ?_
 obtain ⟨c28, H⟩ := bif_some H
 obtain ⟨z31, x32, H⟩ := bind_some H
 replace x32 := si x32
 refine lc rfl rfl rfl Tryz.call125 (impl_first.calls (w := w23) (a0 := ([.inl ((([a1] : List (List UInt8)).any fun t => decide (65536 < t.length)) || (decide (4096 < a0.length))), .inr 2, .inl (!(treeOK a0)), .inr 1, .inl (!(decide (a1 = []) || pathOK a1)), .inr 10] : List (Bool ⊕ Int))) (Ow.rd (Ow.new (xs := [.inl ((([a1] : List (List UInt8)).any fun t => decide (65536 < t.length)) || (decide (4096 < a0.length))), .inr 2, .inl (!(treeOK a0)), .inr 1, .inl (!(decide (a1 = []) || pathOK a1)), .inr 10]) (sz := 1) (enc := (encAny 4 3)) (base := w20.heap.size) k27 (Nat.le_of_eq z24) rfl (fun _ _ => by first | rfl | exact encAny_len _ _ _) (Nat.le_of_ble_eq_true rfl))) (od c28)) rfl <| fun w29 e30 => lp rfl rfl (xa (.int .i64 z31) (congrArg (Value.int .i64) x32)) <| nx <| wr <| lp rfl rfl (xm (.int .i64 z31) rfl) <| lp rfl rfl (X_neq rfl rfl) <| nx ?_
 rcases bif_two H with ⟨q33, H⟩ | ⟨q33, H⟩
 ·refine W_true (cb q33) <| wr <| lp rfl rfl (xm (.int .i64 z31) rfl) <| lp rfl rfl (xa (.slice none 0 0) rfl) <| lp rfl rfl (xa (.int .i64 z31) rfl) <| nx <| W_ret <| thn_r <| fin_r ?_
  obtain rfl := si H
  exact fin2o rfl rfl ((((((e5.t e9).t e14).t e19).t e21).t e26).t e30) (Ow.zero (base := w.heap.size)) (Nat.le_refl _)
 ·refine W_false (cb q33) <| W_skip <| thn_n <| W_seq <| wr <| lp rfl rfl (xm (S a1) (K12 1 rfl)) <| lp rfl rfl (X_sne rfl rfl) <| nx ?_
  obtain ⟨z34, L35, C36⟩ := bind_some H
  clear H
  refine W_cutQ (fun s0 sQ wQ => Kp [(4, 6), (7, 9), (38, 57)] s0 sQ ∧ Ext w29 wQ ∧ z34 = .inr ()) ?_ ?_
  ·have H := L35
   rcases bif_two H with ⟨q37, H⟩ | ⟨q37, H⟩
   ·refine W_true (cb q37) <| wr <| lp rfl rfl (xm v_a0 (K12 0 rfl)) <| lp rfl rfl (xm (S a1) (K12 1 rfl)) ?_
    obtain ⟨c38, H⟩ := bif_some H
    obtain ⟨c39, H⟩ := bif_some H
    refine lc rfl rfl rfl Tryz.call155 (impl_resolve.calls (w := w29) (a0 := a0) (a1 := a1) (Rd.ext f_a0 ((((((e5.t e9).t e14).t e19).t e21).t e26).t e30)) (od c38) (od c39)) rfl <| fun w40 e41 => lp rfl rfl (X_move rfl) <| lp rfl rfl (X_extract (v := (.int .i64 ((resolveT a0 a1).1))) rfl rfl) <| lp rfl rfl (X_extract (v := (.int .i64 ((resolveT a0 a1).2))) rfl rfl) <| lp rfl rfl (xa (.int .i64 ((resolveT a0 a1).1)) rfl) <| lp rfl rfl (xa (.int .i64 ((resolveT a0 a1).2)) rfl) <| nx <| W_seq <| wr <| lp rfl rfl (xm (.int .i64 ((resolveT a0 a1).2)) rfl) <| lp rfl rfl (X_eql rfl rfl) <| lp rfl rfl (xm (.bool (decide (((resolveT a0 a1).2) = 0))) rfl) ?_
    obtain ⟨z43, x44, H⟩ := bind_some H
    refine L_grpE 7 [(47, 54)] 53 (fun q => q = z43) ?_ ?_
    ·rcases bif_two x44 with ⟨b41_, H⟩ | ⟨b41_, H⟩
     ·refine lg rfl rfl rfl rfl (cb b41_) (xm v_a0 (K12 0 rfl)) <| lg rfl rfl rfl rfl (cb b41_) (xm (.int .i64 ((resolveT a0 a1).1)) rfl) ?_
      obtain ⟨c43, H⟩ := bif_some H
      refine L_idx (tg rfl rfl rfl (cb b41_)) rfl (ltb rfl) rfl Tryz.underlying29 Tryz.sizeOf60 rfl (Rd.ext f_a0 (((((((e5.t e9).t e14).t e19).t e21).t e26).t e30).t e41)) rfl c43 <| fun p44 h45 => lg rfl rfl rfl rfl (cb b41_) (X_fieldAddr Tryz.underlying60 rfl Tryz.sizeOf3 rfl rfl) <| lg rfl rfl rfl rfl (cb b41_) (X_loadF Tryz.isAgg3 (j := 0) h45 rfl rfl) <| lg rfl rfl rfl rfl (cb b41_) (X_neq rfl rfl) <| lp rfl rfl (X_pick (b := true) (v := (.bool (!decide (((gt a0 ((resolveT a0 a1).1)).kind) = 3)))) (cb b41_) rfl) ?_
      obtain rfl := si H
      exact nx ⟨(ku3 (ku4 kz rfl) rfl), ⟨_, rfl, rfl⟩, er⟩
     ·refine ls rfl rfl rfl (cb b41_) rfl <| ls rfl rfl rfl (cb b41_) rfl <| ls rfl rfl rfl (cb b41_) rfl <| ls rfl rfl rfl (cb b41_) rfl <| ls rfl rfl rfl (cb b41_) rfl <| ls rfl rfl rfl (cb b41_) rfl <| lp rfl rfl (X_pick (b := false) (v := (.bool false)) (cb b41_) rfl) ?_
      obtain rfl := si H
      exact nx ⟨(ku3 (ku4 kz rfl) rfl), ⟨_, rfl, rfl⟩, er⟩
    intro s49 w45 z50 K46 hq h47 e48
    rw [hq] at h47; clear hq
    refine nx ?_
    rcases bif_two H with ⟨q51, H⟩ | ⟨q51, H⟩
    ·refine W_true (h47.trans (cb q51)) <| W_reg <| lp rfl rfl (xa (.int .i64 13) rfl) <| nx <| wr <| lp rfl rfl (xm (.int .i64 13) rfl) <| lp rfl rfl (X_neq rfl rfl) <| nx ?_
     rcases bif_two H with ⟨q52, H⟩ | ⟨q52, H⟩
     ·refine W_true (cb q52) <| wr <| lp rfl rfl (xm (.int .i64 13) rfl) <| lp rfl rfl (xa (.slice none 0 0) rfl) <| lp rfl rfl (xa (.int .i64 13) rfl) <| nx <| W_ret <| thn_r <| thn_r <| fin_r ?_
      obtain rfl := si H
      have H := C36
      obtain rfl := si H
      exact fin2o rfl rfl ((((((((e5.t e9).t e14).t e19).t e21).t e26).t e30).t e41).t e48) (Ow.zero (base := w.heap.size)) (Nat.le_refl _)
     ·refine W_false (cb q52) <| W_skip <| thn_n ?_
      obtain rfl := si H
      exact ⟨(ku3 (Kp.cut (ku3 (ku8 kz rfl) rfl) K46 rfl) rfl), (e41.t e48), rfl⟩
    ·refine W_false (h47.trans (cb q51)) <| W_skip <| thn_n <| wr <| lp rfl rfl (xm (.int .i64 ((resolveT a0 a1).2)) (K46 8 rfl)) <| lp rfl rfl (X_neq rfl rfl) <| nx ?_
     rcases bif_two H with ⟨q53, H⟩ | ⟨q53, H⟩
     ·refine W_true (cb q53) <| wr <| lp rfl rfl (xm (.int .i64 ((resolveT a0 a1).2)) (K46 8 rfl)) <| lp rfl rfl (xa (.slice none 0 0) rfl) <| lp rfl rfl (xa (.int .i64 ((resolveT a0 a1).2)) rfl) <| nx <| W_ret <| thn_r <| thn_r <| fin_r ?_
      obtain rfl := si H
      have H := C36
      obtain rfl := si H
      exact fin2o rfl rfl ((((((((e5.t e9).t e14).t e19).t e21).t e26).t e30).t e41).t e48) (Ow.zero (base := w.heap.size)) (Nat.le_refl _)
     ·refine W_false (cb q53) <| W_skip <| thn_n ?_
      obtain rfl := si H
      exact ⟨(ku2 (Kp.cut (ku3 (ku8 kz rfl) rfl) K46 rfl) rfl), (e41.t e48), rfl⟩
   ·refine W_false (cb q37) <| W_skip <| thn_n ?_
    obtain rfl := si H
    exact ⟨kz, er, rfl⟩
  ·rintro s55 w54 ⟨K56, e57, y58⟩
   rw [y58] at C36
   have H := C36
   refine thn_n <| wr <| L_lit (.plain rfl) rfl (ltb rfl) rfl Tryz.underlying42 Tryz.sizeOf9 Tryz.zeroValue9 rfl rfl rfl (vs := []) rfl (lit_all rfl) <| fun b59 w60 z61 z62 e63 k64 => lp rfl rfl (xa (.slice (some ⟨b59, 0, none⟩) 0 0) rfl) <| nx <| W_seq <| wr <| lp rfl rfl (xm v_a0 ((K56 0 rfl).trans (K12 0 rfl))) <| lp rfl rfl (X_lenR Tryz.underlying29 rfl (Rd.ext f_a0 ((((((((e5.t e9).t e14).t e19).t e21).t e26).t e30).t e57).t e63))) <| lp rfl rfl (xm (.int .i64 0) rfl) <| nx ?_
   obtain ⟨z68, L69, C70⟩ := bind_some H
   clear H
   refine  W_cutQ (fun s0 sQ wQ => ∃ (x9_71 : List (List UInt8)) (v72 : Value), Kp [(9, 10), (11, 12), (60, 76)] s0 sQ ∧ sQ 9 = v72 ∧ Ow 9 1 encS w60.heap.size wQ v72 x9_71 ∧ Ext w60 wQ ∧ z68 = .inr x9_71) ?_ ?_
   ·refine W_block <| W_loopI (fun s0 kk sQ wQ => ∃ (x9_65 : List (List UInt8)) (v66 : Value) (x60_67 : Int), Kp [(9, 10), (11, 12), (60, 76)] s0 sQ ∧ sQ 9 = v66 ∧ Ow 9 1 encS w60.heap.size wQ v66 x9_65 ∧ sQ 60 = .int .i64 x60_67 ∧ Ext w60 wQ ∧ loopF (impl_ListDir.b1 a0 a1) kk (x9_65, x60_67) = some z68) k ⟨([] : List (List UInt8)), (.slice (some ⟨b59, 0, none⟩) 0 0), 0, kz, rfl, (Ow.zero), rfl, er, L69⟩ ?_
    rintro k77 s78 w79 ⟨x9_65, v66, x60_67, K80, h83, h84, h85, e81, L82⟩
    cases k77 with
    | zero => exact absurd L82 (by simp [loopF])
    | succ k77 =>
     obtain ⟨t86, H, S87⟩ := loopF_succ L82
     clear L82
     unfold impl_ListDir.b1 at H
     refine wr <| lp rfl rfl (X_lss h85 (K80 59 rfl)) <| nx <| W_seq ?_
     rcases bif_two H with ⟨q88, H⟩ | ⟨q88, H⟩
     ·refine W_true (cb q88) <| W_skip <| thn_n <| W_seq <| W_block <| wr ?_
      obtain ⟨c89, H⟩ := bif_some H
      refine L_idx (.plain rfl) rfl (ltb rfl) rfl Tryz.underlying29 Tryz.sizeOf60 (K80 58 rfl) (Rd.ext f_a0 (((((((((e5.t e9).t e14).t e19).t e21).t e26).t e30).t e57).t e63).t e81)) h85 c89 <| fun p90 h91 => lp rfl rfl (X_loadS Tryz.isAgg60 Tryz.sizeOf60 rfl rfl h91) <| L_alloc (.plain rfl) rfl (ltb rfl) rfl Tryz.zeroValue60 <| fun b92 w93 z94 z95 e96 k97 => L_storeA (.plain rfl) rfl rfl Tryz.sizeOf60 rfl rfl rfl rfl rfl k97 <| fun w98 h99 k100 => nx <| wr <| lp rfl rfl (X_fieldAddr Tryz.underlying60 rfl Tryz.sizeOf9 rfl rfl) <| lp rfl rfl (X_loadB Tryz.isAgg9 k100 rfl rfl) ?_
      obtain ⟨c101, H⟩ := bif_some H
      refine lc rfl rfl rfl Tryz.call143 (impl_parent.calls (w := w98) (a0 := (gt a0 x60_67).path) (od c101)) rfl <| fun w102 e103 => lp rfl rfl (xm (S a1) ((K80 1 rfl).trans ((K56 1 rfl).trans (K12 1 rfl)))) <| lp rfl rfl (X_seq rfl rfl) <| nx ?_
      rcases bif_two H with ⟨q104, H⟩ | ⟨q104, H⟩
      ·refine W_true (cb q104) <| W_reg <| lp rfl rfl (X_move h83) <| lp rfl rfl (X_fieldAddr Tryz.underlying60 rfl Tryz.sizeOf9 rfl rfl) <| lp rfl rfl (X_loadB Tryz.isAgg9 (Blk.ext k100 e103) rfl rfl) ?_
       obtain ⟨c105, H⟩ := bif_some H
       refine lc rfl rfl rfl Tryz.call166 (impl_last.calls (w := w102) (a0 := (gt a0 x60_67).path) (od c105)) rfl <| fun w106 e107 => L_lit (.plain rfl) rfl (ltb rfl) rfl Tryz.underlying42 Tryz.sizeOf9 Tryz.zeroValue9 rfl rfl rfl (vs := [(S (lastP ((gt a0 x60_67).path)))]) rfl (lit_all rfl) <| fun b108 w109 z110 z111 e112 k113 => ?_
       obtain ⟨c114, H⟩ := bif_some H
       refine L_append (enc := encS) (.plain rfl) rfl (ltb rfl) rfl El.t42 rfl rfl (Ow.ext h84 (Ext.trans (Ext.trans (Ext.trans (Below.trans e96 (Wr.below h99 (Nat.le_of_eq z94))) e103) e107) e112)) (Ow.rd (Ow.new (xs := [(lastP ((gt a0 x60_67).path))]) (sz := 1) (enc := encS) (base := w106.heap.size) k113 (Nat.le_of_eq z110) rfl (fun _ _ => by rfl) (Nat.le_of_ble_eq_true rfl))) (ones_S _) (od c114) (((((e81.t (Below.trans e96 (Wr.below h99 (Nat.le_of_eq z94)))).t e103).t e107).t e112)).size <| fun v115 w116 o117 z118 g119 => lp rfl rfl (xa v115 rfl) <| L_nil <| blk_n <| thn_n <| W_reg <| lp rfl rfl (X_add h85 rfl) <| lp rfl rfl (xm (.int .i64 (IntKind.wrap .i64 (x60_67 + 1))) rfl) <| nx ?_
       obtain rfl := si H
       exact ⟨_, Nat.lt_succ_self _, x9_65 ++ ([(lastP ((gt a0 x60_67).path))] : List (List UInt8)), v115, IntKind.wrap .i64 (x60_67 + 1), (ku2 (ku8 (ku8 K80 rfl) rfl) rfl), rfl, o117, rfl, (g119 _ ((((e81.t (Below.trans e96 (Wr.below h99 (Nat.le_of_eq z94)))).t e103).t e107).t e112)), S87⟩
      ·refine W_false (cb q104) <| W_skip <| blk_n <| thn_n <| W_reg <| lp rfl rfl (X_add h85 rfl) <| lp rfl rfl (xm (.int .i64 (IntKind.wrap .i64 (x60_67 + 1))) rfl) <| nx ?_
       obtain rfl := si H
       exact ⟨_, Nat.lt_succ_self _, x9_65, v66, IntKind.wrap .i64 (x60_67 + 1), (ku3 (ku8 K80 rfl) rfl), h83, (Ow.ext h84 (Ext.trans (Below.trans e96 (Wr.below h99 (Nat.le_of_eq z94))) e103)), rfl, ((e81.t (Below.trans e96 (Wr.below h99 (Nat.le_of_eq z94)))).t e103), S87⟩
     ·refine W_false (cb q88) <| W_exit <| thn_x <| thn_x <| blk_x <| thn_n ?_
      obtain rfl := si H
      obtain rfl := si S87
      exact ⟨x9_65, v66, (ku1 K80 rfl), h83, h84, e81, rfl⟩
   ·rintro s74 w73 ⟨x9_71, v72, K75, h120, h121, e76, y122⟩
    rw [y122] at C70
    have H := C70
    replace H : _ = some _ := H
    refine thn_n <| wr <| lp rfl rfl (X_move h120) <| lp rfl rfl (xa v72 rfl) <| lp rfl rfl (xa (.int .i64 0) rfl) <| nx <| W_ret <| fin_r ?_
    obtain rfl := si H
    exact fin2o rfl rfl (((((((((e5.t e9).t e14).t e19).t e21).t e26).t e30).t e57).t e63).t e76) h121 (((((((((e5.t e9).t e14).t e19).t e21).t e26).t e30).t e57).t e63)).size
theorem impl_ListDir.calls {w : World} {a0 : List Nd} {a1 : List UInt8} (gv : GV 0 w) {v_a0 : Value} (f_a0 : Rd 4 encNd w v_a0 a0) (h0 : a0.length ≤ 1048576) (h1 : ∀ x ∈ a0, x.path.length ≤ 1048576) :
  Calls Tryz.prog 62 #[v_a0, S a1] w (Rt (RT 9 1 encS w ((listDir a0 a1).1) (.int .i64 ((listDir a0 a1).2)))) := by
 obtain ⟨k, h⟩ := impl_ListDir.eq a0 a1 h0 h1
 exact impl_ListDir.walk gv f_a0 h
/-! spec.l04Without -/
theorem spec_l04Without.calls {w : World} {a0 : List Nd} {a1 : List UInt8} {a2 : Bool} {v_a0 : Value} (f_a0 : Rd 4 encNd w v_a0 a0) (h0 : a0.length ≤ 1048576) :
  Calls Tryz.prog 170 #[v_a0, S a1, .bool a2] w (Rt (RO 60 4 encNd w (without a0 a1 a2))) := by
 obtain ⟨k, H⟩ := spec_l04Without.eq a0 a1 a2 h0
 generalize (without a0 a1 a2) = r at H ⊢
 unfold spec_l04Without.sh at H
 refine calls_of_W Tryz.func170 rfl (Nat.le_of_ble_eq_true rfl) Tryz.ntmps170 rfl ?_
 refine wr <| lp rfl rfl (xa (.slice none 0 0) rfl) <| nx <| wr <| L_lit (.plain rfl) rfl (ltb rfl) rfl Tryz.underlying29 Tryz.sizeOf60 Tryz.zeroValue60 rfl rfl rfl (vs := []) rfl (lit_all rfl) <| fun b1 w2 z3 z4 e5 k6 => lp rfl rfl (xa (.slice (some ⟨b1, 0, none⟩) 0 0) rfl) <| nx <| W_seq <| wr <| lp rfl rfl (xa (.int .i64 0) rfl) <| nx ?_
 obtain ⟨z10, L11, C12⟩ := bind_some H
 clear H
 refine  W_cutQ (fun s0 sQ wQ => ∃ (x7_13 : List Nd) (v14 : Value), Kp [(7, 9), (10, 44)] s0 sQ ∧ sQ 7 = v14 ∧ Ow 60 4 encNd w2.heap.size wQ v14 x7_13 ∧ Ext w2 wQ ∧ z10 = .inr x7_13) ?_ ?_
 ·refine W_block <| W_loopI (fun s0 kk sQ wQ => ∃ (x7_7 : List Nd) (v8 : Value) (x8_9 : Int), Kp [(7, 9), (10, 44)] s0 sQ ∧ sQ 7 = v8 ∧ Ow 60 4 encNd w2.heap.size wQ v8 x7_7 ∧ sQ 8 = .int .i64 x8_9 ∧ Ext w2 wQ ∧ loopF (spec_l04Without.b1 a0 a1 a2) kk (x7_7, x8_9) = some z10) k ⟨([] : List Nd), (.slice (some ⟨b1, 0, none⟩) 0 0), 0, kz, rfl, (Ow.zero), rfl, er, L11⟩ ?_
  rintro k19 s20 w21 ⟨x7_7, v8, x8_9, K22, h25, h26, h27, e23, L24⟩
  cases k19 with
  | zero => exact absurd L24 (by simp [loopF])
  | succ k19 =>
   obtain ⟨t28, H, S29⟩ := loopF_succ L24
   clear L24
   unfold spec_l04Without.b1 at H
   refine W_seq <| wr <| lp rfl rfl (X_move h27) <| lp rfl rfl (xm v_a0 (K22 0 rfl)) <| lp rfl rfl (X_lenR Tryz.underlying29 rfl (Rd.ext f_a0 (e5.t e23))) <| lp rfl rfl (X_lss rfl rfl) <| nx ?_
   rcases bif_two H with ⟨q30, H⟩ | ⟨q30, H⟩
   ·refine W_true (cb q30) <| W_skip <| thn_n <| W_seq <| W_block <| wr <| lp rfl rfl (xm v_a0 (K22 0 rfl)) <| lp rfl rfl (X_move h27) ?_
    obtain ⟨c31, H⟩ := bif_some H
    refine L_idx (.plain rfl) rfl (ltb rfl) rfl Tryz.underlying29 Tryz.sizeOf60 rfl (Rd.ext f_a0 (e5.t e23)) rfl c31 <| fun p32 h33 => lp rfl rfl (X_fieldAddr Tryz.underlying60 rfl Tryz.sizeOf9 rfl rfl) <| lp rfl rfl (X_loadF Tryz.isAgg9 (j := 1) h33 rfl rfl) <| lp rfl rfl (xm (S a1) (K22 1 rfl)) <| lc rfl rfl rfl Tryz.call171 (spec_l01Below.calls (w := w21) (a0 := (gt a0 x8_9).path) (a1 := a1)) rfl <| fun w34 e35 => lp rfl rfl (X_not rfl) <| lp rfl rfl (X_move rfl) ?_
    obtain ⟨z37, x38, H⟩ := bind_some H
    refine L_grpE 12 [(25, 37)] 36 (fun q => q = z37) ?_ ?_
    ·rcases bif_two x38 with ⟨b35_, H⟩ | ⟨b35_, H⟩
     ·refine lg rfl rfl rfl rfl (cb b35_) (xm (.bool a2) (K22 2 rfl)) <| lg rfl rfl rfl rfl (cb b35_) (X_not rfl) <| lg rfl rfl rfl rfl (cb b35_) (xm (.bool (!a2)) rfl) ?_
      obtain ⟨z38, x39, H⟩ := bind_some H
      refine L_grpE 8 [(28, 36)] 35 (fun q => q = z38) ?_ ?_
      ·rcases bif_two x39 with ⟨b36_, H⟩ | ⟨b36_, H⟩
       ·refine ls rfl rfl rfl (cb b36_) rfl <| ls rfl rfl rfl (cb b36_) rfl <| ls rfl rfl rfl (cb b36_) rfl <| ls rfl rfl rfl (cb b36_) rfl <| ls rfl rfl rfl (cb b36_) rfl <| ls rfl rfl rfl (cb b36_) rfl <| ls rfl rfl rfl (cb b36_) rfl <| lg rfl rfl rfl rfl (cb b35_) (X_pick (b := true) (v := (.bool true)) (cb b36_) rfl) ?_
        obtain rfl := si H
        exact nx ⟨(ku8 kz rfl), ⟨_, rfl, rfl⟩, er⟩
       ·refine lg rfl rfl rfl rfl (cb b36_) (xm v_a0 (K22 0 rfl)) <| lg rfl rfl rfl rfl (cb b36_) (X_move h27) ?_
        obtain ⟨c38, H⟩ := bif_some H
        refine L_idx (tg rfl rfl rfl (cb b36_)) rfl (ltb rfl) rfl Tryz.underlying29 Tryz.sizeOf60 rfl (Rd.ext f_a0 ((e5.t e23).t e35)) rfl c38 <| fun p39 h40 => lg rfl rfl rfl rfl (cb b36_) (X_fieldAddr Tryz.underlying60 rfl Tryz.sizeOf9 rfl rfl) <| lg rfl rfl rfl rfl (cb b36_) (X_loadF Tryz.isAgg9 (j := 1) h40 rfl rfl) <| lg rfl rfl rfl rfl (cb b36_) (xm (S a1) (K22 1 rfl)) <| lg rfl rfl rfl rfl (cb b36_) (X_sne rfl rfl) <| lg rfl rfl rfl rfl (cb b35_) (X_pick (b := false) (v := (.bool (!decide (((gt a0 x8_9).path) = a1)))) (cb b36_) rfl) ?_
        obtain rfl := si H
        exact nx ⟨(ku8 kz rfl), ⟨_, rfl, rfl⟩, er⟩
      intro s44 w40 z45 K41 hq h42 e43
      rw [hq] at h42; clear hq
      refine lp rfl rfl (X_pick (b := true) (v := (.bool z38)) ((K41 24 rfl).trans (cb b35_)) h42) ?_
      obtain rfl := si H
      exact nx ⟨(ku1 (Kp.cut (ku3 kz rfl) K41 rfl) rfl), ⟨_, rfl, rfl⟩, e43⟩
     ·refine ls rfl rfl rfl (cb b35_) rfl <| ls rfl rfl rfl (cb b35_) rfl <| ls rfl rfl rfl (cb b35_) rfl <| lu rfl rfl rfl rfl rfl <| lu rfl rfl rfl rfl rfl <| lu rfl rfl rfl rfl rfl <| lu rfl rfl rfl rfl rfl <| lu rfl rfl rfl rfl rfl <| lu rfl rfl rfl rfl rfl <| lu rfl rfl rfl rfl rfl <| ls rfl rfl rfl (cb b35_) rfl <| lp rfl rfl (X_pick (b := false) (v := (.bool false)) (cb b35_) rfl) ?_
      obtain rfl := si H
      exact nx ⟨(ku4 (ku8 kz rfl) rfl), ⟨_, rfl, rfl⟩, er⟩
    intro s46 w39 z47 K40 hq h41 e42
    rw [hq] at h41; clear hq
    refine nx ?_
    rcases bif_two H with ⟨q48, H⟩ | ⟨q48, H⟩
    ·refine W_true (h41.trans (cb q48)) <| W_reg <| lp rfl rfl (xm v8 ((K40 7 rfl).trans h25)) <| lp rfl rfl (xm v_a0 ((K40 0 rfl).trans (K22 0 rfl))) <| lp rfl rfl (xm (.int .i64 x8_9) ((K40 8 rfl).trans h27)) ?_
     obtain ⟨c49, H⟩ := bif_some H
     refine L_idx (.plain rfl) rfl (ltb rfl) rfl Tryz.underlying29 Tryz.sizeOf60 rfl (Rd.ext f_a0 (((e5.t e23).t e35).t e42)) rfl c49 <| fun p50 h51 => lp rfl rfl (X_loadS Tryz.isAgg60 Tryz.sizeOf60 rfl rfl h51) <| L_lit (.plain rfl) rfl (ltb rfl) rfl Tryz.underlying29 Tryz.sizeOf60 Tryz.zeroValue60 rfl rfl rfl (vs := [(.agg (encNd (gt a0 x8_9)).toArray)]) rfl (lit_all rfl) <| fun b52 w53 z54 z55 e56 k57 => ?_
     obtain ⟨c58, H⟩ := bif_some H
     refine L_append (enc := encNd) (.plain rfl) rfl (ltb rfl) rfl El.t29 rfl rfl (Ow.ext h26 ((e35.t e42).t e56)) (Ow.rd (Ow.new (xs := [gt a0 x8_9]) (sz := 4) (enc := encNd) (base := w39.heap.size) k57 (Nat.le_of_eq z54) rfl (fun _ _ => by rfl) (Nat.le_of_ble_eq_true rfl))) (ones_Nd _) (od c58) ((((e23.t e35).t e42).t e56)).size <| fun v59 w60 o61 z62 g63 => lp rfl rfl (xa v59 rfl) <| L_nil <| blk_n <| thn_n <| W_reg <| lp rfl rfl (xm (.int .i64 x8_9) ((K40 8 rfl).trans h27)) <| lp rfl rfl (X_add rfl rfl) <| lp rfl rfl (xa (.int .i64 (IntKind.wrap .i64 (x8_9 + 1))) rfl) <| nx ?_
     obtain rfl := si H
     exact ⟨_, Nat.lt_succ_self _, x7_7 ++ ([gt a0 x8_9] : List Nd), v59, IntKind.wrap .i64 (x8_9 + 1), (ku3 (ku8 (Kp.cut (ku1 (ku4 (ku8 K22 rfl) rfl) rfl) K40 rfl) rfl) rfl), rfl, o61, rfl, (g63 _ (((e23.t e35).t e42).t e56)), S29⟩
    ·refine W_false (h41.trans (cb q48)) <| W_skip <| blk_n <| thn_n <| W_reg <| lp rfl rfl (xm (.int .i64 x8_9) ((K40 8 rfl).trans h27)) <| lp rfl rfl (X_add rfl rfl) <| lp rfl rfl (xa (.int .i64 (IntKind.wrap .i64 (x8_9 + 1))) rfl) <| nx ?_
     obtain rfl := si H
     exact ⟨_, Nat.lt_succ_self _, x7_7, v8, IntKind.wrap .i64 (x8_9 + 1), (ku3 (Kp.cut (ku1 (ku4 (ku8 K22 rfl) rfl) rfl) K40 rfl) rfl), ((K40 7 rfl).trans h25), (Ow.ext h26 (e35.t e42)), rfl, ((e23.t e35).t e42), S29⟩
   ·refine W_false (cb q30) <| W_exit <| thn_x <| thn_x <| blk_x <| thn_n ?_
    obtain rfl := si H
    obtain rfl := si S29
    exact ⟨x7_7, v8, (ku4 K22 rfl), h25, h26, e23, rfl⟩
 ·rintro s16 w15 ⟨x7_13, v14, K17, h64, h65, e18, y66⟩
  rw [y66] at C12
  have H := C12
  replace H : _ = some _ := H
  refine thn_n <| wr <| lp rfl rfl (X_move h64) <| lp rfl rfl (xa v14 rfl) <| nx <| W_ret <| fin_r ?_
  obtain rfl := si H
  exact fin1o rfl (e5.t e18) h65 (e5).size
/-! spec.RemoveNode -/
theorem spec_RemoveNode.walk {w : World} {a0 : List Nd} {a1 : List UInt8} {v_a0 : Value} (f_a0 : Rd 4 encNd w v_a0 a0) {r : List Nd × Int} (H : spec_RemoveNode.sh a0 a1 = some r) :
  Calls Tryz.prog 67 #[v_a0, S a1] w (Rt (RT 60 4 encNd w r.1 (.int .i64 r.2))) := by
 unfold spec_RemoveNode.sh at H
 refine calls_of_W Tryz.func67 rfl (Nat.le_of_ble_eq_true rfl) Tryz.ntmps67 rfl ?_
 refine wr <| lp rfl rfl (xa (.slice none 0 0) rfl) <| lp rfl rfl (xa (.int .i64 0) rfl) <| nx <| W_seq <| wr <| lp rfl rfl (xm v_a0 rfl) <| lp rfl rfl (X_lenR Tryz.underlying29 rfl f_a0) <| lp rfl rfl (X_gtr rfl rfl) <| lp rfl rfl (xm (.bool (decide (4096 < (a0.length : Int)))) rfl) <| L_grp 4 [(13, 17)] 16 (.bool ((decide (4096 < (a0.length : Int))) || (decide (65536 < (a1.length : Int))))) ?_ ?_
 ·rcases bool_two (decide (4096 < (a0.length : Int))) with b0_ | b0_
  ·exact ls rfl rfl rfl (cb b0_) rfl <| ls rfl rfl rfl (cb b0_) rfl <| ls rfl rfl rfl (cb b0_) rfl <| lp rfl rfl (X_pick (b := true) (v := (.bool true)) (cb b0_) rfl) <| nx ⟨(ku4 kz rfl), (or_t b0_), er⟩
  ·exact lg rfl rfl rfl rfl (cb b0_) (xm (S a1) rfl) <| lg rfl rfl rfl rfl (cb b0_) (X_lenS Tryz.underlying9 rfl) <| lg rfl rfl rfl rfl (cb b0_) (X_gtr rfl rfl) <| lp rfl rfl (X_pick (b := false) (v := (.bool (decide (65536 < (a1.length : Int))))) (cb b0_) rfl) <| nx ⟨(ku4 kz rfl), (or_f b0_), er⟩
 intro s6 w2 K3 h4 e5
 refine nx ?_
 rcases bif_two H with ⟨q7, H⟩ | ⟨q7, H⟩
 ·refine W_true (h4.trans (cb q7)) <| wr <| L_lit (.plain rfl) rfl (ltb rfl) rfl Tryz.underlying29 Tryz.sizeOf60 Tryz.zeroValue60 rfl rfl rfl (vs := []) rfl (lit_all rfl) <| fun b8 w9 z10 z11 e12 k13 => lp rfl rfl (xa (.slice (some ⟨b8, 0, none⟩) 0 0) rfl) <| lp rfl rfl (xa (.int .i64 2) rfl) <| nx <| W_ret <| thn_r <| fin_r ?_
  obtain rfl := si H
  exact fin2o rfl rfl (e5.t e12) (Ow.zero (base := w.heap.size)) (Nat.le_refl _)
 ·refine W_false (h4.trans (cb q7)) <| W_skip <| thn_n <| W_seq <| wr <| lp rfl rfl (xm v_a0 (K3 0 rfl)) <| lp rfl rfl (xm (S a1) (K3 1 rfl)) ?_
  obtain ⟨c14, H⟩ := bif_some H
  refine lc rfl rfl rfl Tryz.call167 (spec_l04Ask.calls (w := w2) (a0 := a0) (a1 := a1) (Rd.ext f_a0 e5) (od c14)) rfl <| fun w15 e16 => lp rfl rfl (xa (.int .i64 (askT a0 a1)) rfl) <| nx <| wr <| lp rfl rfl (xm (.int .i64 (askT a0 a1)) rfl) <| lp rfl rfl (X_neq rfl rfl) <| nx ?_
  rcases bif_two H with ⟨q17, H⟩ | ⟨q17, H⟩
  ·refine W_true (cb q17) <| wr <| L_lit (.plain rfl) rfl (ltb rfl) rfl Tryz.underlying29 Tryz.sizeOf60 Tryz.zeroValue60 rfl rfl rfl (vs := []) rfl (lit_all rfl) <| fun b18 w19 z20 z21 e22 k23 => lp rfl rfl (xm (.int .i64 (askT a0 a1)) rfl) <| lp rfl rfl (xa (.slice (some ⟨b18, 0, none⟩) 0 0) rfl) <| lp rfl rfl (xa (.int .i64 (askT a0 a1)) rfl) <| nx <| W_ret <| thn_r <| fin_r ?_
   obtain rfl := si H
   exact fin2o rfl rfl ((e5.t e16).t e22) (Ow.zero (base := w.heap.size)) (Nat.le_refl _)
  ·refine W_false (cb q17) <| W_skip <| thn_n <| W_seq <| wr <| lp rfl rfl (xm (S a1) (K3 1 rfl)) <| lc rfl rfl rfl Tryz.call146 (spec_l01OK.calls (w := w15) (a0 := a1)) rfl <| fun w24 e25 => lp rfl rfl (X_not rfl) <| nx ?_
   rcases bif_two H with ⟨q26, H⟩ | ⟨q26, H⟩
   ·refine W_true (cb q26) <| wr <| L_lit (.plain rfl) rfl (ltb rfl) rfl Tryz.underlying29 Tryz.sizeOf60 Tryz.zeroValue60 rfl rfl rfl (vs := []) rfl (lit_all rfl) <| fun b27 w28 z29 z30 e31 k32 => lp rfl rfl (xm v_a0 (K3 0 rfl)) ?_
    obtain ⟨c33, H⟩ := bif_some H
    refine L_append (enc := encNd) (.plain rfl) rfl (ltb rfl) rfl El.t29 rfl rfl (Ow.zero (base := w28.heap.size) (w := w28)) (Rd.ext f_a0 (((e5.t e16).t e25).t e31)) (ones_Nd _) (od c33) (Nat.le_refl _) <| fun v34 w35 o36 z37 g38 => lp rfl rfl (xa v34 rfl) <| lp rfl rfl (xa (.int .i64 10) rfl) <| nx <| W_ret <| thn_r <| fin_r ?_
    obtain rfl := si H
    exact fin2o rfl rfl ((((e5.t e16).t e25).t e31).t (g38 _ er)) o36 ((((e5.t e16).t e25).t e31)).size
   ·refine W_false (cb q26) <| W_skip <| thn_n <| W_seq <| wr <| lp rfl rfl (xm v_a0 (K3 0 rfl)) <| lp rfl rfl (xm (S a1) (K3 1 rfl)) ?_
    obtain ⟨c39, H⟩ := bif_some H
    obtain ⟨c40, H⟩ := bif_some H
    refine lc rfl rfl rfl Tryz.call160 (spec_l04Find.calls (w := w24) (a0 := a0) (a1 := a1) (Rd.ext f_a0 ((e5.t e16).t e25)) (od c39) (od c40)) rfl <| fun w41 e42 => lp rfl rfl (X_move rfl) <| lp rfl rfl (X_extract (v := (.agg (encNd ((findNd a0 a1).1)).toArray)) rfl rfl) <| lp rfl rfl (X_extract (v := (.int .i64 ((findNd a0 a1).2))) rfl rfl) <| L_alloc (.plain rfl) rfl (ltb rfl) rfl Tryz.zeroValue60 <| fun b43 w44 z45 z46 e47 k48 => L_storeA (.plain rfl) rfl rfl Tryz.sizeOf60 rfl rfl rfl rfl rfl k48 <| fun w49 h50 k51 => lp rfl rfl (xa (.int .i64 ((findNd a0 a1).2)) rfl) <| nx <| wr <| lp rfl rfl (xm (.int .i64 ((findNd a0 a1).2)) rfl) <| lp rfl rfl (X_neq rfl rfl) <| nx ?_
    rcases bif_two H with ⟨q52, H⟩ | ⟨q52, H⟩
    ·refine W_true (cb q52) <| wr <| L_lit (.plain rfl) rfl (ltb rfl) rfl Tryz.underlying29 Tryz.sizeOf60 Tryz.zeroValue60 rfl rfl rfl (vs := []) rfl (lit_all rfl) <| fun b53 w54 z55 z56 e57 k58 => lp rfl rfl (xm v_a0 (K3 0 rfl)) ?_
     obtain ⟨c59, H⟩ := bif_some H
     refine L_append (enc := encNd) (.plain rfl) rfl (ltb rfl) rfl El.t29 rfl rfl (Ow.zero (base := w54.heap.size) (w := w54)) (Rd.ext f_a0 (((((e5.t e16).t e25).t e42).t (Below.trans e47 (Wr.below h50 (Nat.le_of_eq z45)))).t e57)) (ones_Nd _) (od c59) (Nat.le_refl _) <| fun v60 w61 o62 z63 g64 => lp rfl rfl (xm (.int .i64 ((findNd a0 a1).2)) rfl) <| lp rfl rfl (xa v60 rfl) <| lp rfl rfl (xa (.int .i64 ((findNd a0 a1).2)) rfl) <| nx <| W_ret <| thn_r <| fin_r ?_
     obtain rfl := si H
     exact fin2o rfl rfl ((((((e5.t e16).t e25).t e42).t (Below.trans e47 (Wr.below h50 (Nat.le_of_eq z45)))).t e57).t (g64 _ er)) o62 ((((((e5.t e16).t e25).t e42).t (Below.trans e47 (Wr.below h50 (Nat.le_of_eq z45)))).t e57)).size
    ·refine W_false (cb q52) <| W_skip <| thn_n <| wr <| lp rfl rfl (xm v_a0 (K3 0 rfl)) <| lp rfl rfl (xm (S a1) (K3 1 rfl)) ?_
     obtain ⟨c65, H⟩ := bif_some H
     refine L_callO (.plain rfl) rfl (ltb rfl) rfl Tryz.call170 (spec_l04Without.calls (w := w49) (a0 := a0) (a1 := a1) (a2 := true) (Rd.ext f_a0 ((((e5.t e16).t e25).t e42).t (Below.trans e47 (Wr.below h50 (Nat.le_of_eq z45))))) (od c65)) rfl <| fun v68 w66 e67 o69 => lp rfl rfl (xa v68 rfl) <| lp rfl rfl (xa (.int .i64 0) rfl) <| nx <| W_ret <| fin_r ?_
     obtain rfl := si H
     exact fin2o rfl rfl (((((e5.t e16).t e25).t e42).t (Below.trans e47 (Wr.below h50 (Nat.le_of_eq z45)))).t e67) o69 (((((e5.t e16).t e25).t e42).t (Below.trans e47 (Wr.below h50 (Nat.le_of_eq z45))))).size
theorem spec_RemoveNode.calls {w : World} {a0 : List Nd} {a1 : List UInt8} {v_a0 : Value} (f_a0 : Rd 4 encNd w v_a0 a0) (h0 : a0.length ≤ 1048576) (h1 : ∀ x ∈ a0, x.path.length ≤ 1048576) :
  Calls Tryz.prog 67 #[v_a0, S a1] w (Rt (RT 60 4 encNd w ((removeNode a0 a1).1) (.int .i64 ((removeNode a0 a1).2)))) := spec_RemoveNode.walk f_a0 (spec_RemoveNode.eq a0 a1 h0 h1)
/-! slices.Clone(()impl.Node,impl.Node), by text -/
theorem slices_CloneN.calls {w : World} {a0 : List Nd} {v_a0 : Value} (f_a0 : Rd 4 encNd w v_a0 a0) (h0 : a0.length ≤ 1048576) :
    Calls Tryz.prog 156 #[v_a0] w (Rt (RO 60 4 encNd w a0)) := by
  obtain ⟨A, c, hv⟩ := f_a0.shape
  refine calls_of_W Tryz.func156 rfl (Nat.le_of_ble_eq_true rfl) Tryz.ntmps156 rfl ?_
  refine wr <| lp rfl rfl (X_assign (v := .slice none 0 0) rfl) <| nx <| W_seq <| wr <| lp rfl rfl (xm v_a0 rfl) <| lp rfl rfl (X_eqNil Tryz.underlying29 (by kernel_rfl) hv rfl) <| nx ?_
  cases A with
  | none =>
    have hn : a0 = [] := by
      obtain ⟨A', c', hv', ⟨hn, hz, _⟩, _⟩ := f_a0
      rw [hv] at hv'; injection hv' with e1 e2 e3
      have := hz e1.symm
      exact List.eq_nil_of_length_eq_zero (by omega)
    subst hn
    refine W_true rfl <| wr <| lp rfl rfl (X_assign (v := .slice none 0 0) rfl) <| nx <| W_ret <| thn_r <| fin_r ?_
    exact fin1o rfl er (Ow.zero (base := w.heap.size)) (Nat.le_refl _)
  | some a =>
    refine W_false rfl <| W_skip <| thn_n <| wr <| L_lit (.plain rfl) rfl (ltb rfl) rfl Tryz.underlying29 Tryz.sizeOf60 Tryz.zeroValue60 rfl rfl rfl (vs := []) rfl (lit_all rfl) <| fun b w1 z1 z2 e1 k1 => lp rfl rfl (xm v_a0 rfl) <|
      L_append (enc := encNd) (.plain rfl) rfl (ltb rfl) rfl El.t29 rfl rfl (Ow.zero (base := w1.heap.size) (w := w1)) (Rd.ext f_a0 e1) (ones_Nd _) (by simp; omega) (Nat.le_refl _) <| fun v2 w2 o2 z3 g2 => lp rfl rfl (xa v2 rfl) <| nx <| W_ret <| fin_r ?_
    have e2 : Ext w w2 := Ext.trans e1 (g2 _ er)
    have o3 : Ow 60 4 encNd w1.heap.size w2 v2 a0 := by simpa using o2
    exact fin1o rfl e2 o3 e1.size

/-! impl.removed$1 -/
theorem impl_removed_1.calls {w : World} {a0 : Nd} {a1 : List UInt8} {b_a1 : Nat} (k_a1 : Blk w b_a1 #[(S a1)] 9) (h0 : a1.length ≤ 1048576) :
  Calls Tryz.prog 243 #[.agg (encNd a0).toArray, .pointer (some ⟨b_a1, 0, none⟩)] w (Rt (RP w (.bool (decide (a0.path = a1) || (decide (a1 = []) || belowP a0.path a1))))) := by
 have H := impl_removed_1.eq a0 a1 h0
 generalize (decide (a0.path = a1) || (decide (a1 = []) || belowP a0.path a1)) = r at H ⊢
 unfold impl_removed_1.sh at H
 refine calls_of_W Tryz.func243 rfl (Nat.le_of_ble_eq_true rfl) Tryz.ntmps243 rfl ?_
 refine wr <| L_box (.plain rfl) rfl (ltb rfl) rfl rfl <| fun b1 w2 z3 z4 e5 k6 => lp rfl rfl (xa (.bool false) rfl) <| nx <| wr <| lp rfl rfl (X_fieldAddr Tryz.underlying60 rfl Tryz.sizeOf9 rfl rfl) <| lp rfl rfl (X_loadB Tryz.isAgg9 k6 rfl rfl) <| lp rfl rfl (X_loadB Tryz.isAgg9 (Blk.ext k_a1 e5) rfl rfl) <| lp rfl rfl (X_seq rfl rfl) <| lp rfl rfl (xm (.bool (decide (a0.path = a1))) rfl) ?_
 obtain ⟨z8, x9, H⟩ := bind_some H
 refine L_grpE 5 [(9, 14)] 13 (fun q => q = z8) ?_ ?_
 ·rcases bif_two x9 with ⟨b6_, H⟩ | ⟨b6_, H⟩
  ·refine ls rfl rfl rfl (cb b6_) rfl <| ls rfl rfl rfl (cb b6_) rfl <| ls rfl rfl rfl (cb b6_) rfl <| ls rfl rfl rfl (cb b6_) rfl <| lp rfl rfl (X_pick (b := true) (v := (.bool true)) (cb b6_) rfl) ?_
   obtain rfl := si H
   exact nx ⟨(ku1 (ku4 kz rfl) rfl), ⟨_, rfl, rfl⟩, er⟩
  ·refine lg rfl rfl rfl rfl (cb b6_) (X_fieldAddr Tryz.underlying60 rfl Tryz.sizeOf9 rfl rfl) <| lg rfl rfl rfl rfl (cb b6_) (X_loadB Tryz.isAgg9 k6 rfl rfl) <| lg rfl rfl rfl rfl (cb b6_) (X_loadB Tryz.isAgg9 (Blk.ext k_a1 e5) rfl rfl) ?_
   obtain ⟨c8, H⟩ := bif_some H
   refine L_callP (tg rfl rfl rfl (cb b6_)) rfl (ltb rfl) rfl Tryz.call244 (impl_below.calls (w := w2) (a0 := a0.path) (a1 := a1) (od c8)) rfl <| fun w9 e10 => lp rfl rfl (X_pick (b := false) (v := (.bool (decide (a1 = []) || belowP a0.path a1))) (cb b6_) rfl) ?_
   obtain rfl := si H
   exact nx ⟨(ku1 (ku4 kz rfl) rfl), ⟨_, rfl, rfl⟩, e10⟩
 intro s14 w10 z15 K11 hq h12 e13
 rw [hq] at h12; clear hq
 refine lp rfl rfl (X_assign h12) <| nx <| W_ret <| fin_r ?_
 obtain rfl := si H
 exact fin1 rfl (e5.t e13)
/-! slices.DeleteFunc(()impl.Node,impl.Node), by text -/
theorem slices_DeleteFuncN.calls {w wF : World} {B : Nat} {v : Value} {xs : List Nd} (hO : Ow 60 4 encNd B w v xs) (kF : Ext wF w) (hF : wF.heap.size ≤ B) (hl : xs.length ≤ 1048576) {u : Value} {q : Nd → Bool}
    (hf : ∀ x, FnAt Tryz.prog wF u [.agg (encNd x).toArray] (.bool (q x))) (hu : u.cells = #[u]) :
    Calls Tryz.prog 242 #[v, u] w (Rt (fun r w' => Ext wF w' ∧ Ow 60 4 encNd B w' r (xs.filter fun x => !q x))) := by
  obtain ⟨A, c, hv⟩ := hO.rd.shape
  have hidx := idxO_some (p := fun x => some (q x)) (q := q) (l := xs) (fun _ _ => rfl)
  refine calls_of_W Tryz.func242 rfl (Nat.le_of_ble_eq_true rfl) Tryz.ntmps242 rfl ?_
  refine wr <| lp rfl rfl (X_assign (v := .slice none 0 0) rfl) <| nx <| wr <| lp rfl rfl (xm v rfl) <| lp rfl rfl (xm u rfl) <|
    lc rfl rfl rfl Tryz.call261 (slices_IndexFuncN.calls (w := w) (a0 := xs) (a1 := fun x => some (q x)) hO.rd (fun x r h => by have h := si h; subst h; exact (hf x).ext kF) hu (by omega) hidx) rfl <| fun w1 e1 => lp rfl rfl (X_assign (v := .int .i64 (findI q xs)) rfl) <| nx <|
    W_seq <| wr <| lp rfl rfl (X_move (v := .int .i64 (findI q xs)) rfl) <| lp rfl rfl (X_eql rfl rfl) <| nx ?_
  have hge := findI_ge q xs
  by_cases hm : findI q xs = -1
  · have hnone : ∀ x ∈ xs, q x = false := by
      have := findI_any q xs
      rw [hm] at this
      intro x hx
      rcases bool_two (q x) with h | h
      · have h2 : xs.any q = true := List.any_eq_true.2 ⟨x, hx, h⟩
        rw [h2] at this; cases this
      · exact h
    have hfil : (xs.filter fun x => !q x) = xs := List.filter_eq_self.2 fun x hx => by rw [hnone x hx]; rfl
    refine W_true (cb (decide_eq_true hm)) <| wr <| lp rfl rfl (xm v rfl) <| lp rfl rfl (xa v rfl) <| nx <| W_ret <| thn_r <| fin_r ?_
    rw [hfil]
    exact ⟨_, rfl, Ext.trans kF e1, hO.ext e1⟩
  · obtain ⟨hin, hq0⟩ := findI_get q xs (by omega)
    obtain ⟨i0, hi0⟩ : ∃ i0 : Nat, findI q xs = i0 := ⟨(findI q xs).toNat, by omega⟩
    rw [hi0] at hin hq0 ⊢
    have hlt0 : i0 < xs.length := by have := inR_hi hin; omega
    have hpre : (xs.take (i0 + 1)).filter (fun x => !q x) = xs.take i0 := by
      have hfst := findI_first q xs i0 hi0
      rw [List.take_succ_eq_append_getElem hlt0, List.filter_append]
      have h1 : (xs.take i0).filter (fun x => !q x) = xs.take i0 := List.filter_eq_self.2 fun x hx => by rw [hfst x hx]; rfl
      have h2 : q xs[i0] = true := by rw [getD_gt, getD_el hlt0] at hq0; exact hq0
      rw [h1]; simp [h2]
    have hpl : ((xs.take (i0 + 1)).filter (fun x => !q x)).length = i0 := by rw [hpre]; simp; omega
    have hwi : IntKind.wrap .i64 ((i0 : Int) + 1) = ((i0 + 1 : Nat) : Int) := by rw [Int.natCast_add, Int.natCast_one]; exact Go.UL.wrap_small (by omega) (by omega)
    refine W_false (cb (decide_eq_false (by omega))) <| W_skip <| thn_n <| W_seq <| wr <| lp rfl rfl (X_move (v := .int .i64 (i0 : Int)) rfl) <| lp rfl rfl (X_add rfl rfl) <|
      lp rfl rfl (X_assign (v := .int .i64 ((i0 + 1 : Nat) : Int)) (congrArg (Value.int .i64) hwi)) <| nx ?_
    refine W_cutQ (fun s0 σ W' => σ 0 = v ∧ Ext wF W' ∧ ∃ ys : List Nd, ys.length = xs.length ∧ σ 5 = .int .i64 ((xs.filter fun x => !q x).length : Int) ∧ Ow 60 4 encNd B W' v ys ∧ ys.take (xs.filter fun x => !q x).length = xs.filter fun x => !q x) ?_ ?_
    · refine W_block <| W_loopI (fun s0 m σ W' => σ 0 = v ∧ σ 1 = u ∧ Ext wF W' ∧ ∃ (j : Nat) (ys : List Nd), j + m = xs.length ∧ i0 < j ∧ σ 6 = .int .i64 (j : Int) ∧ ys.length = xs.length ∧ σ 5 = .int .i64 (((xs.take j).filter fun x => !q x).length : Int) ∧ ((xs.take j).filter fun x => !q x).length < j ∧ Ow 60 4 encNd B W' v ys ∧ ys.take ((xs.take j).filter fun x => !q x).length = (xs.take j).filter (fun x => !q x) ∧ ys.drop j = xs.drop j) (xs.length - (i0 + 1))
        ⟨rfl, rfl, Ext.trans kF e1, i0 + 1, xs, by omega, by omega, rfl, rfl, (congrArg (fun n : Nat => Value.int .i64 (n : Int)) hpl).symm, by omega, hO.ext e1, by rw [hpl, hpre], rfl⟩ ?_
      rintro m s1 W1 ⟨h0, h1, k1, j, ys, hjm, hij, h6, hyl, h5, hlt, hO1, htk, hdr⟩
      refine W_seq <| wr <| lp rfl rfl (X_move h6) <| lp rfl rfl (X_move h0) <| lp rfl rfl (X_lenR Tryz.underlying29 rfl hO1.rd) <| lp rfl rfl (X_lss rfl rfl) <| nx ?_
      by_cases hjl : j < xs.length
      · have hjy : j < ys.length := by omega
        have hinj : inR (j : Int) ys.length = true := inR_nat hjy
        have hyj : gt ys (j : Int) = xs[j] := by
          rw [getD_gt, getD_el hjy]
          have h2 : (ys.drop j)[0]? = (xs.drop j)[0]? := by rw [hdr]
          simp only [List.getElem?_drop, Nat.add_zero, List.getElem?_eq_getElem hjy, List.getElem?_eq_getElem hjl] at h2
          exact si h2
        refine W_true (cb (decide_eq_true (by omega))) <| W_skip <| thn_n <| W_seq <| W_block <| wr <| lp rfl rfl (X_move h0) <| lp rfl rfl (X_move h6) <| L_idx (.plain rfl) rfl (ltb rfl) rfl Tryz.underlying29 Tryz.sizeOf60 rfl hO1.rd rfl hinj <| fun p hA =>
          lp rfl rfl (X_loadS (cs := encNd (gt ys (j : Int))) Tryz.isAgg60 Tryz.sizeOf60 rfl rfl hA) <| L_alloc (.plain rfl) rfl (ltb rfl) rfl Tryz.zeroValue60 <| fun b7 W2 z1 z2 e2 k2 => L_storeA (.plain rfl) rfl rfl Tryz.sizeOf60 rfl rfl rfl rfl rfl k2 <| fun W3 hw3 k3 => nx ?_
        have e3 : Ext W1 W3 := Ext.wr e2 hw3 (Nat.le_of_eq z1) (Nat.le_refl _)
        have hO3 := hO1.ext e3
        have kF3 : Ext wF W3 := Ext.trans k1 e3
        refine wr <| lp rfl rfl (X_move h1) <| lp rfl rfl (X_loadS (cs := encNd (gt ys (j : Int))) Tryz.isAgg60 Tryz.sizeOf60 rfl rfl (Blk.at0 k3)) <| L_callF (.plain rfl) rfl (ltb rfl) rfl rfl ((hf (gt ys (j : Int))).ext kF3) rfl <| fun W4 e4 => lp rfl rfl (X_not rfl) <| nx ?_
        have hO4 := hO3.ext e4
        have kF4 := Ext.trans kF3 e4
        have hstep : (xs.take (j + 1)).filter (fun x => !q x) = (xs.take j).filter (fun x => !q x) ++ (if q xs[j] then [] else [xs[j]]) := by
          rw [List.take_succ_eq_append_getElem hjl, List.filter_append]
          congr 1
          rcases bool_two (q xs[j]) with h | h <;> simp [h]
        have hwj : IntKind.wrap .i64 ((j : Int) + 1) = ((j + 1 : Nat) : Int) := by rw [Int.natCast_add, Int.natCast_one]; exact Go.UL.wrap_small (by omega) (by omega)
        have hdr1 : ys.drop (j + 1) = xs.drop (j + 1) := by
          have := congrArg (List.drop 1) hdr
          simpa [List.drop_drop, Nat.add_comm] using this
        have h6' := h6
        rcases bool_two (q (gt ys (j : Int))) with hq | hq
        · refine W_false (cb (by rw [hq]; rfl)) <| W_skip <| blk_n <| thn_n <| W_reg <| lp rfl rfl (X_move h6) <| lp rfl rfl (X_add rfl rfl) <| lp rfl rfl (X_assign (v := .int .i64 ((j + 1 : Nat) : Int)) (congrArg (Value.int .i64) hwj)) <| nx ?_
          rw [hyj] at hq
          rw [hq] at hstep
          simp only [if_true, List.append_nil] at hstep
          refine ⟨m - 1, by omega, h0, h1, kF4, j + 1, ys, by omega, by omega, rfl, hyl, by rw [hstep]; exact h5, by rw [hstep]; omega, hO4, by rw [hstep]; exact htk, hdr1⟩
        · refine W_true (cb (by rw [hq]; rfl)) <| wr <| lp rfl rfl (X_move h0) <| lp rfl rfl (X_move h5) <| lp rfl rfl (X_loadS (cs := encNd (gt ys (j : Int))) Tryz.isAgg60 Tryz.sizeOf60 rfl rfl (Blk.at0 (k3.ext e4))) <|
            L_idxO (.plain rfl) rfl (ltb rfl) rfl Tryz.underlying29 Tryz.sizeOf60 rfl hO4 rfl (inR_nat (show ((xs.take j).filter fun x => !q x).length < ys.length by omega)) <| fun p9 h9 => ?_
          refine L_storeO (a := gt ys (j : Int)) (u := .agg (encNd (gt ys (j : Int))).toArray) (vs := encNd (gt ys (j : Int))) (off := 0) (.plain rfl) rfl rfl Tryz.sizeOf60 rfl h9 rfl rfl rfl rfl (by simp [encNd]) rfl <| fun b9 W5 hb9 hB9 hw9 hO5 => nx ?_
          have kF5 : Ext wF W5 := Ext.wr kF4 hw9 (Nat.le_trans hF hB9) (Nat.le_refl _)
          rw [hyj] at hq
          rw [hq] at hstep
          simp only [Bool.false_eq_true, if_false] at hstep
          have hw5 : IntKind.wrap .i64 ((((xs.take j).filter fun x => !q x).length : Int) + 1) = ((((xs.take j).filter fun x => !q x).length + 1 : Nat) : Int) := by rw [Int.natCast_add, Int.natCast_one]; exact Go.UL.wrap_small (by omega) (by omega)
          refine W_reg <| lp rfl rfl (X_move h5) <| lp rfl rfl (X_add rfl rfl) <| lp rfl rfl (X_assign (v := .int .i64 ((((xs.take j).filter fun x => !q x).length + 1 : Nat) : Int)) (congrArg (Value.int .i64) hw5)) <| L_nil <| blk_n <| thn_n <|
            W_reg <| lp rfl rfl (X_move h6') <| lp rfl rfl (X_add rfl rfl) <| lp rfl rfl (X_assign (v := .int .i64 ((j + 1 : Nat) : Int)) (congrArg (Value.int .i64) hwj)) <| nx ?_
          refine ⟨m - 1, by omega, h0, h1, kF5, j + 1, _, by omega, by omega, rfl, by rw [setI_len]; exact hyl, by rw [hstep]; simp; rfl, by rw [hstep]; simp; omega, hO5, ?_, ?_⟩
          · rw [hstep, hyj]
            simp only [setI, Int.toNat_natCast, List.length_append, List.length_cons, List.length_nil]
            rw [List.take_set_succ (by omega), htk]
          · simp only [setI, Int.toNat_natCast]
            rw [List.drop_set_of_lt (by omega)]; exact hdr1
      · have hje : j = xs.length := by omega
        subst hje
        rw [List.take_length] at h5 htk
        refine W_false (cb (decide_eq_false (by omega))) <| W_exit <| thn_x <| thn_x <| blk_x <| thn_n ?_
        exact ⟨h0, k1, ys, hyl, h5, hO1, htk⟩
    · rintro s2 W2 ⟨h0, k2, ys, hyl, h5, hO2, htk⟩
      have hli : (xs.filter fun x => !q x).length ≤ ys.length := by rw [hyl]; exact List.length_filter_le _ _
      have hv2 : v = .slice A ys.length c := by rw [hyl]; exact hv
      have hcap : ys.length ≤ c := by obtain ⟨A', c', hv', ⟨hn, _⟩, _⟩ := hO2.rd; rw [hv2] at hv'; injection hv' with _ _ e; omega
      refine thn_n <| wr <| lp rfl rfl (X_move h0) <| lp rfl rfl (X_move h5) <|
        lp rfl rfl (X_sliceSl (A := A) (n := ys.length) (c := c) (l := ((xs.filter fun x => !q x).length : Int)) (h := (ys.length : Int)) Tryz.underlying29 Tryz.sizeOf60 hv2 ⟨_, rfl⟩ rfl (by omega) (by omega) (by omega)) <|
        L_clearO (enc := encNd) (zr := (⟨0, [], [], 0⟩ : Nd)) (i := (xs.filter fun x => !q x).length) (.plain rfl) rfl rfl El.t29 Tryz.zeroValue60 rfl rfl hO2 hv2 hli rfl <| fun W3 hg3 hz3 hO3 => nx ?_
      have k3 : Ext wF W3 := Below.mono (hg3 W2 (Below.refl _ _)) hF |> Below.trans k2
      have hlz : (xs.filter fun x => !q x).length ≤ (ys.take (xs.filter fun x => !q x).length ++ List.replicate (ys.length - (xs.filter fun x => !q x).length) (⟨0, [], [], 0⟩ : Nd)).length := by simp; omega
      refine wr <| lp rfl rfl (X_move h0) <| lp rfl rfl (X_move h5) <| L_takeO (.plain rfl) rfl (ltb rfl) rfl Tryz.underlying29 Tryz.sizeOf60 rfl hO3 rfl hlz <| fun r hr => lp rfl rfl (xa r rfl) <| nx <| W_ret <| fin_r ?_
      refine ⟨_, rfl, k3, ?_⟩
      have hx : (ys.take (xs.filter fun x => !q x).length ++ List.replicate (ys.length - (xs.filter fun x => !q x).length) (⟨0, [], [], 0⟩ : Nd)).take (xs.filter fun x => !q x).length = xs.filter fun x => !q x := by
        rw [htk, List.take_left]
      rw [hx] at hr
      exact hr

/-! impl.removed, by text -/
theorem impl_removed.calls {w : World} {a0 : List Nd} {a1 : List UInt8} {v_a0 : Value} (f_a0 : Rd 4 encNd w v_a0 a0) (h0 : a0.length ≤ 1048576) (h1 : a1.length ≤ 1048576) :
    Calls Tryz.prog 169 #[v_a0, S a1] w (Rt (RO 60 4 encNd w (without a0 a1 true))) := by
  refine calls_of_W Tryz.func169 rfl (Nat.le_of_ble_eq_true rfl) Tryz.ntmps169 rfl ?_
  refine wr <| L_box (.plain rfl) rfl (ltb rfl) rfl rfl <| fun b w1 z1 z2 e1 k1 => lp rfl rfl (X_assign (v := .slice none 0 0) rfl) <| nx <| wr <| lp rfl rfl (xm v_a0 rfl) <|
    L_callO (.plain rfl) rfl (ltb rfl) rfl Tryz.call156 (slices_CloneN.calls (w := w1) (a0 := a0) (f_a0.ext e1) h0) rfl <| fun v2 w2 e2 o2 => lp rfl rfl (X_makeFunc (vs := #[]) (us := #[.pointer (some ⟨b, 0, none⟩)]) rfl rfl) <|
    L_callA (.plain rfl) rfl (ltb rfl) rfl Tryz.call242 (slices_DeleteFuncN.calls (w := w2) (wF := w1) (B := w1.heap.size) (xs := a0) (q := fun x => decide (x.path = a1) || (decide (a1 = []) || belowP x.path a1)) o2 e2 (Nat.le_refl _) h0
      (fun x => FnAt.mk Tryz.call243 (by rfl) fun w9 k9 => impl_removed_1.calls (w := w9) (a0 := x) (a1 := a1) (k1.ext k9) h1) rfl) rfl <| fun v3 w3 h3 => ?_
  obtain ⟨e3, o3⟩ := h3
  refine lp rfl rfl (xa v3 rfl) <| nx <| W_ret <| fin_r ?_
  rw [without_impl]
  exact fin1o rfl (e1.t e3) o3 e1.size

/-! impl.RemoveNode -/
theorem impl_RemoveNode.walk {w : World} {a0 : List Nd} {a1 : List UInt8} (gv : GV 0 w) {v_a0 : Value} (f_a0 : Rd 4 encNd w v_a0 a0) {r : List Nd × Int} (H : impl_RemoveNode.sh a0 a1 = some r) :
  Calls Tryz.prog 66 #[v_a0, S a1] w (Rt (RT 60 4 encNd w r.1 (.int .i64 r.2))) := by
 unfold impl_RemoveNode.sh at H
 refine calls_of_W Tryz.func66 rfl (Nat.le_of_ble_eq_true rfl) Tryz.ntmps66 rfl ?_
 refine wr <| lp rfl rfl (xa (.slice none 0 0) rfl) <| lp rfl rfl (xa (.int .i64 0) rfl) <| nx <| W_seq <| wr <| lp rfl rfl (xm (S a1) rfl) <| L_lit (.plain rfl) rfl (ltb rfl) rfl Tryz.underlying42 Tryz.sizeOf9 Tryz.zeroValue9 rfl rfl rfl (vs := [(S a1)]) rfl (lit_all rfl) <| fun b1 w2 z3 z4 e5 k6 => ?_
 obtain ⟨c7, H⟩ := bif_some H
 refine lc rfl rfl rfl Tryz.call149 (impl_isLong.calls (w := w2) (a0 := ([a1] : List (List UInt8))) (Ow.rd (Ow.new (xs := [a1]) (sz := 1) (enc := encS) (base := w.heap.size) k6 (Nat.le_of_eq z3) rfl (fun _ _ => by rfl) (Nat.le_of_ble_eq_true rfl))) (od c7)) rfl <| fun w8 e9 => lp rfl rfl (X_move rfl) <| L_grp 3 [(13, 16)] 15 (.bool ((([a1] : List (List UInt8)).any fun t => decide (65536 < t.length)) || (decide (4096 < a0.length)))) ?_ ?_
 ·rcases bool_two (([a1] : List (List UInt8)).any fun t => decide (65536 < t.length)) with b9_ | b9_
  ·exact ls rfl rfl rfl (cb b9_) rfl <| ls rfl rfl rfl (cb b9_) rfl <| lp rfl rfl (X_pick (b := true) (v := (.bool true)) (cb b9_) rfl) <| nx ⟨(ku3 kz rfl), (or_t b9_), er⟩
  ·exact lg rfl rfl rfl rfl (cb b9_) (xm v_a0 rfl) <| L_callP (tg rfl rfl rfl (cb b9_)) rfl (ltb rfl) rfl Tryz.call127 (impl_isLongListN.calls (w := w8) (a0 := a0) (Rd.ext f_a0 (e5.t e9))) rfl <| fun w11 e12 => lp rfl rfl (X_pick (b := false) (v := (.bool (decide (4096 < a0.length)))) (cb b9_) rfl) <| nx ⟨(ku3 kz rfl), (or_f b9_), e12⟩
 intro s15 w11 K12 h13 e14
 refine lp rfl rfl (X_mkiface Tryz.underlying4 rfl h13) <| lp rfl rfl (X_mkiface Tryz.underlying3 rfl rfl) <| lp rfl rfl (xm v_a0 (K12 0 rfl)) ?_
 obtain ⟨c16, H⟩ := bif_some H
 obtain ⟨c17, H⟩ := bif_some H
 refine lc rfl rfl rfl Tryz.call43 (impl_TreeOK.calls (w := w11) (a0 := a0) (GV.ext gv ((e5.t e9).t e14)) (Rd.ext f_a0 ((e5.t e9).t e14)) (od c16) (od c17)) rfl <| fun w18 e19 => lp rfl rfl (X_not rfl) <| lp rfl rfl (X_mkiface Tryz.underlying4 rfl rfl) <| lp rfl rfl (X_mkiface Tryz.underlying3 rfl rfl) <| L_lit (.plain rfl) rfl (ltb rfl) rfl Tryz.underlying171 Tryz.sizeOf20 Tryz.zeroValue20 rfl rfl rfl (vs := [(.iface 4 (.bool ((([a1] : List (List UInt8)).any fun t => decide (65536 < t.length)) || (decide (4096 < a0.length))))), (.iface 3 (.int .i64 2)), (.iface 4 (.bool (!(treeOK a0)))), (.iface 3 (.int .i64 1))]) rfl (lit_all rfl) <| fun b20 w21 z22 z23 e24 k25 => ?_
 obtain ⟨c26, H⟩ := bif_some H
 obtain ⟨z29, x30, H⟩ := bind_some H
 replace x30 := si x30
 refine lc rfl rfl rfl Tryz.call125 (impl_first.calls (w := w21) (a0 := ([.inl ((([a1] : List (List UInt8)).any fun t => decide (65536 < t.length)) || (decide (4096 < a0.length))), .inr 2, .inl (!(treeOK a0)), .inr 1] : List (Bool ⊕ Int))) (Ow.rd (Ow.new (xs := [.inl ((([a1] : List (List UInt8)).any fun t => decide (65536 < t.length)) || (decide (4096 < a0.length))), .inr 2, .inl (!(treeOK a0)), .inr 1]) (sz := 1) (enc := (encAny 4 3)) (base := w18.heap.size) k25 (Nat.le_of_eq z22) rfl (fun _ _ => by first | rfl | exact encAny_len _ _ _) (Nat.le_of_ble_eq_true rfl))) (od c26)) rfl <| fun w27 e28 => lp rfl rfl (xa (.int .i64 z29) (congrArg (Value.int .i64) x30)) <| nx <| wr <| lp rfl rfl (xm (.int .i64 z29) rfl) <| lp rfl rfl (X_neq rfl rfl) <| nx ?_
 rcases bif_two H with ⟨q31, H⟩ | ⟨q31, H⟩
 ·refine W_true (cb q31) <| wr <| lp rfl rfl (xm (.int .i64 z29) rfl) <| lp rfl rfl (xa (.slice none 0 0) rfl) <| lp rfl rfl (xa (.int .i64 z29) rfl) <| nx <| W_ret <| thn_r <| fin_r ?_
  obtain rfl := si H
  exact fin2o rfl rfl (((((e5.t e9).t e14).t e19).t e24).t e28) (Ow.zero (base := w.heap.size)) (Nat.le_refl _)
 ·refine W_false (cb q31) <| W_skip <| thn_n <| W_seq <| wr <| lp rfl rfl (xm (S a1) (K12 1 rfl)) <| lc rfl rfl rfl Tryz.call150 (impl_PathOK.calls (w := w27) (a0 := a1) (GV.ext gv (((((e5.t e9).t e14).t e19).t e24).t e28))) rfl <| fun w32 e33 => lp rfl rfl (X_not rfl) <| nx ?_
  rcases bif_two H with ⟨q34, H⟩ | ⟨q34, H⟩
  ·refine W_true (cb q34) <| wr <| lp rfl rfl (xm v_a0 (K12 0 rfl)) ?_
   obtain ⟨c35, H⟩ := bif_some H
   refine L_callO (.plain rfl) rfl (ltb rfl) rfl Tryz.call156 (slices_CloneN.calls (w := w32) (a0 := a0) (Rd.ext f_a0 ((((((e5.t e9).t e14).t e19).t e24).t e28).t e33)) (od c35)) rfl <| fun v38 w36 e37 o39 => lp rfl rfl (xa v38 rfl) <| lp rfl rfl (xa (.int .i64 10) rfl) <| nx <| W_ret <| thn_r <| fin_r ?_
   obtain rfl := si H
   exact fin2o rfl rfl (((((((e5.t e9).t e14).t e19).t e24).t e28).t e33).t e37) o39 (((((((e5.t e9).t e14).t e19).t e24).t e28).t e33)).size
  ·refine W_false (cb q34) <| W_skip <| thn_n <| W_seq <| wr <| lp rfl rfl (xm v_a0 (K12 0 rfl)) <| lp rfl rfl (xm (S a1) (K12 1 rfl)) ?_
   obtain ⟨c40, H⟩ := bif_some H
   obtain ⟨c41, H⟩ := bif_some H
   refine lc rfl rfl rfl Tryz.call155 (impl_resolve.calls (w := w32) (a0 := a0) (a1 := a1) (Rd.ext f_a0 ((((((e5.t e9).t e14).t e19).t e24).t e28).t e33)) (od c40) (od c41)) rfl <| fun w42 e43 => lp rfl rfl (X_move rfl) <| lp rfl rfl (X_extract (v := (.int .i64 ((resolveT a0 a1).1))) rfl rfl) <| lp rfl rfl (X_extract (v := (.int .i64 ((resolveT a0 a1).2))) rfl rfl) <| lp rfl rfl (xa (.int .i64 ((resolveT a0 a1).1)) rfl) <| lp rfl rfl (xa (.int .i64 ((resolveT a0 a1).2)) rfl) <| nx <| wr <| lp rfl rfl (xm (.int .i64 ((resolveT a0 a1).2)) rfl) <| lp rfl rfl (X_neq rfl rfl) <| nx ?_
   rcases bif_two H with ⟨q44, H⟩ | ⟨q44, H⟩
   ·refine W_true (cb q44) <| wr <| lp rfl rfl (xm v_a0 (K12 0 rfl)) ?_
    obtain ⟨c45, H⟩ := bif_some H
    refine L_callO (.plain rfl) rfl (ltb rfl) rfl Tryz.call156 (slices_CloneN.calls (w := w42) (a0 := a0) (Rd.ext f_a0 (((((((e5.t e9).t e14).t e19).t e24).t e28).t e33).t e43)) (od c45)) rfl <| fun v48 w46 e47 o49 => lp rfl rfl (xm (.int .i64 ((resolveT a0 a1).2)) rfl) <| lp rfl rfl (xa v48 rfl) <| lp rfl rfl (xa (.int .i64 ((resolveT a0 a1).2)) rfl) <| nx <| W_ret <| thn_r <| fin_r ?_
    obtain rfl := si H
    exact fin2o rfl rfl ((((((((e5.t e9).t e14).t e19).t e24).t e28).t e33).t e43).t e47) o49 ((((((((e5.t e9).t e14).t e19).t e24).t e28).t e33).t e43)).size
   ·refine W_false (cb q44) <| W_skip <| thn_n <| wr <| lp rfl rfl (xm v_a0 (K12 0 rfl)) <| lp rfl rfl (xm (S a1) (K12 1 rfl)) ?_
    obtain ⟨c50, H⟩ := bif_some H
    obtain ⟨c51, H⟩ := bif_some H
    refine L_callO (.plain rfl) rfl (ltb rfl) rfl Tryz.call169 (impl_removed.calls (w := w42) (a0 := a0) (a1 := a1) (Rd.ext f_a0 (((((((e5.t e9).t e14).t e19).t e24).t e28).t e33).t e43)) (od c50) (od c51)) rfl <| fun v54 w52 e53 o55 => lp rfl rfl (xa v54 rfl) <| lp rfl rfl (xa (.int .i64 0) rfl) <| nx <| W_ret <| fin_r ?_
    obtain rfl := si H
    exact fin2o rfl rfl ((((((((e5.t e9).t e14).t e19).t e24).t e28).t e33).t e43).t e53) o55 ((((((((e5.t e9).t e14).t e19).t e24).t e28).t e33).t e43)).size
theorem impl_RemoveNode.calls {w : World} {a0 : List Nd} {a1 : List UInt8} (gv : GV 0 w) {v_a0 : Value} (f_a0 : Rd 4 encNd w v_a0 a0) (h0 : a0.length ≤ 1048576) (h1 : ∀ x ∈ a0, x.path.length ≤ 1048576) :
  Calls Tryz.prog 66 #[v_a0, S a1] w (Rt (RT 60 4 encNd w ((removeNode a0 a1).1) (.int .i64 ((removeNode a0 a1).2)))) := impl_RemoveNode.walk gv f_a0 (impl_RemoveNode.eq a0 a1 h0 h1)
/-! slices.BinarySearchFunc(()impl.Node,impl.Node,impl.Node) -/
theorem slices_BinSearchN.walk {k : Nat} {w : World} {a0 : List Nd} {a1 : Nd} {a2 : Nd → Nd → Option Int} {v_a0 : Value} (f_a0 : Rd 4 encNd w v_a0 a0) {v_a2 : Value} (f_a2 : ∀ (x0 : Nd) (x1 : Nd) (r : Int), a2 x0 x1 = some r → FnAt Tryz.prog w v_a2 [(.agg (encNd x0).toArray), (.agg (encNd x1).toArray)] (.int .i64 r)) (g_a2 : v_a2.cells = #[v_a2]) {r : Int × Bool} (H : slices_BinSearchN.sh k a0 a1 a2 = some r) :
  Calls Tryz.prog 238 #[v_a0, .agg (encNd a1).toArray, v_a2] w (Rt (RP w (.tuple #[.int .i64 r.1, .bool r.2]))) := by
 unfold slices_BinSearchN.sh at H
 refine calls_of_W Tryz.func238 rfl (Nat.le_of_ble_eq_true rfl) Tryz.ntmps238 rfl ?_
 refine wr <| L_box (.plain rfl) rfl (ltb rfl) rfl rfl <| fun b1 w2 z3 z4 e5 k6 => lp rfl rfl (xa (.int .i64 0) rfl) <| lp rfl rfl (xa (.bool false) rfl) <| nx <| wr <| lp rfl rfl (xm v_a0 rfl) <| lp rfl rfl (X_lenR Tryz.underlying29 rfl (Rd.ext f_a0 e5)) <| lp rfl rfl (xa (.int .i64 (a0.length : Int)) rfl) <| nx <| wr <| lp rfl rfl (xm (.int .i64 (a0.length : Int)) rfl) <| lp rfl rfl (xa (.int .i64 0) rfl) <| lp rfl rfl (xa (.int .i64 (a0.length : Int)) rfl) <| nx <| W_seq ?_
 obtain ⟨z9, L10, C11⟩ := bind_some H
 clear H
 refine  W_cutQ (fun s0 sQ wQ => ∃ (x9_12 : Int), Kp [(9, 12), (15, 35)] s0 sQ ∧ sQ 9 = .int .i64 x9_12 ∧ Ext w2 wQ ∧ z9 = .inr x9_12) ?_ ?_
 ·refine W_block <| W_loopI (fun s0 kk sQ wQ => ∃ (x9_7 : Int) (x10_8 : Int), Kp [(9, 12), (15, 35)] s0 sQ ∧ sQ 9 = .int .i64 x9_7 ∧ sQ 10 = .int .i64 x10_8 ∧ Ext w2 wQ ∧ loopF (slices_BinSearchN.b1 a0 a1 a2) kk (x9_7, x10_8) = some z9) k ⟨0, (a0.length : Int), kz, rfl, rfl, er, L10⟩ ?_
  rintro k17 s18 w19 ⟨x9_7, x10_8, K20, h23, h24, e21, L22⟩
  cases k17 with
  | zero => exact absurd L22 (by simp [loopF])
  | succ k17 =>
   obtain ⟨t25, H, S26⟩ := loopF_succ L22
   clear L22
   unfold slices_BinSearchN.b1 at H
   refine W_seq <| wr <| lp rfl rfl (X_move h23) <| lp rfl rfl (X_move h24) <| lp rfl rfl (X_lss rfl rfl) <| nx ?_
   rcases bif_two H with ⟨q27, H⟩ | ⟨q27, H⟩
   ·refine W_true (cb q27) <| W_skip <| thn_n <| W_block <| wr <| lp rfl rfl (X_move h23) <| lp rfl rfl (X_move h24) <| lp rfl rfl (X_add rfl rfl) <| lp rfl rfl (X_convInt Tryz.underlying3 Tryz.underlying214 rfl) <| lp rfl rfl (X_shr (n := 1) rfl rfl rfl) <| lp rfl rfl (X_convInt Tryz.underlying214 Tryz.underlying3 rfl) <| lp rfl rfl (X_assign rfl) <| nx <| W_seq ?_
    obtain ⟨c28, H⟩ := bif_some H
    obtain ⟨z31, x32, H⟩ := bind_some H
    refine W_dM [LEq v_a2, LEq v_a0, LEq (.int .i64 (IntKind.wrap .i64 ((IntKind.wrap .u64 (IntKind.wrap .i64 (x9_7 + x10_8))).fdiv (2 ^ 1)))), LAt0 (encNd (gt a0 (IntKind.wrap .i64 ((IntKind.wrap .u64 (IntKind.wrap .i64 (x9_7 + x10_8))).fdiv (2 ^ 1))))), LEq (.agg (encNd (gt a0 (IntKind.wrap .i64 ((IntKind.wrap .u64 (IntKind.wrap .i64 (x9_7 + x10_8))).fdiv (2 ^ 1))))).toArray), LEq (.agg #[(.int .i64 a1.kind), (S a1.path), (S a1.body), (.int .i64 a1.mode)]), LEq (.int .i64 z31), LEq (.bool (decide (z31 < 0)))] (by kernel_rfl) (by kernel_rfl) ⟨qm, qm, qm, LAt0.mono, qm, qm, qm, qm, trivial⟩ ⟨?_, ?_, ?_, ?_, ?_, ?_, ?_, ?_, trivial⟩ ?_
    ·exact fun s x e f d u => lp rfl rfl (xm v_a2 ((f 2 rfl).trans (K20 2 rfl))) <| se rfl rfl
    ·exact fun s x e f d u => lp rfl rfl (xm v_a0 ((f 0 rfl).trans (K20 0 rfl))) <| se rfl rfl
    ·exact fun s x e f d u => lp rfl rfl (X_move (f 11 rfl)) <| se rfl rfl
    ·exact fun s x e f d u => L_idx (.plain rfl) rfl (ltb rfl) rfl Tryz.underlying29 Tryz.sizeOf60 (d 1 rfl) (Rd.ext f_a0 ((e5.t e21).t e)) (d 2 rfl) c28 <| fun p36 h37 => se rfl ⟨_, rfl, h37⟩
    ·intro s x e f d u
     obtain ⟨p38, h39, h40⟩ := (d 3 rfl)
     exact lp rfl rfl (X_loadS Tryz.isAgg60 Tryz.sizeOf60 rfl h39 h40) <| se rfl rfl
    ·exact fun s x e f d u => lp rfl rfl (X_loadS Tryz.isAgg60 Tryz.sizeOf60 rfl ((f 4 rfl).trans (K20 4 rfl)) (Blk.at0 (Blk.ext k6 (e21.t e)))) <| se rfl rfl
    ·exact fun s x e f d u => L_callF (.plain rfl) rfl (ltb rfl) rfl (d 0 rfl) (FnAt.ext (f_a2 _ _ _ x32) ((e5.t e21).t e)) (cons2 (d 4 rfl) (cons2 (d 5 rfl) rfl)) <| fun w43 e44 => sx rfl e44 rfl
    ·exact fun s x e f d u => lp rfl rfl (X_lss (d 6 rfl) rfl) <| se rfl rfl
    intro s45 w46 e47 hf48 ha49
    have K50 := Kp.ofD (kp := [(24, 32)]) rfl hf48
    have d51 : s45 31 = (.bool (decide (z31 < 0))) := ha49 7 rfl
    clear ha49 hf48
    refine thn_n ?_
    rcases bif_two H with ⟨q52, H⟩ | ⟨q52, H⟩
    ·refine W_true (d51.trans (cb q52)) <| W_reg <| lp rfl rfl (X_move (K50 11 rfl)) <| lp rfl rfl (X_add rfl rfl) <| lp rfl rfl (X_assign rfl) <| L_nil <| blk_n <| thn_n ?_
     obtain rfl := si H
     exact ⟨_, Nat.lt_succ_self _, IntKind.wrap .i64 ((IntKind.wrap .i64 ((IntKind.wrap .u64 (IntKind.wrap .i64 (x9_7 + x10_8))).fdiv (2 ^ 1))) + 1), x10_8, (ku3 (Kp.cut (ku2 (ku8 K20 rfl) rfl) K50 rfl) rfl), rfl, ((K50 10 rfl).trans h24), (e21.t e47), S26⟩
    ·refine W_false (d51.trans (cb q52)) <| W_reg <| lp rfl rfl (X_move (K50 11 rfl)) <| lp rfl rfl (X_assign rfl) <| L_nil <| blk_n <| thn_n ?_
     obtain rfl := si H
     exact ⟨_, Nat.lt_succ_self _, x9_7, IntKind.wrap .i64 ((IntKind.wrap .u64 (IntKind.wrap .i64 (x9_7 + x10_8))).fdiv (2 ^ 1)), (ku2 (Kp.cut (ku2 (ku8 K20 rfl) rfl) K50 rfl) rfl), ((K50 9 rfl).trans h23), rfl, (e21.t e47), S26⟩
   ·refine W_false (cb q27) <| W_exit <| thn_x <| thn_x <| blk_x <| thn_n ?_
    obtain rfl := si H
    obtain rfl := si S26
    exact ⟨x9_7, (ku3 K20 rfl), h23, e21, rfl⟩
 ·rintro s14 w13 ⟨x9_12, K15, h53, e16, y54⟩
  rw [y54] at C11
  have H := C11
  replace H : _ = some _ := H
  refine thn_n <| W_seq ?_
  obtain ⟨c55, H⟩ := bif_some H
  obtain ⟨z58, x59, H⟩ := bind_some H
  refine W_dM [LEq (.int .i64 x9_12), LEq (.int .i64 x9_12), LEq (.int .i64 (a0.length : Int)), LEq (.bool (decide (x9_12 < (a0.length : Int)))), LEq (.bool (decide (x9_12 < (a0.length : Int)))), LIf (decide (x9_12 < (a0.length : Int))) (LEq v_a2), LIf (decide (x9_12 < (a0.length : Int))) (LEq v_a0), LIf (decide (x9_12 < (a0.length : Int))) (LEq (.int .i64 x9_12)), LIf (decide (x9_12 < (a0.length : Int))) (LAt0 (encNd (gt a0 x9_12))), LIf (decide (x9_12 < (a0.length : Int))) (LEq (.agg (encNd (gt a0 x9_12)).toArray)), LIf (decide (x9_12 < (a0.length : Int))) (LEq (.agg #[(.int .i64 a1.kind), (S a1.path), (S a1.body), (.int .i64 a1.mode)])), LIf (decide (x9_12 < (a0.length : Int))) (LEq (.int .i64 z58)), LIf (decide (x9_12 < (a0.length : Int))) (LEq (.bool (decide (z58 = 0)))), LEq (.bool ((decide (x9_12 < (a0.length : Int))) && (decide (z58 = 0)))), LEq (.int .i64 x9_12), LEq (.bool ((decide (x9_12 < (a0.length : Int))) && (decide (z58 = 0))))] (by kernel_rfl) (by kernel_rfl) ⟨qm, qm, qm, qm, qm, lm, lm, lm, (LIf.mono LAt0.mono), lm, lm, lm, lm, qm, qm, qm, trivial⟩ ⟨?_, ?_, ?_, ?_, ?_, ?_, ?_, ?_, ?_, ?_, ?_, ?_, ?_, ?_, ?_, ?_, trivial⟩ ?_
  ·exact fun s x e f d u => lp rfl rfl (xm (.int .i64 x9_12) ((f 9 rfl).trans h53)) <| se rfl rfl
  ·exact fun s x e f d u => lp rfl rfl (xm (.int .i64 x9_12) ((f 9 rfl).trans h53)) <| se rfl rfl
  ·exact fun s x e f d u => lp rfl rfl (xm (.int .i64 (a0.length : Int)) ((f 8 rfl).trans (K15 8 rfl))) <| se rfl rfl
  ·exact fun s x e f d u => lp rfl rfl (X_lss (d 1 rfl) (d 2 rfl)) <| se rfl rfl
  ·exact fun s x e f d u => lp rfl rfl (X_move (d 3 rfl)) <| se rfl rfl
  ·exact fun s x e f d u => gT rfl rfl rfl rfl (d 4 rfl) rfl fun b t => lt t rfl rfl (xm v_a2 ((f 2 rfl).trans (K15 2 rfl))) <| sg rfl rfl b rfl
  ·exact fun s x e f d u => gT rfl rfl rfl rfl (d 4 rfl) rfl fun b t => lt t rfl rfl (xm v_a0 ((f 0 rfl).trans (K15 0 rfl))) <| sg rfl rfl b rfl
  ·exact fun s x e f d u => gT rfl rfl rfl rfl (d 4 rfl) rfl fun b t => lt t rfl rfl (xm (.int .i64 x9_12) ((f 9 rfl).trans h53)) <| sg rfl rfl b rfl
  ·exact fun s x e f d u => gT rfl rfl rfl rfl (d 4 rfl) rfl fun b t => L_idx t rfl (ltb rfl) rfl Tryz.underlying29 Tryz.sizeOf60 ((d 6 rfl).1 b) (Rd.ext f_a0 ((e5.t e16).t e)) ((d 7 rfl).1 b) (imp_take b c55) <| fun p63 h64 => sg rfl rfl b ⟨_, rfl, h64⟩
  ·intro s x e f d u
   refine gT rfl rfl rfl rfl (d 4 rfl) rfl fun b t => ?_
   obtain ⟨p65, h66, h67⟩ := ((d 8 rfl).1 b)
   exact lt t rfl rfl (X_loadS Tryz.isAgg60 Tryz.sizeOf60 rfl h66 h67) <| sg rfl rfl b rfl
  ·exact fun s x e f d u => gT rfl rfl rfl rfl (d 4 rfl) rfl fun b t => lt t rfl rfl (X_loadS Tryz.isAgg60 Tryz.sizeOf60 rfl ((f 4 rfl).trans (K15 4 rfl)) (Blk.at0 (Blk.ext k6 (e16.t e)))) <| sg rfl rfl b rfl
  ·exact fun s x e f d u => gT rfl rfl rfl rfl (d 4 rfl) rfl fun b t => L_callF t rfl (ltb rfl) rfl ((d 5 rfl).1 b) (FnAt.ext (f_a2 _ _ _ x59) ((e5.t e16).t e)) (cons2 ((d 9 rfl).1 b) (cons2 ((d 10 rfl).1 b) rfl)) <| fun w70 e71 => sgx rfl rfl b e71 rfl
  ·exact fun s x e f d u => gT rfl rfl rfl rfl (d 4 rfl) rfl fun b t => lt t rfl rfl (X_eql ((d 11 rfl).1 b) rfl) <| sg rfl rfl b rfl
  ·exact fun s x e f d u => lp rfl rfl (X_pickA (d 4 rfl) rfl fun h => ((d 12 rfl).1 h)) <| se rfl rfl
  ·exact fun s x e f d u => lp rfl rfl (X_assign (d 0 rfl)) <| se rfl rfl
  ·exact fun s x e f d u => lp rfl rfl (X_assign (d 13 rfl)) <| se rfl rfl
  intro s72 w73 e74 hf75 ha76
  have K77 := Kp.ofD (kp := [(6, 8), (35, 49)]) rfl hf75
  have d78 : s72 6 = (.int .i64 x9_12) := ha76 14 rfl
  have d79 : s72 7 = (.bool ((decide (x9_12 < (a0.length : Int))) && (decide (z58 = 0)))) := ha76 15 rfl
  clear ha76 hf75
  refine thn_n <| W_ret <| fin_r ?_
  obtain rfl := si H
  exact fin2 d78 d79 ((e5.t e16).t e74)
theorem slices_BinSearchN.calls {w : World} {a0 : List Nd} {a1 : Nd} {a2 : Nd → Nd → Option Int} {r : Int × Bool} {v_a0 : Value} (f_a0 : Rd 4 encNd w v_a0 a0) {v_a2 : Value} (f_a2 : ∀ (x0 : Nd) (x1 : Nd) (r : Int), a2 x0 x1 = some r → FnAt Tryz.prog w v_a2 [(.agg (encNd x0).toArray), (.agg (encNd x1).toArray)] (.int .i64 r)) (g_a2 : v_a2.cells = #[v_a2]) (H : (slices_BinSearchN.sh 64 a0 a1 a2) = some r) :
  Calls Tryz.prog 238 #[v_a0, .agg (encNd a1).toArray, v_a2] w (Rt (RP w (.tuple #[.int .i64 r.1, .bool r.2]))) := by
 obtain ⟨k, h⟩ := slices_BinSearchN.eq a0 a1 a2 H
 exact slices_BinSearchN.walk f_a0 f_a2 g_a2 h
/-! impl.place$1 -/
theorem impl_place_1.calls {w : World} {a0 : Nd} {a1 : Nd} (gv : GV 0 w) (h0 : a0.path.length ≤ 1048576) (h1 : a1.path.length ≤ 1048576) :
  Calls Tryz.prog 239 #[.agg (encNd a0).toArray, .agg (encNd a1).toArray] w (Rt (RP w (.int .i64 (cmpL (cut 47 a0.path) (cut 47 a1.path))))) := by
 have H := impl_place_1.eq a0 a1 h0 h1
 generalize (cmpL (cut 47 a0.path) (cut 47 a1.path)) = r at H ⊢
 unfold impl_place_1.sh at H
 refine calls_of_W Tryz.func239 rfl (Nat.le_of_ble_eq_true rfl) Tryz.ntmps239 rfl ?_
 refine wr <| L_box (.plain rfl) rfl (ltb rfl) rfl rfl <| fun b1 w2 z3 z4 e5 k6 => L_box (.plain rfl) rfl (ltb rfl) rfl rfl <| fun b7 w8 z9 z10 e11 k12 => lp rfl rfl (xa (.int .i64 0) rfl) <| nx <| wr <| lp rfl rfl (X_fieldAddr Tryz.underlying60 rfl Tryz.sizeOf9 rfl rfl) <| lp rfl rfl (X_loadB Tryz.isAgg9 (Blk.ext k6 e11) rfl rfl) <| lp rfl rfl (X_fieldAddr Tryz.underlying60 rfl Tryz.sizeOf9 rfl rfl) <| lp rfl rfl (X_loadB Tryz.isAgg9 k12 rfl rfl) ?_
 obtain ⟨c13, H⟩ := bif_some H
 obtain ⟨c14, H⟩ := bif_some H
 refine lc rfl rfl rfl Tryz.call181 (impl_compare.calls (w := w8) (a0 := a0.path) (a1 := a1.path) (GV.ext gv (e5.t e11)) (od c13) (od c14)) rfl <| fun w15 e16 => lp rfl rfl (xa (.int .i64 (cmpL (cut 47 a0.path) (cut 47 a1.path))) rfl) <| nx <| W_ret <| fin_r ?_
 obtain rfl := si H
 exact fin1 rfl ((e5.t e11).t e16)
/-! slices.Insert(()impl.Node,impl.Node), by text -/
theorem slices_InsertN.calls {w : World} {B : Nat} {v : Value} {xs : List Nd} {x : Nd} {i b9 : Nat} (hO : Ow 60 4 encNd B w v xs) (hi : i ≤ xs.length) (hB : B ≤ w.heap.size) (k9 : Blk w b9 (encNd x).toArray 60) (hne : (∃ A, v = .slice A 0 0) ∨ ∀ g, v.ownBlock = some g → b9 ≠ g) (hn : xs.length ≤ 1048576) :
    Calls Tryz.prog 240 #[v, .int .i64 i, .slice (some ⟨b9, 0, none⟩) 1 1] w (Rt (fun r w' => (∀ W, Below B W w → Below B W w') ∧ Ow 60 4 encNd B w' r (insAt xs i x))) := by
  obtain ⟨A0, c0, hv0⟩ := hO.rd.shape
  have hcap : xs.length ≤ c0 := by obtain ⟨A', c', hv', ⟨hn', _⟩, _⟩ := hO.rd; rw [hv0] at hv'; injection hv' with _ _ e9; omega
  have hxl : (encNd x).length = 4 := rfl
  have hR1 : Rd 4 encNd w (.slice (some ⟨b9, 0, none⟩) 1 1) [x] := (Ow.new (xs := [x]) (sz := 4) (enc := encNd) (base := 0) k9 (Nat.zero_le _) (by simp) (fun _ _ => rfl) (Nat.le_of_ble_eq_true rfl)).rd
  refine calls_of_W Tryz.func240 rfl (Nat.le_of_ble_eq_true rfl) Tryz.ntmps240 rfl ?_
  refine wr <| lp rfl rfl (X_assign rfl) <| nx <| wr <| lp rfl rfl (xm v rfl) <| lp rfl rfl (X_move (v := .int .i64 (i : Int)) rfl) <|
    lp rfl rfl (X_sliceSl (A := A0) (n := xs.length) (c := c0) (l := (i : Int)) (h := (xs.length : Int)) Tryz.underlying29 Tryz.sizeOf60 hv0 ⟨_, rfl⟩ rfl (by omega) (by omega) (by omega)) <| nx <|
    wr <| lp rfl rfl (X_move (v := .slice (some ⟨b9, 0, none⟩) 1 1) rfl) <| lp rfl rfl (X_len Tryz.underlying29 rfl) <| lp rfl rfl (X_assign rfl) <| nx <|
    W_seq <| wr <| lp rfl rfl (X_move (v := .int .i64 ((1 : Nat) : Int)) rfl) <| lp rfl rfl (X_eql rfl rfl) <| nx <| W_false (cb (decide_eq_false (by decide))) <| W_skip <| thn_n <|
    wr <| lp rfl rfl (xm v rfl) <| lp rfl rfl (X_len (A := A0) (n := xs.length) (c := c0) Tryz.underlying29 hv0) <| lp rfl rfl (X_assign rfl) <| nx <|
    W_seq <| wr <| lp rfl rfl (X_move (v := .int .i64 (i : Int)) rfl) <| lp rfl rfl (X_move (v := .int .i64 (xs.length : Int)) rfl) <| lp rfl rfl (X_eql rfl rfl) <| nx ?_
  by_cases hie : i = xs.length
  · refine W_true (cb (decide_eq_true (by omega))) <| wr <| lp rfl rfl (xm v rfl) <| lp rfl rfl (X_move (v := .slice (some ⟨b9, 0, none⟩) 1 1) rfl) <|
      L_append (enc := encNd) (.plain rfl) rfl (ltb rfl) rfl El.t29 rfl rfl hO hR1 (ones_Nd _) (by simp; omega) hB <| fun v1 w1 o1 z1 g1 => lp rfl rfl (xa v1 rfl) <| nx <| W_ret <| thn_r <| fin_r ?_
    refine ⟨_, rfl, g1, ?_⟩
    have : insAt xs i x = xs ++ [x] := by simp [insAt, hie]
    rw [this]; exact o1
  obtain ⟨g, cap, cur, hv, hBg, hh, hnc, hcm, hsz, htk⟩ := hO.row (by omega)
  have hcc : A0 = some ⟨g, 0, none⟩ ∧ c0 = cap := by rw [hv] at hv0; injection hv0 with e1 _ e3; exact ⟨e1.symm, e3.symm⟩
  obtain ⟨rfl, rfl⟩ := hcc
  have hlen := hO.2.1
  have hT : ((xs.take i).flatMap encNd).length = i * 4 := by rw [flat_len encNd 4 _ (fun y hy => hlen y (List.mem_of_mem_take hy))]; simp; omega
  have hDl : ((xs.drop i).flatMap encNd).length = (xs.length - i) * 4 := by rw [flat_len encNd 4 _ (fun y hy => hlen y (List.mem_of_mem_drop hy))]; simp
  have hcur : cur.toList = (xs.take i).flatMap encNd ++ (xs.drop i).flatMap encNd ++ cur.toList.drop (xs.length * 4) := by
    rw [← List.flatMap_append, List.take_append_drop, ← htk, List.take_append_drop]
  have hcl : cur.toList.length = c0 * 4 := by simpa using hsz
  have hone1 : ∀ c ∈ encNd x, c.oneCell' = true := fun c hc => ones_Nd [x] x (by simp) c hc
  have honeD : ∀ c ∈ (xs.drop i).flatMap encNd, c.oneCell' = true := fun c hc => by
    obtain ⟨y, hy, hc⟩ := List.mem_flatMap.1 hc
    exact ones_Nd _ y hy c hc
  have hil : (insAt xs i x).length = xs.length + 1 := insAt_len xs i x hi
  have hlen2 : ∀ y ∈ insAt xs i x, (encNd y).length = 4 := fun y _ => rfl
  have hsrcX : ∀ {W : World}, Blk W b9 (encNd x).toArray 60 → ∀ j u, (encNd x)[j]? = some u → W.cell? ((⟨b9, 0, none⟩ : Addr).add j) = some u := fun {W} k j u hj => by
    rw [add_none, Nat.zero_add, k.cell]; simpa using hj
  have hgetD : ∀ j u, ((xs.drop i).flatMap encNd)[j]? = some u → cur.toList[i * 4 + j]? = some u := fun j u hj => by
    have hj' : j < ((xs.drop i).flatMap encNd).length := (List.getElem?_eq_some_iff.1 hj).1
    rw [hcur, List.append_assoc, List.getElem?_append_right (by omega), hT, Nat.add_sub_cancel_left, List.getElem?_append_left hj', hj]
  have hsrcD : ∀ {W : World}, Blk W g cur 60 → ∀ j u, ((xs.drop i).flatMap encNd)[j]? = some u → W.cell? ((⟨g, 0 + i * 4, none⟩ : Addr).add j) = some u := fun {W} k j u hj => by
    rw [add_none, k.cell, Nat.zero_add]
    have := hgetD j u hj
    simpa using this
  have hw : IntKind.wrap .i64 ((xs.length : Int) + ((1 : Nat) : Int)) = ((xs.length + 1 : Nat) : Int) := by rw [Int.natCast_add]; exact Go.UL.wrap_small (by omega) (by omega)
  have hwi : IntKind.wrap .i64 ((i : Int) + ((1 : Nat) : Int)) = ((i + 1 : Nat) : Int) := by rw [Int.natCast_add]; exact Go.UL.wrap_small (by omega) (by omega)
  have hgw : g < w.heap.size := (Array.getElem?_eq_some_iff.1 hh).1
  refine W_false (cb (decide_eq_false (by omega))) <| W_skip <| thn_n <| W_seq <| wr <| lp rfl rfl (X_move (v := .int .i64 (xs.length : Int)) rfl) <| lp rfl rfl (X_move (v := .int .i64 ((1 : Nat) : Int)) rfl) <|
    lp rfl rfl (Ex.cast (X_add rfl rfl) (congrArg (Value.int .i64) hw)) <| lp rfl rfl (xm v rfl) <| lp rfl rfl (X_cap Tryz.underlying29 hv) <| lp rfl rfl (X_gtr rfl rfl) <| nx ?_
  by_cases hroom : c0 < xs.length + 1
  · -- no room: a new block
    obtain ⟨k, hk⟩ : ∃ k, i + k = xs.length + 1 := ⟨xs.length + 1 - i, by omega⟩
    have hw2 : IntKind.wrap .i64 (((xs.length + 1 : Nat) : Int) - (i : Int)) = (k : Int) := by rw [Go.UL.wrap_small (by omega) (by omega)]; omega
    have hc0 : c0 = xs.length := by omega
    refine W_true (cb (decide_eq_true (by omega))) <| wr <| lp rfl rfl (xm v rfl) <| lp rfl rfl (X_move (v := .int .i64 (i : Int)) rfl) <|
      lp rfl rfl (Ex.cast (v' := .slice (some ⟨g, 0, none⟩) i c0) (X_sliceG (l := 0) (h := i) Tryz.underlying29 Tryz.sizeOf60 hv rfl ⟨_, rfl⟩ (.inr rfl) (Nat.zero_le _) (by omega)) (by simp)) <|
      lp rfl rfl (X_move (v := .int .i64 (xs.length : Int)) rfl) <| lp rfl rfl (X_move (v := .int .i64 ((1 : Nat) : Int)) rfl) <| lp rfl rfl (Ex.cast (X_add rfl rfl) (congrArg (Value.int .i64) hw)) <| lp rfl rfl (X_move (v := .int .i64 (i : Int)) rfl) <|
      lp rfl rfl (Ex.cast (X_sub rfl rfl) (congrArg (Value.int .i64) hw2)) <|
      L_appendZ (olds := (xs.take i).flatMap encNd) (.plain rfl) rfl (ltb rfl) rfl El.t29 Tryz.underlying3 rfl rfl (run_firstCells_some w.drew 4 i ⟨g, 0, none⟩ i c0 _ hT (fun j u hj => ?_)) hT (by omega) (by omega) (by omega) <| fun b w1 C zs hb e1 hC1 hC2 hCl k1 => lp rfl rfl (X_assign rfl) <| nx ?_
    · have hj' : j < ((xs.take i).flatMap encNd).length := (List.getElem?_eq_some_iff.1 hj).1
      have kd : Blk w.drew g cur 60 := Blk.ext hh (Ext.drew w)
      rw [add_none, kd.cell, Nat.zero_add]
      have : cur.toList[j]? = some u := by rw [hcur, List.append_assoc, List.getElem?_append_left hj', hj]
      simpa using this
    have hBb : B ≤ b := by omega
    have hgb : g ≠ b := by omega
    have hzl : zs.length = C * 4 - i * 4 := by simp only [List.length_append, hT] at hCl; omega
    have hCs : (xs.length + 1) * 4 ≤ C * 4 := Nat.mul_le_mul_right _ (by omega)
    have hmin1 : Nat.min 1 (i + k - i) = 1 := Nat.min_eq_left (by omega)
    refine wr <| lp rfl rfl (X_move (v := .slice (some ⟨b, 0, none⟩) (i + k) C) rfl) <| lp rfl rfl (X_move (v := .int .i64 (i : Int)) rfl) <|
      lp rfl rfl (X_sliceG (l := i) (h := i + k) Tryz.underlying29 Tryz.sizeOf60 rfl ⟨_, rfl⟩ rfl (.inl (by omega)) (by omega) hC1) <| lp rfl rfl (X_move (v := .slice (some ⟨b9, 0, none⟩) 1 1) rfl) <|
      L_copyB (cs := encNd x) (.plain rfl) rfl (ltb rfl) rfl Tryz.underlying29 Tryz.sizeOf60 k1 rfl rfl (by rw [hmin1]; rfl) (hsrcX (k9.ext e1)) (by simp only [List.size_toArray, hCl, hxl]; omega) hone1 <| fun w2 hw2' k2 => nx ?_
    have e2 : Ext w w2 := Ext.wr e1 hw2' (Nat.le_of_eq hb) (Nat.le_refl _)
    have hh2 : Blk w2 g cur 60 := Blk.ext hh e2
    have hlr : ((List.take (0 + i * 4) ((List.flatMap encNd (List.take i xs)) ++ zs)) ++ encNd x ++ List.drop (0 + i * 4 + (encNd x).length) ((List.flatMap encNd (List.take i xs)) ++ zs)).length = C * 4 := by
      simp only [List.length_append, List.length_take, List.length_drop, hT, hxl, hzl]; omega
    have hmin2 : Nat.min (xs.length - i) (i + k - (i + 1)) = xs.length - i := Nat.min_eq_left (by omega)
    refine W_seq <| W_drawR (B := B) [LEq (.slice (some ⟨b, 0, none⟩) (i + k) C), LEq (.int .i64 (i : Int)), LEq (.int .i64 ((1 : Nat) : Int)), LEq (.int .i64 ((i + 1 : Nat) : Int)), LEq (.slice (some ⟨b, 0 + (i + 1) * 4, none⟩) (i + k - (i + 1)) (C - (i + 1))), LEq v, LEq (.int .i64 (i : Int)), LEq (.slice (some ⟨g, 0 + i * 4, none⟩) (xs.length - i) (c0 - i)),
        fun _ W => ∃ row, Blk W b row 60 ∧ row.toList = (xs.take i).flatMap encNd ++ (encNd x ++ (xs.drop i).flatMap encNd) ++ zs.drop (4 + ((xs.drop i).flatMap encNd).length)]
      [⟨true, true, true, false, []⟩, ⟨true, true, true, false, []⟩, ⟨true, true, true, false, []⟩, ⟨true, true, true, false, [1, 2]⟩, ⟨true, true, true, false, [0, 3]⟩, ⟨true, true, true, false, []⟩, ⟨true, true, true, false, []⟩, ⟨true, true, true, false, [5, 6]⟩, ⟨false, false, true, true, [4, 7]⟩]
      [(8, 0, [4]), (8, 1, [4, 3]), (8, 2, [4, 3]), (8, 3, [4]), (8, 4, []), (8, 5, [7]), (8, 6, [7]), (8, 7, [])] (by kernel_rfl) (by kernel_rfl) (Nat.le_trans hB e2.size)
      ⟨⟨LEq.rig.mono, fun _ => LEq.rig⟩, ⟨LEq.rig.mono, fun _ => LEq.rig⟩, ⟨LEq.rig.mono, fun _ => LEq.rig⟩, ⟨LEq.rig.mono, fun _ => LEq.rig⟩, ⟨LEq.rig.mono, fun _ => LEq.rig⟩, ⟨LEq.rig.mono, fun _ => LEq.rig⟩, ⟨LEq.rig.mono, fun _ => LEq.rig⟩, ⟨LEq.rig.mono, fun _ => LEq.rig⟩, ⟨fun _ _ _ k9 ⟨row, h1, h2⟩ => ⟨row, h1.ext k9, h2⟩, noR⟩, trivial⟩
      ⟨?_, ?_, ?_, ?_, ?_, ?_, ?_, ?_, ?_, trivial⟩ ?_
    · intro s9 w9 hb9 hx9 hf9 hd9 hu9
      exact lp rfl rfl (X_move (hf9 9 rfl)) <| L_nil <| stepS rfl rfl rfl er rfl
    · intro s9 w9 hb9 hx9 hf9 hd9 hu9
      exact lp rfl rfl (X_move (hf9 1 rfl)) <| L_nil <| stepS rfl rfl rfl er rfl
    · intro s9 w9 hb9 hx9 hf9 hd9 hu9
      exact lp rfl rfl (X_move (hf9 7 rfl)) <| L_nil <| stepS rfl rfl rfl er rfl
    · intro s9 w9 hb9 hx9 hf9 hd9 hu9
      exact lp rfl rfl (Ex.cast (X_add (hd9 1 rfl) (hd9 2 rfl)) (congrArg (Value.int .i64) hwi)) <| L_nil <| stepS rfl rfl rfl er rfl
    · intro s9 w9 hb9 hx9 hf9 hd9 hu9
      exact lp rfl rfl (X_sliceG (l := i + 1) (h := i + k) Tryz.underlying29 Tryz.sizeOf60 (hd9 0 rfl) ⟨_, hd9 3 rfl⟩ rfl (.inl (by omega)) (by omega) hC1) <| L_nil <| stepS rfl rfl rfl er rfl
    · intro s9 w9 hb9 hx9 hf9 hd9 hu9
      exact lp rfl rfl (X_move (hf9 0 rfl)) <| L_nil <| stepS rfl rfl rfl er rfl
    · intro s9 w9 hb9 hx9 hf9 hd9 hu9
      exact lp rfl rfl (X_move (hf9 1 rfl)) <| L_nil <| stepS rfl rfl rfl er rfl
    · intro s9 w9 hb9 hx9 hf9 hd9 hu9
      exact lp rfl rfl (X_sliceG (l := i) (h := xs.length) Tryz.underlying29 Tryz.sizeOf60 ((hd9 5 rfl).trans hv) ⟨_, hd9 6 rfl⟩ rfl (.inl (by omega)) hi (by omega)) <| L_nil <| stepS rfl rfl rfl er rfl
    · intro s9 w9 hb9 hx9 hf9 hd9 hu9
      have e9 : Ext w2 w9 := hx9 rfl
      refine L_copyB (cs := (xs.drop i).flatMap encNd) (.plain rfl) rfl (ltb rfl) rfl Tryz.underlying29 Tryz.sizeOf60 (k2.ext e9) (hd9 4 rfl) (hd9 7 rfl) (by rw [hmin2, hDl]) (hsrcD (hh2.ext e9)) (by simp only [List.size_toArray, hlr, hDl]; omega) honeD <| fun w3 hw3 k3 => L_nil <| stepH rfl rfl rfl (hw3.below hBb) ⟨_, k3, ?_⟩
      have hz : 4 ≤ zs.length := by omega
      have := ins_grow (T := (xs.take i).flatMap encNd) (X := encNd x) (D := (xs.drop i).flatMap encNd) (Z := zs) hT hxl hz
      simp only [Nat.zero_add] at this ⊢
      rw [show (i + 1) * 4 = i * 4 + 4 by omega]
      exact this
    · intro s3 w3 hb3 hf3 ha3
      obtain ⟨row, k3, hrow⟩ := ha3 8 rfl rfl
      refine thn_n <| wr <| lp rfl rfl (X_move (v := .slice (some ⟨b, 0, none⟩) (i + k) C) (hf3 9 rfl)) <| lp rfl rfl (X_assign rfl) <| nx <| W_ret <| thn_r <| fin_r ?_
      refine ⟨_, rfl, fun W hW => ?_, ?_⟩
      · exact Below.trans (Below.trans (Below.trans hW (e1.mono hB)) (hw2'.below hBb)) hb3
      · have hrl : row.toList.length = C * 4 := by
          rw [hrow]; simp only [List.length_append, List.length_drop, hT, hxl, hDl, hzl]; omega
        have := Ow.of_row (C := C) (ys := insAt xs i x) (R := zs.drop (4 + ((xs.drop i).flatMap encNd).length)) (row := row.toList) hBb (by simpa using k3) (by rw [ins_flat]; exact hrow) hlen2 (by omega) hC2 hrl
        rw [hil, ← hk] at this
        exact this
  · -- room: in place
    have hw3 : IntKind.wrap .i64 ((xs.length : Int) + ((1 : Nat) : Int)) = ((xs.length + 1 : Nat) : Int) := hw
    have hne9 : b9 ≠ g := by
      rcases hne with ⟨A, hA⟩ | hne
      · rw [hv] at hA; injection hA with _ hl0 _; omega
      · exact hne g (by rw [hv]; rfl)
    refine W_false (cb (decide_eq_false (by omega))) <| W_skip <| thn_n <| wr <| lp rfl rfl (xm v rfl) <| lp rfl rfl (X_move (v := .int .i64 (xs.length : Int)) rfl) <| lp rfl rfl (X_move (v := .int .i64 ((1 : Nat) : Int)) rfl) <|
      lp rfl rfl (Ex.cast (X_add rfl rfl) (congrArg (Value.int .i64) hw)) <| lp rfl rfl (Ex.cast (v' := .slice (some ⟨g, 0, none⟩) (xs.length + 1) c0) (X_sliceG (l := 0) (h := xs.length + 1) Tryz.underlying29 Tryz.sizeOf60 hv rfl ⟨_, rfl⟩ (.inr rfl) (Nat.zero_le _) (by omega)) (by simp)) <|
      lp rfl rfl (X_assign rfl) <| nx <| W_seq <| wr <| lp rfl rfl (X_move (v := .slice (some ⟨b9, 0, none⟩) 1 1) rfl) <| lp rfl rfl (X_move (v := .slice (some ⟨g, 0, none⟩) (xs.length + 1) c0) rfl) <| lp rfl rfl (X_move (v := .int .i64 (i : Int)) rfl) <|
      lp rfl rfl (X_move (v := .int .i64 ((1 : Nat) : Int)) rfl) <| lp rfl rfl (Ex.cast (X_add rfl rfl) (congrArg (Value.int .i64) hwi)) <|
      lp rfl rfl (X_sliceG (l := i + 1) (h := xs.length + 1) Tryz.underlying29 Tryz.sizeOf60 rfl ⟨_, rfl⟩ rfl (.inl (by omega)) (by omega) (by omega)) <|
      lp rfl rfl (X_ext (vs := #[.slice (some ⟨b9, 0, none⟩) 1 1, .slice (some ⟨g, 0 + (i + 1) * 4, none⟩) (xs.length + 1 - (i + 1)) (c0 - (i + 1))]) rfl (v := .bool false) ?_) <|
      lp rfl rfl (X_not rfl) <| nx <| W_true rfl ?_
    · rw [run_callFunc_extern Tryz.func273 (by kernel_rfl) (by kernel_rfl) (by kernel_rfl) (e := Extern.SlicesOverlaps.overlaps #[29, 29] #[4]) (by kernel_rfl),
        Lib.run_overlaps_apart w 29 4 60 Tryz.underlying29 4 Tryz.sizeOf60 ⟨b9, 0, none⟩ ⟨g, 0 + (i + 1) * 4, none⟩ 1 1 _ _ hne9 60 60 _ _ k9.shape (Blk.shape (cs := cur) hh) (by omega) k9.frozen k9.frozen]
      rfl
    have hmin2 : Nat.min (xs.length + 1 - i) (xs.length + 1 - (i + 1)) = xs.length - i := (Nat.min_eq_right (by omega)).trans (by omega)
    have hcs : (xs.length + 1) * 4 ≤ c0 * 4 := Nat.mul_le_mul_right _ (by omega)
    refine W_seq <| W_drawR (B := B) [LEq (.slice (some ⟨g, 0, none⟩) (xs.length + 1) c0), LEq (.int .i64 (i : Int)), LEq (.int .i64 ((1 : Nat) : Int)), LEq (.int .i64 ((i + 1 : Nat) : Int)), LEq (.slice (some ⟨g, 0 + (i + 1) * 4, none⟩) (xs.length + 1 - (i + 1)) (c0 - (i + 1))), LEq (.slice (some ⟨g, 0, none⟩) (xs.length + 1) c0), LEq (.int .i64 (i : Int)), LEq (.slice (some ⟨g, 0 + i * 4, none⟩) (xs.length + 1 - i) (c0 - i)),
        fun _ W => Blk W g (List.take (0 + (i + 1) * 4) cur.toList ++ (xs.drop i).flatMap encNd ++ List.drop (0 + (i + 1) * 4 + ((xs.drop i).flatMap encNd).length) cur.toList).toArray 60 ∧ Blk W b9 (encNd x).toArray 60]
      [⟨true, true, true, false, []⟩, ⟨true, true, true, false, []⟩, ⟨true, true, true, false, []⟩, ⟨true, true, true, false, [1, 2]⟩, ⟨true, true, true, false, [0, 3]⟩, ⟨true, true, true, false, []⟩, ⟨true, true, true, false, []⟩, ⟨true, true, true, false, [5, 6]⟩, ⟨false, false, true, true, [4, 7]⟩]
      [(8, 0, [4]), (8, 1, [4, 3]), (8, 2, [4, 3]), (8, 3, [4]), (8, 4, []), (8, 5, [7]), (8, 6, [7]), (8, 7, [])] (by kernel_rfl) (by kernel_rfl) hB
      ⟨⟨LEq.rig.mono, fun _ => LEq.rig⟩, ⟨LEq.rig.mono, fun _ => LEq.rig⟩, ⟨LEq.rig.mono, fun _ => LEq.rig⟩, ⟨LEq.rig.mono, fun _ => LEq.rig⟩, ⟨LEq.rig.mono, fun _ => LEq.rig⟩, ⟨LEq.rig.mono, fun _ => LEq.rig⟩, ⟨LEq.rig.mono, fun _ => LEq.rig⟩, ⟨LEq.rig.mono, fun _ => LEq.rig⟩, ⟨fun _ _ _ k9 ⟨h1, h2⟩ => ⟨h1.ext k9, h2.ext k9⟩, noR⟩, trivial⟩
      ⟨?_, ?_, ?_, ?_, ?_, ?_, ?_, ?_, ?_, trivial⟩ ?_
    · intro s9 w9 hb9 hx9 hf9 hd9 hu9
      exact lp rfl rfl (X_move (hf9 0 rfl)) <| L_nil <| stepS rfl rfl rfl er rfl
    · intro s9 w9 hb9 hx9 hf9 hd9 hu9
      exact lp rfl rfl (X_move (hf9 1 rfl)) <| L_nil <| stepS rfl rfl rfl er rfl
    · intro s9 w9 hb9 hx9 hf9 hd9 hu9
      exact lp rfl rfl (X_move (hf9 7 rfl)) <| L_nil <| stepS rfl rfl rfl er rfl
    · intro s9 w9 hb9 hx9 hf9 hd9 hu9
      exact lp rfl rfl (Ex.cast (X_add (hd9 1 rfl) (hd9 2 rfl)) (congrArg (Value.int .i64) hwi)) <| L_nil <| stepS rfl rfl rfl er rfl
    · intro s9 w9 hb9 hx9 hf9 hd9 hu9
      exact lp rfl rfl (X_sliceG (l := i + 1) (h := xs.length + 1) Tryz.underlying29 Tryz.sizeOf60 (hd9 0 rfl) ⟨_, hd9 3 rfl⟩ rfl (.inl (by omega)) (by omega) (by omega)) <| L_nil <| stepS rfl rfl rfl er rfl
    · intro s9 w9 hb9 hx9 hf9 hd9 hu9
      exact lp rfl rfl (X_move (hf9 0 rfl)) <| L_nil <| stepS rfl rfl rfl er rfl
    · intro s9 w9 hb9 hx9 hf9 hd9 hu9
      exact lp rfl rfl (X_move (hf9 1 rfl)) <| L_nil <| stepS rfl rfl rfl er rfl
    · intro s9 w9 hb9 hx9 hf9 hd9 hu9
      exact lp rfl rfl (X_sliceG (l := i) (h := xs.length + 1) Tryz.underlying29 Tryz.sizeOf60 (hd9 5 rfl) ⟨_, hd9 6 rfl⟩ rfl (.inl (by omega)) (by omega) (by omega)) <| L_nil <| stepS rfl rfl rfl er rfl
    · intro s9 w9 hb9 hx9 hf9 hd9 hu9
      have e9 : Ext w w9 := hx9 rfl
      exact L_copyB (cs := (xs.drop i).flatMap encNd) (.plain rfl) rfl (ltb rfl) rfl Tryz.underlying29 Tryz.sizeOf60 (Blk.ext hh e9) (hd9 4 rfl) (hd9 7 rfl) (by rw [hmin2, hDl]) (hsrcD (Blk.ext hh e9)) (by rw [hDl, hsz]; omega) honeD <| fun w3 hw3 k3 => L_nil <| stepH rfl rfl rfl (hw3.below hBg) ⟨k3, hw3.blk (k9.ext e9) hne9⟩
    · intro s3 w3 hb3 hf3 ha3
      obtain ⟨k3, k93⟩ := ha3 8 rfl rfl
      have hmin1 : Nat.min 1 (xs.length + 1 - i) = 1 := Nat.min_eq_left (by omega)
      have hsz3 : (List.take (0 + (i + 1) * 4) cur.toList ++ (xs.drop i).flatMap encNd ++ List.drop (0 + (i + 1) * 4 + ((xs.drop i).flatMap encNd).length) cur.toList).length = c0 * 4 := by
        simp only [List.length_append, List.length_take, List.length_drop, hDl, hcl]; omega
      refine thn_n <| wr <| lp rfl rfl (X_move (v := .slice (some ⟨g, 0, none⟩) (xs.length + 1) c0) (hf3 0 rfl)) <| lp rfl rfl (X_move (v := .int .i64 (i : Int)) (hf3 1 rfl)) <|
        lp rfl rfl (X_sliceG (l := i) (h := xs.length + 1) Tryz.underlying29 Tryz.sizeOf60 rfl ⟨_, rfl⟩ rfl (.inl (by omega)) (by omega) (by omega)) <| lp rfl rfl (X_move (v := .slice (some ⟨b9, 0, none⟩) 1 1) (hf3 2 rfl)) <|
        L_copyB (cs := encNd x) (.plain rfl) rfl (ltb rfl) rfl Tryz.underlying29 Tryz.sizeOf60 k3 rfl rfl (by rw [hmin1]; rfl) (hsrcX k93) (by simp only [List.size_toArray, hsz3, hxl]; omega) hone1 <| fun w4 hw4 k4 => nx <|
        wr <| lp rfl rfl (X_move (v := .slice (some ⟨g, 0, none⟩) (xs.length + 1) c0) (hf3 0 rfl)) <| lp rfl rfl (X_assign rfl) <| nx <| W_ret <| thn_r <| fin_r ?_
      refine ⟨_, rfl, fun W hW => ?_, ?_⟩
      · exact Below.trans (Below.trans hW hb3) (hw4.below hBg)
      · have hz : 4 ≤ (cur.toList.drop (xs.length * 4)).length := by simp only [List.length_drop, hcl]; omega
        have h5 := ins_room (T := (xs.take i).flatMap encNd) (X := encNd x) (D := (xs.drop i).flatMap encNd) (R := cur.toList.drop (xs.length * 4)) hT hxl hz
        rw [← hcur, show i * 4 + 4 = (i + 1) * 4 by omega] at h5
        simp only [Nat.zero_add] at k4
        rw [h5] at k4
        have hrl : ((xs.take i).flatMap encNd ++ (encNd x ++ (xs.drop i).flatMap encNd) ++ (cur.toList.drop (xs.length * 4)).drop 4).length = c0 * 4 := by
          simp only [List.length_append, List.length_drop, hT, hxl, hDl, hcl]; omega
        have := Ow.of_row (C := c0) (ys := insAt xs i x) (R := (cur.toList.drop (xs.length * 4)).drop 4) hBg k4 (by rw [ins_flat]) hlen2 (by omega) hcm hrl
        rw [hil] at this
        exact this

/-! impl.place, by text -/
theorem insAt_less {t : List Nd} {n : Nd} (h : riseN t = true) : insAt t (lessC t n.path) n = placeL t n := by
  obtain ⟨h1, h2⟩ := less_split (p := n.path) (riseN_rise h)
  unfold insAt placeL; rw [h1, h2]
theorem impl_place.calls {w : World} {a0 : List Nd} {a1 : Nd} {v_a0 : Value} (gv : GV 0 w) (f_a0 : Rd 4 encNd w v_a0 a0) (h0 : a0.length ≤ 1048575) (h1 : riseN a0 = true) (h2 : ∀ x ∈ a0, x.path.length ≤ 1048576) (h3 : a1.path.length ≤ 1048576) :
    Calls Tryz.prog 157 #[v_a0, .agg (encNd a1).toArray] w (Rt (RO 60 4 encNd w (placeL a0 a1))) := by
  obtain ⟨fd, hbs⟩ := binS_run h0 h1 h2 h3
  have hle := lessC_le a0 a1.path
  refine calls_of_W Tryz.func157 rfl (Nat.le_of_ble_eq_true rfl) Tryz.ntmps157 rfl ?_
  refine wr <| L_box (.plain rfl) rfl (ltb rfl) rfl rfl <| fun b3 w1 z1 z2 e1 k1 => lp rfl rfl (X_assign (v := .slice none 0 0) rfl) <| nx <| wr <| lp rfl rfl (xm v_a0 rfl) <| lp rfl rfl (X_loadS (cs := encNd a1) Tryz.isAgg60 Tryz.sizeOf60 rfl rfl (Blk.at0 k1)) <|
    lc rfl rfl rfl Tryz.call238 (slices_BinSearchN.calls (w := w1) (a0 := a0) (a1 := a1) (a2 := cmpN) (v_a2 := .func (.func 239) #[] #[]) (f_a0.ext e1) (fun x0 x1 r h => ?_) rfl hbs) rfl <| fun w2 e2 => lp rfl rfl (X_move rfl) <| lp rfl rfl (X_extract rfl rfl) <| lp rfl rfl (X_extract rfl rfl) <| lp rfl rfl (X_assign (v := .int .i64 (lessC a0 a1.path : Int)) rfl) <| lp rfl rfl (X_assign rfl) <| nx ?_
  · obtain ⟨q0, q1, rfl⟩ := cmpN_some h
    exact FnAt.mk Tryz.call239 (by rfl) fun w9 k9 => impl_place_1.calls (w := w9) (a0 := x0) (a1 := x1) (GV.ext gv (e1.t k9)) q0 q1
  have f2 : Rd 4 encNd w2 v_a0 a0 := f_a0.ext (e1.t e2)
  have k2 := k1.ext e2
  refine W_seq <| W_drawP (B := w2.heap.size) [LEq v_a0, LOw 60 4 encNd w2.heap.size a0, LEq (.int .i64 (lessC a0 a1.path : Int)), LEq (.agg (encNd a1).toArray), fun v W => ∃ b, v = .slice (some ⟨b, 0, none⟩) 1 1 ∧ Blk W b (encNd a1).toArray 60, LOw 60 4 encNd w2.heap.size (placeL a0 a1), LOw 60 4 encNd w2.heap.size (placeL a0 a1)]
    [⟨true, true, true, false, []⟩, ⟨true, false, true, false, [0]⟩, ⟨true, true, true, false, []⟩, ⟨true, true, true, false, []⟩, ⟨true, false, true, false, [3]⟩, ⟨false, false, true, false, [1, 2, 4]⟩, ⟨true, false, false, true, [5]⟩]
    [(5, 0, [1]), (5, 1, []), (5, 2, []), (5, 3, [4]), (5, 4, []), (6, 5, [])] 1 4 5 Apart (by kernel_rfl) (by kernel_rfl) (by kernel_rfl) (by kernel_rfl) (Nat.le_refl _)
    ⟨⟨LEq.rig.mono, fun _ => LEq.rig⟩, ⟨LOw.mono, noR⟩, ⟨LEq.rig.mono, fun _ => LEq.rig⟩, ⟨LEq.rig.mono, fun _ => LEq.rig⟩, ⟨fun _ _ _ k ⟨b, h1, h2⟩ => ⟨b, h1, h2.ext k⟩, noR⟩, ⟨LOw.mono, noR⟩, ⟨LOw.mono, noR⟩, trivial⟩
    ⟨?_, ?_, ?_, ?_, ?_, ?_, ?_, trivial⟩ ?_
  · intro s9 w9 c9 hb9 hx9 hf9 hd9 hu9 hp9 hq9 hD9
    exact lp rfl rfl (X_move (hf9 0 rfl)) <| L_nil <| stepPS0 rfl rfl rfl er rfl rfl rfl
  · intro s9 w9 c9 hb9 hx9 hf9 hd9 hu9 hp9 hq9 hD9
    have e9 : Ext w2 w9 := hx9 rfl
    have h13 : s9 13 = v_a0 := hd9 0 rfl
    refine L_callO (.plain rfl) rfl (ltb rfl) rfl Tryz.call156 (slices_CloneN.calls (w := w9) (a0 := a0) (f2.ext e9) (by omega)) (cons2 h13 rfl) <| fun v14 w10 e10 o14 => L_nil <| stepPp rfl rfl rfl e10 (Ow.base o14 e9.size) (fun hc => ?_) rfl
    obtain ⟨b, hb, kb⟩ := hp9 rfl hc
    obtain ⟨h9 | ⟨h9, _⟩, _⟩ := o14
    · refine .inr fun g b' hg hb' => ?_
      have hlt := (h9.lt g hg).1
      have hb2 : s9 17 = .slice (some ⟨b, 0, none⟩) 1 1 := hb
      have hb'' : (s9 17).ownBlock = some b' := hb'
      rw [hb2] at hb''
      have : b = b' := si hb''
      have := kb.lt
      omega
    · exact .inl h9
  · intro s9 w9 c9 hb9 hx9 hf9 hd9 hu9 hp9 hq9 hD9
    exact lp rfl rfl (X_move (hf9 5 rfl)) <| L_nil <| stepPS0 rfl rfl rfl er rfl rfl rfl
  · intro s9 w9 c9 hb9 hx9 hf9 hd9 hu9 hp9 hq9 hD9
    have e9 : Ext w2 w9 := hx9 rfl
    exact lp rfl rfl (X_loadS (cs := encNd a1) Tryz.isAgg60 Tryz.sizeOf60 rfl (hf9 3 rfl) (Blk.at0 (k2.ext e9))) <| L_nil <| stepPS0 rfl rfl rfl er rfl rfl rfl
  · intro s9 w9 c9 hb9 hx9 hf9 hd9 hu9 hp9 hq9 hD9
    have e9 : Ext w2 w9 := hx9 rfl
    have h16 : s9 16 = .agg (encNd a1).toArray := hd9 3 rfl
    refine L_lit (.plain rfl) rfl (ltb rfl) rfl Tryz.underlying29 Tryz.sizeOf60 Tryz.zeroValue60 rfl rfl rfl (vs := [.agg (encNd a1).toArray]) (cons2 h16 rfl) (lit_all rfl) <| fun b17 w10 z17 z17' e10 k17 => L_nil <| stepPq rfl rfl rfl e10 ⟨b17, rfl, k17⟩ rfl (fun hc => ?_)
    have o14 : Ow 60 4 encNd w2.heap.size w9 (s9 14) a0 := hq9 rfl hc
    rcases o14.hb with h9 | h9
    · exact .inl h9
    · refine .inr fun g b' hg hb' => ?_
      have hlt := h9 g hg
      have : b17 = b' := si hb'
      omega
  · intro s9 w9 c9 hb9 hx9 hf9 hd9 hu9 hp9 hq9 hD9
    have e9 : Ext w2 w9 := hx9 rfl
    have o14 : Ow 60 4 encNd w2.heap.size w9 (s9 14) a0 := hd9 1 rfl
    have h15 : s9 15 = .int .i64 (lessC a0 a1.path : Int) := hd9 2 rfl
    obtain ⟨b17, h17, k17⟩ := hd9 4 rfl
    have h17' : s9 17 = .slice (some ⟨b17, 0, none⟩) 1 1 := h17
    have hD : Apart (s9 14) (s9 17) := hD9 rfl rfl
    refine L_callA (.plain rfl) rfl (ltb rfl) rfl Tryz.call240 (slices_InsertN.calls (w := w9) (x := a1) (i := lessC a0 a1.path) o14 hle e9.size k17 (hD.imp (fun h => h) fun h g hg => h g b17 hg (by rw [h17']; rfl)) (by omega)) (cons2 rfl (cons2 h15 (cons2 h17' rfl))) <| fun v18 w10 h18 => ?_
    obtain ⟨g18, o18⟩ := h18
    refine L_nil <| stepPH0 rfl rfl rfl (g18 _ (Below.refl _ _)) (show Ow 60 4 encNd w2.heap.size w10 v18 (placeL a0 a1) from ?_) rfl rfl
    rw [← insAt_less h1]; exact o18
  · intro s9 w9 c9 hb9 hx9 hf9 hd9 hu9 hp9 hq9 hD9
    exact lp rfl rfl (X_assign rfl) <| L_nil <| stepPS0 rfl rfl rfl er (hd9 5 rfl) rfl rfl
  · intro s3 w3 hb3 hf3 ha3
    have o4 : Ow 60 4 encNd w2.heap.size w3 (s3 4) (placeL a0 a1) := ha3 6 rfl rfl
    refine thn_n <| W_ret <| fin_r ?_
    have e3 : Ext w w2 := Ext.trans e1 e2
    exact fin1o rfl (e3.t hb3) o4 e3.size

/-! spec.l04Put -/
abbrev spec_l04Put.e1 (a0 : List Nd) (a1 : Nd) (x5_11 : Int) := ((([] : List Nd) ++ (sub a0 0 x5_11)) ++ ([a1] : List Nd))
theorem spec_l04Put.walk {k : Nat} {w : World} {a0 : List Nd} {a1 : Nd} {v_a0 : Value} (f_a0 : Rd 4 encNd w v_a0 a0) {r : List Nd} (H : spec_l04Put.sh k a0 a1 = some r) :
  Calls Tryz.prog 163 #[v_a0, .agg (encNd a1).toArray] w (Rt (RO 60 4 encNd w r)) := by
 unfold spec_l04Put.sh at H
 refine calls_of_W Tryz.func163 rfl (Nat.le_of_ble_eq_true rfl) Tryz.ntmps163 rfl ?_
 refine wr <| L_box (.plain rfl) rfl (ltb rfl) rfl rfl <| fun b1 w2 z3 z4 e5 k6 => lp rfl rfl (xa (.slice none 0 0) rfl) <| nx <| wr <| lp rfl rfl (xa (.int .i64 0) rfl) <| nx <| W_seq ?_
 obtain ⟨z8, L9, C10⟩ := bind_some H
 clear H
 refine  W_cutQ (fun s0 sQ wQ => ∃ (x5_11 : Int), Kp [(5, 6), (7, 23)] s0 sQ ∧ sQ 5 = .int .i64 x5_11 ∧ Ext w2 wQ ∧ z8 = .inr x5_11) ?_ ?_
 ·refine W_block <| W_loopI (fun s0 kk sQ wQ => ∃ (x5_7 : Int), Kp [(5, 6), (7, 23)] s0 sQ ∧ sQ 5 = .int .i64 x5_7 ∧ Ext w2 wQ ∧ loopF (spec_l04Put.b1 a0 a1) kk x5_7 = some z8) k ⟨0, kz, rfl, er, L9⟩ ?_
  rintro k16 s17 w18 ⟨x5_7, K19, h22, e20, L21⟩
  cases k16 with
  | zero => exact absurd L21 (by simp [loopF])
  | succ k16 =>
   obtain ⟨t23, H, S24⟩ := loopF_succ L21
   clear L21
   unfold spec_l04Put.b1 at H
   refine W_seq <| W_seq ?_
   obtain ⟨c25, H⟩ := bif_some H
   obtain ⟨c28, H⟩ := bif_some H
   obtain ⟨c29, H⟩ := bif_some H
   refine W_dM [LEq (.int .i64 x5_7), LEq v_a0, LEq (.int .i64 (a0.length : Int)), LEq (.bool (decide (x5_7 < (a0.length : Int)))), LEq (.bool (decide (x5_7 < (a0.length : Int)))), LIf (decide (x5_7 < (a0.length : Int))) (LEq v_a0), LIf (decide (x5_7 < (a0.length : Int))) (LEq (.int .i64 x5_7)), LIf (decide (x5_7 < (a0.length : Int))) (LAt0 (encNd (gt a0 x5_7))), LIf (decide (x5_7 < (a0.length : Int))) (LAt 1 (encNd (gt a0 x5_7))), LIf (decide (x5_7 < (a0.length : Int))) (LEq (S ((gt a0 x5_7).path))), LIf (decide (x5_7 < (a0.length : Int))) (LEq (.pointer (some ⟨b1, 1, none⟩))), LIf (decide (x5_7 < (a0.length : Int))) (LEq (S a1.path)), LIf (decide (x5_7 < (a0.length : Int))) (LEq (.bool (lessL (cut 47 ((gt a0 x5_7).path)) (cut 47 a1.path)))), LEq (.bool ((decide (x5_7 < (a0.length : Int))) && (lessL (cut 47 ((gt a0 x5_7).path)) (cut 47 a1.path))))] (by kernel_rfl) (by kernel_rfl) ⟨qm, qm, qm, qm, qm, lm, lm, (LIf.mono LAt0.mono), (LIf.mono LAt.mono), lm, lm, lm, lm, qm, trivial⟩ ⟨?_, ?_, ?_, ?_, ?_, ?_, ?_, ?_, ?_, ?_, ?_, ?_, ?_, ?_, trivial⟩ ?_
   ·exact fun s x e f d u => lp rfl rfl (xm (.int .i64 x5_7) ((f 5 rfl).trans h22)) <| se rfl rfl
   ·exact fun s x e f d u => lp rfl rfl (xm v_a0 ((f 0 rfl).trans (K19 0 rfl))) <| se rfl rfl
   ·exact fun s x e f d u => lp rfl rfl (X_lenR Tryz.underlying29 (d 1 rfl) (Rd.ext f_a0 ((e5.t e20).t e))) <| se rfl rfl
   ·exact fun s x e f d u => lp rfl rfl (X_lss (d 0 rfl) (d 2 rfl)) <| se rfl rfl
   ·exact fun s x e f d u => lp rfl rfl (X_move (d 3 rfl)) <| se rfl rfl
   ·exact fun s x e f d u => gT rfl rfl rfl rfl (d 4 rfl) rfl fun b t => lt t rfl rfl (xm v_a0 ((f 0 rfl).trans (K19 0 rfl))) <| sg rfl rfl b rfl
   ·exact fun s x e f d u => gT rfl rfl rfl rfl (d 4 rfl) rfl fun b t => lt t rfl rfl (xm (.int .i64 x5_7) ((f 5 rfl).trans h22)) <| sg rfl rfl b rfl
   ·exact fun s x e f d u => gT rfl rfl rfl rfl (d 4 rfl) rfl fun b t => L_idx t rfl (ltb rfl) rfl Tryz.underlying29 Tryz.sizeOf60 ((d 5 rfl).1 b) (Rd.ext f_a0 ((e5.t e20).t e)) ((d 6 rfl).1 b) (imp_take b c25) <| fun p33 h34 => sg rfl rfl b ⟨_, rfl, h34⟩
   ·intro s x e f d u
    refine gT rfl rfl rfl rfl (d 4 rfl) rfl fun b t => ?_
    obtain ⟨p35, h36, h37⟩ := ((d 7 rfl).1 b)
    exact lt t rfl rfl (X_fieldAddr Tryz.underlying60 rfl Tryz.sizeOf9 rfl h36) <| sg rfl rfl b ⟨_, rfl, h37⟩
   ·intro s x e f d u
    refine gT rfl rfl rfl rfl (d 4 rfl) rfl fun b t => ?_
    obtain ⟨p38, h39, h40⟩ := ((d 8 rfl).1 b)
    exact lt t rfl rfl (X_loadF Tryz.isAgg9 (j := 1) h40 h39 rfl) <| sg rfl rfl b rfl
   ·exact fun s x e f d u => gT rfl rfl rfl rfl (d 4 rfl) rfl fun b t => lt t rfl rfl (X_fieldAddr Tryz.underlying60 rfl Tryz.sizeOf9 rfl ((f 3 rfl).trans (K19 3 rfl))) <| sg rfl rfl b rfl
   ·exact fun s x e f d u => gT rfl rfl rfl rfl (d 4 rfl) rfl fun b t => lt t rfl rfl (X_loadB Tryz.isAgg9 (Blk.ext k6 (e20.t e)) ((d 10 rfl).1 b) rfl) <| sg rfl rfl b rfl
   ·exact fun s x e f d u => gT rfl rfl rfl rfl (d 4 rfl) rfl fun b t => L_callP t rfl (ltb rfl) rfl Tryz.call205 (spec_l01Less.calls (w := x) (a0 := (gt a0 x5_7).path) (a1 := a1.path) (od (imp_take b c28)) (od (imp_take b c29))) (cons2 ((d 9 rfl).1 b) (cons2 ((d 11 rfl).1 b) rfl)) <| fun w43 e44 => sgx rfl rfl b e44 rfl
   ·exact fun s x e f d u => lp rfl rfl (X_pickA (d 4 rfl) rfl fun h => ((d 12 rfl).1 h)) <| se rfl rfl
   intro s45 w46 e47 hf48 ha49
   have K50 := Kp.ofD (kp := [(7, 21)]) rfl hf48
   have d51 : s45 20 = (.bool ((decide (x5_7 < (a0.length : Int))) && (lessL (cut 47 ((gt a0 x5_7).path)) (cut 47 a1.path)))) := ha49 13 rfl
   clear ha49 hf48
   refine thn_n ?_
   rcases bif_two H with ⟨q52, H⟩ | ⟨q52, H⟩
   ·refine W_true (d51.trans (cb q52)) <| W_skip <| thn_n <| W_block <| W_reg <| lp rfl rfl (xm (.int .i64 x5_7) ((K50 5 rfl).trans h22)) <| lp rfl rfl (X_add rfl rfl) <| lp rfl rfl (xa (.int .i64 (IntKind.wrap .i64 (x5_7 + 1))) rfl) <| L_nil <| blk_n <| thn_n ?_
    obtain rfl := si H
    exact ⟨_, Nat.lt_succ_self _, IntKind.wrap .i64 (x5_7 + 1), (ku3 (Kp.cut K19 K50 rfl) rfl), rfl, (e20.t e47), S24⟩
   ·refine W_false (d51.trans (cb q52)) <| W_exit <| thn_x <| thn_x <| blk_x <| thn_n ?_
    obtain rfl := si H
    obtain rfl := si S24
    exact ⟨x5_7, (Kp.cut K19 K50 rfl), ((K50 5 rfl).trans h22), (e20.t e47), rfl⟩
 ·rintro s13 w12 ⟨x5_11, K14, h53, e15, y54⟩
  rw [y54] at C10
  have H := C10
  replace H : _ = some _ := H
  refine thn_n <| wr <| lp rfl rfl (xm v_a0 (K14 0 rfl)) <| lp rfl rfl (X_move h53) ?_
  obtain ⟨c55, H⟩ := bif_some H
  refine L_sub (.plain rfl) rfl (ltb rfl) rfl Tryz.underlying29 Tryz.sizeOf60 rfl (Rd.ext f_a0 (e5.t e15)) (l := x5_11) (h := (a0.length : Int)) ⟨_, rfl⟩ rfl c55 <| fun v56 h57 => lp rfl rfl (xa v56 rfl) <| nx <| W_seq <| W_seq ?_
  obtain ⟨c58, H⟩ := bif_some H
  refine W_dM [LEq (.int .i64 x5_11), LEq v_a0, LEq (.int .i64 (a0.length : Int)), LEq (.bool (decide (x5_11 < (a0.length : Int)))), LEq (.bool (decide (x5_11 < (a0.length : Int)))), LIf (decide (x5_11 < (a0.length : Int))) (LEq v_a0), LIf (decide (x5_11 < (a0.length : Int))) (LEq (.int .i64 x5_11)), LIf (decide (x5_11 < (a0.length : Int))) (LAt0 (encNd (gt a0 x5_11))), LIf (decide (x5_11 < (a0.length : Int))) (LAt 1 (encNd (gt a0 x5_11))), LIf (decide (x5_11 < (a0.length : Int))) (LEq (S ((gt a0 x5_11).path))), LIf (decide (x5_11 < (a0.length : Int))) (LEq (.pointer (some ⟨b1, 1, none⟩))), LIf (decide (x5_11 < (a0.length : Int))) (LEq (S a1.path)), LIf (decide (x5_11 < (a0.length : Int))) (LEq (.bool (decide (((gt a0 x5_11).path) = a1.path)))), LEq (.bool ((decide (x5_11 < (a0.length : Int))) && (decide (((gt a0 x5_11).path) = a1.path))))] (by kernel_rfl) (by kernel_rfl) ⟨qm, qm, qm, qm, qm, lm, lm, (LIf.mono LAt0.mono), (LIf.mono LAt.mono), lm, lm, lm, lm, qm, trivial⟩ ⟨?_, ?_, ?_, ?_, ?_, ?_, ?_, ?_, ?_, ?_, ?_, ?_, ?_, ?_, trivial⟩ ?_
  ·exact fun s x e f d u => lp rfl rfl (xm (.int .i64 x5_11) ((f 5 rfl).trans h53)) <| se rfl rfl
  ·exact fun s x e f d u => lp rfl rfl (xm v_a0 ((f 0 rfl).trans (K14 0 rfl))) <| se rfl rfl
  ·exact fun s x e f d u => lp rfl rfl (X_lenR Tryz.underlying29 (d 1 rfl) (Rd.ext f_a0 ((e5.t e15).t e))) <| se rfl rfl
  ·exact fun s x e f d u => lp rfl rfl (X_lss (d 0 rfl) (d 2 rfl)) <| se rfl rfl
  ·exact fun s x e f d u => lp rfl rfl (X_move (d 3 rfl)) <| se rfl rfl
  ·exact fun s x e f d u => gT rfl rfl rfl rfl (d 4 rfl) rfl fun b t => lt t rfl rfl (xm v_a0 ((f 0 rfl).trans (K14 0 rfl))) <| sg rfl rfl b rfl
  ·exact fun s x e f d u => gT rfl rfl rfl rfl (d 4 rfl) rfl fun b t => lt t rfl rfl (xm (.int .i64 x5_11) ((f 5 rfl).trans h53)) <| sg rfl rfl b rfl
  ·exact fun s x e f d u => gT rfl rfl rfl rfl (d 4 rfl) rfl fun b t => L_idx t rfl (ltb rfl) rfl Tryz.underlying29 Tryz.sizeOf60 ((d 5 rfl).1 b) (Rd.ext f_a0 ((e5.t e15).t e)) ((d 6 rfl).1 b) (imp_take b c58) <| fun p62 h63 => sg rfl rfl b ⟨_, rfl, h63⟩
  ·intro s x e f d u
   refine gT rfl rfl rfl rfl (d 4 rfl) rfl fun b t => ?_
   obtain ⟨p64, h65, h66⟩ := ((d 7 rfl).1 b)
   exact lt t rfl rfl (X_fieldAddr Tryz.underlying60 rfl Tryz.sizeOf9 rfl h65) <| sg rfl rfl b ⟨_, rfl, h66⟩
  ·intro s x e f d u
   refine gT rfl rfl rfl rfl (d 4 rfl) rfl fun b t => ?_
   obtain ⟨p67, h68, h69⟩ := ((d 8 rfl).1 b)
   exact lt t rfl rfl (X_loadF Tryz.isAgg9 (j := 1) h69 h68 rfl) <| sg rfl rfl b rfl
  ·exact fun s x e f d u => gT rfl rfl rfl rfl (d 4 rfl) rfl fun b t => lt t rfl rfl (X_fieldAddr Tryz.underlying60 rfl Tryz.sizeOf9 rfl ((f 3 rfl).trans (K14 3 rfl))) <| sg rfl rfl b rfl
  ·exact fun s x e f d u => gT rfl rfl rfl rfl (d 4 rfl) rfl fun b t => lt t rfl rfl (X_loadB Tryz.isAgg9 (Blk.ext k6 (e15.t e)) ((d 10 rfl).1 b) rfl) <| sg rfl rfl b rfl
  ·exact fun s x e f d u => gT rfl rfl rfl rfl (d 4 rfl) rfl fun b t => lt t rfl rfl (X_seq ((d 9 rfl).1 b) ((d 11 rfl).1 b)) <| sg rfl rfl b rfl
  ·exact fun s x e f d u => lp rfl rfl (X_pickA (d 4 rfl) rfl fun h => ((d 12 rfl).1 h)) <| se rfl rfl
  intro s70 w71 e72 hf73 ha74
  have K75 := Kp.ofD (kp := [(26, 40)]) rfl hf73
  have d76 : s70 39 = (.bool ((decide (x5_11 < (a0.length : Int))) && (decide (((gt a0 x5_11).path) = a1.path)))) := ha74 13 rfl
  clear ha74 hf73
  refine thn_n ?_
  rcases bif_two H with ⟨q77, H⟩ | ⟨q77, H⟩
  ·refine W_true (d76.trans (cb q77)) <| W_reg <| lp rfl rfl (xm v_a0 ((K75 0 rfl).trans (K14 0 rfl))) <| lp rfl rfl (xm (.int .i64 x5_11) ((K75 5 rfl).trans h53)) <| lp rfl rfl (X_add rfl rfl) ?_
   obtain ⟨c78, H⟩ := bif_some H
   refine L_sub (.plain rfl) rfl (ltb rfl) rfl Tryz.underlying29 Tryz.sizeOf60 rfl (Rd.ext f_a0 ((e5.t e15).t e72)) (l := IntKind.wrap .i64 (x5_11 + 1)) (h := (a0.length : Int)) ⟨_, rfl⟩ rfl c78 <| fun v79 h80 => lp rfl rfl (xa v79 rfl) <| nx <| W_seq ?_
   obtain ⟨c87, H⟩ := bif_some H
   obtain ⟨c90, H⟩ := bif_some H
   obtain ⟨c102, H⟩ := bif_some H
   obtain ⟨c108, H⟩ := bif_some H
   refine W_drawR (B := w71.heap.size) [LEmp, LEq v_a0, LEq (.int .i64 x5_11), LRdW w71 4 encNd (sub a0 0 x5_11), LOw 60 4 encNd w71.heap.size (([] : List Nd) ++ (sub a0 0 x5_11)), LEq (.agg #[(.int .i64 a1.kind), (S a1.path), (S a1.body), (.int .i64 a1.mode)]), LRd 4 encNd ([a1] : List Nd), LOw 60 4 encNd w71.heap.size (spec_l04Put.e1 a0 a1 x5_11), LEq v79, LOw 60 4 encNd w71.heap.size ((spec_l04Put.e1 a0 a1 x5_11) ++ (sub a0 (IntKind.wrap .i64 (x5_11 + 1)) (a0.length : Int))), LOw 60 4 encNd w71.heap.size ((spec_l04Put.e1 a0 a1 x5_11) ++ (sub a0 (IntKind.wrap .i64 (x5_11 + 1)) (a0.length : Int)))] [⟨true, true, true, false, []⟩, ⟨true, true, true, false, []⟩, ⟨true, true, true, false, []⟩, ⟨true, true, true, false, [1, 2]⟩, ⟨true, false, true, false, [0, 3]⟩, ⟨true, true, true, false, []⟩, ⟨true, false, true, false, [5]⟩, ⟨false, false, true, false, [4, 6]⟩, ⟨true, true, false, false, []⟩, ⟨false, false, false, false, [7, 8]⟩, ⟨true, false, false, true, [9]⟩] [(7, 0, [4]), (9, 0, [7, 4]), (7, 1, [4, 3]), (9, 1, [7, 4, 3]), (7, 2, [4, 3]), (9, 2, [7, 4, 3]), (7, 3, [4]), (9, 3, [7, 4]), (7, 4, []), (9, 4, [7]), (7, 5, [6]), (9, 5, [7, 6]), (7, 6, []), (9, 6, [7]), (9, 7, []), (10, 7, []), (10, 9, [])] (by kernel_rfl) (by kernel_rfl) (Nat.le_refl _) ⟨⟨LEmp.rig.mono, fun _ => LEmp.rig⟩, ⟨LEq.rig.mono, fun _ => LEq.rig⟩, ⟨LEq.rig.mono, fun _ => LEq.rig⟩, ⟨LRdW.rig.mono, fun _ => LRdW.rig⟩, ⟨LOw.mono, noR⟩, ⟨LEq.rig.mono, fun _ => LEq.rig⟩, ⟨LRd.mono, noR⟩, ⟨LOw.mono, noR⟩, ⟨LEq.rig.mono, fun _ => LEq.rig⟩, ⟨LOw.mono, noR⟩, ⟨LOw.mono, noR⟩, trivial⟩ ⟨?_, ?_, ?_, ?_, ?_, ?_, ?_, ?_, ?_, ?_, ?_, trivial⟩ ?_
   ·intro s114 w115 hb116 hx117 hf118 hd119 hu120
    have e121 : Ext w71 w115 := hx117 rfl
    exact L_lit (.plain rfl) rfl (ltb rfl) rfl Tryz.underlying29 Tryz.sizeOf60 Tryz.zeroValue60 rfl rfl rfl (vs := []) rfl (lit_all rfl) <| fun b122 w123 z124 z125 e126 k127 => L_nil <| stepS rfl rfl rfl e126 ⟨_, rfl⟩
   ·intro s128 w129 hb130 hx131 hf132 hd133 hu134
    have e135 : Ext w71 w129 := hx131 rfl
    exact lp rfl rfl (xm v_a0 ((hf132 0 rfl).trans ((K75 0 rfl).trans (K14 0 rfl)))) <| L_nil <| stepS rfl rfl rfl er rfl
   ·intro s136 w137 hb138 hx139 hf140 hd141 hu142
    have e143 : Ext w71 w137 := hx139 rfl
    exact lp rfl rfl (xm (.int .i64 x5_11) ((hf140 5 rfl).trans ((K75 5 rfl).trans h53))) <| L_nil <| stepS rfl rfl rfl er rfl
   ·intro s144 w145 hb146 hx147 hf148 hd149 hu150
    have e151 : Ext w71 w145 := hx147 rfl
    have d152 : s144 45 = v_a0 := (hd149 1 rfl)
    have d153 : s144 46 = (.int .i64 x5_11) := (hd149 2 rfl)
    have c154 := c87
    exact L_sub (.plain rfl) rfl (ltb rfl) rfl Tryz.underlying29 Tryz.sizeOf60 d152 (Rd.ext f_a0 ((e5.t e15).t e72)) (l := 0) (h := x5_11) rfl ⟨_, d153⟩ c154 <| fun v155 h156 => L_nil <| stepS rfl rfl rfl er h156
   ·intro s157 w158 hb159 hx160 hf161 hd162 hu163
    have e164 : Ext w71 w158 := hx160 rfl
    obtain ⟨b165, h166⟩ := (hd162 0 rfl)
    have d167 : Rd 4 encNd w71 (s157 47) (sub a0 0 x5_11) := (hd162 3 rfl)
    have c168 := c90
    exact L_append (enc := encNd) (.plain rfl) rfl (ltb rfl) rfl El.t29 h166 rfl (Ow.zero (base := w158.heap.size) (w := w158)) (Rd.ext d167 e164) (ones_Nd _) (od c168) (Nat.le_refl _) <| fun v169 w170 o171 z172 g173 => L_nil <| stepS rfl rfl rfl (g173 _ er) (Ow.base o171 e164.size)
   ·intro s174 w175 hb176 hx177 hf178 hd179 hu180
    have e181 : Ext w71 w175 := hx177 rfl
    exact lp rfl rfl (X_loadS Tryz.isAgg60 Tryz.sizeOf60 rfl ((hf178 3 rfl).trans ((K75 3 rfl).trans (K14 3 rfl))) (Blk.at0 (Blk.ext k6 ((e15.t e72).t e181)))) <| L_nil <| stepS rfl rfl rfl er rfl
   ·intro s182 w183 hb184 hx185 hf186 hd187 hu188
    have e189 : Ext w71 w183 := hx185 rfl
    have d190 : s182 49 = (.agg #[(.int .i64 a1.kind), (S a1.path), (S a1.body), (.int .i64 a1.mode)]) := (hd187 5 rfl)
    exact L_lit (.plain rfl) rfl (ltb rfl) rfl Tryz.underlying29 Tryz.sizeOf60 Tryz.zeroValue60 rfl rfl rfl (vs := [(.agg #[(.int .i64 a1.kind), (S a1.path), (S a1.body), (.int .i64 a1.mode)])]) (cons2 d190 rfl) (lit_all rfl) <| fun b191 w192 z193 z194 e195 k196 => L_nil <| stepS rfl rfl rfl e195 (Ow.rd (Ow.new (xs := [a1]) (sz := 4) (enc := encNd) (base := w183.heap.size) k196 (Nat.le_of_eq z193) rfl (fun _ _ => by rfl) (Nat.le_of_ble_eq_true rfl)))
   ·intro s197 w198 hb199 hx200 hf201 hd202 hu203
    have e204 : Ext w71 w198 := hx200 rfl
    have d205 : Ow 60 4 encNd w71.heap.size w198 (s197 48) (([] : List Nd) ++ (sub a0 0 x5_11)) := (hd202 4 rfl)
    have d206 : Rd 4 encNd w198 (s197 50) ([a1] : List Nd) := (hd202 6 rfl)
    have c207 := c102
    exact L_append (enc := encNd) (.plain rfl) rfl (ltb rfl) rfl El.t29 rfl rfl d205 d206 (ones_Nd _) (od c207) (e204).size <| fun v208 w209 o210 z211 g212 => L_nil <| stepH rfl rfl rfl (g212 _ (Below.refl _ _)) o210
   ·intro s213 w214 hb215 hx216 hf217 hd218 hu219
    have e220 : Ext w71 w214 := Below.trans er hb215
    exact lp rfl rfl (xm v79 (hf217 6 rfl)) <| L_nil <| stepS rfl rfl rfl er rfl
   ·intro s221 w222 hb223 hx224 hf225 hd226 hu227
    have e228 : Ext w71 w222 := Below.trans er hb223
    have d229 : Ow 60 4 encNd w71.heap.size w222 (s221 51) (spec_l04Put.e1 a0 a1 x5_11) := (hd226 7 rfl)
    have d230 : s221 52 = v79 := (hd226 8 rfl)
    have c231 := c108
    exact L_append (enc := encNd) (.plain rfl) rfl (ltb rfl) rfl El.t29 rfl d230 d229 (Rd.ext h80 e228) (ones_Nd _) (od c231) (e228).size <| fun v232 w233 o234 z235 g236 => L_nil <| stepH rfl rfl rfl (g236 _ (Below.refl _ _)) o234
   ·intro s237 w238 hb239 hx240 hf241 hd242 hu243
    have e244 : Ext w71 w238 := Below.trans er hb239
    have d245 : Ow 60 4 encNd w71.heap.size w238 (s237 53) ((spec_l04Put.e1 a0 a1 x5_11) ++ (sub a0 (IntKind.wrap .i64 (x5_11 + 1)) (a0.length : Int))) := (hd242 9 rfl)
    exact lp rfl rfl (xa (s237 53) rfl) <| L_nil <| stepS rfl rfl rfl er d245
   intro s246 w247 hb248 hf250 ha251
   have K252 := Kp.ofD (kp := [(4, 5), (44, 54)]) rfl hf250
   have e249 : Ext w71 w247 := hb248
   have d253 : Ow 60 4 encNd w71.heap.size w247 (s246 4) ((spec_l04Put.e1 a0 a1 x5_11) ++ (sub a0 (IntKind.wrap .i64 (x5_11 + 1)) (a0.length : Int))) := ha251 10 rfl rfl
   clear ha251 hf250
   refine thn_n <| W_ret <| fin_r ?_
   obtain rfl := si H
   exact fin1o rfl (((e5.t e15).t e72).t e249) d253 (((e5.t e15).t e72)).size
  ·refine W_false (d76.trans (cb q77)) <| W_skip <| thn_n <| W_seq ?_
   obtain ⟨c260, H⟩ := bif_some H
   obtain ⟨c263, H⟩ := bif_some H
   obtain ⟨c275, H⟩ := bif_some H
   obtain ⟨c281, H⟩ := bif_some H
   refine W_drawR (B := w71.heap.size) [LEmp, LEq v_a0, LEq (.int .i64 x5_11), LRdW w71 4 encNd (sub a0 0 x5_11), LOw 60 4 encNd w71.heap.size (([] : List Nd) ++ (sub a0 0 x5_11)), LEq (.agg #[(.int .i64 a1.kind), (S a1.path), (S a1.body), (.int .i64 a1.mode)]), LRd 4 encNd ([a1] : List Nd), LOw 60 4 encNd w71.heap.size (spec_l04Put.e1 a0 a1 x5_11), LEq v56, LOw 60 4 encNd w71.heap.size ((spec_l04Put.e1 a0 a1 x5_11) ++ (sub a0 x5_11 (a0.length : Int))), LOw 60 4 encNd w71.heap.size ((spec_l04Put.e1 a0 a1 x5_11) ++ (sub a0 x5_11 (a0.length : Int)))] [⟨true, true, true, false, []⟩, ⟨true, true, true, false, []⟩, ⟨true, true, true, false, []⟩, ⟨true, true, true, false, [1, 2]⟩, ⟨true, false, true, false, [0, 3]⟩, ⟨true, true, true, false, []⟩, ⟨true, false, true, false, [5]⟩, ⟨false, false, true, false, [4, 6]⟩, ⟨true, true, false, false, []⟩, ⟨false, false, false, false, [7, 8]⟩, ⟨true, false, false, true, [9]⟩] [(7, 0, [4]), (9, 0, [7, 4]), (7, 1, [4, 3]), (9, 1, [7, 4, 3]), (7, 2, [4, 3]), (9, 2, [7, 4, 3]), (7, 3, [4]), (9, 3, [7, 4]), (7, 4, []), (9, 4, [7]), (7, 5, [6]), (9, 5, [7, 6]), (7, 6, []), (9, 6, [7]), (9, 7, []), (10, 7, []), (10, 9, [])] (by kernel_rfl) (by kernel_rfl) (Nat.le_refl _) ⟨⟨LEmp.rig.mono, fun _ => LEmp.rig⟩, ⟨LEq.rig.mono, fun _ => LEq.rig⟩, ⟨LEq.rig.mono, fun _ => LEq.rig⟩, ⟨LRdW.rig.mono, fun _ => LRdW.rig⟩, ⟨LOw.mono, noR⟩, ⟨LEq.rig.mono, fun _ => LEq.rig⟩, ⟨LRd.mono, noR⟩, ⟨LOw.mono, noR⟩, ⟨LEq.rig.mono, fun _ => LEq.rig⟩, ⟨LOw.mono, noR⟩, ⟨LOw.mono, noR⟩, trivial⟩ ⟨?_, ?_, ?_, ?_, ?_, ?_, ?_, ?_, ?_, ?_, ?_, trivial⟩ ?_
   ·intro s287 w288 hb289 hx290 hf291 hd292 hu293
    have e294 : Ext w71 w288 := hx290 rfl
    exact L_lit (.plain rfl) rfl (ltb rfl) rfl Tryz.underlying29 Tryz.sizeOf60 Tryz.zeroValue60 rfl rfl rfl (vs := []) rfl (lit_all rfl) <| fun b295 w296 z297 z298 e299 k300 => L_nil <| stepS rfl rfl rfl e299 ⟨_, rfl⟩
   ·intro s301 w302 hb303 hx304 hf305 hd306 hu307
    have e308 : Ext w71 w302 := hx304 rfl
    exact lp rfl rfl (xm v_a0 ((hf305 0 rfl).trans ((K75 0 rfl).trans (K14 0 rfl)))) <| L_nil <| stepS rfl rfl rfl er rfl
   ·intro s309 w310 hb311 hx312 hf313 hd314 hu315
    have e316 : Ext w71 w310 := hx312 rfl
    exact lp rfl rfl (xm (.int .i64 x5_11) ((hf313 5 rfl).trans ((K75 5 rfl).trans h53))) <| L_nil <| stepS rfl rfl rfl er rfl
   ·intro s317 w318 hb319 hx320 hf321 hd322 hu323
    have e324 : Ext w71 w318 := hx320 rfl
    have d325 : s317 45 = v_a0 := (hd322 1 rfl)
    have d326 : s317 46 = (.int .i64 x5_11) := (hd322 2 rfl)
    have c327 := c260
    exact L_sub (.plain rfl) rfl (ltb rfl) rfl Tryz.underlying29 Tryz.sizeOf60 d325 (Rd.ext f_a0 ((e5.t e15).t e72)) (l := 0) (h := x5_11) rfl ⟨_, d326⟩ c327 <| fun v328 h329 => L_nil <| stepS rfl rfl rfl er h329
   ·intro s330 w331 hb332 hx333 hf334 hd335 hu336
    have e337 : Ext w71 w331 := hx333 rfl
    obtain ⟨b338, h339⟩ := (hd335 0 rfl)
    have d340 : Rd 4 encNd w71 (s330 47) (sub a0 0 x5_11) := (hd335 3 rfl)
    have c341 := c263
    exact L_append (enc := encNd) (.plain rfl) rfl (ltb rfl) rfl El.t29 h339 rfl (Ow.zero (base := w331.heap.size) (w := w331)) (Rd.ext d340 e337) (ones_Nd _) (od c341) (Nat.le_refl _) <| fun v342 w343 o344 z345 g346 => L_nil <| stepS rfl rfl rfl (g346 _ er) (Ow.base o344 e337.size)
   ·intro s347 w348 hb349 hx350 hf351 hd352 hu353
    have e354 : Ext w71 w348 := hx350 rfl
    exact lp rfl rfl (X_loadS Tryz.isAgg60 Tryz.sizeOf60 rfl ((hf351 3 rfl).trans ((K75 3 rfl).trans (K14 3 rfl))) (Blk.at0 (Blk.ext k6 ((e15.t e72).t e354)))) <| L_nil <| stepS rfl rfl rfl er rfl
   ·intro s355 w356 hb357 hx358 hf359 hd360 hu361
    have e362 : Ext w71 w356 := hx358 rfl
    have d363 : s355 49 = (.agg #[(.int .i64 a1.kind), (S a1.path), (S a1.body), (.int .i64 a1.mode)]) := (hd360 5 rfl)
    exact L_lit (.plain rfl) rfl (ltb rfl) rfl Tryz.underlying29 Tryz.sizeOf60 Tryz.zeroValue60 rfl rfl rfl (vs := [(.agg #[(.int .i64 a1.kind), (S a1.path), (S a1.body), (.int .i64 a1.mode)])]) (cons2 d363 rfl) (lit_all rfl) <| fun b364 w365 z366 z367 e368 k369 => L_nil <| stepS rfl rfl rfl e368 (Ow.rd (Ow.new (xs := [a1]) (sz := 4) (enc := encNd) (base := w356.heap.size) k369 (Nat.le_of_eq z366) rfl (fun _ _ => by rfl) (Nat.le_of_ble_eq_true rfl)))
   ·intro s370 w371 hb372 hx373 hf374 hd375 hu376
    have e377 : Ext w71 w371 := hx373 rfl
    have d378 : Ow 60 4 encNd w71.heap.size w371 (s370 48) (([] : List Nd) ++ (sub a0 0 x5_11)) := (hd375 4 rfl)
    have d379 : Rd 4 encNd w371 (s370 50) ([a1] : List Nd) := (hd375 6 rfl)
    have c380 := c275
    exact L_append (enc := encNd) (.plain rfl) rfl (ltb rfl) rfl El.t29 rfl rfl d378 d379 (ones_Nd _) (od c380) (e377).size <| fun v381 w382 o383 z384 g385 => L_nil <| stepH rfl rfl rfl (g385 _ (Below.refl _ _)) o383
   ·intro s386 w387 hb388 hx389 hf390 hd391 hu392
    have e393 : Ext w71 w387 := Below.trans er hb388
    exact lp rfl rfl (xm v56 ((hf390 6 rfl).trans (K75 6 rfl))) <| L_nil <| stepS rfl rfl rfl er rfl
   ·intro s394 w395 hb396 hx397 hf398 hd399 hu400
    have e401 : Ext w71 w395 := Below.trans er hb396
    have d402 : Ow 60 4 encNd w71.heap.size w395 (s394 51) (spec_l04Put.e1 a0 a1 x5_11) := (hd399 7 rfl)
    have d403 : s394 52 = v56 := (hd399 8 rfl)
    have c404 := c281
    exact L_append (enc := encNd) (.plain rfl) rfl (ltb rfl) rfl El.t29 rfl d403 d402 (Rd.ext h57 (e72.t e401)) (ones_Nd _) (od c404) (e401).size <| fun v405 w406 o407 z408 g409 => L_nil <| stepH rfl rfl rfl (g409 _ (Below.refl _ _)) o407
   ·intro s410 w411 hb412 hx413 hf414 hd415 hu416
    have e417 : Ext w71 w411 := Below.trans er hb412
    have d418 : Ow 60 4 encNd w71.heap.size w411 (s410 53) ((spec_l04Put.e1 a0 a1 x5_11) ++ (sub a0 x5_11 (a0.length : Int))) := (hd415 9 rfl)
    exact lp rfl rfl (xa (s410 53) rfl) <| L_nil <| stepS rfl rfl rfl er d418
   intro s419 w420 hb421 hf423 ha424
   have K425 := Kp.ofD (kp := [(4, 5), (44, 54)]) rfl hf423
   have e422 : Ext w71 w420 := hb421
   have d426 : Ow 60 4 encNd w71.heap.size w420 (s419 4) ((spec_l04Put.e1 a0 a1 x5_11) ++ (sub a0 x5_11 (a0.length : Int))) := ha424 10 rfl rfl
   clear ha424 hf423
   refine thn_n <| W_ret <| fin_r ?_
   obtain rfl := si H
   exact fin1o rfl (((e5.t e15).t e72).t e422) d426 (((e5.t e15).t e72)).size
theorem spec_l04Put.calls {w : World} {a0 : List Nd} {a1 : Nd} {v_a0 : Value} (f_a0 : Rd 4 encNd w v_a0 a0) (h0 : a0.length ≤ 1000000) (h1 : ∀ x ∈ a0, x.path.length ≤ 1048576) (h2 : a1.path.length ≤ 1048576) :
  Calls Tryz.prog 163 #[v_a0, .agg (encNd a1).toArray] w (Rt (RO 60 4 encNd w (putN a0 a1))) := by
 obtain ⟨k, h⟩ := spec_l04Put.eq a0 a1 h0 h1 h2
 exact spec_l04Put.walk f_a0 h
/-! spec.AddNode -/
theorem spec_AddNode.walk {w : World} {a0 : List Nd} {a1 : Nd} {v_a0 : Value} (f_a0 : Rd 4 encNd w v_a0 a0) {r : List Nd × Int} (H : spec_AddNode.sh a0 a1 = some r) :
  Calls Tryz.prog 60 #[v_a0, .agg (encNd a1).toArray] w (Rt (RT 60 4 encNd w r.1 (.int .i64 r.2))) := by
 unfold spec_AddNode.sh at H
 refine calls_of_W Tryz.func60 rfl (Nat.le_of_ble_eq_true rfl) Tryz.ntmps60 rfl ?_
 refine wr <| L_box (.plain rfl) rfl (ltb rfl) rfl rfl <| fun b1 w2 z3 z4 e5 k6 => lp rfl rfl (xa (.slice none 0 0) rfl) <| lp rfl rfl (xa (.int .i64 0) rfl) <| nx <| W_seq <| wr <| lp rfl rfl (xm v_a0 rfl) <| lp rfl rfl (X_lenR Tryz.underlying29 rfl (Rd.ext f_a0 e5)) <| lp rfl rfl (X_gtr rfl rfl) <| nx ?_
 rcases bif_two H with ⟨q7, H⟩ | ⟨q7, H⟩
 ·refine W_true (cb q7) <| wr <| L_lit (.plain rfl) rfl (ltb rfl) rfl Tryz.underlying29 Tryz.sizeOf60 Tryz.zeroValue60 rfl rfl rfl (vs := []) rfl (lit_all rfl) <| fun b8 w9 z10 z11 e12 k13 => lp rfl rfl (xa (.slice (some ⟨b8, 0, none⟩) 0 0) rfl) <| lp rfl rfl (xa (.int .i64 2) rfl) <| nx <| W_ret <| thn_r <| fin_r ?_
  obtain rfl := si H
  exact fin2o rfl rfl (e5.t e12) (Ow.zero (base := w.heap.size)) (Nat.le_refl _)
 ·refine W_false (cb q7) <| W_skip <| thn_n <| W_seq <| wr <| lp rfl rfl (xm v_a0 rfl) ?_
  obtain ⟨c14, H⟩ := bif_some H
  refine lc rfl rfl rfl Tryz.call130 (spec_l04OK.calls (w := w2) (a0 := a0) (Rd.ext f_a0 e5) (od c14)) rfl <| fun w15 e16 => lp rfl rfl (X_not rfl) <| lp rfl rfl (xm (.bool (!(treeOK a0))) rfl) <| L_grp 4 [(17, 21)] 20 (.bool ((!(treeOK a0)) || (decide (a1.kind = 4)))) ?_ ?_
  ·rcases bool_two (!(treeOK a0)) with b16_ | b16_
   ·exact ls rfl rfl rfl (cb b16_) rfl <| ls rfl rfl rfl (cb b16_) rfl <| ls rfl rfl rfl (cb b16_) rfl <| lp rfl rfl (X_pick (b := true) (v := (.bool true)) (cb b16_) rfl) <| nx ⟨(ku4 kz rfl), (or_t b16_), er⟩
   ·exact lg rfl rfl rfl rfl (cb b16_) (X_fieldAddr Tryz.underlying60 rfl Tryz.sizeOf3 rfl rfl) <| lg rfl rfl rfl rfl (cb b16_) (X_loadB Tryz.isAgg3 (Blk.ext k6 e16) rfl rfl) <| lg rfl rfl rfl rfl (cb b16_) (X_eql rfl rfl) <| lp rfl rfl (X_pick (b := false) (v := (.bool (decide (a1.kind = 4)))) (cb b16_) rfl) <| nx ⟨(ku4 kz rfl), (or_f b16_), er⟩
  intro s22 w18 K19 h20 e21
  refine lp rfl rfl (X_move h20) <| L_grp 5 [(22, 27)] 26 (.bool (((!(treeOK a0)) || (decide (a1.kind = 4))) || (!(decide (recFault (recOf a1) = 0))))) ?_ ?_
  ·rcases bool_two ((!(treeOK a0)) || (decide (a1.kind = 4))) with b22_ | b22_
   ·exact ls rfl rfl rfl (cb b22_) rfl <| ls rfl rfl rfl (cb b22_) rfl <| ls rfl rfl rfl (cb b22_) rfl <| ls rfl rfl rfl (cb b22_) rfl <| lp rfl rfl (X_pick (b := true) (v := (.bool true)) (cb b22_) rfl) <| nx ⟨(ku1 (ku4 kz rfl) rfl), (or_t b22_), er⟩
   ·exact lg rfl rfl rfl rfl (cb b22_) (X_loadS Tryz.isAgg60 Tryz.sizeOf60 rfl (K19 3 rfl) (Blk.at0 (Blk.ext k6 (e16.t e21)))) <| L_callP (tg rfl rfl rfl (cb b22_)) rfl (ltb rfl) rfl Tryz.call159 (spec_l04Record.calls (w := w18) (a0 := a1)) rfl <| fun w24 e25 => L_callP (tg rfl rfl rfl (cb b22_)) rfl (ltb rfl) rfl Tryz.call158 (spec_l02OK.calls (w := w24) (a0 := (recOf a1))) rfl <| fun w26 e27 => lg rfl rfl rfl rfl (cb b22_) (X_not rfl) <| lp rfl rfl (X_pick (b := false) (v := (.bool (!(decide (recFault (recOf a1) = 0))))) (cb b22_) rfl) <| nx ⟨(ku1 (ku4 kz rfl) rfl), (or_f b22_), (e25.t e27)⟩
  intro s28 w24 K25 h26 e27
  refine nx ?_
  rcases bif_two H with ⟨q29, H⟩ | ⟨q29, H⟩
  ·refine W_true (h26.trans (cb q29)) <| wr <| L_lit (.plain rfl) rfl (ltb rfl) rfl Tryz.underlying29 Tryz.sizeOf60 Tryz.zeroValue60 rfl rfl rfl (vs := []) rfl (lit_all rfl) <| fun b30 w31 z32 z33 e34 k35 => lp rfl rfl (xa (.slice (some ⟨b30, 0, none⟩) 0 0) rfl) <| lp rfl rfl (xa (.int .i64 1) rfl) <| nx <| W_ret <| thn_r <| fin_r ?_
   obtain rfl := si H
   exact fin2o rfl rfl ((((e5.t e16).t e21).t e27).t e34) (Ow.zero (base := w.heap.size)) (Nat.le_refl _)
  ·refine W_false (h26.trans (cb q29)) <| W_skip <| thn_n <| wr <| lp rfl rfl (xm v_a0 ((K25 0 rfl).trans (K19 0 rfl))) <| lp rfl rfl (X_fieldAddr Tryz.underlying60 rfl Tryz.sizeOf9 rfl ((K25 3 rfl).trans (K19 3 rfl))) <| lp rfl rfl (X_loadB Tryz.isAgg9 (Blk.ext k6 ((e16.t e21).t e27)) rfl rfl) ?_
   obtain ⟨c36, H⟩ := bif_some H
   obtain ⟨c37, H⟩ := bif_some H
   refine lc rfl rfl rfl Tryz.call160 (spec_l04Find.calls (w := w24) (a0 := a0) (a1 := a1.path) (Rd.ext f_a0 (((e5.t e16).t e21).t e27)) (od c36) (od c37)) rfl <| fun w38 e39 => lp rfl rfl (X_move rfl) <| lp rfl rfl (X_extract (v := (.agg (encNd ((findNd a0 a1.path).1)).toArray)) rfl rfl) <| lp rfl rfl (X_extract (v := (.int .i64 ((findNd a0 a1.path).2))) rfl rfl) <| L_alloc (.plain rfl) rfl (ltb rfl) rfl Tryz.zeroValue60 <| fun b40 w41 z42 z43 e44 k45 => L_storeA (.plain rfl) rfl rfl Tryz.sizeOf60 rfl rfl rfl rfl rfl k45 <| fun w46 h47 k48 => lp rfl rfl (xa (.int .i64 ((findNd a0 a1.path).2)) rfl) <| nx <| wr <| lp rfl rfl (X_fieldAddr Tryz.underlying60 rfl Tryz.sizeOf9 rfl ((K25 3 rfl).trans (K19 3 rfl))) <| lp rfl rfl (X_loadB Tryz.isAgg9 (Blk.ext k6 ((((e16.t e21).t e27).t e39).t (Below.trans e44 (Wr.below h47 (Nat.le_of_eq z42))))) rfl rfl) ?_
   obtain ⟨c49, H⟩ := bif_some H
   refine lc rfl rfl rfl Tryz.call161 (spec_l01Parent.calls (w := w46) (a0 := a1.path) (od c49)) rfl <| fun w50 e51 => lp rfl rfl (xa (S (parentP a1.path)) rfl) <| nx <| W_seq <| W_block <| wr <| lp rfl rfl (xm (.int .i64 ((findNd a0 a1.path).2)) rfl) <| lp rfl rfl (X_eql rfl rfl) <| lp rfl rfl (xa (.bool (decide (((findNd a0 a1.path).2) = 0))) rfl) <| nx ?_
   rcases bif_two H with ⟨q52, H⟩ | ⟨q52, H⟩
   ·refine W_true (cb q52) <| wr <| L_lit (.plain rfl) rfl (ltb rfl) rfl Tryz.underlying29 Tryz.sizeOf60 Tryz.zeroValue60 rfl rfl rfl (vs := []) rfl (lit_all rfl) <| fun b53 w54 z55 z56 e57 k58 => lp rfl rfl (xm v_a0 ((K25 0 rfl).trans (K19 0 rfl))) ?_
    obtain ⟨c59, H⟩ := bif_some H
    refine L_append (enc := encNd) (.plain rfl) rfl (ltb rfl) rfl El.t29 rfl rfl (Ow.zero (base := w54.heap.size) (w := w54)) (Rd.ext f_a0 (((((((e5.t e16).t e21).t e27).t e39).t (Below.trans e44 (Wr.below h47 (Nat.le_of_eq z42)))).t e51).t e57)) (ones_Nd _) (od c59) (Nat.le_refl _) <| fun v60 w61 o62 z63 g64 => lp rfl rfl (xa v60 rfl) <| lp rfl rfl (xa (.int .i64 18) rfl) <| nx <| W_ret <| blk_r <| thn_r <| fin_r ?_
    obtain rfl := si H
    exact fin2o rfl rfl ((((((((e5.t e16).t e21).t e27).t e39).t (Below.trans e44 (Wr.below h47 (Nat.le_of_eq z42)))).t e51).t e57).t (g64 _ er)) o62 ((((((((e5.t e16).t e21).t e27).t e39).t (Below.trans e44 (Wr.below h47 (Nat.le_of_eq z42)))).t e51).t e57)).size
   ·refine W_false (cb q52) <| wr <| lp rfl rfl (xm (.int .i64 ((findNd a0 a1.path).2)) rfl) <| lp rfl rfl (X_eql rfl rfl) <| lp rfl rfl (xa (.bool (decide (((findNd a0 a1.path).2) = 13))) rfl) <| nx ?_
    rcases bif_two H with ⟨q65, H⟩ | ⟨q65, H⟩
    ·refine W_true (cb q65) <| wr <| L_lit (.plain rfl) rfl (ltb rfl) rfl Tryz.underlying29 Tryz.sizeOf60 Tryz.zeroValue60 rfl rfl rfl (vs := []) rfl (lit_all rfl) <| fun b66 w67 z68 z69 e70 k71 => lp rfl rfl (xm v_a0 ((K25 0 rfl).trans (K19 0 rfl))) ?_
     obtain ⟨c72, H⟩ := bif_some H
     refine L_append (enc := encNd) (.plain rfl) rfl (ltb rfl) rfl El.t29 rfl rfl (Ow.zero (base := w67.heap.size) (w := w67)) (Rd.ext f_a0 (((((((e5.t e16).t e21).t e27).t e39).t (Below.trans e44 (Wr.below h47 (Nat.le_of_eq z42)))).t e51).t e70)) (ones_Nd _) (od c72) (Nat.le_refl _) <| fun v73 w74 o75 z76 g77 => lp rfl rfl (xa v73 rfl) <| lp rfl rfl (xa (.int .i64 13) rfl) <| nx <| W_ret <| blk_r <| thn_r <| fin_r ?_
     obtain rfl := si H
     exact fin2o rfl rfl ((((((((e5.t e16).t e21).t e27).t e39).t (Below.trans e44 (Wr.below h47 (Nat.le_of_eq z42)))).t e51).t e70).t (g77 _ er)) o75 ((((((((e5.t e16).t e21).t e27).t e39).t (Below.trans e44 (Wr.below h47 (Nat.le_of_eq z42)))).t e51).t e70)).size
    ·refine W_false (cb q65) <| wr <| lp rfl rfl (xm (S (parentP a1.path)) rfl) <| lp rfl rfl (X_sne rfl rfl) <| lp rfl rfl (xm (.bool (!decide ((parentP a1.path) = ([] : List UInt8)))) rfl) ?_
     obtain ⟨z79, x80, H⟩ := bind_some H
     refine L_grpE 5 [(54, 59)] 58 (fun q => q = z79) ?_ ?_
     ·rcases bif_two x80 with ⟨b77_, H⟩ | ⟨b77_, H⟩
      ·refine lg rfl rfl rfl rfl (cb b77_) (xm v_a0 ((K25 0 rfl).trans (K19 0 rfl))) <| lg rfl rfl rfl rfl (cb b77_) (xm (S (parentP a1.path)) rfl) ?_
       obtain ⟨c79, H⟩ := bif_some H
       refine L_callP (tg rfl rfl rfl (cb b77_)) rfl (ltb rfl) rfl Tryz.call162 (spec_l04At.calls (w := w50) (a0 := a0) (a1 := (parentP a1.path)) (Rd.ext f_a0 ((((((e5.t e16).t e21).t e27).t e39).t (Below.trans e44 (Wr.below h47 (Nat.le_of_eq z42)))).t e51)) (od c79)) rfl <| fun w80 e81 => lg rfl rfl rfl rfl (cb b77_) (X_lss rfl rfl) <| lp rfl rfl (X_pick (b := true) (v := (.bool (decide ((findN a0 (parentP a1.path)) < 0)))) (cb b77_) rfl) ?_
       obtain rfl := si H
       exact nx ⟨(ku1 (ku4 kz rfl) rfl), ⟨_, rfl, rfl⟩, e81⟩
      ·refine ls rfl rfl rfl (cb b77_) rfl <| ls rfl rfl rfl (cb b77_) rfl <| ls rfl rfl rfl (cb b77_) rfl <| ls rfl rfl rfl (cb b77_) rfl <| lp rfl rfl (X_pick (b := false) (v := (.bool false)) (cb b77_) rfl) ?_
       obtain rfl := si H
       exact nx ⟨(ku1 (ku4 kz rfl) rfl), ⟨_, rfl, rfl⟩, er⟩
     intro s85 w81 z86 K82 hq h83 e84
     rw [hq] at h83; clear hq
     refine lp rfl rfl (X_assign h83) <| nx ?_
     rcases bif_two H with ⟨q87, H⟩ | ⟨q87, H⟩
     ·refine W_true (cb q87) <| wr <| L_lit (.plain rfl) rfl (ltb rfl) rfl Tryz.underlying29 Tryz.sizeOf60 Tryz.zeroValue60 rfl rfl rfl (vs := []) rfl (lit_all rfl) <| fun b88 w89 z90 z91 e92 k93 => lp rfl rfl (xm v_a0 ((K82 0 rfl).trans ((K25 0 rfl).trans (K19 0 rfl)))) ?_
      obtain ⟨c94, H⟩ := bif_some H
      refine L_append (enc := encNd) (.plain rfl) rfl (ltb rfl) rfl El.t29 rfl rfl (Ow.zero (base := w89.heap.size) (w := w89)) (Rd.ext f_a0 ((((((((e5.t e16).t e21).t e27).t e39).t (Below.trans e44 (Wr.below h47 (Nat.le_of_eq z42)))).t e51).t e84).t e92)) (ones_Nd _) (od c94) (Nat.le_refl _) <| fun v95 w96 o97 z98 g99 => lp rfl rfl (xa v95 rfl) <| lp rfl rfl (xa (.int .i64 12) rfl) <| nx <| W_ret <| blk_r <| thn_r <| fin_r ?_
      obtain rfl := si H
      exact fin2o rfl rfl (((((((((e5.t e16).t e21).t e27).t e39).t (Below.trans e44 (Wr.below h47 (Nat.le_of_eq z42)))).t e51).t e84).t e92).t (g99 _ er)) o97 (((((((((e5.t e16).t e21).t e27).t e39).t (Below.trans e44 (Wr.below h47 (Nat.le_of_eq z42)))).t e51).t e84).t e92)).size
     ·refine W_false (cb q87) <| wr <| lp rfl rfl (xm (S (parentP a1.path)) (K82 8 rfl)) <| lp rfl rfl (X_sne rfl rfl) <| lp rfl rfl (xm (.bool (!decide ((parentP a1.path) = ([] : List UInt8)))) rfl) ?_
      obtain ⟨z101, x102, H⟩ := bind_some H
      refine L_grpE 9 [(66, 75)] 74 (fun q => q = z101) ?_ ?_
      ·rcases bif_two x102 with ⟨b99_, H⟩ | ⟨b99_, H⟩
       ·refine lg rfl rfl rfl rfl (cb b99_) (xm v_a0 ((K82 0 rfl).trans ((K25 0 rfl).trans (K19 0 rfl)))) <| lg rfl rfl rfl rfl (cb b99_) (xm v_a0 ((K82 0 rfl).trans ((K25 0 rfl).trans (K19 0 rfl)))) <| lg rfl rfl rfl rfl (cb b99_) (xm (S (parentP a1.path)) (K82 8 rfl)) ?_
        obtain ⟨c101, H⟩ := bif_some H
        refine L_callP (tg rfl rfl rfl (cb b99_)) rfl (ltb rfl) rfl Tryz.call162 (spec_l04At.calls (w := w81) (a0 := a0) (a1 := (parentP a1.path)) (Rd.ext f_a0 (((((((e5.t e16).t e21).t e27).t e39).t (Below.trans e44 (Wr.below h47 (Nat.le_of_eq z42)))).t e51).t e84)) (od c101)) rfl <| fun w102 e103 => ?_
        obtain ⟨c104, H⟩ := bif_some H
        refine L_idx (tg rfl rfl rfl (cb b99_)) rfl (ltb rfl) rfl Tryz.underlying29 Tryz.sizeOf60 rfl (Rd.ext f_a0 ((((((((e5.t e16).t e21).t e27).t e39).t (Below.trans e44 (Wr.below h47 (Nat.le_of_eq z42)))).t e51).t e84).t e103)) rfl c104 <| fun p105 h106 => lg rfl rfl rfl rfl (cb b99_) (X_fieldAddr Tryz.underlying60 rfl Tryz.sizeOf3 rfl rfl) <| lg rfl rfl rfl rfl (cb b99_) (X_loadF Tryz.isAgg3 (j := 0) h106 rfl rfl) <| lg rfl rfl rfl rfl (cb b99_) (X_neq rfl rfl) <| lp rfl rfl (X_pick (b := true) (v := (.bool (!decide (((gt a0 (findN a0 (parentP a1.path))).kind) = 3)))) (cb b99_) rfl) ?_
        obtain rfl := si H
        exact nx ⟨(ku1 (ku8 kz rfl) rfl), ⟨_, rfl, rfl⟩, e103⟩
       ·refine ls rfl rfl rfl (cb b99_) rfl <| ls rfl rfl rfl (cb b99_) rfl <| ls rfl rfl rfl (cb b99_) rfl <| ls rfl rfl rfl (cb b99_) rfl <| ls rfl rfl rfl (cb b99_) rfl <| ls rfl rfl rfl (cb b99_) rfl <| ls rfl rfl rfl (cb b99_) rfl <| ls rfl rfl rfl (cb b99_) rfl <| lp rfl rfl (X_pick (b := false) (v := (.bool false)) (cb b99_) rfl) ?_
        obtain rfl := si H
        exact nx ⟨(ku1 (ku8 kz rfl) rfl), ⟨_, rfl, rfl⟩, er⟩
      intro s107 w103 z108 K104 hq h105 e106
      rw [hq] at h105; clear hq
      refine lp rfl rfl (X_assign h105) <| nx ?_
      rcases bif_two H with ⟨q109, H⟩ | ⟨q109, H⟩
      ·refine W_true (cb q109) <| wr <| L_lit (.plain rfl) rfl (ltb rfl) rfl Tryz.underlying29 Tryz.sizeOf60 Tryz.zeroValue60 rfl rfl rfl (vs := []) rfl (lit_all rfl) <| fun b110 w111 z112 z113 e114 k115 => lp rfl rfl (xm v_a0 ((K104 0 rfl).trans ((K82 0 rfl).trans ((K25 0 rfl).trans (K19 0 rfl))))) ?_
       obtain ⟨c116, H⟩ := bif_some H
       refine L_append (enc := encNd) (.plain rfl) rfl (ltb rfl) rfl El.t29 rfl rfl (Ow.zero (base := w111.heap.size) (w := w111)) (Rd.ext f_a0 (((((((((e5.t e16).t e21).t e27).t e39).t (Below.trans e44 (Wr.below h47 (Nat.le_of_eq z42)))).t e51).t e84).t e106).t e114)) (ones_Nd _) (od c116) (Nat.le_refl _) <| fun v117 w118 o119 z120 g121 => lp rfl rfl (xa v117 rfl) <| lp rfl rfl (xa (.int .i64 13) rfl) <| nx <| W_ret <| blk_r <| thn_r <| fin_r ?_
       obtain rfl := si H
       exact fin2o rfl rfl ((((((((((e5.t e16).t e21).t e27).t e39).t (Below.trans e44 (Wr.below h47 (Nat.le_of_eq z42)))).t e51).t e84).t e106).t e114).t (g121 _ er)) o119 ((((((((((e5.t e16).t e21).t e27).t e39).t (Below.trans e44 (Wr.below h47 (Nat.le_of_eq z42)))).t e51).t e84).t e106).t e114)).size
      ·refine W_false (cb q109) <| wr <| lp rfl rfl (xm v_a0 ((K104 0 rfl).trans ((K82 0 rfl).trans ((K25 0 rfl).trans (K19 0 rfl))))) <| lp rfl rfl (X_lenR Tryz.underlying29 rfl (Rd.ext f_a0 ((((((((e5.t e16).t e21).t e27).t e39).t (Below.trans e44 (Wr.below h47 (Nat.le_of_eq z42)))).t e51).t e84).t e106))) <| lp rfl rfl (X_eql rfl rfl) <| lp rfl rfl (xa (.bool (decide ((a0.length : Int) = 24))) rfl) <| nx ?_
       rcases bif_two H with ⟨q122, H⟩ | ⟨q122, H⟩
       ·refine W_true (cb q122) <| wr <| L_lit (.plain rfl) rfl (ltb rfl) rfl Tryz.underlying29 Tryz.sizeOf60 Tryz.zeroValue60 rfl rfl rfl (vs := []) rfl (lit_all rfl) <| fun b123 w124 z125 z126 e127 k128 => lp rfl rfl (xm v_a0 ((K104 0 rfl).trans ((K82 0 rfl).trans ((K25 0 rfl).trans (K19 0 rfl))))) ?_
        obtain ⟨c129, H⟩ := bif_some H
        refine L_append (enc := encNd) (.plain rfl) rfl (ltb rfl) rfl El.t29 rfl rfl (Ow.zero (base := w124.heap.size) (w := w124)) (Rd.ext f_a0 (((((((((e5.t e16).t e21).t e27).t e39).t (Below.trans e44 (Wr.below h47 (Nat.le_of_eq z42)))).t e51).t e84).t e106).t e127)) (ones_Nd _) (od c129) (Nat.le_refl _) <| fun v130 w131 o132 z133 g134 => lp rfl rfl (xa v130 rfl) <| lp rfl rfl (xa (.int .i64 7) rfl) <| nx <| W_ret <| blk_r <| thn_r <| fin_r ?_
        obtain rfl := si H
        exact fin2o rfl rfl ((((((((((e5.t e16).t e21).t e27).t e39).t (Below.trans e44 (Wr.below h47 (Nat.le_of_eq z42)))).t e51).t e84).t e106).t e127).t (g134 _ er)) o132 ((((((((((e5.t e16).t e21).t e27).t e39).t (Below.trans e44 (Wr.below h47 (Nat.le_of_eq z42)))).t e51).t e84).t e106).t e127)).size
       ·refine W_false (cb q122) <| W_skip <| blk_n <| thn_n <| wr <| lp rfl rfl (xm v_a0 ((K104 0 rfl).trans ((K82 0 rfl).trans ((K25 0 rfl).trans (K19 0 rfl))))) <| lp rfl rfl (X_loadS Tryz.isAgg60 Tryz.sizeOf60 rfl ((K104 3 rfl).trans ((K82 3 rfl).trans ((K25 3 rfl).trans (K19 3 rfl)))) (Blk.at0 (Blk.ext k6 (((((((e16.t e21).t e27).t e39).t (Below.trans e44 (Wr.below h47 (Nat.le_of_eq z42)))).t e51).t e84).t e106)))) ?_
        obtain ⟨c135, H⟩ := bif_some H
        obtain ⟨c136, H⟩ := bif_some H
        obtain ⟨c137, H⟩ := bif_some H
        refine L_callO (.plain rfl) rfl (ltb rfl) rfl Tryz.call163 (spec_l04Put.calls (w := w103) (a0 := a0) (a1 := a1) (Rd.ext f_a0 ((((((((e5.t e16).t e21).t e27).t e39).t (Below.trans e44 (Wr.below h47 (Nat.le_of_eq z42)))).t e51).t e84).t e106)) (od c135) (od c136) (od c137)) rfl <| fun v140 w138 e139 o141 => lp rfl rfl (xa v140 rfl) <| lp rfl rfl (xa (.int .i64 0) rfl) <| nx <| W_ret <| fin_r ?_
        obtain rfl := si H
        exact fin2o rfl rfl (((((((((e5.t e16).t e21).t e27).t e39).t (Below.trans e44 (Wr.below h47 (Nat.le_of_eq z42)))).t e51).t e84).t e106).t e139) o141 (((((((((e5.t e16).t e21).t e27).t e39).t (Below.trans e44 (Wr.below h47 (Nat.le_of_eq z42)))).t e51).t e84).t e106)).size
theorem spec_AddNode.calls {w : World} {a0 : List Nd} {a1 : Nd} {v_a0 : Value} (f_a0 : Rd 4 encNd w v_a0 a0) (h0 : a0.length ≤ 1048576) (h1 : ∀ x ∈ a0, x.path.length ≤ 1048576) (h2 : a1.path.length ≤ 1048576) :
  Calls Tryz.prog 60 #[v_a0, .agg (encNd a1).toArray] w (Rt (RT 60 4 encNd w ((addNode a0 a1).1) (.int .i64 ((addNode a0 a1).2)))) := spec_AddNode.walk f_a0 (spec_AddNode.eq a0 a1 h0 h1 h2)
/-! impl.AddNode -/
theorem impl_AddNode.walk {w : World} {a0 : List Nd} {a1 : Nd} (gv : GV 0 w) {v_a0 : Value} (f_a0 : Rd 4 encNd w v_a0 a0) {r : List Nd × Int} (H : impl_AddNode.sh a0 a1 = some r) :
  Calls Tryz.prog 59 #[v_a0, .agg (encNd a1).toArray] w (Rt (RT 60 4 encNd w r.1 (.int .i64 r.2))) := by
 unfold impl_AddNode.sh at H
 refine calls_of_W Tryz.func59 rfl (Nat.le_of_ble_eq_true rfl) Tryz.ntmps59 rfl ?_
 refine wr <| L_box (.plain rfl) rfl (ltb rfl) rfl rfl <| fun b1 w2 z3 z4 e5 k6 => lp rfl rfl (xa (.slice none 0 0) rfl) <| lp rfl rfl (xa (.int .i64 0) rfl) <| nx <| W_seq <| wr <| lp rfl rfl (xm v_a0 rfl) <| lc rfl rfl rfl Tryz.call127 (impl_isLongListN.calls (w := w2) (a0 := a0) (Rd.ext f_a0 e5)) rfl <| fun w7 e8 => lp rfl rfl (X_mkiface Tryz.underlying4 rfl rfl) <| lp rfl rfl (X_mkiface Tryz.underlying3 rfl rfl) <| lp rfl rfl (xm v_a0 rfl) ?_
 obtain ⟨c9, H⟩ := bif_some H
 obtain ⟨c10, H⟩ := bif_some H
 refine lc rfl rfl rfl Tryz.call43 (impl_TreeOK.calls (w := w7) (a0 := a0) (GV.ext gv (e5.t e8)) (Rd.ext f_a0 (e5.t e8)) (od c9) (od c10)) rfl <| fun w11 e12 => lp rfl rfl (X_not rfl) <| lp rfl rfl (xm (.bool (!(treeOK a0))) rfl) <| L_grp 4 [(18, 22)] 21 (.bool ((!(treeOK a0)) || (!(nodeOK a1)))) ?_ ?_
 ·rcases bool_two (!(treeOK a0)) with b12_ | b12_
  ·exact ls rfl rfl rfl (cb b12_) rfl <| ls rfl rfl rfl (cb b12_) rfl <| ls rfl rfl rfl (cb b12_) rfl <| lp rfl rfl (X_pick (b := true) (v := (.bool true)) (cb b12_) rfl) <| nx ⟨(ku4 kz rfl), (or_t b12_), er⟩
  ·exact lg rfl rfl rfl rfl (cb b12_) (X_loadS Tryz.isAgg60 Tryz.sizeOf60 rfl rfl (Blk.at0 (Blk.ext k6 (e8.t e12)))) <| L_callP (tg rfl rfl rfl (cb b12_)) rfl (ltb rfl) rfl Tryz.call141 (impl_nodeOK.calls (w := w11) (a0 := a1) (GV.ext gv ((e5.t e8).t e12))) rfl <| fun w14 e15 => lg rfl rfl rfl rfl (cb b12_) (X_not rfl) <| lp rfl rfl (X_pick (b := false) (v := (.bool (!(nodeOK a1)))) (cb b12_) rfl) <| nx ⟨(ku4 kz rfl), (or_f b12_), e15⟩
 intro s18 w14 K15 h16 e17
 refine lp rfl rfl (X_mkiface Tryz.underlying4 rfl h16) <| lp rfl rfl (X_mkiface Tryz.underlying3 rfl rfl) <| L_lit (.plain rfl) rfl (ltb rfl) rfl Tryz.underlying171 Tryz.sizeOf20 Tryz.zeroValue20 rfl rfl rfl (vs := [(.iface 4 (.bool (decide (4096 < a0.length)))), (.iface 3 (.int .i64 2)), (.iface 4 (.bool ((!(treeOK a0)) || (!(nodeOK a1))))), (.iface 3 (.int .i64 1))]) (cons2 (K15 12 rfl) (cons2 (K15 13 rfl) (cons2 rfl (cons2 rfl rfl)))) (lit_all rfl) <| fun b19 w20 z21 z22 e23 k24 => ?_
 obtain ⟨c25, H⟩ := bif_some H
 obtain ⟨z28, x29, H⟩ := bind_some H
 replace x29 := si x29
 refine lc rfl rfl rfl Tryz.call125 (impl_first.calls (w := w20) (a0 := ([.inl (decide (4096 < a0.length)), .inr 2, .inl ((!(treeOK a0)) || (!(nodeOK a1))), .inr 1] : List (Bool ⊕ Int))) (Ow.rd (Ow.new (xs := [.inl (decide (4096 < a0.length)), .inr 2, .inl ((!(treeOK a0)) || (!(nodeOK a1))), .inr 1]) (sz := 1) (enc := (encAny 4 3)) (base := w14.heap.size) k24 (Nat.le_of_eq z21) rfl (fun _ _ => by first | rfl | exact encAny_len _ _ _) (Nat.le_of_ble_eq_true rfl))) (od c25)) rfl <| fun w26 e27 => lp rfl rfl (xa (.int .i64 z28) (congrArg (Value.int .i64) x29)) <| nx <| wr <| lp rfl rfl (xm (.int .i64 z28) rfl) <| lp rfl rfl (X_neq rfl rfl) <| nx ?_
 rcases bif_two H with ⟨q30, H⟩ | ⟨q30, H⟩
 ·refine W_true (cb q30) <| wr <| lp rfl rfl (xm (.int .i64 z28) rfl) <| lp rfl rfl (xa (.slice none 0 0) rfl) <| lp rfl rfl (xa (.int .i64 z28) rfl) <| nx <| W_ret <| thn_r <| fin_r ?_
  obtain rfl := si H
  exact fin2o rfl rfl (((((e5.t e8).t e12).t e17).t e23).t e27) (Ow.zero (base := w.heap.size)) (Nat.le_refl _)
 ·refine W_false (cb q30) <| W_skip <| thn_n <| wr <| lp rfl rfl (xm v_a0 (K15 0 rfl)) <| lp rfl rfl (X_fieldAddr Tryz.underlying60 rfl Tryz.sizeOf9 rfl (K15 3 rfl)) <| lp rfl rfl (X_loadB Tryz.isAgg9 (Blk.ext k6 ((((e8.t e12).t e17).t e23).t e27)) rfl rfl) ?_
  obtain ⟨c31, H⟩ := bif_some H
  obtain ⟨c32, H⟩ := bif_some H
  refine lc rfl rfl rfl Tryz.call155 (impl_resolve.calls (w := w26) (a0 := a0) (a1 := a1.path) (Rd.ext f_a0 (((((e5.t e8).t e12).t e17).t e23).t e27)) (od c31) (od c32)) rfl <| fun w33 e34 => lp rfl rfl (X_move rfl) <| lp rfl rfl (X_extract (v := (.int .i64 ((resolveT a0 a1.path).1))) rfl rfl) <| lp rfl rfl (X_extract (v := (.int .i64 ((resolveT a0 a1.path).2))) rfl rfl) <| lp rfl rfl (xa (.int .i64 ((resolveT a0 a1.path).1)) rfl) <| lp rfl rfl (xa (.int .i64 ((resolveT a0 a1.path).2)) rfl) <| nx <| W_seq <| wr <| lp rfl rfl (xm (.int .i64 ((resolveT a0 a1.path).2)) rfl) <| lp rfl rfl (X_eql rfl rfl) <| lp rfl rfl (X_mkiface Tryz.underlying4 rfl rfl) <| lp rfl rfl (X_mkiface Tryz.underlying3 rfl rfl) <| lp rfl rfl (xm (.int .i64 ((resolveT a0 a1.path).2)) rfl) <| lp rfl rfl (X_eql rfl rfl) <| lp rfl rfl (X_mkiface Tryz.underlying4 rfl rfl) <| lp rfl rfl (X_mkiface Tryz.underlying3 rfl rfl) <| lp rfl rfl (xm v_a0 (K15 0 rfl)) <| lp rfl rfl (X_fieldAddr Tryz.underlying60 rfl Tryz.sizeOf9 rfl (K15 3 rfl)) <| lp rfl rfl (X_loadB Tryz.isAgg9 (Blk.ext k6 (((((e8.t e12).t e17).t e23).t e27).t e34)) rfl rfl) ?_
  obtain ⟨c35, H⟩ := bif_some H
  refine lc rfl rfl rfl Tryz.call143 (impl_parent.calls (w := w33) (a0 := a1.path) (od c35)) rfl <| fun w36 e37 => ?_
  obtain ⟨c38, H⟩ := bif_some H
  refine lc rfl rfl rfl Tryz.call142 (impl_isDir.calls (w := w36) (a0 := a0) (a1 := (parentP a1.path)) (Rd.ext f_a0 (((((((e5.t e8).t e12).t e17).t e23).t e27).t e34).t e37)) (od c38)) rfl <| fun w39 e40 => lp rfl rfl (X_not rfl) <| lp rfl rfl (X_mkiface Tryz.underlying4 rfl rfl) <| lp rfl rfl (X_mkiface Tryz.underlying3 rfl rfl) <| lp rfl rfl (xm v_a0 (K15 0 rfl)) <| lp rfl rfl (X_lenR Tryz.underlying29 rfl (Rd.ext f_a0 ((((((((e5.t e8).t e12).t e17).t e23).t e27).t e34).t e37).t e40))) <| lp rfl rfl (X_eql rfl rfl) <| lp rfl rfl (X_mkiface Tryz.underlying4 rfl rfl) <| lp rfl rfl (X_mkiface Tryz.underlying3 rfl rfl) <| L_lit (.plain rfl) rfl (ltb rfl) rfl Tryz.underlying171 Tryz.sizeOf20 Tryz.zeroValue20 rfl rfl rfl (vs := [(.iface 4 (.bool (decide (((resolveT a0 a1.path).2) = 0)))), (.iface 3 (.int .i64 18)), (.iface 4 (.bool (decide (((resolveT a0 a1.path).2) = 13)))), (.iface 3 (.int .i64 13)), (.iface 4 (.bool (!(isDirN a0 (parentP a1.path))))), (.iface 3 (.int .i64 12)), (.iface 4 (.bool (decide ((a0.length : Int) = 24)))), (.iface 3 (.int .i64 7))]) rfl (lit_all rfl) <| fun b41 w42 z43 z44 e45 k46 => ?_
  obtain ⟨c47, H⟩ := bif_some H
  obtain ⟨z50, x51, H⟩ := bind_some H
  replace x51 := si x51
  refine lc rfl rfl rfl Tryz.call125 (impl_first.calls (w := w42) (a0 := ([.inl (decide (((resolveT a0 a1.path).2) = 0)), .inr 18, .inl (decide (((resolveT a0 a1.path).2) = 13)), .inr 13, .inl (!(isDirN a0 (parentP a1.path))), .inr 12, .inl (decide ((a0.length : Int) = 24)), .inr 7] : List (Bool ⊕ Int))) (Ow.rd (Ow.new (xs := [.inl (decide (((resolveT a0 a1.path).2) = 0)), .inr 18, .inl (decide (((resolveT a0 a1.path).2) = 13)), .inr 13, .inl (!(isDirN a0 (parentP a1.path))), .inr 12, .inl (decide ((a0.length : Int) = 24)), .inr 7]) (sz := 1) (enc := (encAny 4 3)) (base := w39.heap.size) k46 (Nat.le_of_eq z43) rfl (fun _ _ => by first | rfl | exact encAny_len _ _ _) (Nat.le_of_ble_eq_true rfl))) (od c47)) rfl <| fun w48 e49 => lp rfl rfl (xa (.int .i64 z50) (congrArg (Value.int .i64) x51)) <| nx <| wr <| lp rfl rfl (xm (.int .i64 z50) rfl) <| lp rfl rfl (X_neq rfl rfl) <| nx ?_
  rcases bif_two H with ⟨q52, H⟩ | ⟨q52, H⟩
  ·refine W_true (cb q52) <| wr <| lp rfl rfl (xm v_a0 (K15 0 rfl)) ?_
   obtain ⟨c53, H⟩ := bif_some H
   refine L_callO (.plain rfl) rfl (ltb rfl) rfl Tryz.call156 (slices_CloneN.calls (w := w48) (a0 := a0) (Rd.ext f_a0 ((((((((((e5.t e8).t e12).t e17).t e23).t e27).t e34).t e37).t e40).t e45).t e49)) (od c53)) rfl <| fun v56 w54 e55 o57 => lp rfl rfl (xm (.int .i64 z50) rfl) <| lp rfl rfl (xa v56 rfl) <| lp rfl rfl (xa (.int .i64 z50) rfl) <| nx <| W_ret <| thn_r <| fin_r ?_
   obtain rfl := si H
   exact fin2o rfl rfl (((((((((((e5.t e8).t e12).t e17).t e23).t e27).t e34).t e37).t e40).t e45).t e49).t e55) o57 (((((((((((e5.t e8).t e12).t e17).t e23).t e27).t e34).t e37).t e40).t e45).t e49)).size
  ·refine W_false (cb q52) <| W_skip <| thn_n <| wr <| lp rfl rfl (xm v_a0 (K15 0 rfl)) <| lp rfl rfl (X_loadS Tryz.isAgg60 Tryz.sizeOf60 rfl (K15 3 rfl) (Blk.at0 (Blk.ext k6 (((((((((e8.t e12).t e17).t e23).t e27).t e34).t e37).t e40).t e45).t e49)))) ?_
   obtain ⟨c58, H⟩ := bif_some H
   obtain ⟨c59, H⟩ := bif_some H
   obtain ⟨c60, H⟩ := bif_some H
   obtain ⟨c61, H⟩ := bif_some H
   refine L_callO (.plain rfl) rfl (ltb rfl) rfl Tryz.call157 (impl_place.calls (w := w48) (a0 := a0) (a1 := a1) (GV.ext gv ((((((((((e5.t e8).t e12).t e17).t e23).t e27).t e34).t e37).t e40).t e45).t e49)) (Rd.ext f_a0 ((((((((((e5.t e8).t e12).t e17).t e23).t e27).t e34).t e37).t e40).t e45).t e49)) (od c58) (od c59) (od c60) (od c61)) rfl <| fun v64 w62 e63 o65 => lp rfl rfl (xa v64 rfl) <| lp rfl rfl (xa (.int .i64 0) rfl) <| nx <| W_ret <| fin_r ?_
   obtain rfl := si H
   exact fin2o rfl rfl (((((((((((e5.t e8).t e12).t e17).t e23).t e27).t e34).t e37).t e40).t e45).t e49).t e63) o65 (((((((((((e5.t e8).t e12).t e17).t e23).t e27).t e34).t e37).t e40).t e45).t e49)).size
theorem impl_AddNode.calls {w : World} {a0 : List Nd} {a1 : Nd} (gv : GV 0 w) {v_a0 : Value} (f_a0 : Rd 4 encNd w v_a0 a0) (h0 : a0.length ≤ 1048576) (h1 : ∀ x ∈ a0, x.path.length ≤ 1048576) (h2 : a1.path.length ≤ 1048576) :
  Calls Tryz.prog 59 #[v_a0, .agg (encNd a1).toArray] w (Rt (RT 60 4 encNd w ((addNode a0 a1).1) (.int .i64 ((addNode a0 a1).2)))) := impl_AddNode.walk gv f_a0 (impl_AddNode.eq a0 a1 h0 h1 h2)
/-! spec.l04Node -/
theorem spec_l04Node.calls {w : World} {a0 : Rec} :
  Calls Tryz.prog 203 #[.agg (encRec a0).toArray] w (Rt (RP w (.agg (encNd (ndOf a0)).toArray))) := by
 have H := spec_l04Node.eq a0
 generalize (ndOf a0) = r at H ⊢
 unfold spec_l04Node.sh at H
 refine calls_of_WG Tryz.func203 rfl (Nat.le_of_ble_eq_true rfl) Tryz.ntmps203 ?_
 refine wr <| L_box (.plain rfl) rfl (ltb rfl) rfl rfl <| fun b1 w2 z3 z4 e5 k6 => L_alloc (.plain rfl) rfl (ltb rfl) rfl Tryz.zeroValue60 <| fun b7 w8 z9 z10 e11 k12 => nx <| wr <| lp rfl rfl (X_fieldAddr Tryz.underlying58 rfl Tryz.sizeOf3 rfl rfl) <| lp rfl rfl (X_loadB Tryz.isAgg3 (Blk.ext k6 e11) rfl rfl) <| lp rfl rfl (X_fieldAddr Tryz.underlying58 rfl Tryz.sizeOf9 rfl rfl) <| lp rfl rfl (X_loadB Tryz.isAgg9 (Blk.ext k6 e11) rfl rfl) <| lp rfl rfl (X_fieldAddr Tryz.underlying58 rfl Tryz.sizeOf9 rfl rfl) <| lp rfl rfl (X_loadB Tryz.isAgg9 (Blk.ext k6 e11) rfl rfl) <| lp rfl rfl (X_fieldAddr Tryz.underlying58 rfl Tryz.sizeOf3 rfl rfl) <| lp rfl rfl (X_loadB Tryz.isAgg3 (Blk.ext k6 e11) rfl rfl) <| lp rfl rfl (X_build1 (vs := [(0, (.int .i64 a0.kind)), (1, (S a0.path)), (2, (S a0.body)), (3, (.int .i64 a0.mode))]) (pl := #[(0, 1), (1, 1), (2, 1), (3, 1)]) Tryz.underlying60 Tryz.zeroValue60 rfl (fun _ => by kernel_rfl) rfl rfl rfl) <| L_storeA (.plain rfl) rfl rfl Tryz.sizeOf60 rfl rfl rfl rfl rfl k12 <| fun w13 h14 k15 => nx <| W_ret <| finG_r ?_
 obtain rfl := si H
 exact finC1 rfl rfl k15 Tryz.isAgg60 Tryz.sizeOf60 rfl (e5.t (Below.trans e11 (Wr.below h14 (Nat.le_of_eq z9))))
/-! (impl.Record).node -/
theorem impl_Record_node.calls {w : World} {a0 : Rec} :
  Calls Tryz.prog 211 #[.agg (encRec a0).toArray] w (Rt (RP w (.agg (encNd (ndOf a0)).toArray))) := by
 have H := impl_Record_node.eq a0
 generalize (ndOf a0) = r at H ⊢
 unfold impl_Record_node.sh at H
 refine calls_of_WG Tryz.func211 rfl (Nat.le_of_ble_eq_true rfl) Tryz.ntmps211 ?_
 refine wr <| L_box (.plain rfl) rfl (ltb rfl) rfl rfl <| fun b1 w2 z3 z4 e5 k6 => L_alloc (.plain rfl) rfl (ltb rfl) rfl Tryz.zeroValue60 <| fun b7 w8 z9 z10 e11 k12 => nx <| wr <| lp rfl rfl (X_fieldAddr Tryz.underlying58 rfl Tryz.sizeOf3 rfl rfl) <| lp rfl rfl (X_loadB Tryz.isAgg3 (Blk.ext k6 e11) rfl rfl) <| lp rfl rfl (X_fieldAddr Tryz.underlying58 rfl Tryz.sizeOf9 rfl rfl) <| lp rfl rfl (X_loadB Tryz.isAgg9 (Blk.ext k6 e11) rfl rfl) <| lp rfl rfl (X_fieldAddr Tryz.underlying58 rfl Tryz.sizeOf9 rfl rfl) <| lp rfl rfl (X_loadB Tryz.isAgg9 (Blk.ext k6 e11) rfl rfl) <| lp rfl rfl (X_fieldAddr Tryz.underlying58 rfl Tryz.sizeOf3 rfl rfl) <| lp rfl rfl (X_loadB Tryz.isAgg3 (Blk.ext k6 e11) rfl rfl) <| lp rfl rfl (X_build1 (vs := [(0, (.int .i64 a0.kind)), (1, (S a0.path)), (2, (S a0.body)), (3, (.int .i64 a0.mode))]) (pl := #[(0, 1), (1, 1), (2, 1), (3, 1)]) Tryz.underlying60 Tryz.zeroValue60 rfl (fun _ => by kernel_rfl) rfl rfl rfl) <| L_storeA (.plain rfl) rfl rfl Tryz.sizeOf60 rfl rfl rfl rfl rfl k12 <| fun w13 h14 k15 => nx <| W_ret <| finG_r ?_
 obtain rfl := si H
 exact finC1 rfl rfl k15 Tryz.isAgg60 Tryz.sizeOf60 rfl (e5.t (Below.trans e11 (Wr.below h14 (Nat.le_of_eq z9))))
/-! impl.apply -/
theorem impl_apply.calls {w : World} {a0 : List Rec} {a1 : List Nd} (gv : GV 0 w) {v_a0 : Value} (f_a0 : Rd 5 encRec w v_a0 a0) {v_a1 : Value} (f_a1 : Rd 4 encNd w v_a1 a1) (h0 : a0.length ≤ 16) (h1 : a1.length ≤ 1000) (h2 : okT a0 a1 = true) :
  Calls Tryz.prog 128 #[v_a0, v_a1] w (Rt (RO 60 4 encNd w (applyL a0 a1))) := by
 obtain ⟨k, H⟩ := impl_apply.eq a0 a1 h0 h1 h2
 generalize (applyL a0 a1) = r at H ⊢
 unfold impl_apply.sh at H
 refine calls_of_W Tryz.func128 rfl (Nat.le_of_ble_eq_true rfl) Tryz.ntmps128 rfl ?_
 refine wr <| lp rfl rfl (xa (.slice none 0 0) rfl) <| nx <| wr <| lp rfl rfl (xm v_a1 rfl) ?_
 obtain ⟨c1, H⟩ := bif_some H
 refine L_callO (.plain rfl) rfl (ltb rfl) rfl Tryz.call156 (slices_CloneN.calls (w := w) (a0 := a1) f_a1 (od c1)) rfl <| fun v4 w2 e3 o5 => lp rfl rfl (xa v4 rfl) <| nx <| W_seq <| wr <| lp rfl rfl (xm v_a0 rfl) <| lp rfl rfl (X_lenR Tryz.underlying35 rfl (Rd.ext f_a0 e3)) <| lp rfl rfl (xm (.int .i64 0) rfl) <| nx ?_
 obtain ⟨z9, L10, C11⟩ := bind_some H
 clear H
 refine  W_cutQ (fun s0 sQ wQ => ∃ (x5_12 : List Nd) (v13 : Value), Kp [(5, 6), (7, 9), (13, 59)] s0 sQ ∧ sQ 5 = v13 ∧ Ow 60 4 encNd w.heap.size wQ v13 x5_12 ∧ Ext w wQ ∧ z9 = .inr x5_12) ?_ ?_
 ·refine W_block <| W_loopI (fun s0 kk sQ wQ => ∃ (x5_6 : List Nd) (v7 : Value) (x13_8 : Int), Kp [(5, 6), (7, 9), (13, 59)] s0 sQ ∧ sQ 5 = v7 ∧ Ow 60 4 encNd w.heap.size wQ v7 x5_6 ∧ sQ 13 = .int .i64 x13_8 ∧ Ext w wQ ∧ loopF (impl_apply.b1 a0) kk (x5_6, x13_8) = some z9) k ⟨a1, v4, 0, kz, rfl, o5, rfl, e3, L10⟩ ?_
  rintro k18 s19 w20 ⟨x5_6, v7, x13_8, K21, h24, h25, h26, e22, L23⟩
  cases k18 with
  | zero => exact absurd L23 (by simp [loopF])
  | succ k18 =>
   obtain ⟨t27, H, S28⟩ := loopF_succ L23
   clear L23
   unfold impl_apply.b1 at H
   refine wr <| lp rfl rfl (X_lss h26 (K21 12 rfl)) <| nx <| W_seq ?_
   rcases bif_two H with ⟨q29, H⟩ | ⟨q29, H⟩
   ·refine W_true (cb q29) <| W_skip <| thn_n <| W_seq <| W_block <| wr ?_
    obtain ⟨c30, H⟩ := bif_some H
    refine L_idx (.plain rfl) rfl (ltb rfl) rfl Tryz.underlying35 Tryz.sizeOf58 (K21 11 rfl) (Rd.ext f_a0 e22) h26 c30 <| fun p31 h32 => lp rfl rfl (X_loadS Tryz.isAgg58 Tryz.sizeOf58 rfl rfl h32) <| L_alloc (.plain rfl) rfl (ltb rfl) rfl Tryz.zeroValue58 <| fun b33 w34 z35 z36 e37 k38 => L_storeA (.plain rfl) rfl rfl Tryz.sizeOf58 rfl rfl rfl rfl rfl k38 <| fun w39 h40 k41 => nx <| wr <| lp rfl rfl (X_move h24) <| lp rfl rfl (X_fieldAddr Tryz.underlying58 rfl Tryz.sizeOf9 rfl rfl) <| lp rfl rfl (X_loadB Tryz.isAgg9 k41 rfl rfl) ?_
    obtain ⟨c42, H⟩ := bif_some H
    refine lc rfl rfl rfl Tryz.call210 (impl_at.calls (w := w39) (a0 := x5_6) (a1 := (gt a0 x13_8).path) (Ow.rd (Ow.ext h25 (Below.trans e37 (Wr.below h40 (Nat.le_of_eq z35))))) (od c42)) rfl <| fun w43 e44 => lp rfl rfl (xa (.int .i64 (findN x5_6 ((gt a0 x13_8).path))) rfl) <| nx <| W_seq <| wr <| lp rfl rfl (X_fieldAddr Tryz.underlying58 rfl Tryz.sizeOf3 rfl rfl) <| lp rfl rfl (X_loadB Tryz.isAgg3 (Blk.ext k41 e44) rfl rfl) <| lp rfl rfl (X_eql rfl rfl) <| lp rfl rfl (xm (.bool (decide (((gt a0 x13_8).kind) = 3))) rfl) <| L_grp 4 [(25, 29)] 28 (.bool ((decide (((gt a0 x13_8).kind) = 3)) && (!((gt a0 x13_8).opq)))) ?_ ?_
    ·rcases bool_two (decide (((gt a0 x13_8).kind) = 3)) with b44_ | b44_
     ·exact lg rfl rfl rfl rfl (cb b44_) (X_fieldAddr Tryz.underlying58 rfl Tryz.sizeOf4 rfl rfl) <| lg rfl rfl rfl rfl (cb b44_) (X_loadB Tryz.isAgg4 (Blk.ext k41 e44) rfl rfl) <| lg rfl rfl rfl rfl (cb b44_) (X_not rfl) <| lp rfl rfl (X_pick (b := true) (v := (.bool (!((gt a0 x13_8).opq)))) (cb b44_) rfl) <| nx ⟨(ku4 kz rfl), (and_t b44_), er⟩
     ·exact ls rfl rfl rfl (cb b44_) rfl <| ls rfl rfl rfl (cb b44_) rfl <| ls rfl rfl rfl (cb b44_) rfl <| lp rfl rfl (X_pick (b := false) (v := (.bool false)) (cb b44_) rfl) <| nx ⟨(ku4 kz rfl), (and_f b44_), er⟩
    intro s50 w46 K47 h48 e49
    refine lp rfl rfl (X_move h48) <| L_grp 3 [(30, 33)] 32 (.bool (((decide (((gt a0 x13_8).kind) = 3)) && (!((gt a0 x13_8).opq))) && (decide (0 ≤ (findN x5_6 ((gt a0 x13_8).path)))))) ?_ ?_
    ·rcases bool_two ((decide (((gt a0 x13_8).kind) = 3)) && (!((gt a0 x13_8).opq))) with b50_ | b50_
     ·exact lg rfl rfl rfl rfl (cb b50_) (xm (.int .i64 (findN x5_6 ((gt a0 x13_8).path))) (K47 8 rfl)) <| lg rfl rfl rfl rfl (cb b50_) (X_geq rfl rfl) <| lp rfl rfl (X_pick (b := true) (v := (.bool (decide (0 ≤ (findN x5_6 ((gt a0 x13_8).path)))))) (cb b50_) rfl) <| nx ⟨(ku3 kz rfl), (and_t b50_), er⟩
     ·exact ls rfl rfl rfl (cb b50_) rfl <| ls rfl rfl rfl (cb b50_) rfl <| lp rfl rfl (X_pick (b := false) (v := (.bool false)) (cb b50_) rfl) <| nx ⟨(ku3 kz rfl), (and_f b50_), er⟩
    intro s56 w52 K53 h54 e55
    refine lp rfl rfl (X_move h54) ?_
    obtain ⟨z58, x59, H⟩ := bind_some H
    refine L_grpE 7 [(34, 41)] 40 (fun q => q = z58) ?_ ?_
    ·rcases bif_two x59 with ⟨b56_, H⟩ | ⟨b56_, H⟩
     ·refine lg rfl rfl rfl rfl (cb b56_) (xm v7 ((K53 5 rfl).trans ((K47 5 rfl).trans h24))) <| lg rfl rfl rfl rfl (cb b56_) (xm (.int .i64 (findN x5_6 ((gt a0 x13_8).path))) ((K53 8 rfl).trans (K47 8 rfl))) ?_
      obtain ⟨c58, H⟩ := bif_some H
      refine L_idx (tg rfl rfl rfl (cb b56_)) rfl (ltb rfl) rfl Tryz.underlying29 Tryz.sizeOf60 rfl (Ow.rd (Ow.ext h25 (Ext.trans (Ext.trans (Ext.trans (Below.trans e37 (Wr.below h40 (Nat.le_of_eq z35))) e44) e49) e55))) rfl c58 <| fun p59 h60 => lg rfl rfl rfl rfl (cb b56_) (X_fieldAddr Tryz.underlying60 rfl Tryz.sizeOf3 rfl rfl) <| lg rfl rfl rfl rfl (cb b56_) (X_loadF Tryz.isAgg3 (j := 0) h60 rfl rfl) <| lg rfl rfl rfl rfl (cb b56_) (X_eql rfl rfl) <| lp rfl rfl (X_pick (b := true) (v := (.bool (decide (((gt x5_6 (findN x5_6 ((gt a0 x13_8).path))).kind) = 3)))) (cb b56_) rfl) ?_
      obtain rfl := si H
      exact nx ⟨(ku3 (ku4 kz rfl) rfl), ⟨_, rfl, rfl⟩, er⟩
     ·refine ls rfl rfl rfl (cb b56_) rfl <| ls rfl rfl rfl (cb b56_) rfl <| ls rfl rfl rfl (cb b56_) rfl <| ls rfl rfl rfl (cb b56_) rfl <| ls rfl rfl rfl (cb b56_) rfl <| ls rfl rfl rfl (cb b56_) rfl <| lp rfl rfl (X_pick (b := false) (v := (.bool false)) (cb b56_) rfl) ?_
      obtain rfl := si H
      exact nx ⟨(ku3 (ku4 kz rfl) rfl), ⟨_, rfl, rfl⟩, er⟩
    intro s64 w60 z65 K61 hq h62 e63
    rw [hq] at h62; clear hq
    refine nx ?_
    rcases bif_two H with ⟨q66, H⟩ | ⟨q66, H⟩
    ·refine W_true (h62.trans (cb q66)) <| wr <| lp rfl rfl (xm v7 ((K61 5 rfl).trans ((K53 5 rfl).trans ((K47 5 rfl).trans h24)))) <| lp rfl rfl (xm (.int .i64 (findN x5_6 ((gt a0 x13_8).path))) ((K61 8 rfl).trans ((K53 8 rfl).trans (K47 8 rfl)))) <| lp rfl rfl (X_fieldAddr Tryz.underlying58 rfl Tryz.sizeOf3 rfl ((K61 7 rfl).trans ((K53 7 rfl).trans (K47 7 rfl)))) <| lp rfl rfl (X_loadB Tryz.isAgg3 (Blk.ext k41 (((e44.t e49).t e55).t e63)) rfl rfl) ?_
     obtain ⟨c69, H⟩ := bif_some H
     refine L_idxO (.plain rfl) rfl (ltb rfl) rfl Tryz.underlying29 Tryz.sizeOf60 rfl (Ow.ext h25 (Ext.trans (Ext.trans (Ext.trans (Ext.trans (Below.trans e37 (Wr.below h40 (Nat.le_of_eq z35))) e44) e49) e55) e63)) rfl c69 <| fun p67 h68 => lp rfl rfl (X_fieldAddr Tryz.underlying60 rfl Tryz.sizeOf3 rfl rfl) <| L_storeO (a := (⟨(gt x5_6 (findN x5_6 ((gt a0 x13_8).path))).kind, (gt x5_6 (findN x5_6 ((gt a0 x13_8).path))).path, (gt x5_6 (findN x5_6 ((gt a0 x13_8).path))).body, (gt a0 x13_8).mode⟩ : Nd)) (vs := [(.int .i64 ((gt a0 x13_8).mode))]) (off := 3) (.plain rfl) rfl rfl Tryz.sizeOf3 rfl h68 rfl rfl rfl rfl rfl rfl <| fun b70 w71 h72 h73 h74 o75 => nx <| W_exit <| thn_x <| blk_x <| thn_n <| W_reg <| lp rfl rfl (X_add ((K61 13 rfl).trans ((K53 13 rfl).trans ((K47 13 rfl).trans h26))) rfl) <| lp rfl rfl (xm (.int .i64 (IntKind.wrap .i64 (x13_8 + 1))) rfl) <| nx ?_
     obtain rfl := si H
     exact ⟨_, Nat.lt_succ_self _, setI x5_6 (findN x5_6 ((gt a0 x13_8).path)) (⟨(gt x5_6 (findN x5_6 ((gt a0 x13_8).path))).kind, (gt x5_6 (findN x5_6 ((gt a0 x13_8).path))).path, (gt x5_6 (findN x5_6 ((gt a0 x13_8).path))).body, (gt a0 x13_8).mode⟩ : Nd), v7, IntKind.wrap .i64 (x13_8 + 1), (ku8 (Kp.cut (ku1 (Kp.cut (ku1 (Kp.cut (ku1 (ku4 (ku8 K21 rfl) rfl) rfl) K47 rfl) rfl) K53 rfl) rfl) K61 rfl) rfl), ((K61 5 rfl).trans ((K53 5 rfl).trans ((K47 5 rfl).trans h24))), o75, rfl, (Ext.wr (((((e22.t (Below.trans e37 (Wr.below h40 (Nat.le_of_eq z35)))).t e44).t e49).t e55).t e63) h74 h73 (Nat.le_refl _)), S28⟩
    ·refine W_false (h62.trans (cb q66)) <| W_skip <| thn_n <| wr <| lp rfl rfl (xm v7 ((K61 5 rfl).trans ((K53 5 rfl).trans ((K47 5 rfl).trans h24)))) <| lp rfl rfl (X_fieldAddr Tryz.underlying58 rfl Tryz.sizeOf9 rfl ((K61 7 rfl).trans ((K53 7 rfl).trans (K47 7 rfl)))) <| lp rfl rfl (X_loadB Tryz.isAgg9 (Blk.ext k41 (((e44.t e49).t e55).t e63)) rfl rfl) ?_
     obtain ⟨c76, H⟩ := bif_some H
     obtain ⟨c77, H⟩ := bif_some H
     refine L_callO (.plain rfl) rfl (ltb rfl) rfl Tryz.call169 (impl_removed.calls (w := w60) (a0 := x5_6) (a1 := (gt a0 x13_8).path) (Ow.rd (Ow.ext h25 (Ext.trans (Ext.trans (Ext.trans (Ext.trans (Below.trans e37 (Wr.below h40 (Nat.le_of_eq z35))) e44) e49) e55) e63))) (od c76) (od c77)) rfl <| fun v80 w78 e79 o81 => lp rfl rfl (xa v80 rfl) <| nx <| wr <| lp rfl rfl (X_fieldAddr Tryz.underlying58 rfl Tryz.sizeOf3 rfl ((K61 7 rfl).trans ((K53 7 rfl).trans (K47 7 rfl)))) <| lp rfl rfl (X_loadB Tryz.isAgg3 (Blk.ext k41 ((((e44.t e49).t e55).t e63).t e79)) rfl rfl) <| lp rfl rfl (X_neq rfl rfl) <| nx ?_
     rcases bif_two H with ⟨q82, H⟩ | ⟨q82, H⟩
     ·refine W_true (cb q82) <| W_reg <| lp rfl rfl (xm v80 rfl) <| lp rfl rfl (X_loadS Tryz.isAgg58 Tryz.sizeOf58 rfl ((K61 7 rfl).trans ((K53 7 rfl).trans (K47 7 rfl))) (Blk.at0 (Blk.ext k41 ((((e44.t e49).t e55).t e63).t e79)))) <| lc rfl rfl rfl Tryz.call211 (impl_Record_node.calls (w := w78) (a0 := (gt a0 x13_8))) rfl <| fun w83 e84 => ?_
      obtain ⟨c85, H⟩ := bif_some H
      obtain ⟨c86, H⟩ := bif_some H
      obtain ⟨c87, H⟩ := bif_some H
      obtain ⟨c88, H⟩ := bif_some H
      refine L_callO (.plain rfl) rfl (ltb rfl) rfl Tryz.call157 (impl_place.calls (w := w83) (a0 := (without x5_6 ((gt a0 x13_8).path) true)) (a1 := (ndOf (gt a0 x13_8))) (GV.ext gv (((((((e22.t (Below.trans e37 (Wr.below h40 (Nat.le_of_eq z35)))).t e44).t e49).t e55).t e63).t e79).t e84)) (Ow.rd (Ow.ext o81 e84)) (od c85) (od c86) (od c87) (od c88)) rfl <| fun v91 w89 e90 o92 => lp rfl rfl (xa v91 rfl) <| L_nil <| blk_n <| thn_n <| W_reg <| lp rfl rfl (X_add ((K61 13 rfl).trans ((K53 13 rfl).trans ((K47 13 rfl).trans h26))) rfl) <| lp rfl rfl (xm (.int .i64 (IntKind.wrap .i64 (x13_8 + 1))) rfl) <| nx ?_
      obtain rfl := si H
      exact ⟨_, Nat.lt_succ_self _, (placeL (without x5_6 ((gt a0 x13_8).path) true) (ndOf (gt a0 x13_8))), v91, IntKind.wrap .i64 (x13_8 + 1), (ku3 (ku4 (ku8 (Kp.cut (ku1 (Kp.cut (ku1 (Kp.cut (ku1 (ku4 (ku8 K21 rfl) rfl) rfl) K47 rfl) rfl) K53 rfl) rfl) K61 rfl) rfl) rfl) rfl), rfl, (Ow.base o92 (((((((e22.t (Below.trans e37 (Wr.below h40 (Nat.le_of_eq z35)))).t e44).t e49).t e55).t e63).t e79).t e84).size), rfl, ((((((((e22.t (Below.trans e37 (Wr.below h40 (Nat.le_of_eq z35)))).t e44).t e49).t e55).t e63).t e79).t e84).t e90), S28⟩
     ·refine W_false (cb q82) <| W_skip <| blk_n <| thn_n <| W_reg <| lp rfl rfl (X_add ((K61 13 rfl).trans ((K53 13 rfl).trans ((K47 13 rfl).trans h26))) rfl) <| lp rfl rfl (xm (.int .i64 (IntKind.wrap .i64 (x13_8 + 1))) rfl) <| nx ?_
      obtain rfl := si H
      exact ⟨_, Nat.lt_succ_self _, (without x5_6 ((gt a0 x13_8).path) true), v80, IntKind.wrap .i64 (x13_8 + 1), (ku2 (ku8 (Kp.cut (ku1 (Kp.cut (ku1 (Kp.cut (ku1 (ku4 (ku8 K21 rfl) rfl) rfl) K47 rfl) rfl) K53 rfl) rfl) K61 rfl) rfl) rfl), rfl, (Ow.base o81 (((((e22.t (Below.trans e37 (Wr.below h40 (Nat.le_of_eq z35)))).t e44).t e49).t e55).t e63).size), rfl, ((((((e22.t (Below.trans e37 (Wr.below h40 (Nat.le_of_eq z35)))).t e44).t e49).t e55).t e63).t e79), S28⟩
   ·refine W_false (cb q29) <| W_exit <| thn_x <| thn_x <| blk_x <| thn_n ?_
    obtain rfl := si H
    obtain rfl := si S28
    exact ⟨x5_6, v7, (ku1 K21 rfl), h24, h25, e22, rfl⟩
 ·rintro s15 w14 ⟨x5_12, v13, K16, h93, h94, e17, y95⟩
  rw [y95] at C11
  have H := C11
  replace H : _ = some _ := H
  refine thn_n <| wr <| lp rfl rfl (X_move h93) <| lp rfl rfl (xa v13 rfl) <| nx <| W_ret <| fin_r ?_
  obtain rfl := si H
  exact fin1o rfl e17 h94 (er).size
/-! impl.Apply -/
theorem impl_Apply.walk {w : World} {a0 : List Rec} {a1 : List Nd} (gv : GV 0 w) {v_a0 : Value} (f_a0 : Rd 5 encRec w v_a0 a0) {v_a1 : Value} (f_a1 : Rd 4 encNd w v_a1 a1) {r : List Nd × Int} (H : impl_Apply.sh a0 a1 = some r) :
  Calls Tryz.prog 34 #[v_a0, v_a1] w (Rt (RT 60 4 encNd w r.1 (.int .i64 r.2))) := by
 unfold impl_Apply.sh at H
 refine calls_of_W Tryz.func34 rfl (Nat.le_of_ble_eq_true rfl) Tryz.ntmps34 rfl ?_
 refine wr <| lp rfl rfl (xa (.slice none 0 0) rfl) <| lp rfl rfl (xa (.int .i64 0) rfl) <| nx <| W_seq <| wr <| lp rfl rfl (xm v_a0 rfl) <| lc rfl rfl rfl Tryz.call126 (impl_isLongListR.calls (w := w) (a0 := a0) f_a0) rfl <| fun w1 e2 => lp rfl rfl (xm (.bool (decide (4096 < a0.length))) rfl) <| L_grp 3 [(11, 14)] 13 (.bool ((decide (4096 < a0.length)) || (decide (4096 < a1.length)))) ?_ ?_
 ·rcases bool_two (decide (4096 < a0.length)) with b2_ | b2_
  ·exact ls rfl rfl rfl (cb b2_) rfl <| ls rfl rfl rfl (cb b2_) rfl <| lp rfl rfl (X_pick (b := true) (v := (.bool true)) (cb b2_) rfl) <| nx ⟨(ku3 kz rfl), (or_t b2_), er⟩
  ·exact lg rfl rfl rfl rfl (cb b2_) (xm v_a1 rfl) <| L_callP (tg rfl rfl rfl (cb b2_)) rfl (ltb rfl) rfl Tryz.call127 (impl_isLongListN.calls (w := w1) (a0 := a1) (Rd.ext f_a1 e2)) rfl <| fun w4 e5 => lp rfl rfl (X_pick (b := false) (v := (.bool (decide (4096 < a1.length)))) (cb b2_) rfl) <| nx ⟨(ku3 kz rfl), (or_f b2_), e5⟩
 intro s8 w4 K5 h6 e7
 refine lp rfl rfl (X_mkiface Tryz.underlying4 rfl h6) <| lp rfl rfl (X_mkiface Tryz.underlying3 rfl rfl) <| lp rfl rfl (xm v_a0 (K5 0 rfl)) ?_
 obtain ⟨c9, H⟩ := bif_some H
 obtain ⟨c10, H⟩ := bif_some H
 refine lc rfl rfl rfl Tryz.call50 (impl_LayerOK.calls (w := w4) (a0 := a0) (GV.ext gv (e2.t e7)) (Rd.ext f_a0 (e2.t e7)) (od c9) (od c10)) rfl <| fun w11 e12 => lp rfl rfl (X_not rfl) <| lp rfl rfl (xm (.bool (!(decide ((layerFaultL a0).2 = 0)))) rfl) ?_
 obtain ⟨z14, x15, H⟩ := bind_some H
 refine L_grpE 4 [(20, 24)] 23 (fun q => q = z14) ?_ ?_
 ·rcases bif_two x15 with ⟨b12_, H⟩ | ⟨b12_, H⟩
  ·refine ls rfl rfl rfl (cb b12_) rfl <| ls rfl rfl rfl (cb b12_) rfl <| ls rfl rfl rfl (cb b12_) rfl <| lp rfl rfl (X_pick (b := true) (v := (.bool true)) (cb b12_) rfl) ?_
   obtain rfl := si H
   exact nx ⟨(ku4 kz rfl), ⟨_, rfl, rfl⟩, er⟩
  ·refine lg rfl rfl rfl rfl (cb b12_) (xm v_a1 (K5 1 rfl)) ?_
   obtain ⟨c14, H⟩ := bif_some H
   obtain ⟨c15, H⟩ := bif_some H
   refine L_callP (tg rfl rfl rfl (cb b12_)) rfl (ltb rfl) rfl Tryz.call43 (impl_TreeOK.calls (w := w11) (a0 := a1) (GV.ext gv ((e2.t e7).t e12)) (Rd.ext f_a1 ((e2.t e7).t e12)) (od c14) (od c15)) rfl <| fun w16 e17 => lg rfl rfl rfl rfl (cb b12_) (X_not rfl) <| lp rfl rfl (X_pick (b := false) (v := (.bool (!(treeOK a1)))) (cb b12_) rfl) ?_
   obtain rfl := si H
   exact nx ⟨(ku4 kz rfl), ⟨_, rfl, rfl⟩, e17⟩
 intro s20 w16 z21 K17 hq h18 e19
 rw [hq] at h18; clear hq
 refine lp rfl rfl (X_mkiface Tryz.underlying4 rfl h18) <| lp rfl rfl (X_mkiface Tryz.underlying3 rfl rfl) <| L_lit (.plain rfl) rfl (ltb rfl) rfl Tryz.underlying171 Tryz.sizeOf20 Tryz.zeroValue20 rfl rfl rfl (vs := [(.iface 4 (.bool ((decide (4096 < a0.length)) || (decide (4096 < a1.length))))), (.iface 3 (.int .i64 2)), (.iface 4 (.bool z14)), (.iface 3 (.int .i64 1))]) (cons2 (K17 14 rfl) (cons2 (K17 15 rfl) (cons2 rfl (cons2 rfl rfl)))) (lit_all rfl) <| fun b22 w23 z24 z25 e26 k27 => ?_
 obtain ⟨c28, H⟩ := bif_some H
 obtain ⟨z31, x32, H⟩ := bind_some H
 replace x32 := si x32
 refine lc rfl rfl rfl Tryz.call125 (impl_first.calls (w := w23) (a0 := ([.inl ((decide (4096 < a0.length)) || (decide (4096 < a1.length))), .inr 2, .inl z14, .inr 1] : List (Bool ⊕ Int))) (Ow.rd (Ow.new (xs := [.inl ((decide (4096 < a0.length)) || (decide (4096 < a1.length))), .inr 2, .inl z14, .inr 1]) (sz := 1) (enc := (encAny 4 3)) (base := w16.heap.size) k27 (Nat.le_of_eq z24) rfl (fun _ _ => by first | rfl | exact encAny_len _ _ _) (Nat.le_of_ble_eq_true rfl))) (od c28)) rfl <| fun w29 e30 => lp rfl rfl (xa (.int .i64 z31) (congrArg (Value.int .i64) x32)) <| nx <| wr <| lp rfl rfl (xm (.int .i64 z31) rfl) <| lp rfl rfl (X_neq rfl rfl) <| nx ?_
 rcases bif_two H with ⟨q33, H⟩ | ⟨q33, H⟩
 ·refine W_true (cb q33) <| wr <| lp rfl rfl (xm (.int .i64 z31) rfl) <| lp rfl rfl (xa (.slice none 0 0) rfl) <| lp rfl rfl (xa (.int .i64 z31) rfl) <| nx <| W_ret <| thn_r <| fin_r ?_
  obtain rfl := si H
  exact fin2o rfl rfl (((((e2.t e7).t e12).t e19).t e26).t e30) (Ow.zero (base := w.heap.size)) (Nat.le_refl _)
 ·refine W_false (cb q33) <| W_skip <| thn_n <| wr <| lp rfl rfl (xm v_a0 ((K17 0 rfl).trans (K5 0 rfl))) <| lp rfl rfl (xm v_a1 ((K17 1 rfl).trans (K5 1 rfl))) ?_
  obtain ⟨c34, H⟩ := bif_some H
  obtain ⟨c35, H⟩ := bif_some H
  obtain ⟨c36, H⟩ := bif_some H
  refine L_callO (.plain rfl) rfl (ltb rfl) rfl Tryz.call128 (impl_apply.calls (w := w29) (a0 := a0) (a1 := a1) (GV.ext gv (((((e2.t e7).t e12).t e19).t e26).t e30)) (Rd.ext f_a0 (((((e2.t e7).t e12).t e19).t e26).t e30)) (Rd.ext f_a1 (((((e2.t e7).t e12).t e19).t e26).t e30)) (od c34) (od c35) (od c36)) rfl <| fun v39 w37 e38 o40 => lp rfl rfl (xa v39 rfl) <| nx <| W_seq <| wr <| lp rfl rfl (xm v39 rfl) <| lp rfl rfl (X_lenR Tryz.underlying29 rfl (Ow.rd o40)) <| lp rfl rfl (X_gtr rfl rfl) <| nx ?_
  rcases bif_two H with ⟨q41, H⟩ | ⟨q41, H⟩
  ·refine W_true (cb q41) <| wr <| lp rfl rfl (xa (.slice none 0 0) rfl) <| lp rfl rfl (xa (.int .i64 7) rfl) <| nx <| W_ret <| thn_r <| fin_r ?_
   obtain rfl := si H
   exact fin2o rfl rfl ((((((e2.t e7).t e12).t e19).t e26).t e30).t e38) (Ow.zero (base := w.heap.size)) (Nat.le_refl _)
  ·refine W_false (cb q41) <| W_skip <| thn_n <| wr <| lp rfl rfl (xm v39 rfl) <| lp rfl rfl (xa v39 rfl) <| lp rfl rfl (xa (.int .i64 0) rfl) <| nx <| W_ret <| fin_r ?_
   obtain rfl := si H
   exact fin2o rfl rfl ((((((e2.t e7).t e12).t e19).t e26).t e30).t e38) o40 ((((((e2.t e7).t e12).t e19).t e26).t e30)).size
theorem impl_Apply.calls {w : World} {a0 : List Rec} {a1 : List Nd} (gv : GV 0 w) {v_a0 : Value} (f_a0 : Rd 5 encRec w v_a0 a0) {v_a1 : Value} (f_a1 : Rd 4 encNd w v_a1 a1) (h0 : a0.length ≤ 1048576) (h1 : a1.length ≤ 1048576) (h2 : ∀ x ∈ a0, x.path.length ≤ 1048576) (h3 : ∀ x ∈ a1, x.path.length ≤ 1048576) :
  Calls Tryz.prog 34 #[v_a0, v_a1] w (Rt (RT 60 4 encNd w ((applyOf a0 a1).1) (.int .i64 ((applyOf a0 a1).2)))) := impl_Apply.walk gv f_a0 f_a1 (impl_Apply.eq a0 a1 h0 h1 h2 h3)
/-! spec.l00Source -/
theorem spec_l00Source.walk {w : World} {a0 : List Int} {v_a0 : Value} (f_a0 : Rd 1 (Go.UL.encI .u8) w v_a0 a0) {r : DSrc} (H : spec_l00Source.sh a0 = some r) :
  Calls Tryz.prog 103 #[v_a0] w (Rt (RSN 162 v_a0 w r)) := by
 unfold spec_l00Source.sh at H
 refine calls_of_W Tryz.func103 rfl (Nat.le_of_ble_eq_true rfl) Tryz.ntmps103 rfl ?_
 refine wr <| lp rfl rfl (X_assign rfl) <| nx <| wr <| lp rfl rfl (xm v_a0 rfl) <| lp rfl rfl (xm v_a0 rfl) <| lp rfl rfl (X_lenR Tryz.underlying22 rfl f_a0) <| lp rfl rfl (X_rem rfl rfl (by decide)) <| lp rfl rfl (X_build1 (vs := [(0, v_a0), (2, (.int .i64 ((a0.length : Int).tmod 1000)))]) (pl := #[(0, 1), (1, 1), (2, 1)]) Tryz.underlying162 Tryz.zeroValue162 rfl (fun _ => by kernel_rfl) rfl rfl (by obtain ⟨A9, c9, e9⟩ := Rd.shape f_a0; rw [e9]; rfl)) <| L_box (.plain rfl) rfl (ltb rfl) rfl rfl <| fun b1 w2 z3 z4 e5 k6 => lp rfl rfl (xa (.pointer (some ⟨b1, 0, none⟩)) rfl) <| nx <| W_ret <| fin_r ?_
 obtain rfl := si H
 exact fin1sn rfl e5 (Nat.le_trans (er).size (Nat.le_of_eq z3)) k6
theorem spec_l00Source.calls {w : World} {a0 : List Int} {r : DSrc} {v_a0 : Value} (f_a0 : Rd 1 (Go.UL.encI .u8) w v_a0 a0) (H : (spec_l00Source.sh a0) = some r) :
  Calls Tryz.prog 103 #[v_a0] w (Rt (RSN 162 v_a0 w r)) := spec_l00Source.walk f_a0 (spec_l00Source.eq a0 H)
/-! (*spec.l00Src).byte -/
abbrev draw_byte.e1 (a1 : DSrc) := (IntKind.wrap .i64 ((IntKind.wrap .i64 (a1.pos + 1)) - 1))
abbrev draw_byte.e2 (a0 : List Int) (a1 : DSrc) := (IntKind.wrap .i64 ((IntKind.wrap .i64 (a1.seed * 31)) + (IntKind.wrap .i64 (gt a0 (draw_byte.e1 a1)))))
theorem draw_byte.walk {w : World} {a0 : List Int} {a1 : DSrc} {wc : World} {cv : Value} {bs : Nat} (kc : Ext wc w) (fc : Rd 1 (Go.UL.encI .u8) wc cv a0) (hz : wc.heap.size ≤ bs) (ks : Blk w bs (encSrc cv a1).toArray 162) {r : Int × DSrc} (H : draw_byte.sh a0 a1 = some r) :
  Calls Tryz.prog 255 #[.pointer (some ⟨bs, 0, none⟩)] w (Rt (RS 162 bs cv w (.int .i64 r.1) r.2)) := by
 unfold draw_byte.sh at H
 refine calls_of_W Tryz.func255 rfl (Nat.le_of_ble_eq_true rfl) Tryz.ntmps255 rfl ?_
 refine wr <| lp rfl rfl (xa (.int .i64 0) rfl) <| nx <| wr <| lp rfl rfl (xm (.pointer (some ⟨bs, 0, none⟩)) rfl) <| lp rfl rfl (X_nil rfl) <| lp rfl rfl (X_fieldAddr Tryz.underlying162 rfl Tryz.sizeOf3 rfl rfl) <| lp rfl rfl (X_loadB Tryz.isAgg3 ks rfl rfl) <| lp rfl rfl (X_add rfl rfl) <| lp rfl rfl (X_nil rfl) <| lp rfl rfl (X_fieldAddr Tryz.underlying162 rfl Tryz.sizeOf3 rfl rfl) <| L_store1 (.plain rfl) rfl rfl Tryz.sizeOf3 rfl rfl rfl ks (ltb rfl) <| fun w1 h2 k3 => nx <| W_seq <| W_seq ?_
 refine W_dM [LEq (.pointer (some ⟨bs, 0, none⟩)), LEq (.pointer (some ⟨bs, 0, none⟩)), LEq (.pointer (some ⟨bs, 1, none⟩)), LEq (.int .i64 (IntKind.wrap .i64 (a1.pos + 1))), LEq (.pointer (some ⟨bs, 0, none⟩)), LEq (.pointer (some ⟨bs, 0, none⟩)), LEq (.pointer (some ⟨bs, 0, none⟩)), LRd 1 (Go.UL.encI .u8) a0, LEq (.int .i64 (a0.length : Int)), LEq (.bool (decide ((IntKind.wrap .i64 (a1.pos + 1)) ≤ (a0.length : Int))))] (by kernel_rfl) (by kernel_rfl) ⟨qm, qm, qm, qm, qm, qm, qm, LRd.mono, qm, qm, trivial⟩ ⟨?_, ?_, ?_, ?_, ?_, ?_, ?_, ?_, ?_, ?_, trivial⟩ ?_
 ·exact fun s x e f d u => lp rfl rfl (xm (.pointer (some ⟨bs, 0, none⟩)) (f 0 rfl)) <| se rfl rfl
 ·exact fun s x e f d u => lp rfl rfl (X_nil (d 0 rfl)) <| se rfl rfl
 ·exact fun s x e f d u => lp rfl rfl (X_fieldAddr Tryz.underlying162 rfl Tryz.sizeOf3 rfl (d 1 rfl)) <| se rfl rfl
 ·exact fun s x e f d u => lp rfl rfl (X_loadB Tryz.isAgg3 (Blk.ext k3 e) (d 2 rfl) rfl) <| se rfl rfl
 ·exact fun s x e f d u => lp rfl rfl (xm (.pointer (some ⟨bs, 0, none⟩)) (f 0 rfl)) <| se rfl rfl
 ·exact fun s x e f d u => lp rfl rfl (X_nil (d 4 rfl)) <| se rfl rfl
 ·exact fun s x e f d u => lp rfl rfl (X_fieldAddr Tryz.underlying162 rfl Tryz.sizeOf22 rfl (d 5 rfl)) <| se rfl rfl
 ·exact fun s x e f d u => lp rfl rfl (X_loadB Tryz.isAgg22 (Blk.ext k3 e) (d 6 rfl) rfl) <| se rfl (Rd.ext fc (Ext.trans (Below.trans kc (Below.mono (Wr.below h2 hz) (Nat.le_refl _))) e))
 ·intro s x e f d u
  have d4 : Rd 1 (Go.UL.encI .u8) x (s 17) a0 := (d 7 rfl)
  exact lp rfl rfl (X_lenR Tryz.underlying22 rfl d4) <| se rfl rfl
 ·exact fun s x e f d u => lp rfl rfl (X_leq (d 3 rfl) (d 8 rfl)) <| se rfl rfl
 intro s5 w6 e7 hf8 ha9
 have K10 := Kp.ofD (kp := [(10, 20)]) rfl hf8
 have d11 : s5 19 = (.bool (decide ((IntKind.wrap .i64 (a1.pos + 1)) ≤ (a0.length : Int)))) := ha9 9 rfl
 clear ha9 hf8
 refine thn_n ?_
 rcases bif_two H with ⟨q12, H⟩ | ⟨q12, H⟩
 ·refine W_true (d11.trans (cb q12)) <| W_seq ?_
  obtain ⟨c13, H⟩ := bif_some H
  refine W_dN 22 [LEq (.pointer (some ⟨bs, 0, none⟩)), LEq (.pointer (some ⟨bs, 0, none⟩)), LEq (.pointer (some ⟨bs, 0, none⟩)), LEq (.pointer (some ⟨bs, 2, none⟩)), LEq (.int .i64 a1.seed), LEq (.int .i64 (IntKind.wrap .i64 (a1.seed * 31))), LEq (.pointer (some ⟨bs, 0, none⟩)), LEq (.pointer (some ⟨bs, 0, none⟩)), LEq (.pointer (some ⟨bs, 0, none⟩)), LRd 1 (Go.UL.encI .u8) a0, LEq (.pointer (some ⟨bs, 0, none⟩)), LEq (.pointer (some ⟨bs, 0, none⟩)), LEq (.pointer (some ⟨bs, 1, none⟩)), LEq (.int .i64 (IntKind.wrap .i64 (a1.pos + 1))), LEq (.int .i64 (draw_byte.e1 a1)), LAt0 ((Go.UL.encI .u8) (gt a0 (draw_byte.e1 a1))), LEq (.int .u8 (gt a0 (draw_byte.e1 a1))), LEq (.int .i64 (IntKind.wrap .i64 (gt a0 (draw_byte.e1 a1)))), LEq (.int .i64 (draw_byte.e2 a0 a1)), LEq (.int .i64 (IntKind.wrap .i64 ((draw_byte.e2 a0 a1) + 7))), LEq (.int .i64 ((IntKind.wrap .i64 ((draw_byte.e2 a0 a1) + 7)).tmod 2147483648)), LEq (.pointer (some ⟨bs, 0, none⟩))] (by kernel_rfl) (by kernel_rfl) (by kernel_rfl) ⟨qm, qm, qm, qm, qm, qm, qm, qm, qm, LRd.mono, qm, qm, qm, qm, qm, LAt0.mono, qm, qm, qm, qm, qm, qm, trivial⟩ ⟨?_, ?_, ?_, ?_, ?_, ?_, ?_, ?_, ?_, ?_, ?_, ?_, ?_, ?_, ?_, ?_, ?_, ?_, ?_, ?_, ?_, ?_, trivial⟩ ?_
  ·exact fun s x e f d u => lp rfl rfl (xm (.pointer (some ⟨bs, 0, none⟩)) ((f 0 rfl).trans (K10 0 rfl))) <| se rfl rfl
  ·exact fun s x e f d u => lp rfl rfl (xm (.pointer (some ⟨bs, 0, none⟩)) ((f 0 rfl).trans (K10 0 rfl))) <| se rfl rfl
  ·exact fun s x e f d u => lp rfl rfl (X_nil (d 1 rfl)) <| se rfl rfl
  ·exact fun s x e f d u => lp rfl rfl (X_fieldAddr Tryz.underlying162 rfl Tryz.sizeOf3 rfl (d 2 rfl)) <| se rfl rfl
  ·exact fun s x e f d u => lp rfl rfl (X_loadB Tryz.isAgg3 (Blk.ext k3 (e7.t e)) (d 3 rfl) rfl) <| se rfl rfl
  ·exact fun s x e f d u => lp rfl rfl (X_mul (d 4 rfl) rfl) <| se rfl rfl
  ·exact fun s x e f d u => lp rfl rfl (xm (.pointer (some ⟨bs, 0, none⟩)) ((f 0 rfl).trans (K10 0 rfl))) <| se rfl rfl
  ·exact fun s x e f d u => lp rfl rfl (X_nil (d 6 rfl)) <| se rfl rfl
  ·exact fun s x e f d u => lp rfl rfl (X_fieldAddr Tryz.underlying162 rfl Tryz.sizeOf22 rfl (d 7 rfl)) <| se rfl rfl
  ·exact fun s x e f d u => lp rfl rfl (X_loadB Tryz.isAgg22 (Blk.ext k3 (e7.t e)) (d 8 rfl) rfl) <| se rfl (Rd.ext fc (Ext.trans (Ext.trans (Below.trans kc (Below.mono (Wr.below h2 hz) (Nat.le_refl _))) e7) e))
  ·exact fun s x e f d u => lp rfl rfl (xm (.pointer (some ⟨bs, 0, none⟩)) ((f 0 rfl).trans (K10 0 rfl))) <| se rfl rfl
  ·exact fun s x e f d u => lp rfl rfl (X_nil (d 10 rfl)) <| se rfl rfl
  ·exact fun s x e f d u => lp rfl rfl (X_fieldAddr Tryz.underlying162 rfl Tryz.sizeOf3 rfl (d 11 rfl)) <| se rfl rfl
  ·exact fun s x e f d u => lp rfl rfl (X_loadB Tryz.isAgg3 (Blk.ext k3 (e7.t e)) (d 12 rfl) rfl) <| se rfl rfl
  ·exact fun s x e f d u => lp rfl rfl (X_sub (d 13 rfl) rfl) <| se rfl rfl
  ·intro s x e f d u
   have d16 : Rd 1 (Go.UL.encI .u8) x (s 29) a0 := (d 9 rfl)
   exact L_idx (.plain rfl) rfl (ltb rfl) rfl Tryz.underlying22 Tryz.sizeOf5 rfl d16 (d 14 rfl) c13 <| fun p18 h19 => se rfl ⟨_, rfl, h19⟩
  ·intro s x e f d u
   obtain ⟨p20, h21, h22⟩ := (d 15 rfl)
   exact lp rfl rfl (X_loadAt Tryz.isAgg5 h21 h22 rfl) <| se rfl rfl
  ·exact fun s x e f d u => lp rfl rfl (X_convInt Tryz.underlying5 Tryz.underlying3 (d 16 rfl)) <| se rfl rfl
  ·exact fun s x e f d u => lp rfl rfl (X_add (d 5 rfl) (d 17 rfl)) <| se rfl rfl
  ·exact fun s x e f d u => lp rfl rfl (X_add (d 18 rfl) rfl) <| se rfl rfl
  ·exact fun s x e f d u => lp rfl rfl (X_rem (d 19 rfl) rfl (by decide)) <| se rfl rfl
  ·exact fun s x e f d u => lp rfl rfl (X_nil (d 0 rfl)) <| se rfl rfl
  intro s23 w24 e25 hf26 ha27
  have K28 := Kp.ofD (kp := [(20, 42)]) rfl hf26
  have d29 : s23 40 = (.int .i64 ((IntKind.wrap .i64 ((draw_byte.e2 a0 a1) + 7)).tmod 2147483648)) := ha27 20 rfl
  have d30 : s23 41 = (.pointer (some ⟨bs, 0, none⟩)) := ha27 21 rfl
  clear ha27 hf26
  refine lp rfl rfl (X_fieldAddr Tryz.underlying162 rfl Tryz.sizeOf3 rfl d30) <| L_store1 (.plain rfl) rfl rfl Tryz.sizeOf3 rfl d29 rfl (Blk.ext k3 (e7.t e25)) (ltb rfl) <| fun w31 h32 k33 => nx <| W_seq ?_
  obtain ⟨c34, H⟩ := bif_some H
  refine W_dM [LEq (.pointer (some ⟨bs, 0, none⟩)), LEq (.pointer (some ⟨bs, 0, none⟩)), LEq (.pointer (some ⟨bs, 0, none⟩)), LRd 1 (Go.UL.encI .u8) a0, LEq (.pointer (some ⟨bs, 0, none⟩)), LEq (.pointer (some ⟨bs, 0, none⟩)), LEq (.pointer (some ⟨bs, 1, none⟩)), LEq (.int .i64 (IntKind.wrap .i64 (a1.pos + 1))), LEq (.int .i64 (draw_byte.e1 a1)), LAt0 ((Go.UL.encI .u8) (gt a0 (draw_byte.e1 a1))), LEq (.int .u8 (gt a0 (draw_byte.e1 a1))), LEq (.int .i64 (IntKind.wrap .i64 (gt a0 (draw_byte.e1 a1)))), LEq (.int .i64 (IntKind.wrap .i64 (gt a0 (draw_byte.e1 a1))))] (by kernel_rfl) (by kernel_rfl) ⟨qm, qm, qm, LRd.mono, qm, qm, qm, qm, qm, LAt0.mono, qm, qm, qm, trivial⟩ ⟨?_, ?_, ?_, ?_, ?_, ?_, ?_, ?_, ?_, ?_, ?_, ?_, ?_, trivial⟩ ?_
  ·exact fun s x e f d u => lp rfl rfl (xm (.pointer (some ⟨bs, 0, none⟩)) ((f 0 rfl).trans ((K28 0 rfl).trans (K10 0 rfl)))) <| se rfl rfl
  ·exact fun s x e f d u => lp rfl rfl (X_nil (d 0 rfl)) <| se rfl rfl
  ·exact fun s x e f d u => lp rfl rfl (X_fieldAddr Tryz.underlying162 rfl Tryz.sizeOf22 rfl (d 1 rfl)) <| se rfl rfl
  ·exact fun s x e f d u => lp rfl rfl (X_loadB Tryz.isAgg22 (Blk.ext k33 e) (d 2 rfl) rfl) <| se rfl (Rd.ext fc (Ext.trans (Below.trans (Ext.trans (Ext.trans (Below.trans kc (Below.mono (Wr.below h2 hz) (Nat.le_refl _))) e7) e25) (Below.mono (Wr.below h32 hz) (Nat.le_refl _))) e))
  ·exact fun s x e f d u => lp rfl rfl (xm (.pointer (some ⟨bs, 0, none⟩)) ((f 0 rfl).trans ((K28 0 rfl).trans (K10 0 rfl)))) <| se rfl rfl
  ·exact fun s x e f d u => lp rfl rfl (X_nil (d 4 rfl)) <| se rfl rfl
  ·exact fun s x e f d u => lp rfl rfl (X_fieldAddr Tryz.underlying162 rfl Tryz.sizeOf3 rfl (d 5 rfl)) <| se rfl rfl
  ·exact fun s x e f d u => lp rfl rfl (X_loadB Tryz.isAgg3 (Blk.ext k33 e) (d 6 rfl) rfl) <| se rfl rfl
  ·exact fun s x e f d u => lp rfl rfl (X_sub (d 7 rfl) rfl) <| se rfl rfl
  ·intro s x e f d u
   have d37 : Rd 1 (Go.UL.encI .u8) x (s 46) a0 := (d 3 rfl)
   exact L_idx (.plain rfl) rfl (ltb rfl) rfl Tryz.underlying22 Tryz.sizeOf5 rfl d37 (d 8 rfl) c34 <| fun p39 h40 => se rfl ⟨_, rfl, h40⟩
  ·intro s x e f d u
   obtain ⟨p41, h42, h43⟩ := (d 9 rfl)
   exact lp rfl rfl (X_loadAt Tryz.isAgg5 h42 h43 rfl) <| se rfl rfl
  ·exact fun s x e f d u => lp rfl rfl (X_convInt Tryz.underlying5 Tryz.underlying3 (d 10 rfl)) <| se rfl rfl
  ·exact fun s x e f d u => lp rfl rfl (X_assign (d 11 rfl)) <| se rfl rfl
  intro s44 w45 e46 hf47 ha48
  have K49 := Kp.ofD (kp := [(2, 3), (43, 55)]) rfl hf47
  have d50 : s44 2 = (.int .i64 (IntKind.wrap .i64 (gt a0 (draw_byte.e1 a1)))) := ha48 12 rfl
  clear ha48 hf47
  refine thn_n <| W_ret <| thn_r <| fin_r ?_
  obtain rfl := si H
  exact fin1s d50 (Gr.trans (Gr.trans (Gr.trans (Gr.trans (Gr.ofWr h2) (Gr.ext e7)) (Gr.ext e25)) (Gr.ofWr h32)) (Gr.ext e46)) (Blk.ext k33 e46)
 ·refine W_false (d11.trans (cb q12)) <| W_skip <| thn_n <| W_seq <| wr <| lp rfl rfl (xm (.pointer (some ⟨bs, 0, none⟩)) (K10 0 rfl)) <| lp rfl rfl (X_nil rfl) <| lp rfl rfl (X_fieldAddr Tryz.underlying162 rfl Tryz.sizeOf3 rfl rfl) <| lp rfl rfl (X_loadB Tryz.isAgg3 (Blk.ext k3 e7) rfl rfl) <| lp rfl rfl (X_gtr rfl rfl) <| nx ?_
  rcases bif_two H with ⟨q51, H⟩ | ⟨q51, H⟩
  ·refine W_true (cb q51) <| wr <| lp rfl rfl (xa (.int .i64 0) rfl) <| nx <| W_ret <| thn_r <| fin_r ?_
   obtain rfl := si H
   exact fin1s rfl (Gr.trans (Gr.ofWr h2) (Gr.ext e7)) (Blk.ext k3 e7)
  ·refine W_false (cb q51) <| W_skip <| thn_n <| wr <| lp rfl rfl (xm (.pointer (some ⟨bs, 0, none⟩)) (K10 0 rfl)) <| lp rfl rfl (xm (.pointer (some ⟨bs, 0, none⟩)) (K10 0 rfl)) <| lp rfl rfl (X_nil rfl) <| lp rfl rfl (X_fieldAddr Tryz.underlying162 rfl Tryz.sizeOf3 rfl rfl) <| lp rfl rfl (X_loadB Tryz.isAgg3 (Blk.ext k3 e7) rfl rfl) <| lp rfl rfl (X_mul rfl rfl) <| lp rfl rfl (X_add rfl rfl) <| lp rfl rfl (X_rem rfl rfl (by decide)) <| lp rfl rfl (X_nil rfl) <| lp rfl rfl (X_fieldAddr Tryz.underlying162 rfl Tryz.sizeOf3 rfl rfl) <| L_store1 (.plain rfl) rfl rfl Tryz.sizeOf3 rfl rfl rfl (Blk.ext k3 e7) (ltb rfl) <| fun w52 h53 k54 => nx <| wr <| lp rfl rfl (xm (.pointer (some ⟨bs, 0, none⟩)) (K10 0 rfl)) <| lp rfl rfl (X_nil rfl) <| lp rfl rfl (X_fieldAddr Tryz.underlying162 rfl Tryz.sizeOf3 rfl rfl) <| lp rfl rfl (X_loadB Tryz.isAgg3 k54 rfl rfl) <| lp rfl rfl (X_quo rfl rfl (by decide)) <| lp rfl rfl (X_rem rfl rfl (by decide)) <| lp rfl rfl (X_assign rfl) <| nx <| W_ret <| fin_r ?_
   obtain rfl := si H
   exact fin1s rfl (Gr.trans (Gr.trans (Gr.ofWr h2) (Gr.ext e7)) (Gr.ofWr h53)) k54
theorem draw_byte.calls {w : World} {a0 : List Int} {a1 : DSrc} {r : Int × DSrc} {wc : World} {cv : Value} {bs : Nat} (kc : Ext wc w) (fc : Rd 1 (Go.UL.encI .u8) wc cv a0) (hz : wc.heap.size ≤ bs) (ks : Blk w bs (encSrc cv a1).toArray 162) (H : (draw_byte.sh a0 a1) = some r) :
  Calls Tryz.prog 255 #[.pointer (some ⟨bs, 0, none⟩)] w (Rt (RS 162 bs cv w (.int .i64 r.1) r.2)) := draw_byte.walk kc fc hz ks (draw_byte.eq a0 a1 H)
/-! (*spec.l00Src).next -/
theorem draw_next.walk {w : World} {a0 : List Int} {a1 : DSrc} {a2 : Int} {wc : World} {cv : Value} {bs : Nat} (kc : Ext wc w) (fc : Rd 1 (Go.UL.encI .u8) wc cv a0) (hz : wc.heap.size ≤ bs) (ks : Blk w bs (encSrc cv a1).toArray 162) {r : Int × DSrc} (H : draw_next.sh a0 a1 a2 = some r) :
  Calls Tryz.prog 195 #[.pointer (some ⟨bs, 0, none⟩), .int .i64 a2] w (Rt (RS 162 bs cv w (.int .i64 r.1) r.2)) := by
 unfold draw_next.sh at H
 refine calls_of_W Tryz.func195 rfl (Nat.le_of_ble_eq_true rfl) Tryz.ntmps195 rfl ?_
 refine wr <| lp rfl rfl (xa (.int .i64 0) rfl) <| nx <| W_seq <| wr <| lp rfl rfl (xm (.int .i64 a2) rfl) <| lp rfl rfl (X_leq rfl rfl) <| nx ?_
 rcases bif_two H with ⟨q1, H⟩ | ⟨q1, H⟩
 ·refine W_true (cb q1) <| wr <| lp rfl rfl (xa (.int .i64 0) rfl) <| nx <| W_ret <| thn_r <| fin_r ?_
  obtain rfl := si H
  exact fin1s rfl (Gr.refl _ _ _) ks
 ·refine W_false (cb q1) <| W_skip <| thn_n <| W_seq <| wr <| lp rfl rfl (xm (.int .i64 a2) rfl) <| lp rfl rfl (X_leq rfl rfl) <| nx ?_
  rcases bif_two H with ⟨q2, H⟩ | ⟨q2, H⟩
  ·refine W_true (cb q2) <| wr <| lp rfl rfl (xm (.pointer (some ⟨bs, 0, none⟩)) rfl) ?_
   obtain ⟨z3, x4, H⟩ := bind_some H
   refine L_callS (.plain rfl) rfl (ltb rfl) rfl Tryz.call255 (draw_byte.calls (w := w) (a0 := a0) (a1 := a1) kc fc hz ks x4) rfl <| fun w7 g8 k9 => lp rfl rfl (xm (.int .i64 a2) rfl) ?_
   obtain ⟨c10, H⟩ := bif_some H
   refine lp rfl rfl (X_rem rfl rfl (od c10)) <| lp rfl rfl (xa (.int .i64 (z3.1.tmod a2)) rfl) <| nx <| W_ret <| thn_r <| fin_r ?_
   obtain rfl := si H
   exact fin1s rfl g8 k9
  ·refine W_false (cb q2) <| W_skip <| thn_n <| wr <| lp rfl rfl (xm (.pointer (some ⟨bs, 0, none⟩)) rfl) ?_
   obtain ⟨z11, x12, H⟩ := bind_some H
   refine L_callS (.plain rfl) rfl (ltb rfl) rfl Tryz.call255 (draw_byte.calls (w := w) (a0 := a0) (a1 := a1) kc fc hz ks x12) rfl <| fun w15 g16 k17 => lp rfl rfl (xa (.int .i64 z11.1) rfl) <| nx <| wr <| lp rfl rfl (xm (.pointer (some ⟨bs, 0, none⟩)) rfl) ?_
   obtain ⟨z18, x19, H⟩ := bind_some H
   refine L_callS (.plain rfl) rfl (ltb rfl) rfl Tryz.call255 (draw_byte.calls (w := w15) (a0 := a0) (a1 := z11.2) (Ext.gr kc g16 hz) fc hz k17 x19) rfl <| fun w22 g23 k24 => lp rfl rfl (xa (.int .i64 z18.1) rfl) <| nx <| wr <| lp rfl rfl (xm (.pointer (some ⟨bs, 0, none⟩)) rfl) ?_
   obtain ⟨z25, x26, H⟩ := bind_some H
   refine L_callS (.plain rfl) rfl (ltb rfl) rfl Tryz.call255 (draw_byte.calls (w := w22) (a0 := a0) (a1 := z18.2) (Ext.gr (Ext.gr kc g16 hz) g23 hz) fc hz k24 x26) rfl <| fun w29 g30 k31 => lp rfl rfl (xa (.int .i64 z25.1) rfl) <| nx <| wr <| lp rfl rfl (xm (.int .i64 z11.1) rfl) <| lp rfl rfl (X_mul rfl rfl) <| lp rfl rfl (xm (.int .i64 z18.1) rfl) <| lp rfl rfl (X_mul rfl rfl) <| lp rfl rfl (X_add rfl rfl) <| lp rfl rfl (xm (.int .i64 z25.1) rfl) <| lp rfl rfl (X_add rfl rfl) <| lp rfl rfl (xm (.int .i64 a2) rfl) ?_
   obtain ⟨c32, H⟩ := bif_some H
   refine lp rfl rfl (X_rem rfl rfl (od c32)) <| lp rfl rfl (X_assign rfl) <| nx <| W_ret <| fin_r ?_
   obtain rfl := si H
   exact fin1s rfl (Gr.trans (Gr.trans g16 g23) g30) k31
theorem draw_next.calls {w : World} {a0 : List Int} {a1 : DSrc} {a2 : Int} {r : Int × DSrc} {wc : World} {cv : Value} {bs : Nat} (kc : Ext wc w) (fc : Rd 1 (Go.UL.encI .u8) wc cv a0) (hz : wc.heap.size ≤ bs) (ks : Blk w bs (encSrc cv a1).toArray 162) (H : (draw_next.sh a0 a1 a2) = some r) :
  Calls Tryz.prog 195 #[.pointer (some ⟨bs, 0, none⟩), .int .i64 a2] w (Rt (RS 162 bs cv w (.int .i64 r.1) r.2)) := draw_next.walk kc fc hz ks (draw_next.eq a0 a1 a2 H)
/-! (*spec.l00Src).chance -/
theorem draw_chance.walk {w : World} {a0 : List Int} {a1 : DSrc} {a2 : Int} {wc : World} {cv : Value} {bs : Nat} (kc : Ext wc w) (fc : Rd 1 (Go.UL.encI .u8) wc cv a0) (hz : wc.heap.size ≤ bs) (ks : Blk w bs (encSrc cv a1).toArray 162) {r : Bool × DSrc} (H : draw_chance.sh a0 a1 a2 = some r) :
  Calls Tryz.prog 236 #[.pointer (some ⟨bs, 0, none⟩), .int .i64 a2] w (Rt (RS 162 bs cv w (.bool r.1) r.2)) := by
 unfold draw_chance.sh at H
 refine calls_of_W Tryz.func236 rfl (Nat.le_of_ble_eq_true rfl) Tryz.ntmps236 rfl ?_
 refine wr <| lp rfl rfl (xa (.bool false) rfl) <| nx <| wr <| lp rfl rfl (xm (.pointer (some ⟨bs, 0, none⟩)) rfl) <| lp rfl rfl (xm (.int .i64 a2) rfl) ?_
 obtain ⟨z1, x2, H⟩ := bind_some H
 refine L_callS (.plain rfl) rfl (ltb rfl) rfl Tryz.call195 (draw_next.calls (w := w) (a0 := a0) (a1 := a1) (a2 := a2) kc fc hz ks x2) rfl <| fun w5 g6 k7 => lp rfl rfl (xm (.int .i64 a2) rfl) <| lp rfl rfl (X_sub rfl rfl) <| lp rfl rfl (X_eql rfl rfl) <| lp rfl rfl (xa (.bool (decide (z1.1 = (IntKind.wrap .i64 (a2 - 1))))) rfl) <| nx <| W_ret <| fin_r ?_
 obtain rfl := si H
 exact fin1s rfl g6 k7
theorem draw_chance.calls {w : World} {a0 : List Int} {a1 : DSrc} {a2 : Int} {r : Bool × DSrc} {wc : World} {cv : Value} {bs : Nat} (kc : Ext wc w) (fc : Rd 1 (Go.UL.encI .u8) wc cv a0) (hz : wc.heap.size ≤ bs) (ks : Blk w bs (encSrc cv a1).toArray 162) (H : (draw_chance.sh a0 a1 a2) = some r) :
  Calls Tryz.prog 236 #[.pointer (some ⟨bs, 0, none⟩), .int .i64 a2] w (Rt (RS 162 bs cv w (.bool r.1) r.2)) := draw_chance.walk kc fc hz ks (draw_chance.eq a0 a1 a2 H)
/-! (*spec.l00Src).room -/
theorem draw_room.walk {w : World} {a0 : List Int} {a1 : DSrc} {a2 : Int} {wc : World} {cv : Value} {bs : Nat} (kc : Ext wc w) (fc : Rd 1 (Go.UL.encI .u8) wc cv a0) (hz : wc.heap.size ≤ bs) (ks : Blk w bs (encSrc cv a1).toArray 162) {r : Int × DSrc} (H : draw_room.sh a0 a1 a2 = some r) :
  Calls Tryz.prog 201 #[.pointer (some ⟨bs, 0, none⟩), .int .i64 a2] w (Rt (RS 162 bs cv w (.int .i64 r.1) r.2)) := by
 unfold draw_room.sh at H
 refine calls_of_W Tryz.func201 rfl (Nat.le_of_ble_eq_true rfl) Tryz.ntmps201 rfl ?_
 refine wr <| lp rfl rfl (xa (.int .i64 0) rfl) <| nx <| wr <| lp rfl rfl (xm (.pointer (some ⟨bs, 0, none⟩)) rfl) <| lp rfl rfl (X_nil rfl) <| lp rfl rfl (X_fieldAddr Tryz.underlying162 rfl Tryz.sizeOf22 rfl rfl) <| lp rfl rfl (X_loadB Tryz.isAgg22 ks rfl rfl) <| lp rfl rfl (X_lenR Tryz.underlying22 rfl (Rd.ext fc kc)) <| lp rfl rfl (X_quo rfl rfl (by decide)) <| lp rfl rfl (X_add rfl rfl) <| lp rfl rfl (xm (.int .i64 a2) rfl) <| lp rfl rfl (X_min rfl rfl) <| lp rfl rfl (X_assign rfl) <| nx <| W_ret <| fin_r ?_
 obtain rfl := si H
 exact fin1s rfl (Gr.refl _ _ _) ks
theorem draw_room.calls {w : World} {a0 : List Int} {a1 : DSrc} {a2 : Int} {r : Int × DSrc} {wc : World} {cv : Value} {bs : Nat} (kc : Ext wc w) (fc : Rd 1 (Go.UL.encI .u8) wc cv a0) (hz : wc.heap.size ≤ bs) (ks : Blk w bs (encSrc cv a1).toArray 162) (H : (draw_room.sh a0 a1 a2) = some r) :
  Calls Tryz.prog 201 #[.pointer (some ⟨bs, 0, none⟩), .int .i64 a2] w (Rt (RS 162 bs cv w (.int .i64 r.1) r.2)) := draw_room.walk kc fc hz ks (draw_room.eq a0 a1 a2 H)
/-! (*spec.l00Src).pick -/
theorem draw_pick.walk {w : World} {a0 : List Int} {a1 : DSrc} {a2 : List (List UInt8)} {wc : World} {cv : Value} {bs : Nat} (kc : Ext wc w) (fc : Rd 1 (Go.UL.encI .u8) wc cv a0) (hz : wc.heap.size ≤ bs) (ks : Blk w bs (encSrc cv a1).toArray 162) {v_a2 : Value} {B_a2 : Nat} (o_a2 : Ow 9 1 encS B_a2 w v_a2 a2) (l_a2 : bs + 1 ≤ B_a2) {r : List UInt8 × DSrc} (H : draw_pick.sh a0 a1 a2 = some r) :
  Calls Tryz.prog 235 #[.pointer (some ⟨bs, 0, none⟩), v_a2] w (Rt (RS 162 bs cv w (S r.1) r.2)) := by
 unfold draw_pick.sh at H
 refine calls_of_W Tryz.func235 rfl (Nat.le_of_ble_eq_true rfl) Tryz.ntmps235 rfl ?_
 refine wr <| lp rfl rfl (xa (S ([] : List UInt8)) rfl) <| nx <| W_seq <| wr <| lp rfl rfl (xm v_a2 rfl) <| lp rfl rfl (X_lenR Tryz.underlying42 rfl (Ow.rd o_a2)) <| lp rfl rfl (X_eql rfl rfl) <| nx ?_
 rcases bif_two H with ⟨q1, H⟩ | ⟨q1, H⟩
 ·refine W_true (cb q1) <| wr <| lp rfl rfl (xa (S ([] : List UInt8)) rfl) <| nx <| W_ret <| thn_r <| fin_r ?_
  obtain rfl := si H
  exact fin1s rfl (Gr.refl _ _ _) ks
 ·refine W_false (cb q1) <| W_skip <| thn_n <| wr <| lp rfl rfl (xm v_a2 rfl) <| lp rfl rfl (xm (.pointer (some ⟨bs, 0, none⟩)) rfl) <| lp rfl rfl (xm v_a2 rfl) <| lp rfl rfl (X_lenR Tryz.underlying42 rfl (Ow.rd o_a2)) ?_
  obtain ⟨z2, x3, H⟩ := bind_some H
  refine L_callS (.plain rfl) rfl (ltb rfl) rfl Tryz.call195 (draw_next.calls (w := w) (a0 := a0) (a1 := a1) (a2 := (a2.length : Int)) kc fc hz ks x3) rfl <| fun w6 g7 k8 => ?_
  obtain ⟨c9, H⟩ := bif_some H
  refine L_idx (.plain rfl) rfl (ltb rfl) rfl Tryz.underlying42 Tryz.sizeOf9 rfl (Ow.rd (Ow.later o_a2 g7 l_a2)) rfl c9 <| fun p10 h11 => lp rfl rfl (X_loadAt Tryz.isAgg9 rfl h11 rfl) <| lp rfl rfl (xa (S (gt a2 z2.1)) rfl) <| nx <| W_ret <| fin_r ?_
  obtain rfl := si H
  exact fin1s rfl g7 k8
theorem draw_pick.calls {w : World} {a0 : List Int} {a1 : DSrc} {a2 : List (List UInt8)} {r : List UInt8 × DSrc} {wc : World} {cv : Value} {bs : Nat} (kc : Ext wc w) (fc : Rd 1 (Go.UL.encI .u8) wc cv a0) (hz : wc.heap.size ≤ bs) (ks : Blk w bs (encSrc cv a1).toArray 162) {v_a2 : Value} {B_a2 : Nat} (o_a2 : Ow 9 1 encS B_a2 w v_a2 a2) (l_a2 : bs + 1 ≤ B_a2) (H : (draw_pick.sh a0 a1 a2) = some r) :
  Calls Tryz.prog 235 #[.pointer (some ⟨bs, 0, none⟩), v_a2] w (Rt (RS 162 bs cv w (S r.1) r.2)) := draw_pick.walk kc fc hz ks o_a2 l_a2 (draw_pick.eq a0 a1 a2 H)
/-! (*spec.l00Src).part -/
theorem draw_part.walk {w : World} {a0 : List Int} {a1 : DSrc} {wc : World} {cv : Value} {bs : Nat} (kc : Ext wc w) (fc : Rd 1 (Go.UL.encI .u8) wc cv a0) (hz : wc.heap.size ≤ bs) (ks : Blk w bs (encSrc cv a1).toArray 162) {r : List UInt8 × DSrc} (H : draw_part.sh a0 a1 = some r) :
  Calls Tryz.prog 229 #[.pointer (some ⟨bs, 0, none⟩)] w (Rt (RS 162 bs cv w (S r.1) r.2)) := by
 unfold draw_part.sh at H
 refine calls_of_W Tryz.func229 rfl (Nat.le_of_ble_eq_true rfl) Tryz.ntmps229 rfl ?_
 refine wr <| lp rfl rfl (xa (S ([] : List UInt8)) rfl) <| nx <| wr <| lp rfl rfl (xm (.pointer (some ⟨bs, 0, none⟩)) rfl) <| L_lit (.plain rfl) rfl (ltb rfl) rfl Tryz.underlying42 Tryz.sizeOf9 Tryz.zeroValue9 rfl rfl rfl (vs := [(S ([97] : List UInt8)), (S ([98] : List UInt8)), (S ([99] : List UInt8)), (S ([97, 46, 98] : List UInt8)), (S ([120] : List UInt8))]) rfl (lit_all rfl) <| fun b1 w2 z3 z4 e5 k6 => ?_
 obtain ⟨z7, x8, H⟩ := bind_some H
 refine L_callS (.plain rfl) rfl (ltb rfl) rfl Tryz.call235 (draw_pick.calls (w := w2) (a0 := a0) (a1 := a1) (a2 := draw_part.lit1) (Ext.trans kc e5) fc hz (Blk.ext ks e5) (Ow.new (xs := draw_part.lit1) (sz := 1) (enc := encS) (base := w.heap.size) k6 (Nat.le_of_eq z3) rfl (fun _ _ => rfl) (Nat.le_of_ble_eq_true rfl)) (Nat.le_trans (Blk.lt ks) (Nat.le_refl _)) x8) rfl <| fun w11 g12 k13 => lp rfl rfl (xa (S z7.1) rfl) <| nx <| W_ret <| fin_r ?_
 obtain rfl := si H
 exact fin1s rfl (Gr.trans (Gr.ext e5) g12) k13
theorem draw_part.calls {w : World} {a0 : List Int} {a1 : DSrc} {r : List UInt8 × DSrc} {wc : World} {cv : Value} {bs : Nat} (kc : Ext wc w) (fc : Rd 1 (Go.UL.encI .u8) wc cv a0) (hz : wc.heap.size ≤ bs) (ks : Blk w bs (encSrc cv a1).toArray 162) (H : (draw_part.sh a0 a1) = some r) :
  Calls Tryz.prog 229 #[.pointer (some ⟨bs, 0, none⟩)] w (Rt (RS 162 bs cv w (S r.1) r.2)) := draw_part.walk kc fc hz ks (draw_part.eq a0 a1 H)
/-! (*spec.l00Src).path -/
theorem draw_path.walk {k : Nat} {w : World} {a0 : List Int} {a1 : DSrc} {wc : World} {cv : Value} {bs : Nat} (kc : Ext wc w) (fc : Rd 1 (Go.UL.encI .u8) wc cv a0) (hz : wc.heap.size ≤ bs) (ks : Blk w bs (encSrc cv a1).toArray 162) {r : List UInt8 × DSrc} (H : draw_path.sh k a0 a1 = some r) :
  Calls Tryz.prog 148 #[.pointer (some ⟨bs, 0, none⟩)] w (Rt (RS 162 bs cv w (S r.1) r.2)) := by
 unfold draw_path.sh at H
 refine calls_of_W Tryz.func148 rfl (Nat.le_of_ble_eq_true rfl) Tryz.ntmps148 rfl ?_
 refine wr <| lp rfl rfl (xa (S ([] : List UInt8)) rfl) <| nx <| wr <| lp rfl rfl (xm (.pointer (some ⟨bs, 0, none⟩)) rfl) ?_
 obtain ⟨z1, x2, H⟩ := bind_some H
 refine L_callS (.plain rfl) rfl (ltb rfl) rfl Tryz.call229 (draw_part.calls (w := w) (a0 := a0) (a1 := a1) kc fc hz ks x2) rfl <| fun w5 g6 k7 => lp rfl rfl (xa (S z1.1) rfl) <| nx <| W_seq <| wr <| lp rfl rfl (xm (.pointer (some ⟨bs, 0, none⟩)) rfl) ?_
 obtain ⟨z8, x9, H⟩ := bind_some H
 refine L_callS (.plain rfl) rfl (ltb rfl) rfl Tryz.call195 (draw_next.calls (w := w5) (a0 := a0) (a1 := z1.2) (a2 := 3) (Ext.gr kc g6 hz) fc hz k7 x9) rfl <| fun w12 g13 k14 => lp rfl rfl (xa (.int .i64 z8.1) rfl) <| nx ?_
 obtain ⟨z18, L19, C20⟩ := bind_some H
 clear H
 refine  W_cutQ (fun s0 sQ wQ => ∃ (x3_21 : List UInt8) (y22 : DSrc), Kp [(3, 5), (9, 18)] s0 sQ ∧ sQ 3 = S x3_21 ∧ Blk wQ bs ((encSrc cv) y22).toArray 162 ∧ Gr bs (bs + 1) w12 wQ ∧ Ext wc wQ ∧ z18 = .inr (x3_21, y22)) ?_ ?_
 ·refine W_block <| W_loopI (fun s0 kk sQ wQ => ∃ (x3_15 : List UInt8) (x4_16 : Int) (y17 : DSrc), Kp [(3, 5), (9, 18)] s0 sQ ∧ sQ 3 = S x3_15 ∧ sQ 4 = .int .i64 x4_16 ∧ Blk wQ bs ((encSrc cv) y17).toArray 162 ∧ Gr bs (bs + 1) w12 wQ ∧ Ext wc wQ ∧ loopF (draw_path.b1 a0) kk (x3_15, x4_16, y17) = some z18) k ⟨z1.1, z8.1, z8.2, kz, rfl, rfl, k14, (Gr.refl _ _ _), (Ext.gr (Ext.gr kc g6 hz) g13 hz), L19⟩ ?_
  rintro k27 s28 w29 ⟨x3_15, x4_16, y17, K30, h33, h34, h35, e31, e31c, L32⟩
  cases k27 with
  | zero => exact absurd L32 (by simp [loopF])
  | succ k27 =>
   obtain ⟨t36, H, S37⟩ := loopF_succ L32
   clear L32
   unfold draw_path.b1 at H
   refine W_seq <| wr <| lp rfl rfl (X_move h34) <| lp rfl rfl (X_gtr rfl rfl) <| nx ?_
   rcases bif_two H with ⟨q38, H⟩ | ⟨q38, H⟩
   ·refine W_true (cb q38) <| W_skip <| thn_n <| W_seq <| W_block <| W_reg <| lp rfl rfl (X_move h33) <| lp rfl rfl (xm (.pointer (some ⟨bs, 0, none⟩)) (K30 0 rfl)) ?_
    obtain ⟨z39, x40, H⟩ := bind_some H
    refine L_callS (.plain rfl) rfl (ltb rfl) rfl Tryz.call229 (draw_part.calls (w := w29) (a0 := a0) (a1 := y17) e31c fc hz h35 x40) rfl <| fun w43 g44 k45 => ?_
    obtain ⟨c46, H⟩ := bif_some H
    refine lp rfl rfl (X_cat rfl rfl (od c46)) ?_
    obtain ⟨c47, H⟩ := bif_some H
    refine lp rfl rfl (X_cat rfl rfl (od c47)) <| lp rfl rfl (xa (S (x3_15 ++ (([47] : List UInt8) ++ z39.1))) rfl) <| L_nil <| blk_n <| thn_n <| W_reg <| lp rfl rfl (X_move h34) <| lp rfl rfl (X_sub rfl rfl) <| lp rfl rfl (xa (.int .i64 (IntKind.wrap .i64 (x4_16 - 1))) rfl) <| nx ?_
    obtain rfl := si H
    exact ⟨_, Nat.lt_succ_self _, x3_15 ++ (([47] : List UInt8) ++ z39.1), IntKind.wrap .i64 (x4_16 - 1), z39.2, (ku3 (ku8 K30 rfl) rfl), rfl, rfl, k45, (Gr.trans e31 g44), (Ext.gr e31c g44 hz), S37⟩
   ·refine W_false (cb q38) <| W_exit <| thn_x <| thn_x <| blk_x <| thn_n ?_
    obtain rfl := si H
    obtain rfl := si S37
    exact ⟨x3_15, y17, (ku2 K30 rfl), h33, h35, e31, e31c, rfl⟩
 ·rintro s24 w23 ⟨x3_21, y22, K25, h48, h49, e26, e26c, y50⟩
  rw [y50] at C20
  have H := C20
  replace H : _ = some _ := H
  refine thn_n <| wr <| lp rfl rfl (X_move h48) <| lp rfl rfl (xa (S x3_21) rfl) <| nx <| W_ret <| fin_r ?_
  obtain rfl := si H
  exact fin1s rfl (Gr.trans (Gr.trans g6 g13) e26) h49
theorem draw_path.calls {w : World} {a0 : List Int} {a1 : DSrc} {r : List UInt8 × DSrc} {wc : World} {cv : Value} {bs : Nat} (kc : Ext wc w) (fc : Rd 1 (Go.UL.encI .u8) wc cv a0) (hz : wc.heap.size ≤ bs) (ks : Blk w bs (encSrc cv a1).toArray 162) (H : (draw_path.sh 4 a0 a1) = some r) :
  Calls Tryz.prog 148 #[.pointer (some ⟨bs, 0, none⟩)] w (Rt (RS 162 bs cv w (S r.1) r.2)) := by
 obtain ⟨k, h⟩ := draw_path.eq a0 a1 H
 exact draw_path.walk kc fc hz ks h
/-! (*spec.l00Src).body -/
theorem draw_body.walk {w : World} {a0 : List Int} {a1 : DSrc} {wc : World} {cv : Value} {bs : Nat} (kc : Ext wc w) (fc : Rd 1 (Go.UL.encI .u8) wc cv a0) (hz : wc.heap.size ≤ bs) (ks : Blk w bs (encSrc cv a1).toArray 162) {r : List UInt8 × DSrc} (H : draw_body.sh a0 a1 = some r) :
  Calls Tryz.prog 234 #[.pointer (some ⟨bs, 0, none⟩)] w (Rt (RS 162 bs cv w (S r.1) r.2)) := by
 unfold draw_body.sh at H
 refine calls_of_W Tryz.func234 rfl (Nat.le_of_ble_eq_true rfl) Tryz.ntmps234 rfl ?_
 refine wr <| lp rfl rfl (xa (S ([] : List UInt8)) rfl) <| nx <| wr <| lp rfl rfl (xm (.pointer (some ⟨bs, 0, none⟩)) rfl) <| L_lit (.plain rfl) rfl (ltb rfl) rfl Tryz.underlying42 Tryz.sizeOf9 Tryz.zeroValue9 rfl rfl rfl (vs := [(S ([] : List UInt8)), (S ([111, 110, 101] : List UInt8)), (S ([116, 119, 111] : List UInt8)), (S ([120, 0, 121] : List UInt8)), (S ([108, 111, 110, 103, 32, 108, 111, 110, 103, 32, 98, 111, 100, 121, 32, 104, 101, 114, 101, 33] : List UInt8))]) rfl (lit_all rfl) <| fun b1 w2 z3 z4 e5 k6 => ?_
 obtain ⟨z7, x8, H⟩ := bind_some H
 refine L_callS (.plain rfl) rfl (ltb rfl) rfl Tryz.call235 (draw_pick.calls (w := w2) (a0 := a0) (a1 := a1) (a2 := draw_body.lit1) (Ext.trans kc e5) fc hz (Blk.ext ks e5) (Ow.new (xs := draw_body.lit1) (sz := 1) (enc := encS) (base := w.heap.size) k6 (Nat.le_of_eq z3) rfl (fun _ _ => rfl) (Nat.le_of_ble_eq_true rfl)) (Nat.le_trans (Blk.lt ks) (Nat.le_refl _)) x8) rfl <| fun w11 g12 k13 => lp rfl rfl (xa (S z7.1) rfl) <| nx <| W_ret <| fin_r ?_
 obtain rfl := si H
 exact fin1s rfl (Gr.trans (Gr.ext e5) g12) k13
theorem draw_body.calls {w : World} {a0 : List Int} {a1 : DSrc} {r : List UInt8 × DSrc} {wc : World} {cv : Value} {bs : Nat} (kc : Ext wc w) (fc : Rd 1 (Go.UL.encI .u8) wc cv a0) (hz : wc.heap.size ≤ bs) (ks : Blk w bs (encSrc cv a1).toArray 162) (H : (draw_body.sh a0 a1) = some r) :
  Calls Tryz.prog 234 #[.pointer (some ⟨bs, 0, none⟩)] w (Rt (RS 162 bs cv w (S r.1) r.2)) := draw_body.walk kc fc hz ks (draw_body.eq a0 a1 H)
/-! (*spec.l00Src).record -/
theorem draw_record.walk {w : World} {a0 : List Int} {a1 : DSrc} {a2 : List UInt8} {wc : World} {cv : Value} {bs : Nat} (kc : Ext wc w) (fc : Rd 1 (Go.UL.encI .u8) wc cv a0) (hz : wc.heap.size ≤ bs) (ks : Blk w bs (encSrc cv a1).toArray 162) {r : Rec × DSrc} (H : draw_record.sh a0 a1 a2 = some r) :
  Calls Tryz.prog 153 #[.pointer (some ⟨bs, 0, none⟩), S a2] w (Rt (RS 162 bs cv w (.agg (encRec r.1).toArray) r.2)) := by
 unfold draw_record.sh at H
 refine calls_of_WG Tryz.func153 rfl (Nat.le_of_ble_eq_true rfl) Tryz.ntmps153 ?_
 refine wr <| L_alloc (.plain rfl) rfl (ltb rfl) rfl Tryz.zeroValue58 <| fun b1 w2 z3 z4 e5 k6 => nx <| W_seq <| wr <| lp rfl rfl (xm (.pointer (some ⟨bs, 0, none⟩)) rfl) ?_
 obtain ⟨z7, x8, H⟩ := bind_some H
 refine L_callS (.plain rfl) rfl (ltb rfl) rfl Tryz.call195 (draw_next.calls (w := w2) (a0 := a0) (a1 := a1) (a2 := 8) (Ext.trans kc e5) fc hz (Blk.ext ks e5) x8) rfl <| fun w11 g12 k13 => nx ?_
 obtain ⟨z14, L15, C16⟩ := bind_some H
 clear H
 refine W_cutQ (fun s0 sQ wQ => ∃ (y17 : DSrc), Kp [(7, 32)] s0 sQ ∧ Blk wQ bs ((encSrc cv) y17).toArray 162 ∧ Blk wQ b1 (encRec (⟨0, ([] : List UInt8), ([] : List UInt8), 0, false⟩ : Rec)).toArray 58 ∧ Gr bs (bs + 1) w11 wQ ∧ Ext wc wQ ∧ z14 = .inr y17) ?_ ?_
 ·have H := L15
  refine W_block <| W_seq <| wr <| lp rfl rfl (X_eql rfl rfl) <| lp rfl rfl (xa (.bool (decide (z7.1 = 0))) rfl) <| nx ?_
  obtain ⟨z18, L19, C20⟩ := bind_some H
  clear H
  refine W_cutQ (fun s0 sQ wQ => ∃ (x7_21 : Bool), Kp [(7, 8), (9, 11)] s0 sQ ∧ sQ 7 = .bool x7_21 ∧ Blk wQ bs ((encSrc cv) z7.2).toArray 162 ∧ Blk wQ b1 (encRec (⟨0, ([] : List UInt8), ([] : List UInt8), 0, false⟩ : Rec)).toArray 58 ∧ Gr bs (bs + 1) w11 wQ ∧ Ext wc wQ ∧ z18 = .inr x7_21) ?_ ?_
  ·have H := L19
   rcases bif_two H with ⟨q22, H⟩ | ⟨q22, H⟩
   ·refine W_true (cb q22) <| W_skip <| thn_n ?_
    obtain rfl := si H
    exact ⟨(decide (z7.1 = 0)), kz, rfl, k13, (Gr.blk g12 k6 (Or.inl (Nat.le_trans (Nat.le_trans (Blk.lt ks) (Nat.le_refl _)) (Nat.le_of_eq z3)))), (Gr.refl _ _ _), (Ext.gr (Ext.trans kc e5) g12 hz), rfl⟩
   ·refine W_false (cb q22) <| wr <| lp rfl rfl (X_eql rfl rfl) <| lp rfl rfl (xa (.bool (decide (z7.1 = 1))) rfl) <| nx ?_
    rcases bif_two H with ⟨q23, H⟩ | ⟨q23, H⟩
    ·refine W_true (cb q23) <| W_skip <| thn_n ?_
     obtain rfl := si H
     exact ⟨(decide (z7.1 = 1)), (ku2 kz rfl), rfl, k13, (Gr.blk g12 k6 (Or.inl (Nat.le_trans (Nat.le_trans (Blk.lt ks) (Nat.le_refl _)) (Nat.le_of_eq z3)))), (Gr.refl _ _ _), (Ext.gr (Ext.trans kc e5) g12 hz), rfl⟩
    ·refine W_false (cb q23) <| W_reg <| lp rfl rfl (X_eql rfl rfl) <| lp rfl rfl (xa (.bool (decide (z7.1 = 2))) rfl) <| nx ?_
     obtain rfl := si H
     exact ⟨(decide (z7.1 = 2)), (ku4 kz rfl), rfl, k13, (Gr.blk g12 k6 (Or.inl (Nat.le_trans (Nat.le_trans (Blk.lt ks) (Nat.le_refl _)) (Nat.le_of_eq z3)))), (Gr.refl _ _ _), (Ext.gr (Ext.trans kc e5) g12 hz), rfl⟩
  ·rintro s25 w24 ⟨x7_21, K26, h29, h30, h31, e27, e27c, y28⟩
   rw [y28] at C20
   have H := C20
   refine thn_n ?_
   rcases bif_two H with ⟨q32, H⟩ | ⟨q32, H⟩
   ·refine W_true (h29.trans (cb q32)) <| wr <| lp rfl rfl (xm (S a2) (K26 1 rfl)) <| lp rfl rfl (xm (.pointer (some ⟨bs, 0, none⟩)) (K26 0 rfl)) ?_
    obtain ⟨z33, x34, H⟩ := bind_some H
    refine L_callS (.plain rfl) rfl (ltb rfl) rfl Tryz.call234 (draw_body.calls (w := w24) (a0 := a0) (a1 := z7.2) e27c fc hz h30 x34) rfl <| fun w37 g38 k39 => L_lit (.plain rfl) rfl (ltb rfl) rfl Tryz.underlying188 Tryz.sizeOf3 Tryz.zeroValue3 rfl rfl rfl (vs := [(.int .i64 420), (.int .i64 0), (.int .i64 511)]) rfl (lit_all rfl) <| fun b40 w41 z42 z43 e44 k45 => lp rfl rfl (xm (.pointer (some ⟨bs, 0, none⟩)) (K26 0 rfl)) ?_
    obtain ⟨z46, x47, H⟩ := bind_some H
    refine L_callS (.plain rfl) rfl (ltb rfl) rfl Tryz.call195 (draw_next.calls (w := w41) (a0 := a0) (a1 := z33.2) (a2 := 3) (Ext.trans (Ext.gr e27c g38 hz) e44) fc hz (Blk.ext k39 e44) x47) rfl <| fun w50 g51 k52 => ?_
    obtain ⟨c53, H⟩ := bif_some H
    refine L_idx (.plain rfl) rfl (ltb rfl) rfl Tryz.underlying188 Tryz.sizeOf3 rfl (Ow.rd (Ow.later (Ow.new (xs := [420, 0, 511]) (sz := 1) (enc := (Go.UL.encI .i64)) (base := w37.heap.size) k45 (Nat.le_of_eq z42) rfl (fun _ _ => by rfl) (Nat.le_of_ble_eq_true rfl)) g51 (Nat.le_trans (Blk.lt ks) ((Gr.trans (Gr.trans (Gr.trans (Gr.ext e5) g12) e27) g38)).size))) rfl c53 <| fun p54 h55 => lp rfl rfl (X_loadAt Tryz.isAgg3 rfl h55 rfl) <| lp rfl rfl (X_build1 (vs := [(0, (.int .i64 1)), (1, (S a2)), (2, (S z33.1)), (3, (.int .i64 (gt ([420, 0, 511] : List Int) z46.1)))]) (pl := #[(0, 1), (1, 1), (2, 1), (3, 1), (4, 1)]) Tryz.underlying58 Tryz.zeroValue58 rfl (fun _ => by kernel_rfl) rfl rfl rfl) <| L_storeA (.plain rfl) rfl rfl Tryz.sizeOf58 (K26 4 rfl) rfl rfl rfl rfl (Gr.blk g51 (Blk.ext (Gr.blk g38 h31 (Or.inl (Nat.le_trans (Nat.le_trans (Blk.lt ks) (Nat.le_refl _)) (Nat.le_of_eq z3)))) e44) (Or.inl (Nat.le_trans (Nat.le_trans (Blk.lt ks) (Nat.le_refl _)) (Nat.le_of_eq z3)))) <| fun w56 h57 k58 => nx <| W_ret <| blk_r <| thn_r <| thn_r <| finG_r ?_
    obtain rfl := si H
    have H := C16
    obtain rfl := si H
    exact finC1s rfl (K26 4 rfl) k58 Tryz.isAgg58 Tryz.sizeOf58 rfl (Gr.thn (Gr.trans (Gr.trans (Gr.trans (Gr.trans (Gr.trans (Gr.ext e5) g12) e27) g38) (Gr.ext e44)) g51) (Wr.below h57 (Nat.le_of_eq z3))) (Gr.blk (Gr.ofBelow (Wr.below h57 (Nat.le_of_eq z3))) k52 (Or.inr (Nat.le_trans (Blk.lt ks) (Nat.le_refl _))))
   ·refine W_false (h29.trans (cb q32)) <| wr <| lp rfl rfl (X_eql (K26 6 rfl) rfl) <| lp rfl rfl (xa (.bool (decide (z7.1 = 3))) rfl) <| nx ?_
    rcases bif_two H with ⟨q59, H⟩ | ⟨q59, H⟩
    ·refine W_true (cb q59) <| wr <| lp rfl rfl (xm (S a2) (K26 1 rfl)) <| lp rfl rfl (xm (.pointer (some ⟨bs, 0, none⟩)) (K26 0 rfl)) <| L_lit (.plain rfl) rfl (ltb rfl) rfl Tryz.underlying42 Tryz.sizeOf9 Tryz.zeroValue9 rfl rfl rfl (vs := [(S ([97] : List UInt8)), (S ([46, 46, 47, 98] : List UInt8)), (S ([47] : List UInt8))]) rfl (lit_all rfl) <| fun b60 w61 z62 z63 e64 k65 => ?_
     obtain ⟨z66, x67, H⟩ := bind_some H
     refine L_callS (.plain rfl) rfl (ltb rfl) rfl Tryz.call235 (draw_pick.calls (w := w61) (a0 := a0) (a1 := z7.2) (a2 := ([([97] : List UInt8), ([46, 46, 47, 98] : List UInt8), ([47] : List UInt8)] : List (List UInt8))) (Ext.trans e27c e64) fc hz (Blk.ext h30 e64) (Ow.new (xs := [([97] : List UInt8), ([46, 46, 47, 98] : List UInt8), ([47] : List UInt8)]) (sz := 1) (enc := encS) (base := w24.heap.size) k65 (Nat.le_of_eq z62) rfl (fun _ _ => by rfl) (Nat.le_of_ble_eq_true rfl)) (Nat.le_trans (Blk.lt ks) ((Gr.trans (Gr.trans (Gr.ext e5) g12) e27)).size) x67) rfl <| fun w70 g71 k72 => lp rfl rfl (X_build1 (vs := [(0, (.int .i64 2)), (1, (S a2)), (2, (S z66.1))]) (pl := #[(0, 1), (1, 1), (2, 1), (3, 1), (4, 1)]) Tryz.underlying58 Tryz.zeroValue58 rfl (fun _ => by kernel_rfl) rfl rfl rfl) <| L_storeA (.plain rfl) rfl rfl Tryz.sizeOf58 (K26 4 rfl) rfl rfl rfl rfl (Gr.blk g71 (Blk.ext h31 e64) (Or.inl (Nat.le_trans (Nat.le_trans (Blk.lt ks) (Nat.le_refl _)) (Nat.le_of_eq z3)))) <| fun w73 h74 k75 => nx <| W_ret <| blk_r <| thn_r <| thn_r <| finG_r ?_
     obtain rfl := si H
     have H := C16
     obtain rfl := si H
     exact finC1s rfl (K26 4 rfl) k75 Tryz.isAgg58 Tryz.sizeOf58 rfl (Gr.thn (Gr.trans (Gr.trans (Gr.trans (Gr.trans (Gr.ext e5) g12) e27) (Gr.ext e64)) g71) (Wr.below h74 (Nat.le_of_eq z3))) (Gr.blk (Gr.ofBelow (Wr.below h74 (Nat.le_of_eq z3))) k72 (Or.inr (Nat.le_trans (Blk.lt ks) (Nat.le_refl _))))
    ·refine W_false (cb q59) <| W_seq <| wr <| lp rfl rfl (X_eql (K26 6 rfl) rfl) <| lp rfl rfl (xa (.bool (decide (z7.1 = 4))) rfl) <| nx ?_
     rcases bif_two H with ⟨q76, H⟩ | ⟨q76, H⟩
     ·refine W_true (cb q76) <| W_skip <| thn_n ?_
      rcases bif_two H with ⟨q77, H⟩ | ⟨q77, H⟩
      ·refine W_true (cb q77) <| wr <| lp rfl rfl (xm (S a2) (K26 1 rfl)) <| lp rfl rfl (X_build1 (vs := [(0, (.int .i64 4)), (1, (S a2))]) (pl := #[(0, 1), (1, 1), (2, 1), (3, 1), (4, 1)]) Tryz.underlying58 Tryz.zeroValue58 rfl (fun _ => by kernel_rfl) rfl rfl rfl) <| L_storeA (.plain rfl) rfl rfl Tryz.sizeOf58 (K26 4 rfl) rfl rfl rfl rfl h31 <| fun w78 h79 k80 => nx <| W_ret <| blk_r <| thn_r <| thn_r <| finG_r ?_
       obtain rfl := si H
       have H := C16
       obtain rfl := si H
       exact finC1s rfl (K26 4 rfl) k80 Tryz.isAgg58 Tryz.sizeOf58 rfl (Gr.thn (Gr.trans (Gr.trans (Gr.ext e5) g12) e27) (Wr.below h79 (Nat.le_of_eq z3))) (Gr.blk (Gr.ofBelow (Wr.below h79 (Nat.le_of_eq z3))) h30 (Or.inr (Nat.le_trans (Blk.lt ks) (Nat.le_refl _))))
      ·refine W_false (cb q77) <| W_skip <| blk_n <| thn_n ?_
       obtain rfl := si H
       exact ⟨z7.2, (ku4 (Kp.cut (ku2 kz rfl) K26 rfl) rfl), h30, h31, e27, e27c, rfl⟩
     ·refine W_false (cb q76) <| W_reg <| lp rfl rfl (X_eql (K26 6 rfl) rfl) <| lp rfl rfl (xa (.bool (decide (z7.1 = 5))) rfl) <| nx ?_
      rcases bif_two H with ⟨q81, H⟩ | ⟨q81, H⟩
      ·refine W_true (cb q81) <| wr <| lp rfl rfl (xm (S a2) (K26 1 rfl)) <| lp rfl rfl (X_build1 (vs := [(0, (.int .i64 4)), (1, (S a2))]) (pl := #[(0, 1), (1, 1), (2, 1), (3, 1), (4, 1)]) Tryz.underlying58 Tryz.zeroValue58 rfl (fun _ => by kernel_rfl) rfl rfl rfl) <| L_storeA (.plain rfl) rfl rfl Tryz.sizeOf58 (K26 4 rfl) rfl rfl rfl rfl h31 <| fun w82 h83 k84 => nx <| W_ret <| blk_r <| thn_r <| thn_r <| finG_r ?_
       obtain rfl := si H
       have H := C16
       obtain rfl := si H
       exact finC1s rfl (K26 4 rfl) k84 Tryz.isAgg58 Tryz.sizeOf58 rfl (Gr.thn (Gr.trans (Gr.trans (Gr.ext e5) g12) e27) (Wr.below h83 (Nat.le_of_eq z3))) (Gr.blk (Gr.ofBelow (Wr.below h83 (Nat.le_of_eq z3))) h30 (Or.inr (Nat.le_trans (Blk.lt ks) (Nat.le_refl _))))
      ·refine W_false (cb q81) <| W_skip <| blk_n <| thn_n ?_
       obtain rfl := si H
       exact ⟨z7.2, (ku2 (ku4 (Kp.cut (ku2 kz rfl) K26 rfl) rfl) rfl), h30, h31, e27, e27c, rfl⟩
 ·rintro s86 w85 ⟨y17, K87, h90, h91, e88, e88c, y89⟩
  rw [y89] at C16
  have H := C16
  refine thn_n <| W_seq ?_
  obtain ⟨z98, x99, H⟩ := bind_some H
  obtain ⟨c105, H⟩ := bif_some H
  obtain ⟨z108, x109, H⟩ := bind_some H
  refine W_drawS 9 [LEq (S a2), LOw 3 1 (Go.UL.encI .i64) w85.heap.size ([493, 448] : List Int), LEq (.pointer (some ⟨bs, 0, none⟩)), LEq (.int .i64 z98.1), LOp 3 1 (Go.UL.encI .i64) w85.heap.size ([493, 448] : List Int) z98.1, LEq (.int .i64 (gt ([493, 448] : List Int) z98.1)), LEq (.pointer (some ⟨bs, 0, none⟩)), LEq (.bool z108.1), LEq (.agg #[(.int .i64 3), (S a2), (S ([] : List UInt8)), (.int .i64 (gt ([493, 448] : List Int) z98.1)), (.bool z108.1)])] [(7, z108.2), (3, z98.2)] y17 [(7, 3, [])] (by kernel_rfl) (by kernel_rfl) (by kernel_rfl) (by kernel_rfl) rfl h90 ⟨LEq.keep, (LOw.keep (Nat.le_trans (Blk.lt ks) ((Gr.trans (Gr.trans (Gr.ext e5) g12) e88)).size)), LEq.keep, LEq.keep, (LOp.keep (Nat.le_trans (Blk.lt ks) ((Gr.trans (Gr.trans (Gr.ext e5) g12) e88)).size)), LEq.keep, LEq.keep, LEq.keep, LEq.keep, trivial⟩ ⟨?_, ?_, ?_, ?_, ?_, ?_, ?_, ?_, ?_, trivial⟩ ?_
  ·intro s115 w116 dn117 hg118 hi119 hn120 hp121 hq122 hf123 hd124 hu125
   exact lp rfl rfl (xm (S a2) ((hf123 1 rfl).trans (K87 1 rfl))) <| L_nil <| stepQs rfl rfl rfl rfl er rfl
  ·intro s126 w127 dn128 hg129 hi130 hn131 hp132 hq133 hf134 hd135 hu136
   exact L_lit (.plain rfl) rfl (ltb rfl) rfl Tryz.underlying188 Tryz.sizeOf3 Tryz.zeroValue3 rfl rfl rfl (vs := [(.int .i64 493), (.int .i64 448)]) rfl (lit_all rfl) <| fun b137 w138 z139 z140 e141 k142 => L_nil <| stepQs rfl rfl rfl rfl e141 (Ow.base (Ow.new (xs := [493, 448]) (sz := 1) (enc := (Go.UL.encI .i64)) (base := w127.heap.size) k142 (Nat.le_of_eq z139) rfl (fun _ _ => by rfl) (Nat.le_of_ble_eq_true rfl)) (hg129).size)
  ·intro s143 w144 dn145 hg146 hi147 hn148 hp149 hq150 hf151 hd152 hu153
   exact lp rfl rfl (xm (.pointer (some ⟨bs, 0, none⟩)) ((hf151 0 rfl).trans (K87 0 rfl))) <| L_nil <| stepQs rfl rfl rfl rfl er rfl
  ·intro s154 w155 dn156 hg157 hi158 hn159 hp160 hq161 hf162 hd163 hu164
   have a166 : dn156 7 = false := hq161 7 rfl
   have k165 : Blk w155 bs (encSrc cv y17).toArray 162 := by
    have h := hi158
    simp only [InvS, srcAt, hn159, a166, cond_true, cond_false] at h
    exact h
   have a167 : setD dn156 3 3 = true := setD_self
   have a168 : setD dn156 3 7 = false := (setD_ne rfl).trans a166
   have d169 : s154 34 = (.pointer (some ⟨bs, 0, none⟩)) := (hd163 2 rfl rfl)
   exact L_callS (.plain rfl) rfl (ltb rfl) rfl Tryz.call195 (draw_next.calls (w := w155) (a0 := a0) (a1 := y17) (a2 := 2) (Ext.gr e88c hg157 hz) fc hz k165 x99) (cons2 d169 (cons2 rfl rfl)) <| fun w172 g173 k174 => L_nil <| stepQh rfl rfl rfl rfl g173 (by simp only [InvS, srcAt, a167, a168, cond_true, cond_false]; exact k174) rfl
  ·intro s175 w176 dn177 hg178 hi179 hn180 hp181 hq182 hf183 hd184 hu185
   have d186 : Ow 3 1 (Go.UL.encI .i64) w85.heap.size w176 (s175 33) ([493, 448] : List Int) := (hd184 1 rfl rfl)
   have d187 : s175 35 = (.int .i64 z98.1) := (hd184 3 rfl rfl)
   have c188 := c105
   exact L_idxO (.plain rfl) rfl (ltb rfl) rfl Tryz.underlying188 Tryz.sizeOf3 rfl d186 d187 c188 <| fun p189 h190 => L_nil <| stepQs rfl rfl rfl rfl er ⟨_, _, rfl, h190⟩
  ·intro s191 w192 dn193 hg194 hi195 hn196 hp197 hq198 hf199 hd200 hu201
   obtain ⟨u202, p203, h204, o205⟩ := (hd200 4 rfl rfl)
   exact lp rfl rfl (X_loadAt Tryz.isAgg3 h204 (OP.at o205) rfl) <| L_nil <| stepQs rfl rfl rfl rfl er rfl
  ·intro s206 w207 dn208 hg209 hi210 hn211 hp212 hq213 hf214 hd215 hu216
   exact lp rfl rfl (xm (.pointer (some ⟨bs, 0, none⟩)) ((hf214 0 rfl).trans (K87 0 rfl))) <| L_nil <| stepQs rfl rfl rfl rfl er rfl
  ·intro s217 w218 dn219 hg220 hi221 hn222 hp223 hq224 hf225 hd226 hu227
   have a229 : dn219 3 = true := hp223 3 rfl
   have k228 : Blk w218 bs (encSrc cv z98.2).toArray 162 := by
    have h := hi221
    simp only [InvS, srcAt, a229, hn222, cond_true, cond_false] at h
    exact h
   have a231 : setD dn219 7 7 = true := setD_self
   have d232 : s217 38 = (.pointer (some ⟨bs, 0, none⟩)) := (hd226 6 rfl rfl)
   exact L_callS (.plain rfl) rfl (ltb rfl) rfl Tryz.call236 (draw_chance.calls (w := w218) (a0 := a0) (a1 := z98.2) (a2 := 3) (Ext.gr e88c hg220 hz) fc hz k228 x109) (cons2 d232 (cons2 rfl rfl)) <| fun w235 g236 k237 => L_nil <| stepQh rfl rfl rfl rfl g236 (by simp only [InvS, srcAt, a231, cond_true, cond_false]; exact k237) rfl
  ·intro s238 w239 dn240 hg241 hi242 hn243 hp244 hq245 hf246 hd247 hu248
   have d249 : s238 32 = (S a2) := (hd247 0 rfl rfl)
   have d250 : s238 37 = (.int .i64 (gt ([493, 448] : List Int) z98.1)) := (hd247 5 rfl rfl)
   have d251 : s238 39 = (.bool z108.1) := (hd247 7 rfl rfl)
   exact lp rfl rfl (X_build1 (vs := [(0, (.int .i64 3)), (1, (S a2)), (3, (.int .i64 (gt ([493, 448] : List Int) z98.1))), (4, (.bool z108.1))]) (pl := #[(0, 1), (1, 1), (2, 1), (3, 1), (4, 1)]) Tryz.underlying58 Tryz.zeroValue58 rfl (fun _ => by kernel_rfl) rfl (cons2 rfl (cons2 d249 (cons2 d250 (cons2 d251 rfl)))) rfl) <| L_nil <| stepQs rfl rfl rfl rfl er rfl
  intro s252 w253 hg254 hb255 hf256 ha257
  have K258 := Kp.ofD (kp := [(32, 41)]) rfl hf256
  have k259 : Blk w253 bs (encSrc cv z108.2).toArray 162 := hb255
  have d260 : s252 40 = (.agg #[(.int .i64 3), (S a2), (S ([] : List UInt8)), (.int .i64 (gt ([493, 448] : List Int) z98.1)), (.bool z108.1)]) := ha257 8 rfl rfl
  clear ha257 hf256
  refine L_storeA (.plain rfl) rfl rfl Tryz.sizeOf58 ((K258 4 rfl).trans (K87 4 rfl)) d260 rfl rfl rfl (Gr.blk hg254 h91 (Or.inl (Nat.le_trans (Nat.le_trans (Blk.lt ks) (Nat.le_refl _)) (Nat.le_of_eq z3)))) <| fun w261 h262 k263 => nx <| W_ret <| finG_r ?_
  obtain rfl := si H
  exact finC1s rfl ((K258 4 rfl).trans (K87 4 rfl)) k263 Tryz.isAgg58 Tryz.sizeOf58 rfl (Gr.thn (Gr.trans (Gr.trans (Gr.trans (Gr.ext e5) g12) e88) hg254) (Wr.below h262 (Nat.le_of_eq z3))) (Gr.blk (Gr.ofBelow (Wr.below h262 (Nat.le_of_eq z3))) k259 (Or.inr (Nat.le_trans (Blk.lt ks) (Nat.le_refl _))))
theorem draw_record.calls {w : World} {a0 : List Int} {a1 : DSrc} {a2 : List UInt8} {r : Rec × DSrc} {wc : World} {cv : Value} {bs : Nat} (kc : Ext wc w) (fc : Rd 1 (Go.UL.encI .u8) wc cv a0) (hz : wc.heap.size ≤ bs) (ks : Blk w bs (encSrc cv a1).toArray 162) (H : (draw_record.sh a0 a1 a2) = some r) :
  Calls Tryz.prog 153 #[.pointer (some ⟨bs, 0, none⟩), S a2] w (Rt (RS 162 bs cv w (.agg (encRec r.1).toArray) r.2)) := draw_record.walk kc fc hz ks (draw_record.eq a0 a1 a2 H)
/-! spec.RecordDrawn -/
theorem spec_RecordDrawn.walk {w : World} {a0 : List Int} {v_a0 : Value} (f_a0 : Rd 1 (Go.UL.encI .u8) w v_a0 a0) {r : Rec} (H : spec_RecordDrawn.sh a0 = some r) :
  Calls Tryz.prog 57 #[v_a0] w (Rt (RP w (.agg (encRec r).toArray))) := by
 unfold spec_RecordDrawn.sh at H
 refine calls_of_WG Tryz.func57 rfl (Nat.le_of_ble_eq_true rfl) Tryz.ntmps57 ?_
 refine wr <| L_alloc (.plain rfl) rfl (ltb rfl) rfl Tryz.zeroValue58 <| fun b1 w2 z3 z4 e5 k6 => nx <| wr <| lp rfl rfl (xm v_a0 rfl) ?_
 obtain ⟨z7, x8, H⟩ := bind_some H
 refine L_callSN (.plain rfl) rfl (ltb rfl) rfl Tryz.call103 (spec_l00Source.calls (w := w2) (a0 := a0) (Rd.ext f_a0 e5) x8) rfl <| fun b11 w9 z12 e10 k13 => lp rfl rfl (xa (.pointer (some ⟨b11, 0, none⟩)) rfl) <| nx <| wr <| lp rfl rfl (xm (.pointer (some ⟨b11, 0, none⟩)) rfl) <| lp rfl rfl (xm (.pointer (some ⟨b11, 0, none⟩)) rfl) ?_
 obtain ⟨z14, x15, H⟩ := bind_some H
 refine L_callS (.plain rfl) rfl (ltb rfl) rfl Tryz.call148 (draw_path.calls (w := w9) (a0 := a0) (a1 := z7) e10 (Rd.ext f_a0 e5) z12 k13 x15) rfl <| fun w18 g19 k20 => ?_
 obtain ⟨z21, x22, H⟩ := bind_some H
 refine L_callS (.plain rfl) rfl (ltb rfl) rfl Tryz.call153 (draw_record.calls (w := w18) (a0 := a0) (a1 := z14.2) (a2 := z14.1) (Ext.gr e10 g19 z12) (Rd.ext f_a0 e5) z12 k20 x22) rfl <| fun w25 g26 k27 => L_storeA (.plain rfl) rfl rfl Tryz.sizeOf58 rfl rfl rfl rfl rfl (Blk.ext k6 (Ext.gr (Ext.gr e10 g19 z12) g26 z12)) <| fun w28 h29 k30 => nx <| W_ret <| finG_r ?_
 obtain rfl := si H
 exact finC1 rfl rfl k30 Tryz.isAgg58 Tryz.sizeOf58 rfl (Below.trans (e5.t (Ext.gr (Ext.gr e10 g19 z12) g26 z12)) (Wr.below h29 (Nat.le_of_eq z3)))
theorem spec_RecordDrawn.calls {w : World} {a0 : List Int} {r : Rec} {v_a0 : Value} (f_a0 : Rd 1 (Go.UL.encI .u8) w v_a0 a0) (H : (spec_RecordDrawn.sh a0) = some r) :
  Calls Tryz.prog 57 #[v_a0] w (Rt (RP w (.agg (encRec r).toArray))) := spec_RecordDrawn.walk f_a0 (spec_RecordDrawn.eq a0 H)
/-! laws.sameTexts -/
theorem laws_sameTexts.calls {w : World} {a0 : List (List UInt8)} {a1 : List (List UInt8)} {v_a0 : Value} (f_a0 : Rd 1 encS w v_a0 a0) {v_a1 : Value} (f_a1 : Rd 1 encS w v_a1 a1) (h0 : a0.length ≤ 4611686018427387904) :
  Calls Tryz.prog 32 #[v_a0, v_a1] w (Rt (RP w (.bool (decide (a0 = a1))))) := by
 obtain ⟨k, H⟩ := laws_sameTexts.eq a0 a1 h0
 generalize (decide (a0 = a1)) = r at H ⊢
 unfold laws_sameTexts.sh at H
 refine calls_of_W Tryz.func32 rfl (Nat.le_of_ble_eq_true rfl) Tryz.ntmps32 rfl ?_
 refine wr <| lp rfl rfl (xa (.bool false) rfl) <| nx <| W_seq <| wr <| lp rfl rfl (xm v_a0 rfl) <| lp rfl rfl (X_lenR Tryz.underlying42 rfl f_a0) <| lp rfl rfl (xm v_a1 rfl) <| lp rfl rfl (X_lenR Tryz.underlying42 rfl f_a1) <| lp rfl rfl (X_neq rfl rfl) <| nx ?_
 rcases bif_two H with ⟨q1, H⟩ | ⟨q1, H⟩
 ·refine W_true (cb q1) <| wr <| lp rfl rfl (xa (.bool false) rfl) <| nx <| W_ret <| thn_r <| fin_r ?_
  obtain rfl := si H
  exact fin1 rfl er
 ·refine W_false (cb q1) <| W_skip <| thn_n <| W_seq <| wr <| lp rfl rfl (xa (.int .i64 0) rfl) <| nx ?_
  obtain ⟨z3, L4, C5⟩ := bind_some H
  clear H
  refine  W_cutQ (fun s0 sQ wQ => Kp [(4, 6), (11, 26)] s0 sQ ∧ Ext w wQ ∧ z3 = .inr ()) ?_ ?_
  ·refine W_block <| W_loopI (fun s0 kk sQ wQ => ∃ (x5_2 : Int), Kp [(4, 6), (11, 26)] s0 sQ ∧ sQ 5 = .int .i64 x5_2 ∧ Ext w wQ ∧ loopF (laws_sameTexts.b1 a0 a1) kk x5_2 = some z3) k ⟨0, kz, rfl, er, L4⟩ ?_
   rintro k10 s11 w12 ⟨x5_2, K13, h16, e14, L15⟩
   cases k10 with
   | zero => exact absurd L15 (by simp [loopF])
   | succ k10 =>
    obtain ⟨t17, H, S18⟩ := loopF_succ L15
    clear L15
    unfold laws_sameTexts.b1 at H
    refine W_seq <| wr <| lp rfl rfl (X_move h16) <| lp rfl rfl (xm v_a0 (K13 0 rfl)) <| lp rfl rfl (X_lenR Tryz.underlying42 rfl (Rd.ext f_a0 e14)) <| lp rfl rfl (X_lss rfl rfl) <| nx ?_
    rcases bif_two H with ⟨q19, H⟩ | ⟨q19, H⟩
    ·refine W_true (cb q19) <| W_skip <| thn_n <| W_seq <| W_block <| W_seq ?_
     obtain ⟨c20, H⟩ := bif_some H
     obtain ⟨c23, H⟩ := bif_some H
     refine W_dM [LEq v_a0, LEq (.int .i64 x5_2), LAt0 (encS (gt a0 x5_2)), LEq (S (gt a0 x5_2)), LEq v_a1, LEq (.int .i64 x5_2), LAt0 (encS (gt a1 x5_2)), LEq (S (gt a1 x5_2)), LEq (.bool (!decide ((gt a0 x5_2) = (gt a1 x5_2))))] (by kernel_rfl) (by kernel_rfl) ⟨qm, qm, LAt0.mono, qm, qm, qm, LAt0.mono, qm, qm, trivial⟩ ⟨?_, ?_, ?_, ?_, ?_, ?_, ?_, ?_, ?_, trivial⟩ ?_
     ·exact fun s x e f d u => lp rfl rfl (xm v_a0 ((f 0 rfl).trans (K13 0 rfl))) <| se rfl rfl
     ·exact fun s x e f d u => lp rfl rfl (xm (.int .i64 x5_2) ((f 5 rfl).trans h16)) <| se rfl rfl
     ·exact fun s x e f d u => L_idx (.plain rfl) rfl (ltb rfl) rfl Tryz.underlying42 Tryz.sizeOf9 (d 0 rfl) (Rd.ext f_a0 (e14.t e)) (d 1 rfl) c20 <| fun p27 h28 => se rfl ⟨_, rfl, h28⟩
     ·intro s x e f d u
      obtain ⟨p29, h30, h31⟩ := (d 2 rfl)
      exact lp rfl rfl (X_loadAt Tryz.isAgg9 h30 h31 rfl) <| se rfl rfl
     ·exact fun s x e f d u => lp rfl rfl (xm v_a1 ((f 1 rfl).trans (K13 1 rfl))) <| se rfl rfl
     ·exact fun s x e f d u => lp rfl rfl (xm (.int .i64 x5_2) ((f 5 rfl).trans h16)) <| se rfl rfl
     ·exact fun s x e f d u => L_idx (.plain rfl) rfl (ltb rfl) rfl Tryz.underlying42 Tryz.sizeOf9 (d 4 rfl) (Rd.ext f_a1 (e14.t e)) (d 5 rfl) c23 <| fun p33 h34 => se rfl ⟨_, rfl, h34⟩
     ·intro s x e f d u
      obtain ⟨p35, h36, h37⟩ := (d 6 rfl)
      exact lp rfl rfl (X_loadAt Tryz.isAgg9 h36 h37 rfl) <| se rfl rfl
     ·exact fun s x e f d u => lp rfl rfl (X_sne (d 3 rfl) (d 7 rfl)) <| se rfl rfl
     intro s38 w39 e40 hf41 ha42
     have K43 := Kp.ofD (kp := [(17, 26)]) rfl hf41
     have d44 : s38 25 = (.bool (!decide ((gt a0 x5_2) = (gt a1 x5_2)))) := ha42 8 rfl
     clear ha42 hf41
     refine thn_n ?_
     rcases bif_two H with ⟨q45, H⟩ | ⟨q45, H⟩
     ·refine W_true (d44.trans (cb q45)) <| wr <| lp rfl rfl (xa (.bool false) rfl) <| nx <| W_ret <| blk_r <| thn_r <| thn_r <| blk_r <| thn_r <| thn_r <| fin_r ?_
      obtain rfl := si H
      obtain rfl := si S18
      have H := C5
      obtain rfl := si H
      exact fin1 rfl (e14.t e40)
     ·refine W_false (d44.trans (cb q45)) <| W_skip <| blk_n <| thn_n <| W_reg <| lp rfl rfl (xm (.int .i64 x5_2) ((K43 5 rfl).trans h16)) <| lp rfl rfl (X_add rfl rfl) <| lp rfl rfl (xa (.int .i64 (IntKind.wrap .i64 (x5_2 + 1))) rfl) <| nx ?_
      obtain rfl := si H
      exact ⟨_, Nat.lt_succ_self _, IntKind.wrap .i64 (x5_2 + 1), (ku3 (Kp.cut (ku4 K13 rfl) K43 rfl) rfl), rfl, (e14.t e40), S18⟩
    ·refine W_false (cb q19) <| W_exit <| thn_x <| thn_x <| blk_x <| thn_n ?_
     obtain rfl := si H
     obtain rfl := si S18
     exact ⟨(ku4 K13 rfl), e14, rfl⟩
  ·rintro s7 w6 ⟨K8, e9, y46⟩
   rw [y46] at C5
   have H := C5
   replace H : _ = some _ := H
   refine thn_n <| wr <| lp rfl rfl (xa (.bool true) rfl) <| nx <| W_ret <| fin_r ?_
   obtain rfl := si H
   exact fin1 rfl e9
/-! laws.sameNodes -/
theorem laws_sameNodes.calls {w : World} {a0 : List Nd} {a1 : List Nd} {v_a0 : Value} (f_a0 : Rd 4 encNd w v_a0 a0) {v_a1 : Value} (f_a1 : Rd 4 encNd w v_a1 a1) (h0 : a0.length ≤ 4611686018427387904) :
  Calls Tryz.prog 22 #[v_a0, v_a1] w (Rt (RP w (.bool (decide (a0 = a1))))) := by
 obtain ⟨k, H⟩ := laws_sameNodes.eq a0 a1 h0
 generalize (decide (a0 = a1)) = r at H ⊢
 unfold laws_sameNodes.sh at H
 refine calls_of_W Tryz.func22 rfl (Nat.le_of_ble_eq_true rfl) Tryz.ntmps22 rfl ?_
 refine wr <| lp rfl rfl (xa (.bool false) rfl) <| nx <| W_seq <| wr <| lp rfl rfl (xm v_a0 rfl) <| lp rfl rfl (X_lenR Tryz.underlying29 rfl f_a0) <| lp rfl rfl (xm v_a1 rfl) <| lp rfl rfl (X_lenR Tryz.underlying29 rfl f_a1) <| lp rfl rfl (X_neq rfl rfl) <| nx ?_
 rcases bif_two H with ⟨q1, H⟩ | ⟨q1, H⟩
 ·refine W_true (cb q1) <| wr <| lp rfl rfl (xa (.bool false) rfl) <| nx <| W_ret <| thn_r <| fin_r ?_
  obtain rfl := si H
  exact fin1 rfl er
 ·refine W_false (cb q1) <| W_skip <| thn_n <| W_seq <| wr <| lp rfl rfl (xa (.int .i64 0) rfl) <| nx ?_
  obtain ⟨z3, L4, C5⟩ := bind_some H
  clear H
  refine  W_cutQ (fun s0 sQ wQ => Kp [(4, 6), (11, 26)] s0 sQ ∧ Ext w wQ ∧ z3 = .inr ()) ?_ ?_
  ·refine W_block <| W_loopI (fun s0 kk sQ wQ => ∃ (x5_2 : Int), Kp [(4, 6), (11, 26)] s0 sQ ∧ sQ 5 = .int .i64 x5_2 ∧ Ext w wQ ∧ loopF (laws_sameNodes.b1 a0 a1) kk x5_2 = some z3) k ⟨0, kz, rfl, er, L4⟩ ?_
   rintro k10 s11 w12 ⟨x5_2, K13, h16, e14, L15⟩
   cases k10 with
   | zero => exact absurd L15 (by simp [loopF])
   | succ k10 =>
    obtain ⟨t17, H, S18⟩ := loopF_succ L15
    clear L15
    unfold laws_sameNodes.b1 at H
    refine W_seq <| wr <| lp rfl rfl (X_move h16) <| lp rfl rfl (xm v_a0 (K13 0 rfl)) <| lp rfl rfl (X_lenR Tryz.underlying29 rfl (Rd.ext f_a0 e14)) <| lp rfl rfl (X_lss rfl rfl) <| nx ?_
    rcases bif_two H with ⟨q19, H⟩ | ⟨q19, H⟩
    ·refine W_true (cb q19) <| W_skip <| thn_n <| W_seq <| W_block <| W_seq ?_
     obtain ⟨c20, H⟩ := bif_some H
     obtain ⟨c23, H⟩ := bif_some H
     refine W_dM [LEq v_a0, LEq (.int .i64 x5_2), LAt0 (encNd (gt a0 x5_2)), LEq (.agg (encNd (gt a0 x5_2)).toArray), LEq v_a1, LEq (.int .i64 x5_2), LAt0 (encNd (gt a1 x5_2)), LEq (.agg (encNd (gt a1 x5_2)).toArray), LEq (.bool (!decide ((gt a0 x5_2) = (gt a1 x5_2))))] (by kernel_rfl) (by kernel_rfl) ⟨qm, qm, LAt0.mono, qm, qm, qm, LAt0.mono, qm, qm, trivial⟩ ⟨?_, ?_, ?_, ?_, ?_, ?_, ?_, ?_, ?_, trivial⟩ ?_
     ·exact fun s x e f d u => lp rfl rfl (xm v_a0 ((f 0 rfl).trans (K13 0 rfl))) <| se rfl rfl
     ·exact fun s x e f d u => lp rfl rfl (xm (.int .i64 x5_2) ((f 5 rfl).trans h16)) <| se rfl rfl
     ·exact fun s x e f d u => L_idx (.plain rfl) rfl (ltb rfl) rfl Tryz.underlying29 Tryz.sizeOf60 (d 0 rfl) (Rd.ext f_a0 (e14.t e)) (d 1 rfl) c20 <| fun p27 h28 => se rfl ⟨_, rfl, h28⟩
     ·intro s x e f d u
      obtain ⟨p29, h30, h31⟩ := (d 2 rfl)
      exact lp rfl rfl (X_loadS Tryz.isAgg60 Tryz.sizeOf60 rfl h30 h31) <| se rfl rfl
     ·exact fun s x e f d u => lp rfl rfl (xm v_a1 ((f 1 rfl).trans (K13 1 rfl))) <| se rfl rfl
     ·exact fun s x e f d u => lp rfl rfl (xm (.int .i64 x5_2) ((f 5 rfl).trans h16)) <| se rfl rfl
     ·exact fun s x e f d u => L_idx (.plain rfl) rfl (ltb rfl) rfl Tryz.underlying29 Tryz.sizeOf60 (d 4 rfl) (Rd.ext f_a1 (e14.t e)) (d 5 rfl) c23 <| fun p33 h34 => se rfl ⟨_, rfl, h34⟩
     ·intro s x e f d u
      obtain ⟨p35, h36, h37⟩ := (d 6 rfl)
      exact lp rfl rfl (X_loadS Tryz.isAgg60 Tryz.sizeOf60 rfl h36 h37) <| se rfl rfl
     ·exact fun s x e f d u => lp rfl rfl (X_neA Eqg.t60 (Eqs.t60 (gt a0 x5_2) (gt a1 x5_2)) (d 3 rfl) (d 7 rfl)) <| se rfl rfl
     intro s38 w39 e40 hf41 ha42
     have K43 := Kp.ofD (kp := [(17, 26)]) rfl hf41
     have d44 : s38 25 = (.bool (!decide ((gt a0 x5_2) = (gt a1 x5_2)))) := ha42 8 rfl
     clear ha42 hf41
     refine thn_n ?_
     rcases bif_two H with ⟨q45, H⟩ | ⟨q45, H⟩
     ·refine W_true (d44.trans (cb q45)) <| wr <| lp rfl rfl (xa (.bool false) rfl) <| nx <| W_ret <| blk_r <| thn_r <| thn_r <| blk_r <| thn_r <| thn_r <| fin_r ?_
      obtain rfl := si H
      obtain rfl := si S18
      have H := C5
      obtain rfl := si H
      exact fin1 rfl (e14.t e40)
     ·refine W_false (d44.trans (cb q45)) <| W_skip <| blk_n <| thn_n <| W_reg <| lp rfl rfl (xm (.int .i64 x5_2) ((K43 5 rfl).trans h16)) <| lp rfl rfl (X_add rfl rfl) <| lp rfl rfl (xa (.int .i64 (IntKind.wrap .i64 (x5_2 + 1))) rfl) <| nx ?_
      obtain rfl := si H
      exact ⟨_, Nat.lt_succ_self _, IntKind.wrap .i64 (x5_2 + 1), (ku3 (Kp.cut (ku4 K13 rfl) K43 rfl) rfl), rfl, (e14.t e40), S18⟩
    ·refine W_false (cb q19) <| W_exit <| thn_x <| thn_x <| blk_x <| thn_n ?_
     obtain rfl := si H
     obtain rfl := si S18
     exact ⟨(ku4 K13 rfl), e14, rfl⟩
  ·rintro s7 w6 ⟨K8, e9, y46⟩
   rw [y46] at C5
   have H := C5
   replace H : _ = some _ := H
   refine thn_n <| wr <| lp rfl rfl (xa (.bool true) rfl) <| nx <| W_ret <| fin_r ?_
   obtain rfl := si H
   exact fin1 rfl e9
/-! laws.find -/
theorem laws_find.calls {w : World} {a0 : List Nd} {a1 : List UInt8} {v_a0 : Value} (f_a0 : Rd 4 encNd w v_a0 a0) (h0 : a0.length ≤ 4611686018427387904) :
  Calls Tryz.prog 45 #[v_a0, S a1] w (Rt (RP w (.int .i64 (findN a0 a1)))) := by
 obtain ⟨k, H⟩ := laws_find.eq a0 a1 h0
 generalize (findN a0 a1) = r at H ⊢
 unfold laws_find.sh at H
 refine calls_of_W Tryz.func45 rfl (Nat.le_of_ble_eq_true rfl) Tryz.ntmps45 rfl ?_
 refine wr <| lp rfl rfl (xa (.int .i64 0) rfl) <| nx <| W_seq <| wr <| lp rfl rfl (xa (.int .i64 0) rfl) <| nx ?_
 obtain ⟨z2, L3, C4⟩ := bind_some H
 clear H
 refine  W_cutQ (fun s0 sQ wQ => Kp [(4, 20)] s0 sQ ∧ Ext w wQ ∧ z2 = .inr ()) ?_ ?_
 ·refine W_block <| W_loopI (fun s0 kk sQ wQ => ∃ (x5_1 : Int), Kp [(4, 20)] s0 sQ ∧ sQ 5 = .int .i64 x5_1 ∧ Ext w wQ ∧ loopF (laws_find.b1 a0 a1) kk x5_1 = some z2) k ⟨0, kz, rfl, er, L3⟩ ?_
  rintro k9 s10 w11 ⟨x5_1, K12, h15, e13, L14⟩
  cases k9 with
  | zero => exact absurd L14 (by simp [loopF])
  | succ k9 =>
   obtain ⟨t16, H, S17⟩ := loopF_succ L14
   clear L14
   unfold laws_find.b1 at H
   refine W_seq <| wr <| lp rfl rfl (X_move h15) <| lp rfl rfl (xm v_a0 (K12 0 rfl)) <| lp rfl rfl (X_lenR Tryz.underlying29 rfl (Rd.ext f_a0 e13)) <| lp rfl rfl (X_lss rfl rfl) <| nx ?_
   rcases bif_two H with ⟨q18, H⟩ | ⟨q18, H⟩
   ·refine W_true (cb q18) <| W_skip <| thn_n <| W_seq <| W_block <| wr <| lp rfl rfl (xm v_a0 (K12 0 rfl)) <| lp rfl rfl (X_move h15) ?_
    obtain ⟨c19, H⟩ := bif_some H
    refine L_idx (.plain rfl) rfl (ltb rfl) rfl Tryz.underlying29 Tryz.sizeOf60 rfl (Rd.ext f_a0 e13) rfl c19 <| fun p20 h21 => lp rfl rfl (X_fieldAddr Tryz.underlying60 rfl Tryz.sizeOf9 rfl rfl) <| lp rfl rfl (X_loadF Tryz.isAgg9 (j := 1) h21 rfl rfl) <| lp rfl rfl (xm (S a1) (K12 1 rfl)) <| lp rfl rfl (X_seq rfl rfl) <| nx ?_
    rcases bif_two H with ⟨q22, H⟩ | ⟨q22, H⟩
    ·refine W_true (cb q22) <| wr <| lp rfl rfl (X_move h15) <| lp rfl rfl (xa (.int .i64 x5_1) rfl) <| nx <| W_ret <| blk_r <| thn_r <| thn_r <| blk_r <| thn_r <| thn_r <| fin_r ?_
     obtain rfl := si H
     obtain rfl := si S17
     have H := C4
     obtain rfl := si H
     exact fin1 rfl e13
    ·refine W_false (cb q22) <| W_skip <| blk_n <| thn_n <| W_reg <| lp rfl rfl (X_move h15) <| lp rfl rfl (X_add rfl rfl) <| lp rfl rfl (xa (.int .i64 (IntKind.wrap .i64 (x5_1 + 1))) rfl) <| nx ?_
     obtain rfl := si H
     exact ⟨_, Nat.lt_succ_self _, IntKind.wrap .i64 (x5_1 + 1), (ku2 (ku4 (ku8 K12 rfl) rfl) rfl), rfl, e13, S17⟩
   ·refine W_false (cb q18) <| W_exit <| thn_x <| thn_x <| blk_x <| thn_n ?_
    obtain rfl := si H
    obtain rfl := si S17
    exact ⟨(ku4 K12 rfl), e13, rfl⟩
 ·rintro s6 w5 ⟨K7, e8, y23⟩
  rw [y23] at C4
  have H := C4
  replace H : _ = some _ := H
  refine thn_n <| wr <| lp rfl rfl (xa (.int .i64 (-1)) rfl) <| nx <| W_ret <| fin_r ?_
  obtain rfl := si H
  exact fin1 rfl e8
/-! spec.l03Put, by text -/
theorem spec_l03PutF.calls {w : World} {a0 : List Rec} {a1 : Rec} {v_a0 : Value} (f_a0 : Rd 5 encRec w v_a0 a0) (h0 : False) : Calls Tryz.prog 202 #[v_a0, .agg (encRec a1).toArray] w (Rt (RO 58 5 encRec w ([] : List Rec))) := h0.elim

end Go.Proofs.YtfefjaohlhkmaaaGreatDoor
