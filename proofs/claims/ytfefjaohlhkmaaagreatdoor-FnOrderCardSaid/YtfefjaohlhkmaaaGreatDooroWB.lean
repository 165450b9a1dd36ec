/- The walks, by program (wip/tools). -/
import Derived.Test.YtfefjaohlhkmaaaGreatDoorProg
import Derived.Test.YtfefjaohlhkmaaaGreatDoorKI
import Derived.Test.YtfefjaohlhkmaaaGreatDooroWA
set_option linter.unusedVariables false
set_option linter.unusedSimpArgs false
set_option maxRecDepth 10000
namespace Go.Proofs.YtfefjaohlhkmaaaGreatDoor
open Go.UL Go.RowKit
/-! impl.cutDepth, by text -/
theorem impl_cutDepth.calls {w : World} {a0 : List (List Rec)} {a1 : List UInt8} {v_a0 : Value} (f_a0 : Rd2 5 encRec w v_a0 a0) (h0 : a0.length ≤ 1048576) (h1 : a1.length ≤ 1048576) (h2 : ∀ l ∈ a0, l.length ≤ 1048576) :
    Calls Tryz.prog 179 #[v_a0, S a1] w (Rt (RP w (.int .i64 (cutD a0 a1)))) := by
  letI : Inhabited Value := ⟨undef⟩
  have hcs := f_a0.shape
  obtain ⟨vs, hl, hR, hi⟩ := f_a0
  obtain ⟨A0, c0, hv0⟩ := hcs
  refine callsIn_wide.1 (callsIn_of_WI (n := 3) Tryz.func179 rfl (Nat.le_of_ble_eq_true rfl) Tryz.ntmps179 ?_)
  refine WI_seq <| WI_reg <| LI_box openWide rfl rfl rfl (ltb rfl) rfl rfl <| fun b3 w1 hz1 hz1' e1 k3 => LI_alloc openWide rfl rfl rfl (ltb rfl) rfl Tryz.zeroValue3 <| fun b4 w2 hz2 hz2' e2 k4 => LI_nil ?_
  refine WI_seq <| WI_seq <| WI_reg <| LI_op openWide rfl rfl rfl (ltb rfl) (X_move (v := v_a0) rfl) <| LI_callA openWide (vs := #[v_a0]) rfl rfl (ltb rfl) rfl Tryz.call245 (slices_BackwardSS.calls hv0) rfl <| fun u w3 hA => ?_
  obtain ⟨e3, b8, hb8, k8, rfl⟩ := hA
  refine LI_nil ?_
  have eA : Ext w w3 := Ext.trans (e1.t e2) e3
  have k3' : Blk w3 b3 #[S a1] 9 := k3.ext (e2.t e3)
  have k4' : Blk w3 b4 #[.int .i64 0] 3 := k4.ext e3
  have hne : w.heap.size ≤ b4 := by have := e1.size; omega
  refine WI_block <| WI_range (n := 3) (α := Fin vs.length) (by omega) (gf := 276) rfl Tryz.call276
    (slices_BackwardSS_it.stops (w0 := w3) (v := v_a0) (b0 := b8) (vs := vs) (by omega) (Kp := Below w3.heap.size) (H := Below w3.heap.size w3) (fun _ h => h) (fun _ _ h k => h.trans k) (fun W h => k8.ext h) (fun W h => (hR.ext eA).ext h) (n := 3 - 1))
    (fun h k => h.trans k) (belowK_b (Nat.le_refl _)) (Below.refl _ _) (fun _ => rfl)
    (fun pre W => Ext w3 W ∧ ∀ i ∈ pre, cutsR (a0.getD i.val default) a1 = false)
    (fun c pre W => c = .ret ∧ ∃ i p, pre = p ++ [i] ∧ (∀ j ∈ p, cutsR (a0.getD j.val default) a1 = false) ∧ cutsR (a0.getD i.val default) a1 = true ∧ Ext w W ∧ Blk W b4 #[.int .i64 ((i.val : Int) + 1)] 3)
    ?_ ?_ ⟨Ext.refl _, by simp⟩
    (fun i => upd (upd (upd (upd (upd (upd (upd (upd (fun t => (#[v_a0, S a1] : Array Value).getD t undef) 3 (.pointer (some ⟨b3, 0, none⟩))) 4 (.pointer (some ⟨b4, 0, none⟩))) 7 v_a0) 8 (.func (.func 276) #[] #[.pointer (some ⟨b8, 0, none⟩)])) 9 (.int .i64 (i.val : Int))) 10 (vs.getD i.val undef)) 5 (.int .i64 (i.val : Int))) 6 (vs.getD i.val undef))
    ?_ ?_ ?_ ?_ ?_
  · intro s W W' row hs hg hr
    exact ⟨hs.1.grow hg (Nat.le_refl _) hr, hs.2⟩
  · intro c s W W' row hs hg hr
    obtain ⟨hc, i, p, h1, h2, h3, h4, h5⟩ := hs
    exact ⟨hc, i, p, h1, h2, h3, h4.grow hg eA.size hr, h5.grow hg hr⟩
  · intro hf x
    exact upd_far (by decide) (upd_far (by decide) (upd_far (by decide) (upd_far (by decide) hf)))
  · intro l x W a K ha hK
    refine ⟨_, ha.two 9 10 (by decide) (by decide) (.int .i64 (x.val : Int)) (vs.getD x.val undef), ?_⟩
    refine WI_seq <| WI_reg <| LI_op (openRound l) rfl rfl rfl (ltb rfl) (X_assign rfl) <| LI_nil <| ?_
    exact WI_reg <| LI_op (openRound l) rfl rfl rfl (ltb rfl) (X_assign rfl) <| LI_nil hK
  · rintro l pre x W ⟨eW, hpre⟩ hlen
    have hx : x.val < a0.length := by have := x.isLt; omega
    have hu : Rd 5 encRec W (vs.getD x.val undef) (a0.getD x.val default) := by
      have := hi x.val vs[x.val] a0[x.val] (List.getElem?_eq_getElem x.isLt) (List.getElem?_eq_getElem hx)
      have e : vs.getD x.val undef = vs[x.val] := by simp [List.getD_eq_getElem?_getD]
      rw [e, getD_el hx]
      exact (this.ext eA).ext eW
    have hlx : (a0.getD x.val default).length ≤ 1048576 := by rw [getD_el hx]; exact h2 _ (List.getElem_mem hx)
    refine WI_block <| WI_seq <| WI_reg <| LI_op (openRound l) rfl rfl rfl (ltb rfl) (X_move (v := vs.getD x.val undef) rfl) <| LI_op (openRound l) rfl rfl rfl (ltb rfl) (X_loadB (v := S a1) Tryz.isAgg9 (k3'.ext eW) rfl rfl) <|
      LI_callA (openRound l) (vs := #[vs.getD x.val undef, S a1]) rfl rfl (ltb rfl) rfl Tryz.call122 (impl_cuts.calls (w := W) (a0 := a0.getD x.val default) (a1 := a1) hu hlx h1) rfl <| fun u w5 hA => ?_
    obtain ⟨e5, rfl⟩ := hA
    refine LI_nil ?_
    refine WI_cond (cutsR (a0.getD x.val default) a1) rfl (fun hc => ?_) (fun hc => WI_skip ?_)
    · refine WI_seq <| WI_reg <| LI_op (openRound l) rfl rfl rfl (ltb rfl) (X_move (v := .int .i64 (x.val : Int)) rfl) <| LI_op (openRound l) rfl rfl rfl (ltb rfl) (X_add rfl rfl) <|
        LI_store1 (openRound l) rfl rfl rfl Tryz.sizeOf3 rfl rfl rfl ((k4'.ext eW).ext e5) (ltb rfl) <| fun w6 hw6 k6 => LI_nil <| WI_ret ?_
      refine ⟨(keeps_ext e5).trans (keeps_wr hw6 ((k4'.ext eW).ext e5)), rfl, x, pre, rfl, hpre, hc, Ext.wr (Ext.trans (Ext.trans eA eW) e5) hw6 hne (Nat.le_refl _), ?_⟩
      have e : IntKind.wrap .i64 ((x.val : Int) + 1) = (x.val : Int) + 1 := Go.UL.wrap_small (by omega) (by omega)
      rw [← e]; exact k6
    · refine ⟨keeps_ext e5, e5.mono eW.size, Ext.trans eW e5, ?_⟩
      intro i hi
      rcases List.mem_append.1 hi with h | h
      · exact hpre i h
      · obtain rfl := List.mem_singleton.1 h; exact hc
  · rintro D xs W hD hS ⟨eW, hpre⟩ hk
    refine WI_seq <| WI_reg <| LI_store1 openWide rfl rfl rfl Tryz.sizeOf3 rfl rfl rfl (k4'.ext eW) (ltb rfl) <| fun w6 hw6 k6 => LI_nil <| WI_ret ?_
    have hz : cutD a0 a1 = 0 := cutDN_none a0.length fun j hj => hpre ⟨j, by omega⟩ (by rw [hS]; exact downTo_all _)
    have hk6 : w6.heap[D]? = some (.deferred (some [])) := (keeps_wr hw6 (k4'.ext eW)).same D _ hk rfl
    have e6 : Ext w w6 := Ext.wr (Ext.trans eA eW) hw6 hne (Nat.le_refl _)
    refine ⟨.inr rfl, .inr ⟨D, rfl, hk6, .int .i64 0, fun tmps hg => res_cell1 rfl Tryz.isAgg3 (putD_blk k6 _ hk6) tmps (hg 4), ⟨_, rfl, putD_ext e6 (by have := eA.size; omega) _ hk6, by rw [hz]⟩⟩⟩
  · rintro D c pre W hD hS ⟨rfl, i, p, rfl, h3, h4, h5, h6⟩ hk
    refine WI_ret ?_
    have hz : cutD a0 a1 = (i.val : Int) + 1 := cutDN_some a0.length (by have := i.isLt; omega) h4 fun j hj1 hj2 => h3 ⟨j, by omega⟩ (downTo_split hS ⟨j, by omega⟩ hj1)
    exact ⟨.inr rfl, .inr ⟨D, rfl, hk, _, fun tmps hg => res_cell1 rfl Tryz.isAgg3 (putD_blk h6 _ hk) tmps (hg 4), ⟨_, rfl, putD_ext h5 (by have := eA.size; omega) _ hk, by rw [hz]⟩⟩⟩

/-! spec.l07Winner -/
theorem spec_l07Winner.walk {k : Nat} {w : World} {a0 : List (List Rec)} {a1 : List UInt8} {v_a0 : Value} (f_a0 : Rd2 5 encRec w v_a0 a0) {r : Rec × Int} (H : spec_l07Winner.sh k a0 a1 = some r) :
  Calls Tryz.prog 178 #[v_a0, S a1] w (Rt (RP w (.tuple #[.agg (encRec r.1).toArray, .int .i64 r.2]))) := by
 unfold spec_l07Winner.sh at H
 refine calls_of_WG Tryz.func178 rfl (Nat.le_of_ble_eq_true rfl) Tryz.ntmps178 ?_
 refine wr <| L_alloc (.plain rfl) rfl (ltb rfl) rfl Tryz.zeroValue58 <| fun b1 w2 z3 z4 e5 k6 => lp rfl rfl (X_assign (v := (.int .i64 0)) rfl) <| nx <| wr <| lp rfl rfl (X_move (v := v_a0) rfl) <| lp rfl rfl (X_move (v := (S a1)) rfl) ?_
 obtain ⟨c7, H⟩ := bif_some H
 obtain ⟨c8, H⟩ := bif_some H
 obtain ⟨c9, H⟩ := bif_some H
 refine lc rfl rfl rfl Tryz.call180 (spec_l07Cut.calls (w := w2) (a0 := a0) (a1 := a1) (Rd2.ext f_a0 e5) (od c7) (od c8) (od c9)) rfl <| fun w10 e11 => lp rfl rfl (X_max rfl rfl) <| lp rfl rfl (X_assign (v := (.int .i64 (if ((cutD a0 a1) < 1 : Prop) then 1 else (cutD a0 a1)))) rfl) <| nx <| wr <| lp rfl rfl (X_build1 (vs := []) (pl := #[(0, 1), (1, 1), (2, 1), (3, 1), (4, 1)]) Tryz.underlying58 Tryz.zeroValue58 rfl (fun _ => by kernel_rfl) rfl rfl rfl) <| L_alloc (.plain rfl) rfl (ltb rfl) rfl Tryz.zeroValue58 <| fun b12 w13 z14 z15 e16 k17 => L_storeA (.plain rfl) rfl rfl Tryz.sizeOf58 rfl rfl rfl rfl rfl k17 <| fun w18 h19 k20 => nx <| wr <| lp rfl rfl (X_assign (v := (.int .i64 0)) rfl) <| nx <| W_seq <| wr <| lp rfl rfl (X_move (v := v_a0) rfl) <| lp rfl rfl (X_lenR2 Tryz.underlying23 rfl (Rd2.ext f_a0 ((e5.t e11).t (Below.trans e16 (Wr.below h19 (Nat.le_of_eq z14)))))) <| lp rfl rfl (X_assign (v := (.int .i64 (a0.length : Int))) rfl) <| nx ?_
 obtain ⟨z24, L25, C26⟩ := bind_some H
 clear H
 refine  W_cutQ (fun s0 sQ wQ => ∃ (x8_27 : Int) (y28 : Rec), Kp [(5, 6), (8, 12), (19, 53)] s0 sQ ∧ sQ 8 = .int .i64 x8_27 ∧ Blk wQ b12 (encRec y28).toArray 58 ∧ Ext w10 wQ ∧ z24 = .inr (x8_27, y28)) ?_ ?_
 ·refine W_block <| W_loopI (fun s0 kk sQ wQ => ∃ (x8_21 : Int) (x9_22 : Int) (y23 : Rec), Kp [(5, 6), (8, 12), (19, 53)] s0 sQ ∧ sQ 8 = .int .i64 x8_21 ∧ sQ 9 = .int .i64 x9_22 ∧ Blk wQ b12 (encRec y23).toArray 58 ∧ Ext w10 wQ ∧ loopF (spec_l07Winner.b1 a0 a1) kk (x8_21, x9_22, y23) = some z24) k ⟨0, (a0.length : Int), (⟨0, ([] : List UInt8), ([] : List UInt8), 0, false⟩ : Rec), kz, rfl, rfl, k20, (Below.trans e16 (Wr.below h19 (Nat.le_of_eq z14))), L25⟩ ?_
  rintro k33 s34 w35 ⟨x8_21, x9_22, y23, K36, h39, h40, h41, e37, L38⟩
  cases k33 with
  | zero => exact absurd L38 (by simp [loopF])
  | succ k33 =>
   obtain ⟨t42, H, S43⟩ := loopF_succ L38
   clear L38
   unfold spec_l07Winner.b1 at H
   refine W_seq <| wr <| lp rfl rfl (X_move h40) <| lp rfl rfl (X_move (v := (.int .i64 (if ((cutD a0 a1) < 1 : Prop) then 1 else (cutD a0 a1)))) (K36 6 rfl)) <| lp rfl rfl (X_geq rfl rfl) <| nx ?_
   rcases bif_two H with ⟨q44, H⟩ | ⟨q44, H⟩
   ·refine W_true (cb q44) <| W_skip <| thn_n <| W_seq <| W_block <| wr <| lp rfl rfl (X_move (v := v_a0) (K36 0 rfl)) <| lp rfl rfl (X_move h40) <| lp rfl rfl (X_sub rfl rfl) ?_
    obtain ⟨c45, H⟩ := bif_some H
    refine L_idx2 (.plain rfl) rfl (ltb rfl) rfl Tryz.underlying23 Tryz.sizeOf35 rfl (Rd2.ext f_a0 ((e5.t e11).t e37)) rfl c45 <| fun p46 v48 h47 h49 => lp rfl rfl (X_loadAt Tryz.isAgg35 rfl h47 rfl) <| lp rfl rfl (X_move (v := (S a1)) (K36 1 rfl)) ?_
    obtain ⟨c50, H⟩ := bif_some H
    refine lc rfl rfl rfl Tryz.call145 (spec_l03At.calls (w := w35) (a0 := gt a0 (IntKind.wrap .i64 (x9_22 - 1))) (a1 := a1) h49 (od c50)) rfl <| fun w51 e52 => lp rfl rfl (X_assign (v := (.int .i64 (findR (gt a0 (IntKind.wrap .i64 (x9_22 - 1))) a1))) rfl) <| nx <| W_seq <| wr <| lp rfl rfl (X_move (v := (.int .i64 (findR (gt a0 (IntKind.wrap .i64 (x9_22 - 1))) a1))) rfl) <| lp rfl rfl (X_lss rfl rfl) <| nx ?_
    rcases bif_two H with ⟨q53, H⟩ | ⟨q53, H⟩
    ·refine W_true (cb q53) <| W_exit <| thn_x <| blk_x <| thn_n <| W_reg <| lp rfl rfl (X_move h40) <| lp rfl rfl (X_sub rfl rfl) <| lp rfl rfl (X_assign (v := (.int .i64 (IntKind.wrap .i64 (x9_22 - 1)))) rfl) <| nx ?_
     obtain rfl := si H
     exact ⟨_, Nat.lt_succ_self _, x8_21, IntKind.wrap .i64 (x9_22 - 1), y23, (ku8 (ku8 K36 rfl) rfl), h39, rfl, (Blk.ext h41 e52), (e37.t e52), S43⟩
    ·refine W_false (cb q53) <| W_skip <| thn_n <| wr <| lp rfl rfl (X_move (v := v_a0) (K36 0 rfl)) <| lp rfl rfl (X_move h40) <| lp rfl rfl (X_sub rfl rfl) ?_
     obtain ⟨c54, H⟩ := bif_some H
     refine L_idx2 (.plain rfl) rfl (ltb rfl) rfl Tryz.underlying23 Tryz.sizeOf35 rfl (Rd2.ext f_a0 (((e5.t e11).t e37).t e52)) rfl c54 <| fun p55 v57 h56 h58 => lp rfl rfl (X_loadAt Tryz.isAgg35 rfl h56 rfl) <| lp rfl rfl (X_move (v := (.int .i64 (findR (gt a0 (IntKind.wrap .i64 (x9_22 - 1))) a1))) rfl) ?_
     obtain ⟨c59, H⟩ := bif_some H
     refine L_idx (.plain rfl) rfl (ltb rfl) rfl Tryz.underlying35 Tryz.sizeOf58 rfl h58 rfl c59 <| fun p60 h61 => lp rfl rfl (X_loadS Tryz.isAgg58 Tryz.sizeOf58 rfl rfl h61) <| L_alloc (.plain rfl) rfl (ltb rfl) rfl Tryz.zeroValue58 <| fun b62 w63 z64 z65 e66 k67 => L_storeA (.plain rfl) rfl rfl Tryz.sizeOf58 rfl rfl rfl rfl rfl k67 <| fun w68 h69 k70 => nx <| W_seq <| wr <| lp rfl rfl (X_move h39) <| lp rfl rfl (X_eql rfl rfl) <| nx ?_
     rcases bif_two H with ⟨q71, H⟩ | ⟨q71, H⟩
     ·refine W_true (cb q71) <| wr <| lp rfl rfl (X_loadS Tryz.isAgg58 Tryz.sizeOf58 rfl rfl (Blk.at0 k70)) <| L_storeA (.plain rfl) rfl rfl Tryz.sizeOf58 (K36 7 rfl) rfl rfl rfl rfl (Blk.ext h41 (e52.t (Below.trans e66 (Wr.below h69 (Nat.le_of_eq z64))))) <| fun w72 h73 k74 => nx <| W_reg <| lp rfl rfl (X_move h40) <| lp rfl rfl (X_assign (v := (.int .i64 x9_22)) rfl) <| nx <| wr <| lp rfl rfl (X_loadS Tryz.isAgg58 Tryz.sizeOf58 rfl rfl (Blk.at0 (Wr.blk h73 k70 (fun e9 => by have e8 : b62 = b12 := e9; clear e9; have h9 := Blk.lt (Blk.ext h41 e52); have h8 := z64; omega)))) ?_
      obtain ⟨z77, x78, H⟩ := bind_some H
      replace x78 := si x78
      refine lc rfl rfl rfl Tryz.call208 (spec_l06Stops.calls (w := w72) (a0 := (gt (gt a0 (IntKind.wrap .i64 (x9_22 - 1))) (findR (gt a0 (IntKind.wrap .i64 (x9_22 - 1))) a1)))) rfl <| fun w75 e76 => nx ?_
      rcases bif_two H with ⟨q79, H⟩ | ⟨q79, H⟩
      ·refine W_true ((cb x78).trans (cb q79)) <| wr <| lp rfl rfl (X_fieldAddr Tryz.underlying58 rfl Tryz.sizeOf3 rfl (K36 7 rfl)) <| lp rfl rfl (X_loadB Tryz.isAgg3 (Blk.ext k74 e76) rfl rfl) <| lp rfl rfl (X_eql rfl rfl) <| lp rfl rfl (X_fieldAddr Tryz.underlying58 rfl Tryz.sizeOf4 rfl (K36 7 rfl)) <| L_store1 (.plain rfl) rfl rfl Tryz.sizeOf4 rfl rfl rfl (Blk.ext k74 e76) (ltb rfl) <| fun w80 h81 k82 => nx <| wr <| lp rfl rfl (X_loadS Tryz.isAgg58 Tryz.sizeOf58 rfl (K36 7 rfl) (Blk.at0 k82)) <| lp rfl rfl (X_move (v := (.int .i64 x9_22)) rfl) <| L_storeA (.plain rfl) rfl rfl Tryz.sizeOf58 (K36 4 rfl) rfl rfl rfl rfl (Blk.ext k6 (e11.t (Below.trans (Ext.trans (Below.trans ((e37.t e52).t (Below.trans e66 (Wr.below h69 (Nat.le_of_eq z64)))) (Wr.below h73 (Nat.le_of_eq z14))) e76) (Wr.below h81 (Nat.le_of_eq z14))))) <| fun w83 h84 k85 => lp rfl rfl (X_assign (v := (.int .i64 x9_22)) rfl) <| nx <| W_ret <| blk_r <| thn_r <| thn_r <| blk_r <| thn_r <| thn_r <| finG_r ?_
       obtain rfl := si H
       obtain rfl := si S43
       have H := C26
       obtain rfl := si H
       exact finC2 rfl (K36 4 rfl) k85 Tryz.isAgg58 Tryz.sizeOf58 rfl rfl (Below.trans ((e5.t e11).t (Below.trans (Ext.trans (Below.trans ((e37.t e52).t (Below.trans e66 (Wr.below h69 (Nat.le_of_eq z64)))) (Wr.below h73 (Nat.le_of_eq z14))) e76) (Wr.below h81 (Nat.le_of_eq z14)))) (Wr.below h84 (Nat.le_of_eq z3)))
      ·refine W_false ((cb x78).trans (cb q79)) <| W_skip <| blk_n <| thn_n <| W_reg <| lp rfl rfl (X_move h40) <| lp rfl rfl (X_sub rfl rfl) <| lp rfl rfl (X_assign (v := (.int .i64 (IntKind.wrap .i64 (x9_22 - 1)))) rfl) <| nx ?_
       obtain rfl := si H
       exact ⟨_, Nat.lt_succ_self _, x9_22, IntKind.wrap .i64 (x9_22 - 1), (gt (gt a0 (IntKind.wrap .i64 (x9_22 - 1))) (findR (gt a0 (IntKind.wrap .i64 (x9_22 - 1))) a1)), (ku8 (ku8 (ku8 (ku8 K36 rfl) rfl) rfl) rfl), rfl, rfl, (Blk.ext k74 e76), (Ext.trans (Below.trans ((e37.t e52).t (Below.trans e66 (Wr.below h69 (Nat.le_of_eq z64)))) (Wr.below h73 (Nat.le_of_eq z14))) e76), S43⟩
     ·refine W_false (cb q71) <| W_skip <| thn_n <| wr <| lp rfl rfl (X_loadS Tryz.isAgg58 Tryz.sizeOf58 rfl rfl (Blk.at0 k70)) ?_
      obtain ⟨z88, x89, H⟩ := bind_some H
      replace x89 := si x89
      refine lc rfl rfl rfl Tryz.call208 (spec_l06Stops.calls (w := w68) (a0 := (gt (gt a0 (IntKind.wrap .i64 (x9_22 - 1))) (findR (gt a0 (IntKind.wrap .i64 (x9_22 - 1))) a1)))) rfl <| fun w86 e87 => nx ?_
      rcases bif_two H with ⟨q90, H⟩ | ⟨q90, H⟩
      ·refine W_true ((cb x89).trans (cb q90)) <| wr <| lp rfl rfl (X_fieldAddr Tryz.underlying58 rfl Tryz.sizeOf3 rfl (K36 7 rfl)) <| lp rfl rfl (X_loadB Tryz.isAgg3 (Blk.ext h41 ((e52.t (Below.trans e66 (Wr.below h69 (Nat.le_of_eq z64)))).t e87)) rfl rfl) <| lp rfl rfl (X_eql rfl rfl) <| lp rfl rfl (X_fieldAddr Tryz.underlying58 rfl Tryz.sizeOf4 rfl (K36 7 rfl)) <| L_store1 (.plain rfl) rfl rfl Tryz.sizeOf4 rfl rfl rfl (Blk.ext h41 ((e52.t (Below.trans e66 (Wr.below h69 (Nat.le_of_eq z64)))).t e87)) (ltb rfl) <| fun w91 h92 k93 => nx <| wr <| lp rfl rfl (X_loadS Tryz.isAgg58 Tryz.sizeOf58 rfl (K36 7 rfl) (Blk.at0 k93)) <| lp rfl rfl (X_move h39) <| L_storeA (.plain rfl) rfl rfl Tryz.sizeOf58 (K36 4 rfl) rfl rfl rfl rfl (Blk.ext k6 (e11.t (Below.trans (((e37.t e52).t (Below.trans e66 (Wr.below h69 (Nat.le_of_eq z64)))).t e87) (Wr.below h92 (Nat.le_of_eq z14))))) <| fun w94 h95 k96 => lp rfl rfl (X_assign (v := (.int .i64 x8_21)) rfl) <| nx <| W_ret <| blk_r <| thn_r <| thn_r <| blk_r <| thn_r <| thn_r <| finG_r ?_
       obtain rfl := si H
       obtain rfl := si S43
       have H := C26
       obtain rfl := si H
       exact finC2 rfl (K36 4 rfl) k96 Tryz.isAgg58 Tryz.sizeOf58 rfl rfl (Below.trans ((e5.t e11).t (Below.trans (((e37.t e52).t (Below.trans e66 (Wr.below h69 (Nat.le_of_eq z64)))).t e87) (Wr.below h92 (Nat.le_of_eq z14)))) (Wr.below h95 (Nat.le_of_eq z3)))
      ·refine W_false ((cb x89).trans (cb q90)) <| W_skip <| blk_n <| thn_n <| W_reg <| lp rfl rfl (X_move h40) <| lp rfl rfl (X_sub rfl rfl) <| lp rfl rfl (X_assign (v := (.int .i64 (IntKind.wrap .i64 (x9_22 - 1)))) rfl) <| nx ?_
       obtain rfl := si H
       exact ⟨_, Nat.lt_succ_self _, x8_21, IntKind.wrap .i64 (x9_22 - 1), y23, (ku1 (ku4 (ku8 (ku8 (ku8 K36 rfl) rfl) rfl) rfl) rfl), h39, rfl, (Blk.ext h41 ((e52.t (Below.trans e66 (Wr.below h69 (Nat.le_of_eq z64)))).t e87)), (((e37.t e52).t (Below.trans e66 (Wr.below h69 (Nat.le_of_eq z64)))).t e87), S43⟩
   ·refine W_false (cb q44) <| W_exit <| thn_x <| thn_x <| blk_x <| thn_n ?_
    obtain rfl := si H
    obtain rfl := si S43
    exact ⟨x8_21, y23, (ku3 K36 rfl), h39, h41, e37, rfl⟩
 ·rintro s30 w29 ⟨x8_27, y28, K31, h97, h98, e32, y99⟩
  rw [y99] at C26
  have H := C26
  replace H : _ = some _ := H
  refine thn_n <| wr <| lp rfl rfl (X_loadS Tryz.isAgg58 Tryz.sizeOf58 rfl (K31 7 rfl) (Blk.at0 h98)) <| lp rfl rfl (X_move h97) <| L_storeA (.plain rfl) rfl rfl Tryz.sizeOf58 (K31 4 rfl) rfl rfl rfl rfl (Blk.ext k6 (e11.t e32)) <| fun w100 h101 k102 => lp rfl rfl (X_assign (v := (.int .i64 x8_27)) rfl) <| nx <| W_ret <| finG_r ?_
  obtain rfl := si H
  exact finC2 rfl (K31 4 rfl) k102 Tryz.isAgg58 Tryz.sizeOf58 rfl rfl (Below.trans ((e5.t e11).t e32) (Wr.below h101 (Nat.le_of_eq z3)))
theorem spec_l07Winner.calls {w : World} {a0 : List (List Rec)} {a1 : List UInt8} {v_a0 : Value} (f_a0 : Rd2 5 encRec w v_a0 a0) (h0 : stackOK a0 = true) (h1 : a0.length ≤ 1048576) (h2 : a1.length ≤ 1048576) (h3 : ∀ l ∈ a0, l.length ≤ 1048576) :
  Calls Tryz.prog 178 #[v_a0, S a1] w (Rt (RP w (.tuple #[.agg (encRec ((winner a0 a1).1)).toArray, .int .i64 ((winner a0 a1).2)]))) := by
 obtain ⟨k, h⟩ := spec_l07Winner.eq a0 a1 h0 h1 h2 h3
 exact spec_l07Winner.walk f_a0 h
/-! impl.winner -/
abbrev impl_winner.e1 (a0 : List (List Rec)) (a1 : List UInt8) (x10_23 : Int) := (gt (gt a0 (IntKind.wrap .i64 (x10_23 - 1))) (findR (gt a0 (IntKind.wrap .i64 (x10_23 - 1))) a1))
theorem impl_winner.walk {k : Nat} {w : World} {a0 : List (List Rec)} {a1 : List UInt8} {v_a0 : Value} (f_a0 : Rd2 5 encRec w v_a0 a0) {r : Rec × Int × Bool} (H : impl_winner.sh k a0 a1 = some r) :
  Calls Tryz.prog 175 #[v_a0, S a1] w (Rt (RP w (.tuple #[.agg (encRec r.1).toArray, .int .i64 r.2.1, .bool r.2.2]))) := by
 unfold impl_winner.sh at H
 refine calls_of_WG Tryz.func175 rfl (Nat.le_of_ble_eq_true rfl) Tryz.ntmps175 ?_
 refine wr <| L_alloc (.plain rfl) rfl (ltb rfl) rfl Tryz.zeroValue58 <| fun b1 w2 z3 z4 e5 k6 => lp rfl rfl (X_assign (v := (.int .i64 0)) rfl) <| lp rfl rfl (X_assign (v := (.bool false)) rfl) <| nx <| wr <| lp rfl rfl (X_build1 (vs := []) (pl := #[(0, 1), (1, 1), (2, 1), (3, 1), (4, 1)]) Tryz.underlying58 Tryz.zeroValue58 rfl (fun _ => by kernel_rfl) rfl rfl rfl) <| L_alloc (.plain rfl) rfl (ltb rfl) rfl Tryz.zeroValue58 <| fun b7 w8 z9 z10 e11 k12 => L_storeA (.plain rfl) rfl rfl Tryz.sizeOf58 rfl rfl rfl rfl rfl k12 <| fun w13 h14 k15 => lp rfl rfl (X_assign (v := (.int .i64 0)) rfl) <| lp rfl rfl (X_assign (v := (.bool false)) rfl) <| nx <| W_seq <| wr <| lp rfl rfl (X_move (v := v_a0) rfl) <| lp rfl rfl (X_move (v := (S a1)) rfl) ?_
 obtain ⟨c16, H⟩ := bif_some H
 obtain ⟨c17, H⟩ := bif_some H
 obtain ⟨c18, H⟩ := bif_some H
 refine lc rfl rfl rfl Tryz.call179 (impl_cutDepth.calls (w := w13) (a0 := a0) (a1 := a1) (Rd2.ext f_a0 (e5.t (Below.trans e11 (Wr.below h14 (Nat.le_of_eq z9))))) (od c16) (od c17) (od c18)) rfl <| fun w19 e20 => lp rfl rfl (X_max rfl rfl) <| lp rfl rfl (X_assign (v := (.int .i64 (if ((cutD a0 a1) < 1 : Prop) then 1 else (cutD a0 a1)))) rfl) <| nx ?_
 obtain ⟨z25, L26, C27⟩ := bind_some H
 clear H
 refine  W_cutQ (fun s0 sQ wQ => ∃ (x8_28 : Int) (x9_29 : Bool) (y30 : Rec), Kp [(8, 12), (17, 46)] s0 sQ ∧ sQ 8 = .int .i64 x8_28 ∧ sQ 9 = .bool x9_29 ∧ Blk wQ b7 (encRec y30).toArray 58 ∧ Ext w2 wQ ∧ z25 = .inr (x8_28, x9_29, y30)) ?_ ?_
 ·refine W_block <| W_loopI (fun s0 kk sQ wQ => ∃ (x8_21 : Int) (x9_22 : Bool) (x10_23 : Int) (y24 : Rec), Kp [(8, 12), (17, 46)] s0 sQ ∧ sQ 8 = .int .i64 x8_21 ∧ sQ 9 = .bool x9_22 ∧ sQ 10 = .int .i64 x10_23 ∧ Blk wQ b7 (encRec y24).toArray 58 ∧ Ext w2 wQ ∧ loopF (impl_winner.b1 a0 a1) kk (x8_21, x9_22, x10_23, y24) = some z25) k ⟨0, false, (if ((cutD a0 a1) < 1 : Prop) then 1 else (cutD a0 a1)), (⟨0, ([] : List UInt8), ([] : List UInt8), 0, false⟩ : Rec), kz, rfl, rfl, rfl, (Blk.ext k15 e20), (Ext.trans (Below.trans e11 (Wr.below h14 (Nat.le_of_eq z9))) e20), L26⟩ ?_
  rintro k35 s36 w37 ⟨x8_21, x9_22, x10_23, y24, K38, h41, h42, h43, h44, e39, L40⟩
  cases k35 with
  | zero => exact absurd L40 (by simp [loopF])
  | succ k35 =>
   obtain ⟨t45, H, S46⟩ := loopF_succ L40
   clear L40
   unfold impl_winner.b1 at H
   refine W_seq <| wr <| lp rfl rfl (X_move h43) <| lp rfl rfl (X_move (v := v_a0) (K38 0 rfl)) <| lp rfl rfl (X_lenR2 Tryz.underlying23 rfl (Rd2.ext f_a0 (e5.t e39))) <| lp rfl rfl (X_leq rfl rfl) <| nx ?_
   rcases bif_two H with ⟨q47, H⟩ | ⟨q47, H⟩
   ·refine W_true (cb q47) <| W_skip <| thn_n <| W_seq <| W_block <| wr <| lp rfl rfl (X_move (v := v_a0) (K38 0 rfl)) <| lp rfl rfl (X_move h43) <| lp rfl rfl (X_sub rfl rfl) ?_
    obtain ⟨c48, H⟩ := bif_some H
    refine L_idx2 (.plain rfl) rfl (ltb rfl) rfl Tryz.underlying23 Tryz.sizeOf35 rfl (Rd2.ext f_a0 (e5.t e39)) rfl c48 <| fun p49 v51 h50 h52 => lp rfl rfl (X_loadAt Tryz.isAgg35 rfl h50 rfl) <| lp rfl rfl (X_move (v := (S a1)) (K38 1 rfl)) ?_
    obtain ⟨c53, H⟩ := bif_some H
    refine lc rfl rfl rfl Tryz.call135 (impl_find.calls (w := w37) (a0 := gt a0 (IntKind.wrap .i64 (x10_23 - 1))) (a1 := a1) h52 (od c53)) rfl <| fun w54 e55 => lp rfl rfl (X_assign (v := (.int .i64 (findR (gt a0 (IntKind.wrap .i64 (x10_23 - 1))) a1))) rfl) <| nx <| wr <| lp rfl rfl (X_move (v := (.int .i64 (findR (gt a0 (IntKind.wrap .i64 (x10_23 - 1))) a1))) rfl) <| lp rfl rfl (X_geq rfl rfl) <| nx ?_
    rcases bif_two H with ⟨q56, H⟩ | ⟨q56, H⟩
    ·refine W_true (cb q56) <| wr <| lp rfl rfl (X_move (v := v_a0) (K38 0 rfl)) <| lp rfl rfl (X_move h43) <| lp rfl rfl (X_sub rfl rfl) ?_
     obtain ⟨c57, H⟩ := bif_some H
     refine L_idx2 (.plain rfl) rfl (ltb rfl) rfl Tryz.underlying23 Tryz.sizeOf35 rfl (Rd2.ext f_a0 ((e5.t e39).t e55)) rfl c57 <| fun p58 v60 h59 h61 => lp rfl rfl (X_loadAt Tryz.isAgg35 rfl h59 rfl) <| lp rfl rfl (X_move (v := (.int .i64 (findR (gt a0 (IntKind.wrap .i64 (x10_23 - 1))) a1))) rfl) ?_
     obtain ⟨c62, H⟩ := bif_some H
     refine L_idx (.plain rfl) rfl (ltb rfl) rfl Tryz.underlying35 Tryz.sizeOf58 rfl h61 rfl c62 <| fun p63 h64 => lp rfl rfl (X_loadS Tryz.isAgg58 Tryz.sizeOf58 rfl rfl h64) <| lp rfl rfl (X_move h43) <| L_storeA (.plain rfl) rfl rfl Tryz.sizeOf58 (K38 7 rfl) rfl rfl rfl rfl (Blk.ext h44 e55) <| fun w65 h66 k67 => lp rfl rfl (X_assign (v := (.int .i64 x10_23)) rfl) <| nx <| W_reg <| lp rfl rfl (X_move h42) <| lp rfl rfl (X_move (v := (.bool x9_22)) rfl) <| L_grp 3 [(43, 46)] 45 (.bool (x9_22 || (stopsR (impl_winner.e1 a0 a1 x10_23)))) ?_ ?_
     ·rcases bool_two x9_22 with b67_ | b67_
      ·exact ls rfl rfl rfl (cb b67_) rfl <| ls rfl rfl rfl (cb b67_) rfl <| lp rfl rfl (X_pick (b := true) (v := (.bool true)) (cb b67_) rfl) <| nx ⟨(ku3 kz rfl), (or_t b67_), er⟩
      ·exact lg rfl rfl rfl rfl (cb b67_) (X_loadS Tryz.isAgg58 Tryz.sizeOf58 rfl (K38 7 rfl) (Blk.at0 k67)) <| L_callP (tg rfl rfl rfl (cb b67_)) rfl (ltb rfl) rfl Tryz.call204 (impl_stops.calls (w := w65) (a0 := (impl_winner.e1 a0 a1 x10_23))) rfl <| fun w69 e70 => lp rfl rfl (X_pick (b := false) (v := (.bool (stopsR (impl_winner.e1 a0 a1 x10_23)))) (cb b67_) rfl) <| nx ⟨(ku3 kz rfl), (or_f b67_), e70⟩
     intro s73 w69 K70 h71 e72
     refine lp rfl rfl (X_assign h71) <| L_nil <| blk_n <| thn_n <| W_reg <| lp rfl rfl (X_move (v := (.int .i64 x10_23)) ((K70 10 rfl).trans h43)) <| lp rfl rfl (X_add rfl rfl) <| lp rfl rfl (X_assign (v := (.int .i64 (IntKind.wrap .i64 (x10_23 + 1)))) rfl) <| nx ?_
     obtain rfl := si H
     exact ⟨_, Nat.lt_succ_self _, x10_23, (x9_22 || (stopsR (impl_winner.e1 a0 a1 x10_23))), IntKind.wrap .i64 (x10_23 + 1), (impl_winner.e1 a0 a1 x10_23), (ku4 (Kp.cut (ku2 (ku8 (ku8 (ku8 K38 rfl) rfl) rfl) rfl) K70 rfl) rfl), (K70 8 rfl), rfl, rfl, (Blk.ext k67 e72), (Ext.trans (Below.trans (e39.t e55) (Wr.below h66 (Nat.le_of_eq z9))) e72), S46⟩
    ·refine W_false (cb q56) <| W_skip <| blk_n <| thn_n <| W_reg <| lp rfl rfl (X_move h43) <| lp rfl rfl (X_add rfl rfl) <| lp rfl rfl (X_assign (v := (.int .i64 (IntKind.wrap .i64 (x10_23 + 1)))) rfl) <| nx ?_
     obtain rfl := si H
     exact ⟨_, Nat.lt_succ_self _, x8_21, x9_22, IntKind.wrap .i64 (x10_23 + 1), y24, (ku1 (ku8 (ku8 K38 rfl) rfl) rfl), h41, h42, rfl, (Blk.ext h44 e55), (e39.t e55), S46⟩
   ·refine W_false (cb q47) <| W_exit <| thn_x <| thn_x <| blk_x <| thn_n ?_
    obtain rfl := si H
    obtain rfl := si S46
    exact ⟨x8_21, x9_22, y24, (ku4 K38 rfl), h41, h42, h44, e39, rfl⟩
 ·rintro s32 w31 ⟨x8_28, x9_29, y30, K33, h74, h75, h76, e34, y77⟩
  rw [y77] at C27
  have H := C27
  replace H : _ = some _ := H
  refine thn_n <| W_seq <| wr <| lp rfl rfl (X_fieldAddr Tryz.underlying58 rfl Tryz.sizeOf3 rfl (K33 7 rfl)) <| lp rfl rfl (X_loadB Tryz.isAgg3 h76 rfl rfl) <| lp rfl rfl (X_eql rfl rfl) <| nx ?_
  rcases bif_two H with ⟨q78, H⟩ | ⟨q78, H⟩
  ·refine W_true (cb q78) <| W_reg <| lp rfl rfl (X_move h75) <| lp rfl rfl (X_fieldAddr Tryz.underlying58 rfl Tryz.sizeOf4 rfl (K33 7 rfl)) <| L_store1 (.plain rfl) rfl rfl Tryz.sizeOf4 rfl rfl rfl h76 (ltb rfl) <| fun w79 h80 k81 => nx <| wr <| lp rfl rfl (X_loadS Tryz.isAgg58 Tryz.sizeOf58 rfl (K33 7 rfl) (Blk.at0 k81)) <| lp rfl rfl (X_move h74) <| lp rfl rfl (X_move h74) <| lp rfl rfl (X_gtr rfl rfl) <| L_storeA (.plain rfl) rfl rfl Tryz.sizeOf58 (K33 4 rfl) rfl rfl rfl rfl (Blk.ext k6 (Below.trans e34 (Wr.below h80 (Nat.le_of_eq z9)))) <| fun w82 h83 k84 => lp rfl rfl (X_assign (v := (.int .i64 x8_28)) rfl) <| lp rfl rfl (X_assign (v := (.bool (decide (0 < x8_28)))) rfl) <| nx <| W_ret <| finG_r ?_
   obtain rfl := si H
   exact finC3 rfl (K33 4 rfl) k84 Tryz.isAgg58 Tryz.sizeOf58 rfl rfl rfl (Below.trans (e5.t (Below.trans e34 (Wr.below h80 (Nat.le_of_eq z9)))) (Wr.below h83 (Nat.le_of_eq z3)))
  ·refine W_false (cb q78) <| W_skip <| thn_n <| wr <| lp rfl rfl (X_loadS Tryz.isAgg58 Tryz.sizeOf58 rfl (K33 7 rfl) (Blk.at0 h76)) <| lp rfl rfl (X_move h74) <| lp rfl rfl (X_move h74) <| lp rfl rfl (X_gtr rfl rfl) <| L_storeA (.plain rfl) rfl rfl Tryz.sizeOf58 (K33 4 rfl) rfl rfl rfl rfl (Blk.ext k6 e34) <| fun w85 h86 k87 => lp rfl rfl (X_assign (v := (.int .i64 x8_28)) rfl) <| lp rfl rfl (X_assign (v := (.bool (decide (0 < x8_28)))) rfl) <| nx <| W_ret <| finG_r ?_
   obtain rfl := si H
   exact finC3 rfl (K33 4 rfl) k87 Tryz.isAgg58 Tryz.sizeOf58 rfl rfl rfl (Below.trans (e5.t e34) (Wr.below h86 (Nat.le_of_eq z3)))
theorem impl_winner.calls {w : World} {a0 : List (List Rec)} {a1 : List UInt8} {v_a0 : Value} (f_a0 : Rd2 5 encRec w v_a0 a0) (h0 : stackOK a0 = true) (h1 : a0.length ≤ 1048576) (h2 : a1.length ≤ 1048576) (h3 : ∀ l ∈ a0, l.length ≤ 1048576) :
  Calls Tryz.prog 175 #[v_a0, S a1] w (Rt (RP w (.tuple #[.agg (encRec ((winner a0 a1).1)).toArray, .int .i64 ((winner a0 a1).2), .bool (decide ((0 : Int) < (winner a0 a1).2))]))) := by
 obtain ⟨k, h⟩ := impl_winner.eq a0 a1 h0 h1 h2 h3
 exact impl_winner.walk f_a0 h
/-! impl.paths -/
theorem impl_paths.walk {k : Nat} {w : World} {a0 : List (List Rec)} (gv : GV 0 w) {v_a0 : Value} (f_a0 : Rd2 5 encRec w v_a0 a0) {r : List (List UInt8)} (H : impl_paths.sh k a0 = some r) :
  Calls Tryz.prog 134 #[v_a0] w (Rt (RO 9 1 encS w r)) := by
 unfold impl_paths.sh at H
 refine calls_of_W Tryz.func134 rfl (Nat.le_of_ble_eq_true rfl) Tryz.ntmps134 rfl ?_
 refine wr <| lp rfl rfl (X_assign (v := (.slice none 0 0)) rfl) <| nx <| wr <| L_lit (.plain rfl) rfl (ltb rfl) rfl Tryz.underlying42 Tryz.sizeOf9 Tryz.zeroValue9 rfl rfl rfl (vs := []) rfl (lit_all rfl) <| fun b1 w2 z3 z4 e5 k6 => lp rfl rfl (X_assign (v := (.slice (some ⟨b1, 0, none⟩) 0 0)) rfl) <| nx <| W_seq <| wr <| lp rfl rfl (X_move (v := v_a0) rfl) <| lp rfl rfl (X_lenR2 Tryz.underlying23 rfl (Rd2.ext f_a0 e5)) <| lp rfl rfl (X_move (v := (.int .i64 0)) rfl) <| nx ?_
 obtain ⟨z10, L11, C12⟩ := bind_some H
 clear H
 refine  W_cutQ (fun s0 sQ wQ => ∃ (x3_13 : List (List UInt8)) (v14 : Value), Kp [(3, 4), (5, 6), (7, 8), (11, 28)] s0 sQ ∧ sQ 3 = v14 ∧ Ow 9 1 encS w2.heap.size wQ v14 x3_13 ∧ Ext w2 wQ ∧ z10 = .inr x3_13) ?_ ?_
 ·refine W_block <| W_loopI (fun s0 kk sQ wQ => ∃ (x3_7 : List (List UInt8)) (v8 : Value) (x11_9 : Int), Kp [(3, 4), (5, 6), (7, 8), (11, 28)] s0 sQ ∧ sQ 3 = v8 ∧ Ow 9 1 encS w2.heap.size wQ v8 x3_7 ∧ sQ 11 = .int .i64 x11_9 ∧ Ext w2 wQ ∧ loopF (impl_paths.b1 k a0) kk (x3_7, x11_9) = some z10) k ⟨([] : List (List UInt8)), (.slice (some ⟨b1, 0, none⟩) 0 0), 0, kz, rfl, (Ow.zero), rfl, er, L11⟩ ?_
  rintro k19 s20 w21 ⟨x3_7, v8, x11_9, K22, h25, h26, h27, e23, L24⟩
  cases k19 with
  | zero => exact absurd L24 (by simp [loopF])
  | succ k19 =>
   obtain ⟨t28, H, S29⟩ := loopF_succ L24
   clear L24
   unfold impl_paths.b1 at H
   refine wr <| lp rfl rfl (X_lss h27 (K22 10 rfl)) <| nx <| W_seq ?_
   rcases bif_two H with ⟨q30, H⟩ | ⟨q30, H⟩
   ·refine W_true (cb q30) <| W_skip <| thn_n <| W_seq <| W_block <| wr ?_
    obtain ⟨c31, H⟩ := bif_some H
    refine L_idx2o (.plain rfl) rfl (ltb rfl) rfl Tryz.underlying23 Tryz.sizeOf35 (K22 9 rfl) f_a0 (e5.t e23) h27 c31 <| fun p32 v34 h33 h35 => lp rfl rfl (X_loadAt Tryz.isAgg35 rfl h33 rfl) <| lp rfl rfl (X_assign (v := v34) rfl) <| nx <| wr <| lp rfl rfl (X_move (v := v34) rfl) <| lp rfl rfl (X_lenR Tryz.underlying35 rfl (Rd.ext h35 (e5.t e23))) <| lp rfl rfl (X_move (v := (.int .i64 0)) rfl) <| nx ?_
    obtain ⟨z39, L40, C41⟩ := bind_some H
    clear H
    refine  W_cutQ (fun s0 sQ wQ => ∃ (x3_42 : List (List UInt8)) (v43 : Value), Kp [(3, 4), (7, 8), (17, 27)] s0 sQ ∧ sQ 3 = v43 ∧ Ow 9 1 encS w2.heap.size wQ v43 x3_42 ∧ Ext w2 wQ ∧ z39 = .inr x3_42) ?_ ?_
    ·refine W_block <| W_loopI (fun s0 kk sQ wQ => ∃ (x3_36 : List (List UInt8)) (v37 : Value) (x17_38 : Int), Kp [(3, 4), (7, 8), (17, 27)] s0 sQ ∧ sQ 3 = v37 ∧ Ow 9 1 encS w2.heap.size wQ v37 x3_36 ∧ sQ 17 = .int .i64 x17_38 ∧ Ext w2 wQ ∧ loopF (impl_paths.b2 a0 x11_9) kk (x3_36, x17_38) = some z39) k ⟨x3_7, v8, 0, kz, h25, h26, rfl, e23, L40⟩ ?_
     rintro k48 s49 w50 ⟨x3_36, v37, x17_38, K51, h54, h55, h56, e52, L53⟩
     cases k48 with
     | zero => exact absurd L53 (by simp [loopF])
     | succ k48 =>
      obtain ⟨t57, H, S58⟩ := loopF_succ L53
      clear L53
      unfold impl_paths.b2 at H
      refine wr <| lp rfl rfl (X_lss h56 (K51 16 rfl)) <| nx <| W_seq ?_
      rcases bif_two H with ⟨q59, H⟩ | ⟨q59, H⟩
      ·refine W_true (cb q59) <| W_skip <| thn_n <| W_seq <| W_block <| wr ?_
       obtain ⟨c60, H⟩ := bif_some H
       refine L_idx (.plain rfl) rfl (ltb rfl) rfl Tryz.underlying35 Tryz.sizeOf58 (K51 15 rfl) (Rd.ext h35 (e5.t e52)) h56 c60 <| fun p61 h62 => lp rfl rfl (X_loadS Tryz.isAgg58 Tryz.sizeOf58 rfl rfl h62) <| L_alloc (.plain rfl) rfl (ltb rfl) rfl Tryz.zeroValue58 <| fun b63 w64 z65 z66 e67 k68 => L_storeA (.plain rfl) rfl rfl Tryz.sizeOf58 rfl rfl rfl rfl rfl k68 <| fun w69 h70 k71 => nx <| W_reg <| lp rfl rfl (X_move h54) <| lp rfl rfl (X_fieldAddr Tryz.underlying58 rfl Tryz.sizeOf9 rfl rfl) <| lp rfl rfl (X_loadB Tryz.isAgg9 k71 rfl rfl) <| L_lit (.plain rfl) rfl (ltb rfl) rfl Tryz.underlying42 Tryz.sizeOf9 Tryz.zeroValue9 rfl rfl rfl (vs := [(S ((gt (gt a0 x11_9) x17_38).path))]) rfl (lit_all rfl) <| fun b72 w73 z74 z75 e76 k77 => ?_
       obtain ⟨c78, H⟩ := bif_some H
       refine L_append (enc := encS) (.plain rfl) rfl (ltb rfl) rfl El.t42 rfl rfl (Ow.ext h55 (Ext.trans (Below.trans e67 (Wr.below h70 (Nat.le_of_eq z65))) e76)) (Ow.rd (Ow.new (xs := [(gt (gt a0 x11_9) x17_38).path]) (sz := 1) (enc := encS) (base := w69.heap.size) k77 (Nat.le_of_eq z74) rfl (fun _ _ => by rfl) (Nat.le_of_ble_eq_true rfl))) (ones_S _) (od c78) (((e52.t (Below.trans e67 (Wr.below h70 (Nat.le_of_eq z65)))).t e76)).size <| fun v79 w80 o81 z82 g83 => lp rfl rfl (X_assign (v := v79) rfl) <| L_nil <| blk_n <| thn_n <| W_reg <| lp rfl rfl (X_add h56 rfl) <| lp rfl rfl (X_move (v := (.int .i64 (IntKind.wrap .i64 (x17_38 + 1)))) rfl) <| nx ?_
       obtain rfl := si H
       exact ⟨_, Nat.lt_succ_self _, x3_36 ++ ([(gt (gt a0 x11_9) x17_38).path] : List (List UInt8)), v79, IntKind.wrap .i64 (x17_38 + 1), (ku4 (ku8 K51 rfl) rfl), rfl, o81, rfl, (g83 _ ((e52.t (Below.trans e67 (Wr.below h70 (Nat.le_of_eq z65)))).t e76)), S58⟩
      ·refine W_false (cb q59) <| W_exit <| thn_x <| thn_x <| blk_x <| thn_n ?_
       obtain rfl := si H
       obtain rfl := si S58
       exact ⟨x3_36, v37, (ku1 K51 rfl), h54, h55, e52, rfl⟩
    ·rintro s45 w44 ⟨x3_42, v43, K46, h84, h85, e47, y86⟩
     rw [y86] at C41
     have H := C41
     replace H : _ = some _ := H
     refine blk_n <| thn_n <| W_reg <| lp rfl rfl (X_add ((K46 11 rfl).trans h27) rfl) <| lp rfl rfl (X_move (v := (.int .i64 (IntKind.wrap .i64 (x11_9 + 1)))) rfl) <| nx ?_
     obtain rfl := si H
     exact ⟨_, Nat.lt_succ_self _, x3_42, v43, IntKind.wrap .i64 (x11_9 + 1), (ku2 (Kp.cut (ku3 (ku4 K22 rfl) rfl) K46 rfl) rfl), h84, h85, rfl, e47, S29⟩
   ·refine W_false (cb q30) <| W_exit <| thn_x <| thn_x <| blk_x <| thn_n ?_
    obtain rfl := si H
    obtain rfl := si S29
    exact ⟨x3_7, v8, (ku1 K22 rfl), h25, h26, e23, rfl⟩
 ·rintro s16 w15 ⟨x3_13, v14, K17, h87, h88, e18, y89⟩
  rw [y89] at C12
  have H := C12
  replace H : _ = some _ := H
  refine thn_n <| wr <| lp rfl rfl (X_move h87) ?_
  obtain ⟨c90, H⟩ := bif_some H
  obtain ⟨c91, H⟩ := bif_some H
  refine L_callA (.plain rfl) rfl (ltb rfl) rfl Tryz.call213 (slices_SortFuncS.calls (w := w15) h88 (GV.ext gv (e5.t e18)) (GV.pos (GV.ext gv e5)) (od c90) (od c91)) rfl <| fun _ w92 A93 => ?_
  obtain ⟨rfl, B94, ys95, p96, q97, o98⟩ := A93
  refine nx <| wr <| lp rfl rfl (X_move h87) <| L_callA (.plain rfl) rfl (ltb rfl) rfl Tryz.call214 (slices_CompactS.calls (w := w92) o98 p96 q97) rfl <| fun v103 w99 A100 => ?_
  obtain ⟨B101, o102⟩ := A100
  refine lp rfl rfl (X_assign (v := v103) rfl) <| nx <| W_ret <| fin_r ?_
  obtain rfl := si H
  exact fin1o rfl (e5.t (B101 _ (B94 _ e18))) o102 (e5).size
theorem impl_paths.calls {w : World} {a0 : List (List Rec)} (gv : GV 0 w) {v_a0 : Value} (f_a0 : Rd2 5 encRec w v_a0 a0) (h0 : a0.length ≤ 5) (h1 : ∀ l ∈ a0, l.length ≤ 1048576) (h2 : ∀ l ∈ a0, ∀ x ∈ l, x.path.length ≤ 1048576) :
  Calls Tryz.prog 134 #[v_a0] w (Rt (RO 9 1 encS w (pathsL a0))) := by
 obtain ⟨k, h⟩ := impl_paths.eq a0 h0 h1 h2
 exact impl_paths.walk gv f_a0 h
/-! spec.l06Over -/
theorem spec_l06Over.walk {w : World} {a0 : Rec} {a1 : Rec} {r : Rec} (H : spec_l06Over.sh a0 a1 = some r) :
  Calls Tryz.prog 206 #[.agg (encRec a0).toArray, .agg (encRec a1).toArray] w (Rt (RP w (.agg (encRec r).toArray))) := by
 unfold spec_l06Over.sh at H
 refine calls_of_WG Tryz.func206 rfl (Nat.le_of_ble_eq_true rfl) Tryz.ntmps206 ?_
 refine wr <| L_box (.plain rfl) rfl (ltb rfl) rfl rfl <| fun b1 w2 z3 z4 e5 k6 => L_box (.plain rfl) rfl (ltb rfl) rfl rfl <| fun b7 w8 z9 z10 e11 k12 => L_alloc (.plain rfl) rfl (ltb rfl) rfl Tryz.zeroValue58 <| fun b13 w14 z15 z16 e17 k18 => nx <| W_seq <| wr <| lp rfl rfl (X_fieldAddr Tryz.underlying58 rfl Tryz.sizeOf3 rfl rfl) <| lp rfl rfl (X_loadB Tryz.isAgg3 (Blk.ext k12 e17) rfl rfl) <| lp rfl rfl (X_eql rfl rfl) <| lp rfl rfl (X_move (v := (.bool (decide (a1.kind = 3)))) rfl) <| L_grp 3 [(9, 12)] 11 (.bool ((decide (a1.kind = 3)) && (stopsR a0))) ?_ ?_
 ·rcases bool_two (decide (a1.kind = 3)) with b18_ | b18_
  ·exact lg rfl rfl rfl rfl (cb b18_) (X_loadS Tryz.isAgg58 Tryz.sizeOf58 rfl rfl (Blk.at0 (Blk.ext k6 (e11.t e17)))) <| L_callP (tg rfl rfl rfl (cb b18_)) rfl (ltb rfl) rfl Tryz.call208 (spec_l06Stops.calls (w := w14) (a0 := a0)) rfl <| fun w20 e21 => lp rfl rfl (X_pick (b := true) (v := (.bool (stopsR a0))) (cb b18_) rfl) <| nx ⟨(ku3 kz rfl), (and_t b18_), e21⟩
  ·exact ls rfl rfl rfl (cb b18_) rfl <| ls rfl rfl rfl (cb b18_) rfl <| lp rfl rfl (X_pick (b := false) (v := (.bool false)) (cb b18_) rfl) <| nx ⟨(ku3 kz rfl), (and_f b18_), er⟩
 intro s24 w20 K21 h22 e23
 refine nx ?_
 rcases bif_two H with ⟨q25, H⟩ | ⟨q25, H⟩
 ·refine W_true (h22.trans (cb q25)) <| W_reg <| lp rfl rfl (X_fieldAddr Tryz.underlying58 rfl Tryz.sizeOf4 rfl (K21 3 rfl)) <| L_store1 (.plain rfl) rfl rfl Tryz.sizeOf4 rfl rfl rfl (Blk.ext k12 (e17.t e23)) (ltb rfl) <| fun w26 h27 k28 => nx <| wr <| lp rfl rfl (X_loadS Tryz.isAgg58 Tryz.sizeOf58 rfl (K21 3 rfl) (Blk.at0 k28)) <| L_storeA (.plain rfl) rfl rfl Tryz.sizeOf58 (K21 4 rfl) rfl rfl rfl rfl (Wr.blk h27 (Blk.ext k18 e23) (fun e9 => by have e8 : b13 = b7 := e9; clear e9; have h9 := Blk.lt k12; have h8 := z15; omega)) <| fun w29 h30 k31 => nx <| W_ret <| finG_r ?_
  obtain rfl := si H
  exact finC1 rfl (K21 4 rfl) k31 Tryz.isAgg58 Tryz.sizeOf58 rfl (e5.t (Below.trans (Below.trans ((e11.t e17).t e23) (Wr.below h27 (Nat.le_of_eq z9))) (Wr.below h30 (Nat.le_trans e11.size (Nat.le_of_eq z15)))))
 ·refine W_false (h22.trans (cb q25)) <| W_skip <| thn_n <| wr <| lp rfl rfl (X_loadS Tryz.isAgg58 Tryz.sizeOf58 rfl (K21 3 rfl) (Blk.at0 (Blk.ext k12 (e17.t e23)))) <| L_storeA (.plain rfl) rfl rfl Tryz.sizeOf58 (K21 4 rfl) rfl rfl rfl rfl (Blk.ext k18 e23) <| fun w32 h33 k34 => nx <| W_ret <| finG_r ?_
  obtain rfl := si H
  exact finC1 rfl (K21 4 rfl) k34 Tryz.isAgg58 Tryz.sizeOf58 rfl ((e5.t e11).t (Below.trans (e17.t e23) (Wr.below h33 (Nat.le_of_eq z15))))
theorem spec_l06Over.calls {w : World} {a0 : Rec} {a1 : Rec} :
  Calls Tryz.prog 206 #[.agg (encRec a0).toArray, .agg (encRec a1).toArray] w (Rt (RP w (.agg (encRec (overR a0 a1)).toArray))) := spec_l06Over.walk (spec_l06Over.eq a0 a1)
/-! spec.l06Two -/
abbrev spec_l06Two.e1 (a0 : List Rec) (a1 : List Rec) (x6_9 : Int) (x7_10 : Int) := ((!(decide (x7_10 = (a1.length : Int)))) && (decide (x6_9 < (a0.length : Int))))
abbrev spec_l06Two.e2 (a0 : List Rec) (a1 : List Rec) (x6_9 : Int) (x7_10 : Int) := ((decide (x7_10 = (a1.length : Int))) || ((decide (x6_9 < (a0.length : Int))) && (lessL (cut 47 ((gt a0 x6_9).path)) (cut 47 ((gt a1 x7_10).path)))))
theorem spec_l06Two.walk {k : Nat} {w : World} {a0 : List Rec} {a1 : List Rec} {v_a0 : Value} (f_a0 : Rd 5 encRec w v_a0 a0) {v_a1 : Value} (f_a1 : Rd 5 encRec w v_a1 a1) {r : List Rec} (H : spec_l06Two.sh k a0 a1 = some r) :
  Calls Tryz.prog 121 #[v_a0, v_a1] w (Rt (RO 58 5 encRec w r)) := by
 unfold spec_l06Two.sh at H
 refine calls_of_W Tryz.func121 rfl (Nat.le_of_ble_eq_true rfl) Tryz.ntmps121 rfl ?_
 refine wr <| lp rfl rfl (X_assign (v := (.slice none 0 0)) rfl) <| nx <| wr <| L_lit (.plain rfl) rfl (ltb rfl) rfl Tryz.underlying35 Tryz.sizeOf58 Tryz.zeroValue58 rfl rfl rfl (vs := []) rfl (lit_all rfl) <| fun b1 w2 z3 z4 e5 k6 => lp rfl rfl (X_assign (v := (.slice (some ⟨b1, 0, none⟩) 0 0)) rfl) <| nx <| wr <| lp rfl rfl (X_assign (v := (.int .i64 0)) rfl) <| nx <| wr <| lp rfl rfl (X_assign (v := (.int .i64 0)) rfl) <| nx <| W_seq ?_
 obtain ⟨z11, L12, C13⟩ := bind_some H
 clear H
 refine  W_cutQ (fun s0 sQ wQ => ∃ (x5_14 : List Rec) (v15 : Value), Kp [(5, 8), (9, 103)] s0 sQ ∧ sQ 5 = v15 ∧ Ow 58 5 encRec w2.heap.size wQ v15 x5_14 ∧ Ext w2 wQ ∧ z11 = .inr x5_14) ?_ ?_
 ·refine W_block <| W_loopI (fun s0 kk sQ wQ => ∃ (x5_7 : List Rec) (v8 : Value) (x6_9 : Int) (x7_10 : Int), Kp [(5, 8), (9, 103)] s0 sQ ∧ sQ 5 = v8 ∧ Ow 58 5 encRec w2.heap.size wQ v8 x5_7 ∧ sQ 6 = .int .i64 x6_9 ∧ sQ 7 = .int .i64 x7_10 ∧ Ext w2 wQ ∧ loopF (spec_l06Two.b1 a0 a1) kk (x5_7, x6_9, x7_10) = some z11) k ⟨([] : List Rec), (.slice (some ⟨b1, 0, none⟩) 0 0), 0, 0, kz, rfl, (Ow.zero), rfl, rfl, er, L12⟩ ?_
  rintro k20 s21 w22 ⟨x5_7, v8, x6_9, x7_10, K23, h26, h27, h28, h29, e24, L25⟩
  cases k20 with
  | zero => exact absurd L25 (by simp [loopF])
  | succ k20 =>
   obtain ⟨t30, H, S31⟩ := loopF_succ L25
   clear L25
   unfold spec_l06Two.b1 at H
   refine W_seq <| wr <| lp rfl rfl (X_move h28) <| lp rfl rfl (X_move (v := v_a0) (K23 0 rfl)) <| lp rfl rfl (X_lenR Tryz.underlying35 rfl (Rd.ext f_a0 (e5.t e24))) <| lp rfl rfl (X_lss rfl rfl) <| lp rfl rfl (X_move (v := (.bool (decide (x6_9 < (a0.length : Int))))) rfl) <| L_grp 5 [(14, 19)] 18 (.bool ((decide (x6_9 < (a0.length : Int))) || (decide (x7_10 < (a1.length : Int))))) ?_ ?_
   ·rcases bool_two (decide (x6_9 < (a0.length : Int))) with b31_ | b31_
    ·exact ls rfl rfl rfl (cb b31_) rfl <| ls rfl rfl rfl (cb b31_) rfl <| ls rfl rfl rfl (cb b31_) rfl <| ls rfl rfl rfl (cb b31_) rfl <| lp rfl rfl (X_pick (b := true) (v := (.bool true)) (cb b31_) rfl) <| nx ⟨(ku1 (ku4 kz rfl) rfl), (or_t b31_), er⟩
    ·exact lg rfl rfl rfl rfl (cb b31_) (X_move h29) <| lg rfl rfl rfl rfl (cb b31_) (X_move (v := v_a1) (K23 1 rfl)) <| lg rfl rfl rfl rfl (cb b31_) (X_lenR Tryz.underlying35 rfl (Rd.ext f_a1 (e5.t e24))) <| lg rfl rfl rfl rfl (cb b31_) (X_lss rfl rfl) <| lp rfl rfl (X_pick (b := false) (v := (.bool (decide (x7_10 < (a1.length : Int))))) (cb b31_) rfl) <| nx ⟨(ku1 (ku4 kz rfl) rfl), (or_f b31_), er⟩
   intro s37 w33 K34 h35 e36
   refine nx ?_
   rcases bif_two H with ⟨q38, H⟩ | ⟨q38, H⟩
   ·refine W_true (h35.trans (cb q38)) <| W_skip <| thn_n <| W_block <| W_block <| W_seq ?_
    obtain ⟨c39, H⟩ := bif_some H
    obtain ⟨c42, H⟩ := bif_some H
    obtain ⟨c45, H⟩ := bif_some H
    obtain ⟨c46, H⟩ := bif_some H
    refine W_dM [LEq (.int .i64 x7_10), LEq v_a1, LEq (.int .i64 (a1.length : Int)), LEq (.bool (decide (x7_10 = (a1.length : Int)))), LEq (.bool (decide (x7_10 = (a1.length : Int)))), LIf (!(decide (x7_10 = (a1.length : Int)))) (LEq (.int .i64 x6_9)), LIf (!(decide (x7_10 = (a1.length : Int)))) (LEq v_a0), LIf (!(decide (x7_10 = (a1.length : Int)))) (LEq (.int .i64 (a0.length : Int))), LIf (!(decide (x7_10 = (a1.length : Int)))) (LEq (.bool (decide (x6_9 < (a0.length : Int))))), LIf (!(decide (x7_10 = (a1.length : Int)))) (LEq (.bool (decide (x6_9 < (a0.length : Int))))), LIf (spec_l06Two.e1 a0 a1 x6_9 x7_10) (LEq v_a0), LIf (spec_l06Two.e1 a0 a1 x6_9 x7_10) (LEq (.int .i64 x6_9)), LIf (spec_l06Two.e1 a0 a1 x6_9 x7_10) (LAt0 (encRec (gt a0 x6_9))), LIf (spec_l06Two.e1 a0 a1 x6_9 x7_10) (LAt 1 (encRec (gt a0 x6_9))), LIf (spec_l06Two.e1 a0 a1 x6_9 x7_10) (LEq (S ((gt a0 x6_9).path))), LIf (spec_l06Two.e1 a0 a1 x6_9 x7_10) (LEq v_a1), LIf (spec_l06Two.e1 a0 a1 x6_9 x7_10) (LEq (.int .i64 x7_10)), LIf (spec_l06Two.e1 a0 a1 x6_9 x7_10) (LAt0 (encRec (gt a1 x7_10))), LIf (spec_l06Two.e1 a0 a1 x6_9 x7_10) (LAt 1 (encRec (gt a1 x7_10))), LIf (spec_l06Two.e1 a0 a1 x6_9 x7_10) (LEq (S ((gt a1 x7_10).path))), LIf (spec_l06Two.e1 a0 a1 x6_9 x7_10) (LEq (.bool (lessL (cut 47 ((gt a0 x6_9).path)) (cut 47 ((gt a1 x7_10).path))))), LIf (!(decide (x7_10 = (a1.length : Int)))) (LEq (.bool ((decide (x6_9 < (a0.length : Int))) && (lessL (cut 47 ((gt a0 x6_9).path)) (cut 47 ((gt a1 x7_10).path)))))), LEq (.bool (spec_l06Two.e2 a0 a1 x6_9 x7_10)), LEq (.bool (spec_l06Two.e2 a0 a1 x6_9 x7_10))] (by kernel_rfl) (by kernel_rfl) ⟨LEq.mono, LEq.mono, LEq.mono, LEq.mono, LEq.mono, (LIf.mono LEq.mono), (LIf.mono LEq.mono), (LIf.mono LEq.mono), (LIf.mono LEq.mono), (LIf.mono LEq.mono), (LIf.mono LEq.mono), (LIf.mono LEq.mono), (LIf.mono LAt0.mono), (LIf.mono LAt.mono), (LIf.mono LEq.mono), (LIf.mono LEq.mono), (LIf.mono LEq.mono), (LIf.mono LAt0.mono), (LIf.mono LAt.mono), (LIf.mono LEq.mono), (LIf.mono LEq.mono), (LIf.mono LEq.mono), LEq.mono, LEq.mono, trivial⟩ ⟨?_, ?_, ?_, ?_, ?_, ?_, ?_, ?_, ?_, ?_, ?_, ?_, ?_, ?_, ?_, ?_, ?_, ?_, ?_, ?_, ?_, ?_, ?_, ?_, trivial⟩ ?_
    ·exact fun s x e f d u => lp rfl rfl (X_move (v := (.int .i64 x7_10)) ((f 7 rfl).trans ((K34 7 rfl).trans h29))) <| se rfl rfl
    ·exact fun s x e f d u => lp rfl rfl (X_move (v := v_a1) ((f 1 rfl).trans ((K34 1 rfl).trans (K23 1 rfl)))) <| se rfl rfl
    ·exact fun s x e f d u => lp rfl rfl (X_lenR Tryz.underlying35 (d 1 rfl) (Rd.ext f_a1 (((e5.t e24).t e36).t e))) <| se rfl rfl
    ·exact fun s x e f d u => lp rfl rfl (X_eql (d 0 rfl) (d 2 rfl)) <| se rfl rfl
    ·exact fun s x e f d u => lp rfl rfl (X_move (d 3 rfl)) <| se rfl rfl
    ·exact fun s x e f d u => gF rfl rfl rfl rfl (d 4 rfl) rfl fun b t => lt t rfl rfl (X_move (v := (.int .i64 x6_9)) ((f 6 rfl).trans ((K34 6 rfl).trans h28))) <| sg rfl rfl b rfl
    ·exact fun s x e f d u => gF rfl rfl rfl rfl (d 4 rfl) rfl fun b t => lt t rfl rfl (X_move (v := v_a0) ((f 0 rfl).trans ((K34 0 rfl).trans (K23 0 rfl)))) <| sg rfl rfl b rfl
    ·exact fun s x e f d u => gF rfl rfl rfl rfl (d 4 rfl) rfl fun b t => lt t rfl rfl (X_lenR Tryz.underlying35 ((d 6 rfl).1 (not_mk (not_f b))) (Rd.ext f_a0 (((e5.t e24).t e36).t e))) <| sg rfl rfl b rfl
    ·exact fun s x e f d u => gF rfl rfl rfl rfl (d 4 rfl) rfl fun b t => lt t rfl rfl (X_lss ((d 5 rfl).1 (not_mk (not_f b))) ((d 7 rfl).1 (not_mk (not_f b)))) <| sg rfl rfl b rfl
    ·exact fun s x e f d u => gF rfl rfl rfl rfl (d 4 rfl) rfl fun b t => lt t rfl rfl (X_move (v := (.bool (decide (x6_9 < (a0.length : Int))))) ((d 8 rfl).1 (not_mk (not_f b)))) <| sg rfl rfl b rfl
    ·exact fun s x e f d u => hT rfl rfl rfl rfl (d 9 rfl) rfl fun b t => lt t rfl rfl (X_move (v := v_a0) ((f 0 rfl).trans ((K34 0 rfl).trans (K23 0 rfl)))) <| sg rfl rfl b rfl
    ·exact fun s x e f d u => hT rfl rfl rfl rfl (d 9 rfl) rfl fun b t => lt t rfl rfl (X_move (v := (.int .i64 x6_9)) ((f 6 rfl).trans ((K34 6 rfl).trans h28))) <| sg rfl rfl b rfl
    ·exact fun s x e f d u => hT rfl rfl rfl rfl (d 9 rfl) rfl fun b t => L_idx t rfl (ltb rfl) rfl Tryz.underlying35 Tryz.sizeOf58 ((d 10 rfl).1 (and_mk (not_mk (not_f (and_l b))) (and_r b))) (Rd.ext f_a0 (((e5.t e24).t e36).t e)) ((d 11 rfl).1 (and_mk (not_mk (not_f (and_l b))) (and_r b))) (imp_take b c39) <| fun p50 h51 => sg rfl rfl b ⟨_, rfl, h51⟩
    ·intro s x e f d u
     refine hT rfl rfl rfl rfl (d 9 rfl) rfl fun b t => ?_
     obtain ⟨p52, h53, h54⟩ := ((d 12 rfl).1 (and_mk (not_mk (not_f (and_l b))) (and_r b)))
     exact lt t rfl rfl (X_fieldAddr Tryz.underlying58 rfl Tryz.sizeOf9 rfl h53) <| sg rfl rfl b ⟨_, rfl, h54⟩
    ·intro s x e f d u
     refine hT rfl rfl rfl rfl (d 9 rfl) rfl fun b t => ?_
     obtain ⟨p55, h56, h57⟩ := ((d 13 rfl).1 (and_mk (not_mk (not_f (and_l b))) (and_r b)))
     exact lt t rfl rfl (X_loadF Tryz.isAgg9 (j := 1) h57 h56 rfl) <| sg rfl rfl b rfl
    ·exact fun s x e f d u => hT rfl rfl rfl rfl (d 9 rfl) rfl fun b t => lt t rfl rfl (X_move (v := v_a1) ((f 1 rfl).trans ((K34 1 rfl).trans (K23 1 rfl)))) <| sg rfl rfl b rfl
    ·exact fun s x e f d u => hT rfl rfl rfl rfl (d 9 rfl) rfl fun b t => lt t rfl rfl (X_move (v := (.int .i64 x7_10)) ((f 7 rfl).trans ((K34 7 rfl).trans h29))) <| sg rfl rfl b rfl
    ·exact fun s x e f d u => hT rfl rfl rfl rfl (d 9 rfl) rfl fun b t => L_idx t rfl (ltb rfl) rfl Tryz.underlying35 Tryz.sizeOf58 ((d 15 rfl).1 (and_mk (not_mk (not_f (and_l b))) (and_r b))) (Rd.ext f_a1 (((e5.t e24).t e36).t e)) ((d 16 rfl).1 (and_mk (not_mk (not_f (and_l b))) (and_r b))) (imp_take b c42) <| fun p59 h60 => sg rfl rfl b ⟨_, rfl, h60⟩
    ·intro s x e f d u
     refine hT rfl rfl rfl rfl (d 9 rfl) rfl fun b t => ?_
     obtain ⟨p61, h62, h63⟩ := ((d 17 rfl).1 (and_mk (not_mk (not_f (and_l b))) (and_r b)))
     exact lt t rfl rfl (X_fieldAddr Tryz.underlying58 rfl Tryz.sizeOf9 rfl h62) <| sg rfl rfl b ⟨_, rfl, h63⟩
    ·intro s x e f d u
     refine hT rfl rfl rfl rfl (d 9 rfl) rfl fun b t => ?_
     obtain ⟨p64, h65, h66⟩ := ((d 18 rfl).1 (and_mk (not_mk (not_f (and_l b))) (and_r b)))
     exact lt t rfl rfl (X_loadF Tryz.isAgg9 (j := 1) h66 h65 rfl) <| sg rfl rfl b rfl
    ·exact fun s x e f d u => hT rfl rfl rfl rfl (d 9 rfl) rfl fun b t => L_callP t rfl (ltb rfl) rfl Tryz.call205 (spec_l01Less.calls (w := x) (a0 := (gt a0 x6_9).path) (a1 := (gt a1 x7_10).path) (od (imp_take b c45)) (od (imp_take b c46))) (cons2 ((d 14 rfl).1 (and_mk (not_mk (not_f (and_l b))) (and_r b))) (cons2 ((d 19 rfl).1 (and_mk (not_mk (not_f (and_l b))) (and_r b))) rfl)) <| fun w69 e70 => sgx rfl rfl b e70 rfl
    ·exact fun s x e f d u => gF rfl rfl rfl rfl (d 4 rfl) rfl fun b t => lt t rfl rfl (X_pickA ((d 9 rfl).1 (not_mk (not_f b))) rfl fun h => ((d 20 rfl).1 (and_mk (not_mk (not_f b)) h))) <| sg rfl rfl b rfl
    ·exact fun s x e f d u => lp rfl rfl (X_pickO (d 4 rfl) rfl fun h => ((d 21 rfl).1 (not_mk h))) <| se rfl rfl
    ·exact fun s x e f d u => lp rfl rfl (X_assign (d 22 rfl)) <| se rfl rfl
    intro s71 w72 e73 hf74 ha75
    have K76 := Kp.ofD (kp := [(35, 59)]) rfl hf74
    have d77 : s71 35 = (.bool (spec_l06Two.e2 a0 a1 x6_9 x7_10)) := ha75 23 rfl
    clear ha75 hf74
    refine thn_n ?_
    rcases bif_two H with ⟨q78, H⟩ | ⟨q78, H⟩
    ·refine W_true (d77.trans (cb q78)) <| W_seq <| wr <| lp rfl rfl (X_move (v := v_a1) ((K76 1 rfl).trans ((K34 1 rfl).trans (K23 1 rfl)))) <| lp rfl rfl (X_move (v := v_a0) ((K76 0 rfl).trans ((K34 0 rfl).trans (K23 0 rfl)))) <| lp rfl rfl (X_move (v := (.int .i64 x6_9)) ((K76 6 rfl).trans ((K34 6 rfl).trans h28))) ?_
     obtain ⟨c79, H⟩ := bif_some H
     refine L_idx (.plain rfl) rfl (ltb rfl) rfl Tryz.underlying35 Tryz.sizeOf58 rfl (Rd.ext f_a0 (((e5.t e24).t e36).t e73)) rfl c79 <| fun p80 h81 => lp rfl rfl (X_fieldAddr Tryz.underlying58 rfl Tryz.sizeOf9 rfl rfl) <| lp rfl rfl (X_loadF Tryz.isAgg9 (j := 1) h81 rfl rfl) ?_
     obtain ⟨c82, H⟩ := bif_some H
     obtain ⟨c83, H⟩ := bif_some H
     refine lc rfl rfl rfl Tryz.call123 (spec_l06Cuts.calls (w := w72) (a0 := a1) (a1 := (gt a0 x6_9).path) (Rd.ext f_a1 (((e5.t e24).t e36).t e73)) (od c82) (od c83)) rfl <| fun w84 e85 => lp rfl rfl (X_not rfl) <| nx ?_
     rcases bif_two H with ⟨q86, H⟩ | ⟨q86, H⟩
     ·refine W_true (cb q86) <| W_reg <| lp rfl rfl (X_move (v := v8) ((K76 5 rfl).trans ((K34 5 rfl).trans h26))) <| lp rfl rfl (X_move (v := v_a0) ((K76 0 rfl).trans ((K34 0 rfl).trans (K23 0 rfl)))) <| lp rfl rfl (X_move (v := (.int .i64 x6_9)) ((K76 6 rfl).trans ((K34 6 rfl).trans h28))) ?_
      obtain ⟨c87, H⟩ := bif_some H
      refine L_idx (.plain rfl) rfl (ltb rfl) rfl Tryz.underlying35 Tryz.sizeOf58 rfl (Rd.ext f_a0 ((((e5.t e24).t e36).t e73).t e85)) rfl c87 <| fun p88 h89 => lp rfl rfl (X_loadS Tryz.isAgg58 Tryz.sizeOf58 rfl rfl h89) <| L_lit (.plain rfl) rfl (ltb rfl) rfl Tryz.underlying35 Tryz.sizeOf58 Tryz.zeroValue58 rfl rfl rfl (vs := [(.agg (encRec (gt a0 x6_9)).toArray)]) rfl (lit_all rfl) <| fun b90 w91 z92 z93 e94 k95 => ?_
      obtain ⟨c96, H⟩ := bif_some H
      refine L_append (enc := encRec) (.plain rfl) rfl (ltb rfl) rfl El.t35 rfl rfl (Ow.ext h27 (((e36.t e73).t e85).t e94)) (Ow.rd (Ow.new (xs := [gt a0 x6_9]) (sz := 5) (enc := encRec) (base := w84.heap.size) k95 (Nat.le_of_eq z92) rfl (fun _ _ => by rfl) (Nat.le_of_ble_eq_true rfl))) (ones_Rec _) (od c96) (((((e24.t e36).t e73).t e85).t e94)).size <| fun v97 w98 o99 z100 g101 => lp rfl rfl (X_assign (v := v97) rfl) <| nx <| W_reg <| lp rfl rfl (X_move (v := (.int .i64 x6_9)) ((K76 6 rfl).trans ((K34 6 rfl).trans h28))) <| lp rfl rfl (X_add rfl rfl) <| lp rfl rfl (X_assign (v := (.int .i64 (IntKind.wrap .i64 (x6_9 + 1)))) rfl) <| L_nil <| blk_n <| blk_n <| thn_n ?_
      obtain rfl := si H
      exact ⟨_, Nat.lt_succ_self _, x5_7 ++ ([gt a0 x6_9] : List Rec), v97, IntKind.wrap .i64 (x6_9 + 1), x7_10, (ku3 (ku8 (ku8 (Kp.cut (Kp.cut (ku1 (ku4 K23 rfl) rfl) K34 rfl) K76 rfl) rfl) rfl) rfl), rfl, o99, rfl, ((K76 7 rfl).trans ((K34 7 rfl).trans h29)), (g101 _ ((((e24.t e36).t e73).t e85).t e94)), S31⟩
     ·refine W_false (cb q86) <| W_skip <| thn_n <| W_reg <| lp rfl rfl (X_move (v := (.int .i64 x6_9)) ((K76 6 rfl).trans ((K34 6 rfl).trans h28))) <| lp rfl rfl (X_add rfl rfl) <| lp rfl rfl (X_assign (v := (.int .i64 (IntKind.wrap .i64 (x6_9 + 1)))) rfl) <| L_nil <| blk_n <| blk_n <| thn_n ?_
      obtain rfl := si H
      exact ⟨_, Nat.lt_succ_self _, x5_7, v8, IntKind.wrap .i64 (x6_9 + 1), x7_10, (ku3 (ku8 (Kp.cut (Kp.cut (ku1 (ku4 K23 rfl) rfl) K34 rfl) K76 rfl) rfl) rfl), ((K76 5 rfl).trans ((K34 5 rfl).trans h26)), (Ow.ext h27 ((e36.t e73).t e85)), rfl, ((K76 7 rfl).trans ((K34 7 rfl).trans h29)), (((e24.t e36).t e73).t e85), S31⟩
    ·refine W_false (d77.trans (cb q78)) <| W_seq ?_
     obtain ⟨c102, H⟩ := bif_some H
     obtain ⟨c105, H⟩ := bif_some H
     obtain ⟨c108, H⟩ := bif_some H
     obtain ⟨c109, H⟩ := bif_some H
     refine W_dM [LEq (.int .i64 x6_9), LEq v_a0, LEq (.int .i64 (a0.length : Int)), LEq (.bool (decide (x6_9 = (a0.length : Int)))), LEq (.bool (decide (x6_9 = (a0.length : Int)))), LIf (!(decide (x6_9 = (a0.length : Int)))) (LEq v_a1), LIf (!(decide (x6_9 = (a0.length : Int)))) (LEq (.int .i64 x7_10)), LIf (!(decide (x6_9 = (a0.length : Int)))) (LAt0 (encRec (gt a1 x7_10))), LIf (!(decide (x6_9 = (a0.length : Int)))) (LAt 1 (encRec (gt a1 x7_10))), LIf (!(decide (x6_9 = (a0.length : Int)))) (LEq (S ((gt a1 x7_10).path))), LIf (!(decide (x6_9 = (a0.length : Int)))) (LEq v_a0), LIf (!(decide (x6_9 = (a0.length : Int)))) (LEq (.int .i64 x6_9)), LIf (!(decide (x6_9 = (a0.length : Int)))) (LAt0 (encRec (gt a0 x6_9))), LIf (!(decide (x6_9 = (a0.length : Int)))) (LAt 1 (encRec (gt a0 x6_9))), LIf (!(decide (x6_9 = (a0.length : Int)))) (LEq (S ((gt a0 x6_9).path))), LIf (!(decide (x6_9 = (a0.length : Int)))) (LEq (.bool (lessL (cut 47 ((gt a1 x7_10).path)) (cut 47 ((gt a0 x6_9).path))))), LEq (.bool ((decide (x6_9 = (a0.length : Int))) || (lessL (cut 47 ((gt a1 x7_10).path)) (cut 47 ((gt a0 x6_9).path))))), LEq (.bool ((decide (x6_9 = (a0.length : Int))) || (lessL (cut 47 ((gt a1 x7_10).path)) (cut 47 ((gt a0 x6_9).path)))))] (by kernel_rfl) (by kernel_rfl) ⟨LEq.mono, LEq.mono, LEq.mono, LEq.mono, LEq.mono, (LIf.mono LEq.mono), (LIf.mono LEq.mono), (LIf.mono LAt0.mono), (LIf.mono LAt.mono), (LIf.mono LEq.mono), (LIf.mono LEq.mono), (LIf.mono LEq.mono), (LIf.mono LAt0.mono), (LIf.mono LAt.mono), (LIf.mono LEq.mono), (LIf.mono LEq.mono), LEq.mono, LEq.mono, trivial⟩ ⟨?_, ?_, ?_, ?_, ?_, ?_, ?_, ?_, ?_, ?_, ?_, ?_, ?_, ?_, ?_, ?_, ?_, ?_, trivial⟩ ?_
     ·exact fun s x e f d u => lp rfl rfl (X_move (v := (.int .i64 x6_9)) ((f 6 rfl).trans ((K76 6 rfl).trans ((K34 6 rfl).trans h28)))) <| se rfl rfl
     ·exact fun s x e f d u => lp rfl rfl (X_move (v := v_a0) ((f 0 rfl).trans ((K76 0 rfl).trans ((K34 0 rfl).trans (K23 0 rfl))))) <| se rfl rfl
     ·exact fun s x e f d u => lp rfl rfl (X_lenR Tryz.underlying35 (d 1 rfl) (Rd.ext f_a0 ((((e5.t e24).t e36).t e73).t e))) <| se rfl rfl
     ·exact fun s x e f d u => lp rfl rfl (X_eql (d 0 rfl) (d 2 rfl)) <| se rfl rfl
     ·exact fun s x e f d u => lp rfl rfl (X_move (d 3 rfl)) <| se rfl rfl
     ·exact fun s x e f d u => gF rfl rfl rfl rfl (d 4 rfl) rfl fun b t => lt t rfl rfl (X_move (v := v_a1) ((f 1 rfl).trans ((K76 1 rfl).trans ((K34 1 rfl).trans (K23 1 rfl))))) <| sg rfl rfl b rfl
     ·exact fun s x e f d u => gF rfl rfl rfl rfl (d 4 rfl) rfl fun b t => lt t rfl rfl (X_move (v := (.int .i64 x7_10)) ((f 7 rfl).trans ((K76 7 rfl).trans ((K34 7 rfl).trans h29)))) <| sg rfl rfl b rfl
     ·exact fun s x e f d u => gF rfl rfl rfl rfl (d 4 rfl) rfl fun b t => L_idx t rfl (ltb rfl) rfl Tryz.underlying35 Tryz.sizeOf58 ((d 5 rfl).1 (not_mk (not_f b))) (Rd.ext f_a1 ((((e5.t e24).t e36).t e73).t e)) ((d 6 rfl).1 (not_mk (not_f b))) (imp_take b c102) <| fun p113 h114 => sg rfl rfl b ⟨_, rfl, h114⟩
     ·intro s x e f d u
      refine gF rfl rfl rfl rfl (d 4 rfl) rfl fun b t => ?_
      obtain ⟨p115, h116, h117⟩ := ((d 7 rfl).1 (not_mk (not_f b)))
      exact lt t rfl rfl (X_fieldAddr Tryz.underlying58 rfl Tryz.sizeOf9 rfl h116) <| sg rfl rfl b ⟨_, rfl, h117⟩
     ·intro s x e f d u
      refine gF rfl rfl rfl rfl (d 4 rfl) rfl fun b t => ?_
      obtain ⟨p118, h119, h120⟩ := ((d 8 rfl).1 (not_mk (not_f b)))
      exact lt t rfl rfl (X_loadF Tryz.isAgg9 (j := 1) h120 h119 rfl) <| sg rfl rfl b rfl
     ·exact fun s x e f d u => gF rfl rfl rfl rfl (d 4 rfl) rfl fun b t => lt t rfl rfl (X_move (v := v_a0) ((f 0 rfl).trans ((K76 0 rfl).trans ((K34 0 rfl).trans (K23 0 rfl))))) <| sg rfl rfl b rfl
     ·exact fun s x e f d u => gF rfl rfl rfl rfl (d 4 rfl) rfl fun b t => lt t rfl rfl (X_move (v := (.int .i64 x6_9)) ((f 6 rfl).trans ((K76 6 rfl).trans ((K34 6 rfl).trans h28)))) <| sg rfl rfl b rfl
     ·exact fun s x e f d u => gF rfl rfl rfl rfl (d 4 rfl) rfl fun b t => L_idx t rfl (ltb rfl) rfl Tryz.underlying35 Tryz.sizeOf58 ((d 10 rfl).1 (not_mk (not_f b))) (Rd.ext f_a0 ((((e5.t e24).t e36).t e73).t e)) ((d 11 rfl).1 (not_mk (not_f b))) (imp_take b c105) <| fun p122 h123 => sg rfl rfl b ⟨_, rfl, h123⟩
     ·intro s x e f d u
      refine gF rfl rfl rfl rfl (d 4 rfl) rfl fun b t => ?_
      obtain ⟨p124, h125, h126⟩ := ((d 12 rfl).1 (not_mk (not_f b)))
      exact lt t rfl rfl (X_fieldAddr Tryz.underlying58 rfl Tryz.sizeOf9 rfl h125) <| sg rfl rfl b ⟨_, rfl, h126⟩
     ·intro s x e f d u
      refine gF rfl rfl rfl rfl (d 4 rfl) rfl fun b t => ?_
      obtain ⟨p127, h128, h129⟩ := ((d 13 rfl).1 (not_mk (not_f b)))
      exact lt t rfl rfl (X_loadF Tryz.isAgg9 (j := 1) h129 h128 rfl) <| sg rfl rfl b rfl
     ·exact fun s x e f d u => gF rfl rfl rfl rfl (d 4 rfl) rfl fun b t => L_callP t rfl (ltb rfl) rfl Tryz.call205 (spec_l01Less.calls (w := x) (a0 := (gt a1 x7_10).path) (a1 := (gt a0 x6_9).path) (od (imp_take b c108)) (od (imp_take b c109))) (cons2 ((d 9 rfl).1 (not_mk (not_f b))) (cons2 ((d 14 rfl).1 (not_mk (not_f b))) rfl)) <| fun w132 e133 => sgx rfl rfl b e133 rfl
     ·exact fun s x e f d u => lp rfl rfl (X_pickO (d 4 rfl) rfl fun h => ((d 15 rfl).1 (not_mk h))) <| se rfl rfl
     ·exact fun s x e f d u => lp rfl rfl (X_assign (d 16 rfl)) <| se rfl rfl
     intro s134 w135 e136 hf137 ha138
     have K139 := Kp.ofD (kp := [(76, 94)]) rfl hf137
     have d140 : s134 76 = (.bool ((decide (x6_9 = (a0.length : Int))) || (lessL (cut 47 ((gt a1 x7_10).path)) (cut 47 ((gt a0 x6_9).path))))) := ha138 17 rfl
     clear ha138 hf137
     refine thn_n ?_
     rcases bif_two H with ⟨q141, H⟩ | ⟨q141, H⟩
     ·refine W_true (d140.trans (cb q141)) <| wr <| lp rfl rfl (X_move (v := v8) ((K139 5 rfl).trans ((K76 5 rfl).trans ((K34 5 rfl).trans h26)))) <| lp rfl rfl (X_move (v := v_a1) ((K139 1 rfl).trans ((K76 1 rfl).trans ((K34 1 rfl).trans (K23 1 rfl))))) <| lp rfl rfl (X_move (v := (.int .i64 x7_10)) ((K139 7 rfl).trans ((K76 7 rfl).trans ((K34 7 rfl).trans h29)))) ?_
      obtain ⟨c142, H⟩ := bif_some H
      refine L_idx (.plain rfl) rfl (ltb rfl) rfl Tryz.underlying35 Tryz.sizeOf58 rfl (Rd.ext f_a1 ((((e5.t e24).t e36).t e73).t e136)) rfl c142 <| fun p143 h144 => lp rfl rfl (X_loadS Tryz.isAgg58 Tryz.sizeOf58 rfl rfl h144) <| L_lit (.plain rfl) rfl (ltb rfl) rfl Tryz.underlying35 Tryz.sizeOf58 Tryz.zeroValue58 rfl rfl rfl (vs := [(.agg (encRec (gt a1 x7_10)).toArray)]) rfl (lit_all rfl) <| fun b145 w146 z147 z148 e149 k150 => ?_
      obtain ⟨c151, H⟩ := bif_some H
      refine L_append (enc := encRec) (.plain rfl) rfl (ltb rfl) rfl El.t35 rfl rfl (Ow.ext h27 (((e36.t e73).t e136).t e149)) (Ow.rd (Ow.new (xs := [gt a1 x7_10]) (sz := 5) (enc := encRec) (base := w135.heap.size) k150 (Nat.le_of_eq z147) rfl (fun _ _ => by rfl) (Nat.le_of_ble_eq_true rfl))) (ones_Rec _) (od c151) (((((e24.t e36).t e73).t e136).t e149)).size <| fun v152 w153 o154 z155 g156 => lp rfl rfl (X_assign (v := v152) rfl) <| nx <| W_reg <| lp rfl rfl (X_move (v := (.int .i64 x7_10)) ((K139 7 rfl).trans ((K76 7 rfl).trans ((K34 7 rfl).trans h29)))) <| lp rfl rfl (X_add rfl rfl) <| lp rfl rfl (X_assign (v := (.int .i64 (IntKind.wrap .i64 (x7_10 + 1)))) rfl) <| L_nil <| blk_n <| blk_n <| thn_n ?_
      obtain rfl := si H
      exact ⟨_, Nat.lt_succ_self _, x5_7 ++ ([gt a1 x7_10] : List Rec), v152, x6_9, IntKind.wrap .i64 (x7_10 + 1), (ku3 (ku8 (Kp.cut (Kp.cut (Kp.cut (ku1 (ku4 K23 rfl) rfl) K34 rfl) K76 rfl) K139 rfl) rfl) rfl), rfl, o154, ((K139 6 rfl).trans ((K76 6 rfl).trans ((K34 6 rfl).trans h28))), rfl, (g156 _ ((((e24.t e36).t e73).t e136).t e149)), S31⟩
     ·refine W_false (d140.trans (cb q141)) <| W_seq ?_
      obtain ⟨c157, H⟩ := bif_some H
      obtain ⟨c160, H⟩ := bif_some H
      obtain ⟨c171, H⟩ := bif_some H
      refine W_drawR (B := w2.heap.size) [LEq v8, LEq v_a0, LEq (.int .i64 x6_9), LAt0W w135 (encRec (gt a0 x6_9)), LEq (.agg (encRec (gt a0 x6_9)).toArray), LEq v_a1, LEq (.int .i64 x7_10), LAt0W w135 (encRec (gt a1 x7_10)), LEq (.agg (encRec (gt a1 x7_10)).toArray), LEq (.agg (encRec (overR (gt a0 x6_9) (gt a1 x7_10))).toArray), LRd 5 encRec ([(overR (gt a0 x6_9) (gt a1 x7_10))] : List Rec), LOw 58 5 encRec w2.heap.size (x5_7 ++ ([(overR (gt a0 x6_9) (gt a1 x7_10))] : List Rec)), LOw 58 5 encRec w2.heap.size (x5_7 ++ ([(overR (gt a0 x6_9) (gt a1 x7_10))] : List Rec))] [⟨true, true, true, false, []⟩, ⟨true, true, true, false, []⟩, ⟨true, true, true, false, []⟩, ⟨true, true, true, false, [1, 2]⟩, ⟨true, true, true, false, [3]⟩, ⟨true, true, true, false, []⟩, ⟨true, true, true, false, []⟩, ⟨true, true, true, false, [5, 6]⟩, ⟨true, true, true, false, [7]⟩, ⟨true, true, true, false, [4, 8]⟩, ⟨true, false, true, false, [9]⟩, ⟨false, false, true, false, [0, 10]⟩, ⟨true, false, false, true, [11]⟩] [(11, 0, []), (11, 1, [9, 4, 3]), (11, 2, [9, 4, 3]), (11, 3, [9, 4]), (11, 4, [9]), (11, 5, [9, 8, 7]), (11, 6, [9, 8, 7]), (11, 7, [9, 8]), (11, 8, [9]), (11, 9, []), (11, 10, []), (12, 11, [])] (by kernel_rfl) (by kernel_rfl) (((e24.t e36).t e73).t e136).size ⟨⟨LEq.rig.mono, fun _ => LEq.rig⟩, ⟨LEq.rig.mono, fun _ => LEq.rig⟩, ⟨LEq.rig.mono, fun _ => LEq.rig⟩, ⟨LAt0W.rig.mono, fun _ => LAt0W.rig⟩, ⟨LEq.rig.mono, fun _ => LEq.rig⟩, ⟨LEq.rig.mono, fun _ => LEq.rig⟩, ⟨LEq.rig.mono, fun _ => LEq.rig⟩, ⟨LAt0W.rig.mono, fun _ => LAt0W.rig⟩, ⟨LEq.rig.mono, fun _ => LEq.rig⟩, ⟨LEq.rig.mono, fun _ => LEq.rig⟩, ⟨LRd.mono, noR⟩, ⟨LOw.mono, noR⟩, ⟨LOw.mono, noR⟩, trivial⟩ ⟨?_, ?_, ?_, ?_, ?_, ?_, ?_, ?_, ?_, ?_, ?_, ?_, ?_, trivial⟩ ?_
      ·intro s177 w178 hb179 hx180 hf181 hd182 hu183
       have e184 : Ext w135 w178 := hx180 rfl
       exact lp rfl rfl (X_move (v := v8) ((hu183 12 rfl).trans ((K139 5 rfl).trans ((K76 5 rfl).trans ((K34 5 rfl).trans h26))))) <| L_nil <| stepS rfl rfl rfl er rfl
      ·intro s185 w186 hb187 hx188 hf189 hd190 hu191
       have e192 : Ext w135 w186 := hx188 rfl
       exact lp rfl rfl (X_move (v := v_a0) ((hf189 0 rfl).trans ((K139 0 rfl).trans ((K76 0 rfl).trans ((K34 0 rfl).trans (K23 0 rfl)))))) <| L_nil <| stepS rfl rfl rfl er rfl
      ·intro s193 w194 hb195 hx196 hf197 hd198 hu199
       have e200 : Ext w135 w194 := hx196 rfl
       exact lp rfl rfl (X_move (v := (.int .i64 x6_9)) ((hf197 6 rfl).trans ((K139 6 rfl).trans ((K76 6 rfl).trans ((K34 6 rfl).trans h28))))) <| L_nil <| stepS rfl rfl rfl er rfl
      ·intro s201 w202 hb203 hx204 hf205 hd206 hu207
       have e208 : Ext w135 w202 := hx204 rfl
       have d209 : s201 20 = v_a0 := (hd206 1 rfl)
       have d210 : s201 21 = (.int .i64 x6_9) := (hd206 2 rfl)
       have c211 := c157
       exact L_idx (.plain rfl) rfl (ltb rfl) rfl Tryz.underlying35 Tryz.sizeOf58 d209 (Rd.ext f_a0 ((((e5.t e24).t e36).t e73).t e136)) d210 c211 <| fun p212 h213 => L_nil <| stepS rfl rfl rfl er ⟨_, rfl, h213⟩
      ·intro s214 w215 hb216 hx217 hf218 hd219 hu220
       have e221 : Ext w135 w215 := hx217 rfl
       obtain ⟨p222, h223, h224⟩ := (hd219 3 rfl)
       exact lp rfl rfl (X_loadS Tryz.isAgg58 Tryz.sizeOf58 rfl h223 (At.ext h224 e221)) <| L_nil <| stepS rfl rfl rfl er rfl
      ·intro s225 w226 hb227 hx228 hf229 hd230 hu231
       have e232 : Ext w135 w226 := hx228 rfl
       exact lp rfl rfl (X_move (v := v_a1) ((hf229 1 rfl).trans ((K139 1 rfl).trans ((K76 1 rfl).trans ((K34 1 rfl).trans (K23 1 rfl)))))) <| L_nil <| stepS rfl rfl rfl er rfl
      ·intro s233 w234 hb235 hx236 hf237 hd238 hu239
       have e240 : Ext w135 w234 := hx236 rfl
       exact lp rfl rfl (X_move (v := (.int .i64 x7_10)) ((hf237 7 rfl).trans ((K139 7 rfl).trans ((K76 7 rfl).trans ((K34 7 rfl).trans h29))))) <| L_nil <| stepS rfl rfl rfl er rfl
      ·intro s241 w242 hb243 hx244 hf245 hd246 hu247
       have e248 : Ext w135 w242 := hx244 rfl
       have d249 : s241 24 = v_a1 := (hd246 5 rfl)
       have d250 : s241 25 = (.int .i64 x7_10) := (hd246 6 rfl)
       have c251 := c160
       exact L_idx (.plain rfl) rfl (ltb rfl) rfl Tryz.underlying35 Tryz.sizeOf58 d249 (Rd.ext f_a1 ((((e5.t e24).t e36).t e73).t e136)) d250 c251 <| fun p252 h253 => L_nil <| stepS rfl rfl rfl er ⟨_, rfl, h253⟩
      ·intro s254 w255 hb256 hx257 hf258 hd259 hu260
       have e261 : Ext w135 w255 := hx257 rfl
       obtain ⟨p262, h263, h264⟩ := (hd259 7 rfl)
       exact lp rfl rfl (X_loadS Tryz.isAgg58 Tryz.sizeOf58 rfl h263 (At.ext h264 e261)) <| L_nil <| stepS rfl rfl rfl er rfl
      ·intro s265 w266 hb267 hx268 hf269 hd270 hu271
       have e272 : Ext w135 w266 := hx268 rfl
       have d273 : s265 23 = (.agg (encRec (gt a0 x6_9)).toArray) := (hd270 4 rfl)
       have d274 : s265 27 = (.agg (encRec (gt a1 x7_10)).toArray) := (hd270 8 rfl)
       exact lc rfl rfl rfl Tryz.call206 (spec_l06Over.calls (w := w266) (a0 := gt a0 x6_9) (a1 := gt a1 x7_10)) (cons2 d273 (cons2 d274 rfl)) <| fun w275 e276 => L_nil <| stepS rfl rfl rfl e276 rfl
      ·intro s277 w278 hb279 hx280 hf281 hd282 hu283
       have e284 : Ext w135 w278 := hx280 rfl
       have d285 : s277 28 = (.agg (encRec (overR (gt a0 x6_9) (gt a1 x7_10))).toArray) := (hd282 9 rfl)
       exact L_lit (.plain rfl) rfl (ltb rfl) rfl Tryz.underlying35 Tryz.sizeOf58 Tryz.zeroValue58 rfl rfl rfl (vs := [(.agg (encRec (overR (gt a0 x6_9) (gt a1 x7_10))).toArray)]) (cons2 d285 rfl) (lit_all rfl) <| fun b286 w287 z288 z289 e290 k291 => L_nil <| stepS rfl rfl rfl e290 (Ow.rd (Ow.new (xs := [(overR (gt a0 x6_9) (gt a1 x7_10))]) (sz := 5) (enc := encRec) (base := w278.heap.size) k291 (Nat.le_of_eq z288) rfl (fun _ _ => by rfl) (Nat.le_of_ble_eq_true rfl)))
      ·intro s292 w293 hb294 hx295 hf296 hd297 hu298
       have e299 : Ext w135 w293 := hx295 rfl
       have d300 : s292 19 = v8 := (hd297 0 rfl)
       have d301 : Rd 5 encRec w293 (s292 29) ([(overR (gt a0 x6_9) (gt a1 x7_10))] : List Rec) := (hd297 10 rfl)
       have c302 := c171
       exact L_append (enc := encRec) (.plain rfl) rfl (ltb rfl) rfl El.t35 d300 rfl (Ow.ext h27 (((e36.t e73).t e136).t e299)) d301 (ones_Rec _) (od c302) (((((e24.t e36).t e73).t e136).t e299)).size <| fun v303 w304 o305 z306 g307 => L_nil <| stepH rfl rfl rfl (g307 _ (Below.refl _ _)) o305
      ·intro s308 w309 hb310 hx311 hf312 hd313 hu314
       have e315 : Ext w2 w309 := Below.trans (((e24.t e36).t e73).t e136) hb310
       have d316 : Ow 58 5 encRec w2.heap.size w309 (s308 30) (x5_7 ++ ([(overR (gt a0 x6_9) (gt a1 x7_10))] : List Rec)) := (hd313 11 rfl)
       exact lp rfl rfl (X_assign (v := (s308 30)) rfl) <| L_nil <| stepS rfl rfl rfl er d316
      intro s317 w318 hb319 hf321 ha322
      have K323 := Kp.ofD (kp := [(5, 6), (19, 31)]) rfl hf321
      have e320 : Ext w2 w318 := Below.trans (((e24.t e36).t e73).t e136) hb319
      have d324 : Ow 58 5 encRec w2.heap.size w318 (s317 5) (x5_7 ++ ([(overR (gt a0 x6_9) (gt a1 x7_10))] : List Rec)) := ha322 12 rfl rfl
      clear ha322 hf321
      refine thn_n <| wr <| lp rfl rfl (X_move (v := (.int .i64 x6_9)) ((K323 6 rfl).trans ((K139 6 rfl).trans ((K76 6 rfl).trans ((K34 6 rfl).trans h28))))) <| lp rfl rfl (X_add rfl rfl) <| lp rfl rfl (X_assign (v := (.int .i64 (IntKind.wrap .i64 (x6_9 + 1)))) rfl) <| nx <| W_reg <| lp rfl rfl (X_move (v := (.int .i64 x7_10)) ((K323 7 rfl).trans ((K139 7 rfl).trans ((K76 7 rfl).trans ((K34 7 rfl).trans h29))))) <| lp rfl rfl (X_add rfl rfl) <| lp rfl rfl (X_assign (v := (.int .i64 (IntKind.wrap .i64 (x7_10 + 1)))) rfl) <| L_nil <| blk_n <| blk_n <| thn_n ?_
      obtain rfl := si H
      exact ⟨_, Nat.lt_succ_self _, x5_7 ++ ([(overR (gt a0 x6_9) (gt a1 x7_10))] : List Rec), (s317 5), IntKind.wrap .i64 (x6_9 + 1), IntKind.wrap .i64 (x7_10 + 1), (ku2 (ku4 (Kp.cut (Kp.cut (Kp.cut (Kp.cut (ku1 (ku4 K23 rfl) rfl) K34 rfl) K76 rfl) K139 rfl) K323 rfl) rfl) rfl), rfl, d324, rfl, rfl, e320, S31⟩
   ·refine W_false (h35.trans (cb q38)) <| W_exit <| thn_x <| thn_x <| blk_x <| thn_n ?_
    obtain rfl := si H
    obtain rfl := si S31
    exact ⟨x5_7, v8, (Kp.cut (ku1 (ku4 K23 rfl) rfl) K34 rfl), ((K34 5 rfl).trans h26), (Ow.ext h27 e36), (e24.t e36), rfl⟩
 ·rintro s17 w16 ⟨x5_14, v15, K18, h325, h326, e19, y327⟩
  rw [y327] at C13
  have H := C13
  replace H : _ = some _ := H
  refine thn_n <| wr <| lp rfl rfl (X_move h325) ?_
  obtain ⟨c328, H⟩ := bif_some H
  obtain ⟨c329, H⟩ := bif_some H
  refine L_callO (.plain rfl) rfl (ltb rfl) rfl Tryz.call124 (spec_l03Canon.calls (w := w16) (a0 := x5_14) (Ow.rd h326) (od c328) (od c329)) rfl <| fun v332 w330 e331 o333 => lp rfl rfl (X_assign (v := v332) rfl) <| nx <| W_ret <| fin_r ?_
  obtain rfl := si H
  exact fin1o rfl ((e5.t e19).t e331) o333 ((e5.t e19)).size
theorem spec_l06Two.calls {w : World} {a0 : List Rec} {a1 : List Rec} {v_a0 : Value} (f_a0 : Rd 5 encRec w v_a0 a0) {v_a1 : Value} (f_a1 : Rd 5 encRec w v_a1 a1) (h0 : a0.length ≤ 500000) (h1 : a1.length ≤ 500000) (h2 : sheetB a0 = true) (h3 : sheetB a1 = true) :
  Calls Tryz.prog 121 #[v_a0, v_a1] w (Rt (RO 58 5 encRec w (squashL a0 a1))) := by
 obtain ⟨k, h⟩ := spec_l06Two.eq a0 a1 h0 h1 h2 h3
 exact spec_l06Two.walk f_a0 f_a1 h
/-! impl.squash -/
abbrev impl_squash.e1 (a0 : List Rec) (a1 : List Rec) (x17_22 : Int) := (gt a1 (findR a1 (gt (pathsL ([a0, a1] : List (List Rec))) x17_22)))
theorem impl_squash.walk {k : Nat} {w : World} {a0 : List Rec} {a1 : List Rec} (gv : GV 0 w) {v_a0 : Value} (f_a0 : Rd 5 encRec w v_a0 a0) {v_a1 : Value} (f_a1 : Rd 5 encRec w v_a1 a1) {r : List Rec} (H : impl_squash.sh k a0 a1 = some r) :
  Calls Tryz.prog 119 #[v_a0, v_a1] w (Rt (RO 58 5 encRec w r)) := by
 unfold impl_squash.sh at H
 refine calls_of_W Tryz.func119 rfl (Nat.le_of_ble_eq_true rfl) Tryz.ntmps119 rfl ?_
 refine wr <| lp rfl rfl (X_assign (v := (.slice none 0 0)) rfl) <| nx <| wr <| L_lit (.plain rfl) rfl (ltb rfl) rfl Tryz.underlying35 Tryz.sizeOf58 Tryz.zeroValue58 rfl rfl rfl (vs := []) rfl (lit_all rfl) <| fun b1 w2 z3 z4 e5 k6 => lp rfl rfl (X_assign (v := (.slice (some ⟨b1, 0, none⟩) 0 0)) rfl) <| nx <| W_seq <| wr <| lp rfl rfl (X_move (v := v_a0) rfl) <| lp rfl rfl (X_move (v := v_a1) rfl) <| L_lit (.plain rfl) rfl (ltb rfl) rfl Tryz.underlying23 Tryz.sizeOf35 Tryz.zeroValue35 rfl rfl rfl (vs := [v_a0, v_a1]) rfl (by simp; exact ⟨(Rd.one (Rd.ext f_a0 e5)), (Rd.one (Rd.ext f_a1 e5))⟩) <| fun b7 w8 z9 z10 e11 k12 => ?_
 obtain ⟨c13, H⟩ := bif_some H
 obtain ⟨c14, H⟩ := bif_some H
 obtain ⟨c15, H⟩ := bif_some H
 refine L_callO (.plain rfl) rfl (ltb rfl) rfl Tryz.call134 (impl_paths.calls (w := w8) (a0 := ([a0, a1] : List (List Rec))) (GV.ext gv (e5.t e11)) (Rd2.new (vs := [v_a0, v_a1]) k12 ⟨(Rd.ext f_a0 (e5.t e11)), (Rd.ext f_a1 (e5.t e11)), trivial⟩ (Nat.le_of_ble_eq_true rfl)) (od c13) (od c14) (od c15)) rfl <| fun v18 w16 e17 o19 => lp rfl rfl (X_lenR Tryz.underlying42 rfl (Ow.rd o19)) <| lp rfl rfl (X_move (v := (.int .i64 0)) rfl) <| nx ?_
 obtain ⟨z23, L24, C25⟩ := bind_some H
 clear H
 refine  W_cutQ (fun s0 sQ wQ => ∃ (x5_26 : List Rec) (v27 : Value), Kp [(5, 6), (7, 11), (17, 66)] s0 sQ ∧ sQ 5 = v27 ∧ Ow 58 5 encRec w16.heap.size wQ v27 x5_26 ∧ Ext w16 wQ ∧ z23 = .inr x5_26) ?_ ?_
 ·refine W_block <| W_loopI (fun s0 kk sQ wQ => ∃ (x5_20 : List Rec) (v21 : Value) (x17_22 : Int), Kp [(5, 6), (7, 11), (17, 66)] s0 sQ ∧ sQ 5 = v21 ∧ Ow 58 5 encRec w16.heap.size wQ v21 x5_20 ∧ sQ 17 = .int .i64 x17_22 ∧ Ext w16 wQ ∧ loopF (impl_squash.b1 a0 a1) kk (x5_20, x17_22) = some z23) k ⟨([] : List Rec), (.slice (some ⟨b1, 0, none⟩) 0 0), 0, kz, rfl, (Ow.zero), rfl, er, L24⟩ ?_
  rintro k32 s33 w34 ⟨x5_20, v21, x17_22, K35, h38, h39, h40, e36, L37⟩
  cases k32 with
  | zero => exact absurd L37 (by simp [loopF])
  | succ k32 =>
   obtain ⟨t41, H, S42⟩ := loopF_succ L37
   clear L37
   unfold impl_squash.b1 at H
   refine wr <| lp rfl rfl (X_lss h40 (K35 16 rfl)) <| nx <| W_seq ?_
   rcases bif_two H with ⟨q43, H⟩ | ⟨q43, H⟩
   ·refine W_true (cb q43) <| W_skip <| thn_n <| W_seq <| W_block <| wr ?_
    obtain ⟨c44, H⟩ := bif_some H
    refine L_idx (.plain rfl) rfl (ltb rfl) rfl Tryz.underlying42 Tryz.sizeOf9 (K35 15 rfl) (Ow.rd (Ow.ext o19 e36)) h40 c44 <| fun p45 h46 => lp rfl rfl (X_loadAt Tryz.isAgg9 rfl h46 rfl) <| lp rfl rfl (X_assign (v := (S (gt (pathsL ([a0, a1] : List (List Rec))) x17_22))) rfl) <| nx <| wr <| lp rfl rfl (X_move (v := v_a0) (K35 0 rfl)) <| lp rfl rfl (X_move (v := (S (gt (pathsL ([a0, a1] : List (List Rec))) x17_22))) rfl) ?_
    obtain ⟨c47, H⟩ := bif_some H
    refine lc rfl rfl rfl Tryz.call135 (impl_find.calls (w := w34) (a0 := a0) (a1 := gt (pathsL ([a0, a1] : List (List Rec))) x17_22) (Rd.ext f_a0 (((e5.t e11).t e17).t e36)) (od c47)) rfl <| fun w48 e49 => lp rfl rfl (X_move (v := v_a1) (K35 1 rfl)) <| lp rfl rfl (X_move (v := (S (gt (pathsL ([a0, a1] : List (List Rec))) x17_22))) rfl) ?_
    obtain ⟨c50, H⟩ := bif_some H
    refine lc rfl rfl rfl Tryz.call135 (impl_find.calls (w := w48) (a0 := a1) (a1 := gt (pathsL ([a0, a1] : List (List Rec))) x17_22) (Rd.ext f_a1 ((((e5.t e11).t e17).t e36).t e49)) (od c50)) rfl <| fun w51 e52 => lp rfl rfl (X_assign rfl) <| lp rfl rfl (X_assign rfl) <| nx <| W_block <| wr <| lp rfl rfl (X_move rfl) <| lp rfl rfl (X_geq rfl rfl) <| lp rfl rfl (X_assign rfl) <| nx ?_
    rcases bif_two H with ⟨q53, H⟩ | ⟨q53, H⟩
    ·refine W_true (cb q53) <| wr <| lp rfl rfl (X_move (v := v_a1) (K35 1 rfl)) <| lp rfl rfl (X_move rfl) ?_
     obtain ⟨c54, H⟩ := bif_some H
     refine L_idx (.plain rfl) rfl (ltb rfl) rfl Tryz.underlying35 Tryz.sizeOf58 rfl (Rd.ext f_a1 (((((e5.t e11).t e17).t e36).t e49).t e52)) rfl c54 <| fun p55 h56 => lp rfl rfl (X_loadS Tryz.isAgg58 Tryz.sizeOf58 rfl rfl h56) <| L_alloc (.plain rfl) rfl (ltb rfl) rfl Tryz.zeroValue58 <| fun b57 w58 z59 z60 e61 k62 => L_storeA (.plain rfl) rfl rfl Tryz.sizeOf58 rfl rfl rfl rfl rfl k62 <| fun w63 h64 k65 => nx <| W_seq <| wr <| lp rfl rfl (X_move rfl) <| lp rfl rfl (X_geq rfl rfl) <| lp rfl rfl (X_move rfl) <| L_grp 4 [(37, 41)] 40 (.bool ((decide (0 ≤ (findR a0 (gt (pathsL ([a0, a1] : List (List Rec))) x17_22)))) && (decide (((impl_squash.e1 a0 a1 x17_22).kind) = 3)))) ?_ ?_
     ·rcases bool_two (decide (0 ≤ (findR a0 (gt (pathsL ([a0, a1] : List (List Rec))) x17_22)))) with b65_ | b65_
      ·exact lg rfl rfl rfl rfl (cb b65_) (X_fieldAddr Tryz.underlying58 rfl Tryz.sizeOf3 rfl rfl) <| lg rfl rfl rfl rfl (cb b65_) (X_loadB Tryz.isAgg3 k65 rfl rfl) <| lg rfl rfl rfl rfl (cb b65_) (X_eql rfl rfl) <| lp rfl rfl (X_pick (b := true) (v := (.bool (decide (((impl_squash.e1 a0 a1 x17_22).kind) = 3)))) (cb b65_) rfl) <| nx ⟨(ku4 kz rfl), (and_t b65_), er⟩
      ·exact ls rfl rfl rfl (cb b65_) rfl <| ls rfl rfl rfl (cb b65_) rfl <| ls rfl rfl rfl (cb b65_) rfl <| lp rfl rfl (X_pick (b := false) (v := (.bool false)) (cb b65_) rfl) <| nx ⟨(ku4 kz rfl), (and_f b65_), er⟩
     intro s71 w67 K68 h69 e70
     refine lp rfl rfl (X_move h69) ?_
     obtain ⟨z73, x74, H⟩ := bind_some H
     refine L_grpE 6 [(42, 48)] 47 (fun q => q = z73) ?_ ?_
     ·rcases bif_two x74 with ⟨b71_, H⟩ | ⟨b71_, H⟩
      ·refine lg rfl rfl rfl rfl (cb b71_) (X_move (v := v_a0) ((K68 0 rfl).trans (K35 0 rfl))) <| lg rfl rfl rfl rfl (cb b71_) (X_move (K68 8 rfl)) ?_
       obtain ⟨c73, H⟩ := bif_some H
       refine L_idx (tg rfl rfl rfl (cb b71_)) rfl (ltb rfl) rfl Tryz.underlying35 Tryz.sizeOf58 rfl (Rd.ext f_a0 (((((((e5.t e11).t e17).t e36).t e49).t e52).t (Below.trans e61 (Wr.below h64 (Nat.le_of_eq z59)))).t e70)) rfl c73 <| fun p74 h75 => lg rfl rfl rfl rfl (cb b71_) (X_loadS Tryz.isAgg58 Tryz.sizeOf58 rfl rfl h75) <| L_callP (tg rfl rfl rfl (cb b71_)) rfl (ltb rfl) rfl Tryz.call204 (impl_stops.calls (w := w67) (a0 := gt a0 (findR a0 (gt (pathsL ([a0, a1] : List (List Rec))) x17_22)))) rfl <| fun w76 e77 => lp rfl rfl (X_pick (b := true) (v := (.bool (stopsR (gt a0 (findR a0 (gt (pathsL ([a0, a1] : List (List Rec))) x17_22)))))) (cb b71_) rfl) ?_
       obtain rfl := si H
       exact nx ⟨(ku2 (ku4 kz rfl) rfl), ⟨_, rfl, rfl⟩, e77⟩
      ·refine ls rfl rfl rfl (cb b71_) rfl <| ls rfl rfl rfl (cb b71_) rfl <| ls rfl rfl rfl (cb b71_) rfl <| ls rfl rfl rfl (cb b71_) rfl <| ls rfl rfl rfl (cb b71_) rfl <| lp rfl rfl (X_pick (b := false) (v := (.bool false)) (cb b71_) rfl) ?_
       obtain rfl := si H
       exact nx ⟨(ku2 (ku4 kz rfl) rfl), ⟨_, rfl, rfl⟩, er⟩
     intro s79 w75 z80 K76 hq h77 e78
     rw [hq] at h77; clear hq
     refine nx ?_
     rcases bif_two H with ⟨q81, H⟩ | ⟨q81, H⟩
     ·refine W_true (h77.trans (cb q81)) <| W_reg <| lp rfl rfl (X_fieldAddr Tryz.underlying58 rfl Tryz.sizeOf4 rfl ((K76 10 rfl).trans (K68 10 rfl))) <| L_store1 (.plain rfl) rfl rfl Tryz.sizeOf4 rfl rfl rfl (Blk.ext k65 (e70.t e78)) (ltb rfl) <| fun w82 h83 k84 => nx <| W_reg <| lp rfl rfl (X_move (v := v21) ((K76 5 rfl).trans ((K68 5 rfl).trans h38))) <| lp rfl rfl (X_loadS Tryz.isAgg58 Tryz.sizeOf58 rfl ((K76 10 rfl).trans (K68 10 rfl)) (Blk.at0 k84)) <| L_lit (.plain rfl) rfl (ltb rfl) rfl Tryz.underlying35 Tryz.sizeOf58 Tryz.zeroValue58 rfl rfl rfl (vs := [(.agg #[(.int .i64 ((impl_squash.e1 a0 a1 x17_22).kind)), (S ((impl_squash.e1 a0 a1 x17_22).path)), (S ((impl_squash.e1 a0 a1 x17_22).body)), (.int .i64 ((impl_squash.e1 a0 a1 x17_22).mode)), (.bool true)])]) rfl (lit_all rfl) <| fun b85 w86 z87 z88 e89 k90 => ?_
      obtain ⟨c91, H⟩ := bif_some H
      refine L_append (enc := encRec) (.plain rfl) rfl (ltb rfl) rfl El.t35 rfl rfl (Ow.ext h39 (((e49.t e52).t (Below.trans (Ext.trans (Ext.trans (Below.trans e61 (Wr.below h64 (Nat.le_of_eq z59))) e70) e78) (Wr.below h83 (Nat.le_of_eq z59)))).t e89)) (Ow.rd (Ow.new (xs := [(⟨(impl_squash.e1 a0 a1 x17_22).kind, (impl_squash.e1 a0 a1 x17_22).path, (impl_squash.e1 a0 a1 x17_22).body, (impl_squash.e1 a0 a1 x17_22).mode, true⟩ : Rec)]) (sz := 5) (enc := encRec) (base := w82.heap.size) k90 (Nat.le_of_eq z87) rfl (fun _ _ => by rfl) (Nat.le_of_ble_eq_true rfl))) (ones_Rec _) (od c91) (((((e36.t e49).t e52).t (Below.trans (Ext.trans (Ext.trans (Below.trans e61 (Wr.below h64 (Nat.le_of_eq z59))) e70) e78) (Wr.below h83 (Nat.le_of_eq z59)))).t e89)).size <| fun v92 w93 o94 z95 g96 => lp rfl rfl (X_assign (v := v92) rfl) <| L_nil <| blk_n <| blk_n <| thn_n <| W_reg <| lp rfl rfl (X_add ((K76 17 rfl).trans ((K68 17 rfl).trans h40)) rfl) <| lp rfl rfl (X_move (v := (.int .i64 (IntKind.wrap .i64 (x17_22 + 1)))) rfl) <| nx ?_
      obtain rfl := si H
      exact ⟨_, Nat.lt_succ_self _, x5_20 ++ ([(⟨(impl_squash.e1 a0 a1 x17_22).kind, (impl_squash.e1 a0 a1 x17_22).path, (impl_squash.e1 a0 a1 x17_22).body, (impl_squash.e1 a0 a1 x17_22).mode, true⟩ : Rec)] : List Rec), v92, IntKind.wrap .i64 (x17_22 + 1), (ku8 (Kp.cut (ku1 (Kp.cut (ku3 (ku4 (ku8 (ku8 K35 rfl) rfl) rfl) rfl) K68 rfl) rfl) K76 rfl) rfl), rfl, o94, rfl, (g96 _ ((((e36.t e49).t e52).t (Below.trans (Ext.trans (Ext.trans (Below.trans e61 (Wr.below h64 (Nat.le_of_eq z59))) e70) e78) (Wr.below h83 (Nat.le_of_eq z59)))).t e89)), S42⟩
     ·refine W_false (h77.trans (cb q81)) <| W_skip <| thn_n <| W_reg <| lp rfl rfl (X_move (v := v21) ((K76 5 rfl).trans ((K68 5 rfl).trans h38))) <| lp rfl rfl (X_loadS Tryz.isAgg58 Tryz.sizeOf58 rfl ((K76 10 rfl).trans (K68 10 rfl)) (Blk.at0 (Blk.ext k65 (e70.t e78)))) <| L_lit (.plain rfl) rfl (ltb rfl) rfl Tryz.underlying35 Tryz.sizeOf58 Tryz.zeroValue58 rfl rfl rfl (vs := [(.agg #[(.int .i64 ((impl_squash.e1 a0 a1 x17_22).kind)), (S ((impl_squash.e1 a0 a1 x17_22).path)), (S ((impl_squash.e1 a0 a1 x17_22).body)), (.int .i64 ((impl_squash.e1 a0 a1 x17_22).mode)), (.bool ((impl_squash.e1 a0 a1 x17_22).opq))])]) rfl (lit_all rfl) <| fun b97 w98 z99 z100 e101 k102 => ?_
      obtain ⟨c103, H⟩ := bif_some H
      refine L_append (enc := encRec) (.plain rfl) rfl (ltb rfl) rfl El.t35 rfl rfl (Ow.ext h39 (((((e49.t e52).t (Below.trans e61 (Wr.below h64 (Nat.le_of_eq z59)))).t e70).t e78).t e101)) (Ow.rd (Ow.new (xs := [(impl_squash.e1 a0 a1 x17_22)]) (sz := 5) (enc := encRec) (base := w75.heap.size) k102 (Nat.le_of_eq z99) rfl (fun _ _ => by rfl) (Nat.le_of_ble_eq_true rfl))) (ones_Rec _) (od c103) (((((((e36.t e49).t e52).t (Below.trans e61 (Wr.below h64 (Nat.le_of_eq z59)))).t e70).t e78).t e101)).size <| fun v104 w105 o106 z107 g108 => lp rfl rfl (X_assign (v := v104) rfl) <| L_nil <| blk_n <| blk_n <| thn_n <| W_reg <| lp rfl rfl (X_add ((K76 17 rfl).trans ((K68 17 rfl).trans h40)) rfl) <| lp rfl rfl (X_move (v := (.int .i64 (IntKind.wrap .i64 (x17_22 + 1)))) rfl) <| nx ?_
      obtain rfl := si H
      exact ⟨_, Nat.lt_succ_self _, x5_20 ++ ([(impl_squash.e1 a0 a1 x17_22)] : List Rec), v104, IntKind.wrap .i64 (x17_22 + 1), (ku3 (ku4 (Kp.cut (ku1 (Kp.cut (ku3 (ku4 (ku8 (ku8 K35 rfl) rfl) rfl) rfl) K68 rfl) rfl) K76 rfl) rfl) rfl), rfl, o106, rfl, (g108 _ ((((((e36.t e49).t e52).t (Below.trans e61 (Wr.below h64 (Nat.le_of_eq z59)))).t e70).t e78).t e101)), S42⟩
    ·refine W_false (cb q53) <| wr <| lp rfl rfl (X_move (v := v_a1) (K35 1 rfl)) <| lp rfl rfl (X_move (v := (S (gt (pathsL ([a0, a1] : List (List Rec))) x17_22))) rfl) ?_
     obtain ⟨c109, H⟩ := bif_some H
     obtain ⟨c110, H⟩ := bif_some H
     refine lc rfl rfl rfl Tryz.call122 (impl_cuts.calls (w := w51) (a0 := a1) (a1 := gt (pathsL ([a0, a1] : List (List Rec))) x17_22) (Rd.ext f_a1 (((((e5.t e11).t e17).t e36).t e49).t e52)) (od c109) (od c110)) rfl <| fun w111 e112 => lp rfl rfl (X_not rfl) <| lp rfl rfl (X_assign rfl) <| nx ?_
     rcases bif_two H with ⟨q113, H⟩ | ⟨q113, H⟩
     ·refine W_true (cb q113) <| W_reg <| lp rfl rfl (X_move h38) <| lp rfl rfl (X_move (v := v_a0) (K35 0 rfl)) <| lp rfl rfl (X_move rfl) ?_
      obtain ⟨c114, H⟩ := bif_some H
      refine L_idx (.plain rfl) rfl (ltb rfl) rfl Tryz.underlying35 Tryz.sizeOf58 rfl (Rd.ext f_a0 ((((((e5.t e11).t e17).t e36).t e49).t e52).t e112)) rfl c114 <| fun p115 h116 => lp rfl rfl (X_loadS Tryz.isAgg58 Tryz.sizeOf58 rfl rfl h116) <| L_lit (.plain rfl) rfl (ltb rfl) rfl Tryz.underlying35 Tryz.sizeOf58 Tryz.zeroValue58 rfl rfl rfl (vs := [(.agg (encRec (gt a0 (findR a0 (gt (pathsL ([a0, a1] : List (List Rec))) x17_22)))).toArray)]) rfl (lit_all rfl) <| fun b117 w118 z119 z120 e121 k122 => ?_
      obtain ⟨c123, H⟩ := bif_some H
      refine L_append (enc := encRec) (.plain rfl) rfl (ltb rfl) rfl El.t35 rfl rfl (Ow.ext h39 (((e49.t e52).t e112).t e121)) (Ow.rd (Ow.new (xs := [gt a0 (findR a0 (gt (pathsL ([a0, a1] : List (List Rec))) x17_22))]) (sz := 5) (enc := encRec) (base := w111.heap.size) k122 (Nat.le_of_eq z119) rfl (fun _ _ => by rfl) (Nat.le_of_ble_eq_true rfl))) (ones_Rec _) (od c123) (((((e36.t e49).t e52).t e112).t e121)).size <| fun v124 w125 o126 z127 g128 => lp rfl rfl (X_assign (v := v124) rfl) <| L_nil <| blk_n <| blk_n <| thn_n <| W_reg <| lp rfl rfl (X_add h40 rfl) <| lp rfl rfl (X_move (v := (.int .i64 (IntKind.wrap .i64 (x17_22 + 1)))) rfl) <| nx ?_
      obtain rfl := si H
      exact ⟨_, Nat.lt_succ_self _, x5_20 ++ ([gt a0 (findR a0 (gt (pathsL ([a0, a1] : List (List Rec))) x17_22))] : List Rec), v124, IntKind.wrap .i64 (x17_22 + 1), (ku2 (ku4 (ku8 (ku8 (ku8 K35 rfl) rfl) rfl) rfl) rfl), rfl, o126, rfl, (g128 _ ((((e36.t e49).t e52).t e112).t e121)), S42⟩
     ·refine W_false (cb q113) <| W_skip <| blk_n <| blk_n <| thn_n <| W_reg <| lp rfl rfl (X_add h40 rfl) <| lp rfl rfl (X_move (v := (.int .i64 (IntKind.wrap .i64 (x17_22 + 1)))) rfl) <| nx ?_
      obtain rfl := si H
      exact ⟨_, Nat.lt_succ_self _, x5_20, v21, IntKind.wrap .i64 (x17_22 + 1), (ku2 (ku4 (ku8 (ku8 K35 rfl) rfl) rfl) rfl), h38, (Ow.ext h39 ((e49.t e52).t e112)), rfl, (((e36.t e49).t e52).t e112), S42⟩
   ·refine W_false (cb q43) <| W_exit <| thn_x <| thn_x <| blk_x <| thn_n ?_
    obtain rfl := si H
    obtain rfl := si S42
    exact ⟨x5_20, v21, (ku1 K35 rfl), h38, h39, e36, rfl⟩
 ·rintro s29 w28 ⟨x5_26, v27, K30, h129, h130, e31, y131⟩
  rw [y131] at C25
  have H := C25
  replace H : _ = some _ := H
  refine thn_n <| wr <| lp rfl rfl (X_move h129) ?_
  obtain ⟨c132, H⟩ := bif_some H
  obtain ⟨c133, H⟩ := bif_some H
  refine L_callO (.plain rfl) rfl (ltb rfl) rfl Tryz.call132 (impl_canonical.calls (w := w28) (a0 := x5_26) (GV.ext gv (((e5.t e11).t e17).t e31)) (Ow.rd h130) (od c132) (od c133)) rfl <| fun v136 w134 e135 o137 => lp rfl rfl (X_assign (v := v136) rfl) <| nx <| W_ret <| fin_r ?_
  obtain rfl := si H
  exact fin1o rfl ((((e5.t e11).t e17).t e31).t e135) o137 ((((e5.t e11).t e17).t e31)).size
theorem impl_squash.calls {w : World} {a0 : List Rec} {a1 : List Rec} (gv : GV 0 w) {v_a0 : Value} (f_a0 : Rd 5 encRec w v_a0 a0) {v_a1 : Value} (f_a1 : Rd 5 encRec w v_a1 a1) (h0 : a0.length ≤ 500000) (h1 : a1.length ≤ 500000) (h2 : sheetB a0 = true) (h3 : sheetB a1 = true) :
  Calls Tryz.prog 119 #[v_a0, v_a1] w (Rt (RO 58 5 encRec w (squashL a0 a1))) := by
 obtain ⟨k, h⟩ := impl_squash.eq a0 a1 h0 h1 h2 h3
 exact impl_squash.walk gv f_a0 f_a1 h
/-! impl.fitting, by text -/
theorem impl_fitting.calls {w : World} {a : List Rec} {v : Value} (h : Rd 5 encRec w v a) :
    Calls Tryz.prog 118 #[v] w (Rt (fun r w' => r = .tuple #[fitV v a, .int .i64 (fitC a)] ∧ Ext w w')) := by
  refine calls_of_W Tryz.func118 rfl (Nat.le_of_ble_eq_true rfl) Tryz.ntmps118 rfl ?_
  refine wr <| lp rfl rfl (X_assign rfl) <| lp rfl rfl (X_assign rfl) <| nx <| W_seq <| wr <| lp rfl rfl (X_move (v := v) rfl) <| lp rfl rfl (X_lenR Tryz.underlying35 rfl h) <|
    lp rfl rfl (X_gtr rfl rfl) <| nx ?_
  by_cases hc : 16 < a.length
  · refine W_true (cb (decide_eq_true (by omega))) <| wr <| lp rfl rfl (X_assign rfl) <| lp rfl rfl (X_assign rfl) <| nx <| W_ret <| thn_r <| fin_r ?_
    exact ⟨_, rfl, by simp only [fitV, fitC, hc, if_true]; rfl, Ext.refl _⟩
  · refine W_false (cb (decide_eq_false (by omega))) <| W_skip <| thn_n <| wr <| lp rfl rfl (X_move (v := v) rfl) <| lp rfl rfl (X_assign (v := v) rfl) <| lp rfl rfl (X_assign rfl) <| nx <| W_ret <| fin_r ?_
    exact ⟨_, rfl, by simp only [fitV, fitC, hc, if_false]; rfl, Ext.refl _⟩

/-! impl.Squash -/
theorem impl_Squash.walk {w : World} {a0 : List Rec} {a1 : List Rec} (gv : GV 0 w) {v_a0 : Value} (f_a0 : Rd 5 encRec w v_a0 a0) {v_a1 : Value} (f_a1 : Rd 5 encRec w v_a1 a1) {r : List Rec × Int} (H : impl_Squash.sh a0 a1 = some r) :
  Calls Tryz.prog 27 #[v_a0, v_a1] w (Rt (RT 58 5 encRec w r.1 (.int .i64 r.2))) := by
 unfold impl_Squash.sh at H
 refine calls_of_W Tryz.func27 rfl (Nat.le_of_ble_eq_true rfl) Tryz.ntmps27 rfl ?_
 refine wr <| lp rfl rfl (X_assign (v := (.slice none 0 0)) rfl) <| lp rfl rfl (X_assign (v := (.int .i64 0)) rfl) <| nx <| W_seq <| wr <| lp rfl rfl (X_move (v := v_a0) rfl) <| lp rfl rfl (X_move (v := v_a1) rfl) ?_
 obtain ⟨c1, H⟩ := bif_some H
 obtain ⟨c2, H⟩ := bif_some H
 obtain ⟨c3, H⟩ := bif_some H
 obtain ⟨c4, H⟩ := bif_some H
 refine lc rfl rfl rfl Tryz.call117 (impl_pairCode.calls (w := w) (a0 := a0) (a1 := a1) gv f_a0 f_a1 (od c1) (od c2) (od c3) (od c4)) rfl <| fun w5 e6 => lp rfl rfl (X_assign (v := (.int .i64 (pairCode a0 a1))) rfl) <| nx <| wr <| lp rfl rfl (X_move (v := (.int .i64 (pairCode a0 a1))) rfl) <| lp rfl rfl (X_neq rfl rfl) <| nx ?_
 rcases bif_two H with ⟨q7, H⟩ | ⟨q7, H⟩
 ·refine W_true (cb q7) <| wr <| lp rfl rfl (X_move (v := (.int .i64 (pairCode a0 a1))) rfl) <| lp rfl rfl (X_assign (v := (.slice none 0 0)) rfl) <| lp rfl rfl (X_assign (v := (.int .i64 (pairCode a0 a1))) rfl) <| nx <| W_ret <| thn_r <| fin_r ?_
  obtain rfl := si H
  exact fin2o rfl rfl e6 (Ow.zero (base := w.heap.size)) (Nat.le_refl _)
 ·refine W_false (cb q7) <| W_skip <| thn_n <| wr <| lp rfl rfl (X_move (v := v_a0) rfl) <| lp rfl rfl (X_move (v := v_a1) rfl) ?_
  obtain ⟨c8, H⟩ := bif_some H
  obtain ⟨c9, H⟩ := bif_some H
  obtain ⟨c10, H⟩ := bif_some H
  obtain ⟨c11, H⟩ := bif_some H
  refine L_callO (.plain rfl) rfl (ltb rfl) rfl Tryz.call119 (impl_squash.calls (w := w5) (a0 := a0) (a1 := a1) (GV.ext gv e6) (Rd.ext f_a0 e6) (Rd.ext f_a1 e6) (od c8) (od c9) (od c10) (od c11)) rfl <| fun v14 w12 e13 o15 => L_callA (.plain rfl) rfl (ltb rfl) rfl Tryz.call118 (impl_fitting.calls (w := w12) (Ow.rd o15)) rfl <| fun _ w16 hA9 => ?_
  obtain ⟨rfl, e17⟩ := hA9
  refine lp rfl rfl (X_extract (v := (fitV v14 (squashL a0 a1))) rfl rfl) <| lp rfl rfl (X_extract (v := (.int .i64 (fitC (squashL a0 a1)))) rfl rfl) <| lp rfl rfl (X_assign (v := (fitV v14 (squashL a0 a1))) rfl) <| lp rfl rfl (X_assign (v := (.int .i64 (fitC (squashL a0 a1)))) rfl) <| nx <| W_ret <| fin_r ?_
  obtain rfl := si H
  exact fin2o rfl rfl ((e6.t e13).t e17) (Ow.fit (Ow.ext o15 e17)) (e6).size
theorem impl_Squash.calls {w : World} {a0 : List Rec} {a1 : List Rec} (gv : GV 0 w) {v_a0 : Value} (f_a0 : Rd 5 encRec w v_a0 a0) {v_a1 : Value} (f_a1 : Rd 5 encRec w v_a1 a1) (h0 : a0.length ≤ 1048576) (h1 : a1.length ≤ 1048576) (h2 : ∀ x ∈ a0, x.path.length ≤ 1048576) (h3 : ∀ x ∈ a1, x.path.length ≤ 1048576) :
  Calls Tryz.prog 27 #[v_a0, v_a1] w (Rt (RT 58 5 encRec w ((squashOf a0 a1).1) (.int .i64 ((squashOf a0 a1).2)))) := impl_Squash.walk gv f_a0 f_a1 (impl_Squash.eq a0 a1 h0 h1 h2 h3)
/-! spec.l07Paths -/
abbrev spec_l07Paths.e1 (a0 : List (List Rec)) (x3_31 : List (List UInt8)) (x4_9 : Int) (x5_33 : Int) (x7_72 : Int) := ((([] : List (List UInt8)) ++ (sub x3_31 0 x7_72)) ++ ([(gt (gt a0 x4_9) x5_33).path] : List (List UInt8)))
theorem spec_l07Paths.walk {k : Nat} {w : World} {a0 : List (List Rec)} {v_a0 : Value} (f_a0 : Rd2 5 encRec w v_a0 a0) {r : List (List UInt8)} (H : spec_l07Paths.sh k a0 = some r) :
  Calls Tryz.prog 174 #[v_a0] w (Rt (RO 9 1 encS w r)) := by
 unfold spec_l07Paths.sh at H
 refine calls_of_W Tryz.func174 rfl (Nat.le_of_ble_eq_true rfl) Tryz.ntmps174 rfl ?_
 refine wr <| lp rfl rfl (X_assign (v := (.slice none 0 0)) rfl) <| nx <| wr <| L_lit (.plain rfl) rfl (ltb rfl) rfl Tryz.underlying42 Tryz.sizeOf9 Tryz.zeroValue9 rfl rfl rfl (vs := []) rfl (lit_all rfl) <| fun b1 w2 z3 z4 e5 k6 => lp rfl rfl (X_assign (v := (.slice (some ⟨b1, 0, none⟩) 0 0)) rfl) <| nx <| W_seq <| wr <| lp rfl rfl (X_assign (v := (.int .i64 0)) rfl) <| nx ?_
 obtain ⟨z10, L11, C12⟩ := bind_some H
 clear H
 refine  W_cutQ (fun s0 sQ wQ => ∃ (x3_13 : List (List UInt8)) (v14 : Value), Kp [(3, 8), (9, 70)] s0 sQ ∧ sQ 3 = v14 ∧ Ow 9 1 encS w2.heap.size wQ v14 x3_13 ∧ Ext w2 wQ ∧ z10 = .inr x3_13) ?_ ?_
 ·refine W_block <| W_loopI (fun s0 kk sQ wQ => ∃ (x3_7 : List (List UInt8)) (v8 : Value) (x4_9 : Int), Kp [(3, 8), (9, 70)] s0 sQ ∧ sQ 3 = v8 ∧ Ow 9 1 encS w2.heap.size wQ v8 x3_7 ∧ sQ 4 = .int .i64 x4_9 ∧ Ext w2 wQ ∧ loopF (spec_l07Paths.b1 k a0) kk (x3_7, x4_9) = some z10) k ⟨([] : List (List UInt8)), (.slice (some ⟨b1, 0, none⟩) 0 0), 0, kz, rfl, (Ow.zero), rfl, er, L11⟩ ?_
  rintro k19 s20 w21 ⟨x3_7, v8, x4_9, K22, h25, h26, h27, e23, L24⟩
  cases k19 with
  | zero => exact absurd L24 (by simp [loopF])
  | succ k19 =>
   obtain ⟨t28, H, S29⟩ := loopF_succ L24
   clear L24
   unfold spec_l07Paths.b1 at H
   refine W_seq <| wr <| lp rfl rfl (X_move h27) <| lp rfl rfl (X_move (v := v_a0) (K22 0 rfl)) <| lp rfl rfl (X_lenR2 Tryz.underlying23 rfl (Rd2.ext f_a0 (e5.t e23))) <| lp rfl rfl (X_lss rfl rfl) <| nx ?_
   rcases bif_two H with ⟨q30, H⟩ | ⟨q30, H⟩
   ·refine W_true (cb q30) <| W_skip <| thn_n <| W_seq <| W_block <| wr <| lp rfl rfl (X_assign (v := (.int .i64 0)) rfl) <| nx ?_
    obtain ⟨z34, L35, C36⟩ := bind_some H
    clear H
    refine  W_cutQ (fun s0 sQ wQ => ∃ (x3_37 : List (List UInt8)) (v38 : Value), Kp [(3, 4), (5, 8), (15, 70)] s0 sQ ∧ sQ 3 = v38 ∧ Ow 9 1 encS w2.heap.size wQ v38 x3_37 ∧ Ext w21 wQ ∧ z34 = .inr x3_37) ?_ ?_
    ·refine W_block <| W_loopI (fun s0 kk sQ wQ => ∃ (x3_31 : List (List UInt8)) (v32 : Value) (x5_33 : Int), Kp [(3, 4), (5, 8), (15, 70)] s0 sQ ∧ sQ 3 = v32 ∧ Ow 9 1 encS w2.heap.size wQ v32 x3_31 ∧ sQ 5 = .int .i64 x5_33 ∧ Ext w21 wQ ∧ loopF (spec_l07Paths.b2 k a0 x4_9) kk (x3_31, x5_33) = some z34) k ⟨x3_7, v8, 0, kz, h25, h26, rfl, er, L35⟩ ?_
     rintro k43 s44 w45 ⟨x3_31, v32, x5_33, K46, h49, h50, h51, e47, L48⟩
     cases k43 with
     | zero => exact absurd L48 (by simp [loopF])
     | succ k43 =>
      obtain ⟨t52, H, S53⟩ := loopF_succ L48
      clear L48
      unfold spec_l07Paths.b2 at H
      refine W_seq <| wr <| lp rfl rfl (X_move h51) <| lp rfl rfl (X_move (v := v_a0) ((K46 0 rfl).trans (K22 0 rfl))) <| lp rfl rfl (X_move (v := (.int .i64 x4_9)) ((K46 4 rfl).trans h27)) ?_
      obtain ⟨c54, H⟩ := bif_some H
      refine L_idx2 (.plain rfl) rfl (ltb rfl) rfl Tryz.underlying23 Tryz.sizeOf35 rfl (Rd2.ext f_a0 ((e5.t e23).t e47)) rfl c54 <| fun p55 v57 h56 h58 => lp rfl rfl (X_loadAt Tryz.isAgg35 rfl h56 rfl) <| lp rfl rfl (X_lenR Tryz.underlying35 rfl h58) <| lp rfl rfl (X_lss rfl rfl) <| nx ?_
      rcases bif_two H with ⟨q59, H⟩ | ⟨q59, H⟩
      ·refine W_true (cb q59) <| W_skip <| thn_n <| W_seq <| W_block <| wr <| lp rfl rfl (X_move (v := v_a0) ((K46 0 rfl).trans (K22 0 rfl))) <| lp rfl rfl (X_move (v := (.int .i64 x4_9)) ((K46 4 rfl).trans h27)) ?_
       obtain ⟨c60, H⟩ := bif_some H
       refine L_idx2 (.plain rfl) rfl (ltb rfl) rfl Tryz.underlying23 Tryz.sizeOf35 rfl (Rd2.ext f_a0 ((e5.t e23).t e47)) rfl c60 <| fun p61 v63 h62 h64 => lp rfl rfl (X_loadAt Tryz.isAgg35 rfl h62 rfl) <| lp rfl rfl (X_move h51) ?_
       obtain ⟨c65, H⟩ := bif_some H
       refine L_idx (.plain rfl) rfl (ltb rfl) rfl Tryz.underlying35 Tryz.sizeOf58 rfl h64 rfl c65 <| fun p66 h67 => lp rfl rfl (X_fieldAddr Tryz.underlying58 rfl Tryz.sizeOf9 rfl rfl) <| lp rfl rfl (X_loadF Tryz.isAgg9 (j := 1) h67 rfl rfl) <| lp rfl rfl (X_assign (v := (S ((gt (gt a0 x4_9) x5_33).path))) rfl) <| nx <| wr <| lp rfl rfl (X_move h49) <| lp rfl rfl (X_lenR Tryz.underlying42 rfl (Ow.rd h50)) <| lp rfl rfl (X_assign (v := (.int .i64 (x3_31.length : Int))) rfl) <| nx <| W_seq ?_
       obtain ⟨z69, L70, C71⟩ := bind_some H
       clear H
       refine  W_cutQ (fun s0 sQ wQ => ∃ (x7_72 : Int), Kp [(7, 8), (34, 47)] s0 sQ ∧ sQ 7 = .int .i64 x7_72 ∧ Ext w45 wQ ∧ z69 = .inr x7_72) ?_ ?_
       ·refine W_block <| W_loopI (fun s0 kk sQ wQ => ∃ (x7_68 : Int), Kp [(7, 8), (34, 47)] s0 sQ ∧ sQ 7 = .int .i64 x7_68 ∧ Ext w45 wQ ∧ loopF (spec_l07Paths.b3 a0 x4_9 x3_31 x5_33) kk x7_68 = some z69) k ⟨(x3_31.length : Int), kz, rfl, er, L70⟩ ?_
        rintro k77 s78 w79 ⟨x7_68, K80, h83, e81, L82⟩
        cases k77 with
        | zero => exact absurd L82 (by simp [loopF])
        | succ k77 =>
         obtain ⟨t84, H, S85⟩ := loopF_succ L82
         clear L82
         unfold spec_l07Paths.b3 at H
         refine W_seq <| wr <| lp rfl rfl (X_move h83) <| lp rfl rfl (X_gtr rfl rfl) <| lp rfl rfl (X_move (v := (.bool (decide (0 < x7_68)))) rfl) ?_
         obtain ⟨z87, x88, H⟩ := bind_some H
         refine L_grpE 8 [(37, 45)] 44 (fun q => q = z87) ?_ ?_
         ·rcases bif_two x88 with ⟨b85_, H⟩ | ⟨b85_, H⟩
          ·refine lg rfl rfl rfl rfl (cb b85_) (X_move (v := (S ((gt (gt a0 x4_9) x5_33).path))) (K80 6 rfl)) <| lg rfl rfl rfl rfl (cb b85_) (X_move (v := v32) ((K80 3 rfl).trans h49)) <| lg rfl rfl rfl rfl (cb b85_) (X_move h83) <| lg rfl rfl rfl rfl (cb b85_) (X_sub rfl rfl) ?_
           obtain ⟨c87, H⟩ := bif_some H
           refine L_idx (tg rfl rfl rfl (cb b85_)) rfl (ltb rfl) rfl Tryz.underlying42 Tryz.sizeOf9 rfl (Ow.rd (Ow.ext h50 e81)) rfl c87 <| fun p88 h89 => lg rfl rfl rfl rfl (cb b85_) (X_loadAt Tryz.isAgg9 rfl h89 rfl) ?_
           obtain ⟨c90, H⟩ := bif_some H
           obtain ⟨c91, H⟩ := bif_some H
           refine L_callP (tg rfl rfl rfl (cb b85_)) rfl (ltb rfl) rfl Tryz.call205 (spec_l01Less.calls (w := w79) (a0 := (gt (gt a0 x4_9) x5_33).path) (a1 := gt x3_31 (IntKind.wrap .i64 (x7_68 - 1))) (od c90) (od c91)) rfl <| fun w92 e93 => lp rfl rfl (X_pick (b := true) (v := (.bool (lessL (cut 47 ((gt (gt a0 x4_9) x5_33).path)) (cut 47 (gt x3_31 (IntKind.wrap .i64 (x7_68 - 1))))))) (cb b85_) rfl) ?_
           obtain rfl := si H
           exact nx ⟨(ku8 kz rfl), ⟨_, rfl, rfl⟩, e93⟩
          ·refine ls rfl rfl rfl (cb b85_) rfl <| ls rfl rfl rfl (cb b85_) rfl <| ls rfl rfl rfl (cb b85_) rfl <| ls rfl rfl rfl (cb b85_) rfl <| ls rfl rfl rfl (cb b85_) rfl <| ls rfl rfl rfl (cb b85_) rfl <| ls rfl rfl rfl (cb b85_) rfl <| lp rfl rfl (X_pick (b := false) (v := (.bool false)) (cb b85_) rfl) ?_
           obtain rfl := si H
           exact nx ⟨(ku8 kz rfl), ⟨_, rfl, rfl⟩, er⟩
         intro s94 w89 z95 K90 hq h91 e92
         rw [hq] at h91; clear hq
         refine nx ?_
         rcases bif_two H with ⟨q96, H⟩ | ⟨q96, H⟩
         ·refine W_true (h91.trans (cb q96)) <| W_skip <| thn_n <| W_block <| W_reg <| lp rfl rfl (X_move (v := (.int .i64 x7_68)) ((K90 7 rfl).trans h83)) <| lp rfl rfl (X_sub rfl rfl) <| lp rfl rfl (X_assign (v := (.int .i64 (IntKind.wrap .i64 (x7_68 - 1)))) rfl) <| L_nil <| blk_n <| thn_n ?_
          obtain rfl := si H
          exact ⟨_, Nat.lt_succ_self _, IntKind.wrap .i64 (x7_68 - 1), (ku3 (Kp.cut (ku3 K80 rfl) K90 rfl) rfl), rfl, (e81.t e92), S85⟩
         ·refine W_false (h91.trans (cb q96)) <| W_exit <| thn_x <| thn_x <| blk_x <| thn_n ?_
          obtain rfl := si H
          obtain rfl := si S85
          exact ⟨x7_68, (Kp.cut (ku3 K80 rfl) K90 rfl), ((K90 7 rfl).trans h83), (e81.t e92), rfl⟩
       ·rintro s74 w73 ⟨x7_72, K75, h97, e76, y98⟩
        rw [y98] at C71
        have H := C71
        replace H : _ = some _ := H
        refine thn_n <| wr <| lp rfl rfl (X_move h97) <| lp rfl rfl (X_eql rfl rfl) <| lp rfl rfl (X_move (v := (.bool (decide (x7_72 = 0)))) rfl) ?_
        obtain ⟨z100, x101, H⟩ := bind_some H
        refine L_grpE 8 [(50, 58)] 57 (fun q => q = z100) ?_ ?_
        ·rcases bif_two x101 with ⟨b98_, H⟩ | ⟨b98_, H⟩
         ·refine ls rfl rfl rfl (cb b98_) rfl <| ls rfl rfl rfl (cb b98_) rfl <| ls rfl rfl rfl (cb b98_) rfl <| ls rfl rfl rfl (cb b98_) rfl <| ls rfl rfl rfl (cb b98_) rfl <| ls rfl rfl rfl (cb b98_) rfl <| ls rfl rfl rfl (cb b98_) rfl <| lp rfl rfl (X_pick (b := true) (v := (.bool true)) (cb b98_) rfl) ?_
          obtain rfl := si H
          exact nx ⟨(ku8 kz rfl), ⟨_, rfl, rfl⟩, er⟩
         ·refine lg rfl rfl rfl rfl (cb b98_) (X_move (v := v32) ((K75 3 rfl).trans h49)) <| lg rfl rfl rfl rfl (cb b98_) (X_move h97) <| lg rfl rfl rfl rfl (cb b98_) (X_sub rfl rfl) ?_
          obtain ⟨c100, H⟩ := bif_some H
          refine L_idx (tg rfl rfl rfl (cb b98_)) rfl (ltb rfl) rfl Tryz.underlying42 Tryz.sizeOf9 rfl (Ow.rd (Ow.ext h50 e76)) rfl c100 <| fun p101 h102 => lg rfl rfl rfl rfl (cb b98_) (X_loadAt Tryz.isAgg9 rfl h102 rfl) <| lg rfl rfl rfl rfl (cb b98_) (X_move (v := (S ((gt (gt a0 x4_9) x5_33).path))) (K75 6 rfl)) <| lg rfl rfl rfl rfl (cb b98_) (X_sne rfl rfl) <| lp rfl rfl (X_pick (b := false) (v := (.bool (!decide ((gt x3_31 (IntKind.wrap .i64 (x7_72 - 1))) = ((gt (gt a0 x4_9) x5_33).path))))) (cb b98_) rfl) ?_
          obtain rfl := si H
          exact nx ⟨(ku8 kz rfl), ⟨_, rfl, rfl⟩, er⟩
        intro s106 w102 z107 K103 hq h104 e105
        rw [hq] at h104; clear hq
        refine nx ?_
        rcases bif_two H with ⟨q108, H⟩ | ⟨q108, H⟩
        ·refine W_true (h104.trans (cb q108)) ?_
         obtain ⟨c115, H⟩ := bif_some H
         obtain ⟨c118, H⟩ := bif_some H
         obtain ⟨c130, H⟩ := bif_some H
         obtain ⟨c136, H⟩ := bif_some H
         obtain ⟨c139, H⟩ := bif_some H
         refine W_drawR (B := w102.heap.size) [LEmp, LEq v32, LEq (.int .i64 x7_72), LRdW w102 1 encS (sub x3_31 0 x7_72), LOw 9 1 encS w102.heap.size (([] : List (List UInt8)) ++ (sub x3_31 0 x7_72)), LEq (S ((gt (gt a0 x4_9) x5_33).path)), LRd 1 encS ([(gt (gt a0 x4_9) x5_33).path] : List (List UInt8)), LOw 9 1 encS w102.heap.size (spec_l07Paths.e1 a0 x3_31 x4_9 x5_33 x7_72), LEq v32, LEq (.int .i64 x7_72), LRdW w102 1 encS (sub x3_31 x7_72 (x3_31.length : Int)), LOw 9 1 encS w102.heap.size ((spec_l07Paths.e1 a0 x3_31 x4_9 x5_33 x7_72) ++ (sub x3_31 x7_72 (x3_31.length : Int))), LOw 9 1 encS w102.heap.size ((spec_l07Paths.e1 a0 x3_31 x4_9 x5_33 x7_72) ++ (sub x3_31 x7_72 (x3_31.length : Int)))] [⟨true, true, true, false, []⟩, ⟨true, true, true, false, []⟩, ⟨true, true, true, false, []⟩, ⟨true, true, true, false, [1, 2]⟩, ⟨true, false, true, false, [0, 3]⟩, ⟨true, true, true, false, []⟩, ⟨true, false, true, false, [5]⟩, ⟨false, false, true, false, [4, 6]⟩, ⟨true, true, false, false, []⟩, ⟨true, true, false, false, []⟩, ⟨true, true, false, false, [8, 9]⟩, ⟨false, false, false, false, [7, 10]⟩, ⟨true, false, false, true, [11]⟩] [(7, 0, [4]), (11, 0, [7, 4]), (7, 1, [4, 3]), (11, 1, [7, 4, 3]), (7, 2, [4, 3]), (11, 2, [7, 4, 3]), (7, 3, [4]), (11, 3, [7, 4]), (7, 4, []), (11, 4, [7]), (7, 5, [6]), (11, 5, [7, 6]), (7, 6, []), (11, 6, [7]), (11, 7, []), (12, 7, []), (12, 11, [])] (by kernel_rfl) (by kernel_rfl) (Nat.le_refl _) ⟨⟨LEmp.rig.mono, fun _ => LEmp.rig⟩, ⟨LEq.rig.mono, fun _ => LEq.rig⟩, ⟨LEq.rig.mono, fun _ => LEq.rig⟩, ⟨LRdW.rig.mono, fun _ => LRdW.rig⟩, ⟨LOw.mono, noR⟩, ⟨LEq.rig.mono, fun _ => LEq.rig⟩, ⟨LRd.mono, noR⟩, ⟨LOw.mono, noR⟩, ⟨LEq.rig.mono, fun _ => LEq.rig⟩, ⟨LEq.rig.mono, fun _ => LEq.rig⟩, ⟨LRdW.rig.mono, fun _ => LRdW.rig⟩, ⟨LOw.mono, noR⟩, ⟨LOw.mono, noR⟩, trivial⟩ ⟨?_, ?_, ?_, ?_, ?_, ?_, ?_, ?_, ?_, ?_, ?_, ?_, ?_, trivial⟩ ?_
         ·intro s145 w146 hb147 hx148 hf149 hd150 hu151
          have e152 : Ext w102 w146 := hx148 rfl
          exact L_lit (.plain rfl) rfl (ltb rfl) rfl Tryz.underlying42 Tryz.sizeOf9 Tryz.zeroValue9 rfl rfl rfl (vs := []) rfl (lit_all rfl) <| fun b153 w154 z155 z156 e157 k158 => L_nil <| stepS rfl rfl rfl e157 ⟨_, rfl⟩
         ·intro s159 w160 hb161 hx162 hf163 hd164 hu165
          have e166 : Ext w102 w160 := hx162 rfl
          exact lp rfl rfl (X_move (v := v32) ((hu165 12 rfl).trans ((K103 3 rfl).trans ((K75 3 rfl).trans h49)))) <| L_nil <| stepS rfl rfl rfl er rfl
         ·intro s167 w168 hb169 hx170 hf171 hd172 hu173
          have e174 : Ext w102 w168 := hx170 rfl
          exact lp rfl rfl (X_move (v := (.int .i64 x7_72)) ((hf171 7 rfl).trans ((K103 7 rfl).trans h97))) <| L_nil <| stepS rfl rfl rfl er rfl
         ·intro s175 w176 hb177 hx178 hf179 hd180 hu181
          have e182 : Ext w102 w176 := hx178 rfl
          have d183 : s175 59 = v32 := (hd180 1 rfl)
          have d184 : s175 60 = (.int .i64 x7_72) := (hd180 2 rfl)
          have c185 := c115
          exact L_sub (.plain rfl) rfl (ltb rfl) rfl Tryz.underlying42 Tryz.sizeOf9 d183 (Ow.rd (Ow.ext h50 (e76.t e105))) (l := 0) (h := x7_72) rfl ⟨_, d184⟩ c185 <| fun v186 h187 => L_nil <| stepS rfl rfl rfl er h187
         ·intro s188 w189 hb190 hx191 hf192 hd193 hu194
          have e195 : Ext w102 w189 := hx191 rfl
          obtain ⟨b196, h197⟩ := (hd193 0 rfl)
          have d198 : Rd 1 encS w102 (s188 61) (sub x3_31 0 x7_72) := (hd193 3 rfl)
          have c199 := c118
          exact L_append (enc := encS) (.plain rfl) rfl (ltb rfl) rfl El.t42 h197 rfl (Ow.zero (base := w189.heap.size) (w := w189)) (Rd.ext d198 e195) (ones_S _) (od c199) (Nat.le_refl _) <| fun v200 w201 o202 z203 g204 => L_nil <| stepS rfl rfl rfl (g204 _ er) (Ow.base o202 e195.size)
         ·intro s205 w206 hb207 hx208 hf209 hd210 hu211
          have e212 : Ext w102 w206 := hx208 rfl
          exact lp rfl rfl (X_move (v := (S ((gt (gt a0 x4_9) x5_33).path))) ((hf209 6 rfl).trans ((K103 6 rfl).trans (K75 6 rfl)))) <| L_nil <| stepS rfl rfl rfl er rfl
         ·intro s213 w214 hb215 hx216 hf217 hd218 hu219
          have e220 : Ext w102 w214 := hx216 rfl
          have d221 : s213 63 = (S ((gt (gt a0 x4_9) x5_33).path)) := (hd218 5 rfl)
          exact L_lit (.plain rfl) rfl (ltb rfl) rfl Tryz.underlying42 Tryz.sizeOf9 Tryz.zeroValue9 rfl rfl rfl (vs := [(S ((gt (gt a0 x4_9) x5_33).path))]) (cons2 d221 rfl) (lit_all rfl) <| fun b222 w223 z224 z225 e226 k227 => L_nil <| stepS rfl rfl rfl e226 (Ow.rd (Ow.new (xs := [(gt (gt a0 x4_9) x5_33).path]) (sz := 1) (enc := encS) (base := w214.heap.size) k227 (Nat.le_of_eq z224) rfl (fun _ _ => by rfl) (Nat.le_of_ble_eq_true rfl)))
         ·intro s228 w229 hb230 hx231 hf232 hd233 hu234
          have e235 : Ext w102 w229 := hx231 rfl
          have d236 : Ow 9 1 encS w102.heap.size w229 (s228 62) (([] : List (List UInt8)) ++ (sub x3_31 0 x7_72)) := (hd233 4 rfl)
          have d237 : Rd 1 encS w229 (s228 64) ([(gt (gt a0 x4_9) x5_33).path] : List (List UInt8)) := (hd233 6 rfl)
          have c238 := c130
          exact L_append (enc := encS) (.plain rfl) rfl (ltb rfl) rfl El.t42 rfl rfl d236 d237 (ones_S _) (od c238) (e235).size <| fun v239 w240 o241 z242 g243 => L_nil <| stepH rfl rfl rfl (g243 _ (Below.refl _ _)) o241
         ·intro s244 w245 hb246 hx247 hf248 hd249 hu250
          have e251 : Ext w102 w245 := Below.trans er hb246
          exact lp rfl rfl (X_move (v := v32) ((hu250 12 rfl).trans ((K103 3 rfl).trans ((K75 3 rfl).trans h49)))) <| L_nil <| stepS rfl rfl rfl er rfl
         ·intro s252 w253 hb254 hx255 hf256 hd257 hu258
          have e259 : Ext w102 w253 := Below.trans er hb254
          exact lp rfl rfl (X_move (v := (.int .i64 x7_72)) ((hf256 7 rfl).trans ((K103 7 rfl).trans h97))) <| L_nil <| stepS rfl rfl rfl er rfl
         ·intro s260 w261 hb262 hx263 hf264 hd265 hu266
          have e267 : Ext w102 w261 := Below.trans er hb262
          have d268 : s260 66 = v32 := (hd265 8 rfl)
          have d269 : s260 67 = (.int .i64 x7_72) := (hd265 9 rfl)
          have c270 := c136
          exact L_sub (.plain rfl) rfl (ltb rfl) rfl Tryz.underlying42 Tryz.sizeOf9 d268 (Ow.rd (Ow.ext h50 (e76.t e105))) (l := x7_72) (h := (x3_31.length : Int)) ⟨_, d269⟩ rfl c270 <| fun v271 h272 => L_nil <| stepS rfl rfl rfl er h272
         ·intro s273 w274 hb275 hx276 hf277 hd278 hu279
          have e280 : Ext w102 w274 := Below.trans er hb275
          have d281 : Ow 9 1 encS w102.heap.size w274 (s273 65) (spec_l07Paths.e1 a0 x3_31 x4_9 x5_33 x7_72) := (hd278 7 rfl)
          have d282 : Rd 1 encS w102 (s273 68) (sub x3_31 x7_72 (x3_31.length : Int)) := (hd278 10 rfl)
          have c283 := c139
          exact L_append (enc := encS) (.plain rfl) rfl (ltb rfl) rfl El.t42 rfl rfl d281 (Rd.ext d282 e280) (ones_S _) (od c283) (e280).size <| fun v284 w285 o286 z287 g288 => L_nil <| stepH rfl rfl rfl (g288 _ (Below.refl _ _)) o286
         ·intro s289 w290 hb291 hx292 hf293 hd294 hu295
          have e296 : Ext w102 w290 := Below.trans er hb291
          have d297 : Ow 9 1 encS w102.heap.size w290 (s289 69) ((spec_l07Paths.e1 a0 x3_31 x4_9 x5_33 x7_72) ++ (sub x3_31 x7_72 (x3_31.length : Int))) := (hd294 11 rfl)
          exact lp rfl rfl (X_assign (v := (s289 69)) rfl) <| L_nil <| stepS rfl rfl rfl er d297
         intro s298 w299 hb300 hf302 ha303
         have K304 := Kp.ofD (kp := [(3, 4), (58, 70)]) rfl hf302
         have e301 : Ext w102 w299 := hb300
         have d305 : Ow 9 1 encS w102.heap.size w299 (s298 3) ((spec_l07Paths.e1 a0 x3_31 x4_9 x5_33 x7_72) ++ (sub x3_31 x7_72 (x3_31.length : Int))) := ha303 12 rfl rfl
         clear ha303 hf302
         refine blk_n <| thn_n <| W_reg <| lp rfl rfl (X_move (v := (.int .i64 x5_33)) ((K304 5 rfl).trans ((K103 5 rfl).trans ((K75 5 rfl).trans h51)))) <| lp rfl rfl (X_add rfl rfl) <| lp rfl rfl (X_assign (v := (.int .i64 (IntKind.wrap .i64 (x5_33 + 1)))) rfl) <| nx ?_
         obtain rfl := si H
         exact ⟨_, Nat.lt_succ_self _, (spec_l07Paths.e1 a0 x3_31 x4_9 x5_33 x7_72) ++ (sub x3_31 x7_72 (x3_31.length : Int)), (s298 3), IntKind.wrap .i64 (x5_33 + 1), (ku3 (Kp.cut (Kp.cut (ku3 (Kp.cut (ku3 (ku8 (ku8 K46 rfl) rfl) rfl) K75 rfl) rfl) K103 rfl) K304 rfl) rfl), rfl, (Ow.base d305 (((e23.t e47).t e76).t e105).size), rfl, (((e47.t e76).t e105).t e301), S53⟩
        ·refine W_false (h104.trans (cb q108)) <| W_skip <| blk_n <| thn_n <| W_reg <| lp rfl rfl (X_move (v := (.int .i64 x5_33)) ((K103 5 rfl).trans ((K75 5 rfl).trans h51))) <| lp rfl rfl (X_add rfl rfl) <| lp rfl rfl (X_assign (v := (.int .i64 (IntKind.wrap .i64 (x5_33 + 1)))) rfl) <| nx ?_
         obtain rfl := si H
         exact ⟨_, Nat.lt_succ_self _, x3_31, v32, IntKind.wrap .i64 (x5_33 + 1), (ku3 (Kp.cut (ku3 (Kp.cut (ku3 (ku8 (ku8 K46 rfl) rfl) rfl) K75 rfl) rfl) K103 rfl) rfl), ((K103 3 rfl).trans ((K75 3 rfl).trans h49)), (Ow.ext h50 (e76.t e105)), rfl, ((e47.t e76).t e105), S53⟩
      ·refine W_false (cb q59) <| W_exit <| thn_x <| thn_x <| blk_x <| thn_n ?_
       obtain rfl := si H
       obtain rfl := si S53
       exact ⟨x3_31, v32, (ku3 (ku4 K46 rfl) rfl), h49, h50, e47, rfl⟩
    ·rintro s40 w39 ⟨x3_37, v38, K41, h306, h307, e42, y308⟩
     rw [y308] at C36
     have H := C36
     replace H : _ = some _ := H
     refine blk_n <| thn_n <| W_reg <| lp rfl rfl (X_move (v := (.int .i64 x4_9)) ((K41 4 rfl).trans h27)) <| lp rfl rfl (X_add rfl rfl) <| lp rfl rfl (X_assign (v := (.int .i64 (IntKind.wrap .i64 (x4_9 + 1)))) rfl) <| nx ?_
     obtain rfl := si H
     exact ⟨_, Nat.lt_succ_self _, x3_37, v38, IntKind.wrap .i64 (x4_9 + 1), (ku3 (Kp.cut (ku1 (ku4 K22 rfl) rfl) K41 rfl) rfl), h306, h307, rfl, (e23.t e42), S29⟩
   ·refine W_false (cb q30) <| W_exit <| thn_x <| thn_x <| blk_x <| thn_n ?_
    obtain rfl := si H
    obtain rfl := si S29
    exact ⟨x3_7, v8, (ku4 K22 rfl), h25, h26, e23, rfl⟩
 ·rintro s16 w15 ⟨x3_13, v14, K17, h309, h310, e18, y311⟩
  rw [y311] at C12
  have H := C12
  replace H : _ = some _ := H
  refine thn_n <| wr <| lp rfl rfl (X_move h309) <| lp rfl rfl (X_assign (v := v14) rfl) <| nx <| W_ret <| fin_r ?_
  obtain rfl := si H
  exact fin1o rfl (e5.t e18) h310 (e5).size
theorem spec_l07Paths.calls {w : World} {a0 : List (List Rec)} {v_a0 : Value} (f_a0 : Rd2 5 encRec w v_a0 a0) (h0 : stackOK a0 = true) :
  Calls Tryz.prog 174 #[v_a0] w (Rt (RO 9 1 encS w (pathsL a0))) := by
 obtain ⟨k, h⟩ := spec_l07Paths.eq a0 h0
 exact spec_l07Paths.walk f_a0 h
/-! spec.l06All -/
theorem spec_l06All.walk {k : Nat} {w : World} {a0 : List (List Rec)} {v_a0 : Value} (f_a0 : Rd2 5 encRec w v_a0 a0) {r : List Rec} (H : spec_l06All.sh k a0 = some r) :
  Calls Tryz.prog 109 #[v_a0] w (Rt (RO 58 5 encRec w r)) := by
 unfold spec_l06All.sh at H
 refine calls_of_W Tryz.func109 rfl (Nat.le_of_ble_eq_true rfl) Tryz.ntmps109 rfl ?_
 refine wr <| lp rfl rfl (X_assign (v := (.slice none 0 0)) rfl) <| nx <| wr <| L_lit (.plain rfl) rfl (ltb rfl) rfl Tryz.underlying35 Tryz.sizeOf58 Tryz.zeroValue58 rfl rfl rfl (vs := []) rfl (lit_all rfl) <| fun b1 w2 z3 z4 e5 k6 => lp rfl rfl (X_assign (v := (.slice (some ⟨b1, 0, none⟩) 0 0)) rfl) <| nx <| W_seq <| wr <| lp rfl rfl (X_assign (v := (.int .i64 0)) rfl) <| nx ?_
 obtain ⟨z10, L11, C12⟩ := bind_some H
 clear H
 refine  W_cutQ (fun s0 sQ wQ => ∃ (x3_13 : List Rec) (v14 : Value), Kp [(3, 5), (6, 18)] s0 sQ ∧ sQ 3 = v14 ∧ Ow 58 5 encRec w2.heap.size wQ v14 x3_13 ∧ Ext w2 wQ ∧ z10 = .inr x3_13) ?_ ?_
 ·refine W_block <| W_loopI (fun s0 kk sQ wQ => ∃ (x3_7 : List Rec) (v8 : Value) (x4_9 : Int), Kp [(3, 5), (6, 18)] s0 sQ ∧ sQ 3 = v8 ∧ Ow 58 5 encRec w2.heap.size wQ v8 x3_7 ∧ sQ 4 = .int .i64 x4_9 ∧ Ext w2 wQ ∧ loopF (spec_l06All.b1 a0) kk (x3_7, x4_9) = some z10) k ⟨([] : List Rec), (.slice (some ⟨b1, 0, none⟩) 0 0), 0, kz, rfl, (Ow.zero), rfl, er, L11⟩ ?_
  rintro k19 s20 w21 ⟨x3_7, v8, x4_9, K22, h25, h26, h27, e23, L24⟩
  cases k19 with
  | zero => exact absurd L24 (by simp [loopF])
  | succ k19 =>
   obtain ⟨t28, H, S29⟩ := loopF_succ L24
   clear L24
   unfold spec_l06All.b1 at H
   refine W_seq <| wr <| lp rfl rfl (X_move h27) <| lp rfl rfl (X_move (v := v_a0) (K22 0 rfl)) <| lp rfl rfl (X_lenR2 Tryz.underlying23 rfl (Rd2.ext f_a0 (e5.t e23))) <| lp rfl rfl (X_lss rfl rfl) <| nx ?_
   rcases bif_two H with ⟨q30, H⟩ | ⟨q30, H⟩
   ·refine W_true (cb q30) <| W_skip <| thn_n <| W_seq <| W_block <| W_reg <| lp rfl rfl (X_move h25) <| lp rfl rfl (X_move (v := v_a0) (K22 0 rfl)) <| lp rfl rfl (X_move h27) ?_
    obtain ⟨c31, H⟩ := bif_some H
    refine L_idx2 (.plain rfl) rfl (ltb rfl) rfl Tryz.underlying23 Tryz.sizeOf35 rfl (Rd2.ext f_a0 (e5.t e23)) rfl c31 <| fun p32 v34 h33 h35 => lp rfl rfl (X_loadAt Tryz.isAgg35 rfl h33 rfl) ?_
    obtain ⟨c36, H⟩ := bif_some H
    obtain ⟨c37, H⟩ := bif_some H
    obtain ⟨c38, H⟩ := bif_some H
    obtain ⟨c39, H⟩ := bif_some H
    refine L_callO (.plain rfl) rfl (ltb rfl) rfl Tryz.call121 (spec_l06Two.calls (w := w21) (a0 := x3_7) (a1 := gt a0 x4_9) (Ow.rd h26) h35 (od c36) (od c37) (od c38) (od c39)) rfl <| fun v42 w40 e41 o43 => lp rfl rfl (X_assign (v := v42) rfl) <| L_nil <| blk_n <| thn_n <| W_reg <| lp rfl rfl (X_move h27) <| lp rfl rfl (X_add rfl rfl) <| lp rfl rfl (X_assign (v := (.int .i64 (IntKind.wrap .i64 (x4_9 + 1)))) rfl) <| nx ?_
    obtain rfl := si H
    exact ⟨_, Nat.lt_succ_self _, (squashL x3_7 (gt a0 x4_9)), v42, IntKind.wrap .i64 (x4_9 + 1), (ku2 (ku4 (ku8 K22 rfl) rfl) rfl), rfl, (Ow.base o43 e23.size), rfl, (e23.t e41), S29⟩
   ·refine W_false (cb q30) <| W_exit <| thn_x <| thn_x <| blk_x <| thn_n ?_
    obtain rfl := si H
    obtain rfl := si S29
    exact ⟨x3_7, v8, (ku4 K22 rfl), h25, h26, e23, rfl⟩
 ·rintro s16 w15 ⟨x3_13, v14, K17, h44, h45, e18, y46⟩
  rw [y46] at C12
  have H := C12
  replace H : _ = some _ := H
  refine thn_n <| wr <| lp rfl rfl (X_move h44) <| lp rfl rfl (X_assign (v := v14) rfl) <| nx <| W_ret <| fin_r ?_
  obtain rfl := si H
  exact fin1o rfl (e5.t e18) h45 (e5).size
theorem spec_l06All.calls {w : World} {a0 : List (List Rec)} {v_a0 : Value} (f_a0 : Rd2 5 encRec w v_a0 a0) (h0 : stackOK a0 = true) :
  Calls Tryz.prog 109 #[v_a0] w (Rt (RO 58 5 encRec w (squashAllL a0))) := by
 obtain ⟨k, h⟩ := spec_l06All.eq a0 h0
 exact spec_l06All.walk f_a0 h
/-! spec.SquashAll -/
theorem spec_SquashAll.walk {w : World} {a0 : List (List Rec)} {v_a0 : Value} (f_a0 : Rd2 5 encRec w v_a0 a0) {r : List Rec × Int} (H : spec_SquashAll.sh a0 = some r) :
  Calls Tryz.prog 83 #[v_a0] w (Rt (RT 58 5 encRec w r.1 (.int .i64 r.2))) := by
 unfold spec_SquashAll.sh at H
 refine calls_of_W Tryz.func83 rfl (Nat.le_of_ble_eq_true rfl) Tryz.ntmps83 rfl ?_
 refine wr <| lp rfl rfl (X_assign (v := (.slice none 0 0)) rfl) <| lp rfl rfl (X_assign (v := (.int .i64 0)) rfl) <| nx <| W_seq <| wr <| lp rfl rfl (X_move (v := v_a0) rfl) <| lp rfl rfl (X_lenR2 Tryz.underlying23 rfl f_a0) <| lp rfl rfl (X_gtr rfl rfl) <| nx ?_
 rcases bif_two H with ⟨q1, H⟩ | ⟨q1, H⟩
 ·refine W_true (cb q1) <| wr <| L_lit (.plain rfl) rfl (ltb rfl) rfl Tryz.underlying35 Tryz.sizeOf58 Tryz.zeroValue58 rfl rfl rfl (vs := []) rfl (lit_all rfl) <| fun b2 w3 z4 z5 e6 k7 => lp rfl rfl (X_assign (v := (.slice (some ⟨b2, 0, none⟩) 0 0)) rfl) <| lp rfl rfl (X_assign (v := (.int .i64 2)) rfl) <| nx <| W_ret <| thn_r <| fin_r ?_
  obtain rfl := si H
  exact fin2o rfl rfl e6 (Ow.zero (base := w.heap.size)) (Nat.le_refl _)
 ·refine W_false (cb q1) <| W_skip <| thn_n <| W_seq <| wr <| lp rfl rfl (X_move (v := v_a0) rfl) ?_
  obtain ⟨c8, H⟩ := bif_some H
  obtain ⟨c9, H⟩ := bif_some H
  obtain ⟨c10, H⟩ := bif_some H
  refine lc rfl rfl rfl Tryz.call107 (spec_l05Stack.calls (w := w) (a0 := a0) f_a0 (od c8) (od c9) (od c10)) rfl <| fun w11 e12 => lp rfl rfl (X_not rfl) <| nx ?_
  rcases bif_two H with ⟨q13, H⟩ | ⟨q13, H⟩
  ·refine W_true (cb q13) <| wr <| L_lit (.plain rfl) rfl (ltb rfl) rfl Tryz.underlying35 Tryz.sizeOf58 Tryz.zeroValue58 rfl rfl rfl (vs := []) rfl (lit_all rfl) <| fun b14 w15 z16 z17 e18 k19 => lp rfl rfl (X_assign (v := (.slice (some ⟨b14, 0, none⟩) 0 0)) rfl) <| lp rfl rfl (X_assign (v := (.int .i64 1)) rfl) <| nx <| W_ret <| thn_r <| fin_r ?_
   obtain rfl := si H
   exact fin2o rfl rfl (e12.t e18) (Ow.zero (base := w.heap.size)) (Nat.le_refl _)
  ·refine W_false (cb q13) <| W_skip <| thn_n <| wr <| lp rfl rfl (X_move (v := v_a0) rfl) ?_
   obtain ⟨c20, H⟩ := bif_some H
   refine L_callO (.plain rfl) rfl (ltb rfl) rfl Tryz.call109 (spec_l06All.calls (w := w11) (a0 := a0) (Rd2.ext f_a0 e12) (od c20)) rfl <| fun v23 w21 e22 o24 => lp rfl rfl (X_assign (v := v23) rfl) <| nx <| W_seq <| wr <| lp rfl rfl (X_move (v := v23) rfl) <| lp rfl rfl (X_lenR Tryz.underlying35 rfl (Ow.rd o24)) <| lp rfl rfl (X_gtr rfl rfl) <| nx ?_
   rcases bif_two H with ⟨q25, H⟩ | ⟨q25, H⟩
   ·refine W_true (cb q25) <| wr <| L_lit (.plain rfl) rfl (ltb rfl) rfl Tryz.underlying35 Tryz.sizeOf58 Tryz.zeroValue58 rfl rfl rfl (vs := []) rfl (lit_all rfl) <| fun b26 w27 z28 z29 e30 k31 => lp rfl rfl (X_assign (v := (.slice (some ⟨b26, 0, none⟩) 0 0)) rfl) <| lp rfl rfl (X_assign (v := (.int .i64 7)) rfl) <| nx <| W_ret <| thn_r <| fin_r ?_
    obtain rfl := si H
    exact fin2o rfl rfl ((e12.t e22).t e30) (Ow.zero (base := w.heap.size)) (Nat.le_refl _)
   ·refine W_false (cb q25) <| W_skip <| thn_n <| wr <| lp rfl rfl (X_move (v := v23) rfl) <| lp rfl rfl (X_assign (v := v23) rfl) <| lp rfl rfl (X_assign (v := (.int .i64 0)) rfl) <| nx <| W_ret <| fin_r ?_
    obtain rfl := si H
    exact fin2o rfl rfl (e12.t e22) o24 (e12).size
theorem spec_SquashAll.calls {w : World} {a0 : List (List Rec)} {v_a0 : Value} (f_a0 : Rd2 5 encRec w v_a0 a0) (h0 : a0.length ≤ 1048576) (h1 : ∀ l ∈ a0, l.length ≤ 1048576) (h2 : ∀ l ∈ a0, ∀ x ∈ l, x.path.length ≤ 1048576) :
  Calls Tryz.prog 83 #[v_a0] w (Rt (RT 58 5 encRec w ((squashAllOf a0).1) (.int .i64 ((squashAllOf a0).2)))) := spec_SquashAll.walk f_a0 (spec_SquashAll.eq a0 h0 h1 h2)
/-! impl.squashAll -/
theorem impl_squashAll.walk {k : Nat} {w : World} {a0 : List (List Rec)} (gv : GV 0 w) {v_a0 : Value} (f_a0 : Rd2 5 encRec w v_a0 a0) {r : List Rec} (H : impl_squashAll.sh k a0 = some r) :
  Calls Tryz.prog 182 #[v_a0] w (Rt (RO 58 5 encRec w r)) := by
 unfold impl_squashAll.sh at H
 refine calls_of_W Tryz.func182 rfl (Nat.le_of_ble_eq_true rfl) Tryz.ntmps182 rfl ?_
 refine wr <| lp rfl rfl (X_assign (v := (.slice none 0 0)) rfl) <| nx <| wr <| L_lit (.plain rfl) rfl (ltb rfl) rfl Tryz.underlying35 Tryz.sizeOf58 Tryz.zeroValue58 rfl rfl rfl (vs := []) rfl (lit_all rfl) <| fun b1 w2 z3 z4 e5 k6 => lp rfl rfl (X_assign (v := (.slice (some ⟨b1, 0, none⟩) 0 0)) rfl) <| nx <| W_seq <| wr <| lp rfl rfl (X_move (v := v_a0) rfl) <| lp rfl rfl (X_lenR2 Tryz.underlying23 rfl (Rd2.ext f_a0 e5)) <| lp rfl rfl (X_move (v := (.int .i64 0)) rfl) <| nx ?_
 obtain ⟨z10, L11, C12⟩ := bind_some H
 clear H
 refine  W_cutQ (fun s0 sQ wQ => ∃ (x3_13 : List Rec) (v14 : Value), Kp [(3, 4), (5, 6), (9, 17)] s0 sQ ∧ sQ 3 = v14 ∧ Ow 58 5 encRec w2.heap.size wQ v14 x3_13 ∧ Ext w2 wQ ∧ z10 = .inr x3_13) ?_ ?_
 ·refine W_block <| W_loopI (fun s0 kk sQ wQ => ∃ (x3_7 : List Rec) (v8 : Value) (x9_9 : Int), Kp [(3, 4), (5, 6), (9, 17)] s0 sQ ∧ sQ 3 = v8 ∧ Ow 58 5 encRec w2.heap.size wQ v8 x3_7 ∧ sQ 9 = .int .i64 x9_9 ∧ Ext w2 wQ ∧ loopF (impl_squashAll.b1 a0) kk (x3_7, x9_9) = some z10) k ⟨([] : List Rec), (.slice (some ⟨b1, 0, none⟩) 0 0), 0, kz, rfl, (Ow.zero), rfl, er, L11⟩ ?_
  rintro k19 s20 w21 ⟨x3_7, v8, x9_9, K22, h25, h26, h27, e23, L24⟩
  cases k19 with
  | zero => exact absurd L24 (by simp [loopF])
  | succ k19 =>
   obtain ⟨t28, H, S29⟩ := loopF_succ L24
   clear L24
   unfold impl_squashAll.b1 at H
   refine wr <| lp rfl rfl (X_lss h27 (K22 8 rfl)) <| nx <| W_seq ?_
   rcases bif_two H with ⟨q30, H⟩ | ⟨q30, H⟩
   ·refine W_true (cb q30) <| W_skip <| thn_n <| W_seq <| W_block <| wr ?_
    obtain ⟨c31, H⟩ := bif_some H
    refine L_idx2 (.plain rfl) rfl (ltb rfl) rfl Tryz.underlying23 Tryz.sizeOf35 (K22 7 rfl) (Rd2.ext f_a0 (e5.t e23)) h27 c31 <| fun p32 v34 h33 h35 => lp rfl rfl (X_loadAt Tryz.isAgg35 rfl h33 rfl) <| lp rfl rfl (X_assign (v := v34) rfl) <| nx <| W_reg <| lp rfl rfl (X_move h25) <| lp rfl rfl (X_move (v := v34) rfl) ?_
    obtain ⟨c36, H⟩ := bif_some H
    obtain ⟨c37, H⟩ := bif_some H
    obtain ⟨c38, H⟩ := bif_some H
    obtain ⟨c39, H⟩ := bif_some H
    refine L_callO (.plain rfl) rfl (ltb rfl) rfl Tryz.call119 (impl_squash.calls (w := w21) (a0 := x3_7) (a1 := gt a0 x9_9) (GV.ext gv (e5.t e23)) (Ow.rd h26) h35 (od c36) (od c37) (od c38) (od c39)) rfl <| fun v42 w40 e41 o43 => lp rfl rfl (X_assign (v := v42) rfl) <| L_nil <| blk_n <| thn_n <| W_reg <| lp rfl rfl (X_add h27 rfl) <| lp rfl rfl (X_move (v := (.int .i64 (IntKind.wrap .i64 (x9_9 + 1)))) rfl) <| nx ?_
    obtain rfl := si H
    exact ⟨_, Nat.lt_succ_self _, (squashL x3_7 (gt a0 x9_9)), v42, IntKind.wrap .i64 (x9_9 + 1), (ku2 (ku8 K22 rfl) rfl), rfl, (Ow.base o43 e23.size), rfl, (e23.t e41), S29⟩
   ·refine W_false (cb q30) <| W_exit <| thn_x <| thn_x <| blk_x <| thn_n ?_
    obtain rfl := si H
    obtain rfl := si S29
    exact ⟨x3_7, v8, (ku1 K22 rfl), h25, h26, e23, rfl⟩
 ·rintro s16 w15 ⟨x3_13, v14, K17, h44, h45, e18, y46⟩
  rw [y46] at C12
  have H := C12
  replace H : _ = some _ := H
  refine thn_n <| wr <| lp rfl rfl (X_move h44) <| lp rfl rfl (X_assign (v := v14) rfl) <| nx <| W_ret <| fin_r ?_
  obtain rfl := si H
  exact fin1o rfl (e5.t e18) h45 (e5).size
theorem impl_squashAll.calls {w : World} {a0 : List (List Rec)} (gv : GV 0 w) {v_a0 : Value} (f_a0 : Rd2 5 encRec w v_a0 a0) (h0 : stackOK a0 = true) :
  Calls Tryz.prog 182 #[v_a0] w (Rt (RO 58 5 encRec w (squashAllL a0))) := by
 obtain ⟨k, h⟩ := impl_squashAll.eq a0 h0
 exact impl_squashAll.walk gv f_a0 h
/-! impl.SquashAll -/
theorem impl_SquashAll.walk {w : World} {a0 : List (List Rec)} (gv : GV 0 w) {v_a0 : Value} (f_a0 : Rd2 5 encRec w v_a0 a0) {r : List Rec × Int} (H : impl_SquashAll.sh a0 = some r) :
  Calls Tryz.prog 82 #[v_a0] w (Rt (RT 58 5 encRec w r.1 (.int .i64 r.2))) := by
 unfold impl_SquashAll.sh at H
 refine calls_of_W Tryz.func82 rfl (Nat.le_of_ble_eq_true rfl) Tryz.ntmps82 rfl ?_
 refine wr <| lp rfl rfl (X_assign (v := (.slice none 0 0)) rfl) <| lp rfl rfl (X_assign (v := (.int .i64 0)) rfl) <| nx <| W_seq <| wr <| lp rfl rfl (X_move (v := v_a0) rfl) ?_
 obtain ⟨c1, H⟩ := bif_some H
 obtain ⟨c2, H⟩ := bif_some H
 obtain ⟨c3, H⟩ := bif_some H
 refine lc rfl rfl rfl Tryz.call105 (impl_stackCode.calls (w := w) (a0 := a0) gv f_a0 (od c1) (od c2) (od c3)) rfl <| fun w4 e5 => lp rfl rfl (X_assign (v := (.int .i64 (stackCode a0))) rfl) <| nx <| wr <| lp rfl rfl (X_move (v := (.int .i64 (stackCode a0))) rfl) <| lp rfl rfl (X_neq rfl rfl) <| nx ?_
 rcases bif_two H with ⟨q6, H⟩ | ⟨q6, H⟩
 ·refine W_true (cb q6) <| wr <| lp rfl rfl (X_move (v := (.int .i64 (stackCode a0))) rfl) <| lp rfl rfl (X_assign (v := (.slice none 0 0)) rfl) <| lp rfl rfl (X_assign (v := (.int .i64 (stackCode a0))) rfl) <| nx <| W_ret <| thn_r <| fin_r ?_
  obtain rfl := si H
  exact fin2o rfl rfl e5 (Ow.zero (base := w.heap.size)) (Nat.le_refl _)
 ·refine W_false (cb q6) <| W_skip <| thn_n <| wr <| lp rfl rfl (X_move (v := v_a0) rfl) ?_
  obtain ⟨c7, H⟩ := bif_some H
  refine L_callO (.plain rfl) rfl (ltb rfl) rfl Tryz.call182 (impl_squashAll.calls (w := w4) (a0 := a0) (GV.ext gv e5) (Rd2.ext f_a0 e5) (od c7)) rfl <| fun v10 w8 e9 o11 => L_callA (.plain rfl) rfl (ltb rfl) rfl Tryz.call118 (impl_fitting.calls (w := w8) (Ow.rd o11)) rfl <| fun _ w12 hA9 => ?_
  obtain ⟨rfl, e13⟩ := hA9
  refine lp rfl rfl (X_extract (v := (fitV v10 (squashAllL a0))) rfl rfl) <| lp rfl rfl (X_extract (v := (.int .i64 (fitC (squashAllL a0)))) rfl rfl) <| lp rfl rfl (X_assign (v := (fitV v10 (squashAllL a0))) rfl) <| lp rfl rfl (X_assign (v := (.int .i64 (fitC (squashAllL a0)))) rfl) <| nx <| W_ret <| fin_r ?_
  obtain rfl := si H
  exact fin2o rfl rfl ((e5.t e9).t e13) (Ow.fit (Ow.ext o11 e13)) (e5).size
theorem impl_SquashAll.calls {w : World} {a0 : List (List Rec)} (gv : GV 0 w) {v_a0 : Value} (f_a0 : Rd2 5 encRec w v_a0 a0) (h0 : a0.length ≤ 1048576) (h1 : ∀ l ∈ a0, l.length ≤ 1048576) (h2 : ∀ l ∈ a0, ∀ x ∈ l, x.path.length ≤ 1048576) :
  Calls Tryz.prog 82 #[v_a0] w (Rt (RT 58 5 encRec w ((squashAllOf a0).1) (.int .i64 ((squashAllOf a0).2)))) := impl_SquashAll.walk gv f_a0 (impl_SquashAll.eq a0 h0 h1 h2)
/-! spec.l07Merge, by text -/
theorem spec_l07Merge.calls {w : World} {a0 : List (List Rec)} {v_a0 : Value} (f_a0 : Rd2 5 encRec w v_a0 a0) (h0 : stackOK a0 = true) :
    Calls Tryz.prog 176 #[v_a0] w (Rt (RTT 58 5 encRec 85 2 encPick w (mergeL a0) (picksL a0))) := by
  obtain ⟨h5, hL⟩ := stackOK_of h0
  have hn := paths_len h0
  have hlen1 : a0.length ≤ 1048576 := by omega
  have hls : ∀ l ∈ a0, l.length ≤ 1048576 := fun l hl => by have := layerOK_len (hL l hl); omega
  have hws := wins_sheet h0
  have hwl := wins_len h0
  refine calls_of_W Tryz.func176 rfl (Nat.le_of_ble_eq_true rfl) Tryz.ntmps176 rfl ?_
  refine wr <| lp rfl rfl (X_assign (v := (.slice none 0 0)) rfl) <| lp rfl rfl (X_assign (v := (.slice none 0 0)) rfl) <| nx <| wr <| lp rfl rfl (X_move (v := v_a0) rfl) <|
    L_callO (.plain rfl) rfl (ltb rfl) rfl Tryz.call174 (spec_l07Paths.calls (w := w) (a0 := a0) f_a0 h0) rfl <| fun vp w1 e1 o1 => lp rfl rfl (X_assign (v := vp) rfl) <| nx <|
    wr <| L_lit (.plain rfl) rfl (ltb rfl) rfl Tryz.underlying35 Tryz.sizeOf58 Tryz.zeroValue58 rfl rfl rfl (vs := []) rfl (lit_all rfl) <| fun b2 w2 z1 z2 e2 k2 => lp rfl rfl (X_assign (v := (.slice (some ⟨b2, 0, none⟩) 0 0)) rfl) <| nx <|
    wr <| L_lit (.plain rfl) rfl (ltb rfl) rfl Tryz.underlying78 Tryz.sizeOf85 Tryz.zeroValue85 rfl rfl rfl (vs := []) rfl (lit_all rfl) <| fun b3 w3 z3 z4 e3 k3 => lp rfl rfl (X_assign (v := (.slice (some ⟨b3, 0, none⟩) 0 0)) rfl) <| nx <|
    W_seq <| wr <| lp rfl rfl (X_assign (v := (.int .i64 0)) rfl) <| nx ?_
  refine W_cutQ (fun s0 σ W => ∃ v5 v6, σ 5 = v5 ∧ σ 6 = v6 ∧ Ow 58 5 encRec w1.heap.size W v5 (winsL a0) ∧ Ow 85 2 encPick w1.heap.size W v6 (picksL a0) ∧ Ext w1 W) ?_ ?_
  · refine W_block <| W_loopI (fun s0 m σ W => ∃ (i : Nat) (v5 v6 : Value), i + m = (pathsL a0).length ∧ σ 0 = v_a0 ∧ σ 4 = vp ∧ σ 7 = .int .i64 (i : Int) ∧ σ 5 = v5 ∧ σ 6 = v6 ∧ Ow 58 5 encRec w1.heap.size W v5 (((pathsL a0).take i).filterMap (winR a0)) ∧ Ow 85 2 encPick w1.heap.size W v6 (((pathsL a0).take i).filterMap (pickK a0)) ∧ Disj v5 v6 ∧ Ext w1 W) (pathsL a0).length
      ⟨0, _, _, by omega, rfl, rfl, rfl, rfl, rfl, Ow.zero, Ow.zero, Disj.zero, Ext.trans e2 e3⟩ ?_
    rintro m s1 W1 ⟨i, v5, v6, him, q0, q4, q7, q5, q6, hO5, hO6, hD, hE⟩
    refine W_seq <| wr <| lp rfl rfl (X_move q7) <| lp rfl rfl (X_move q4) <| lp rfl rfl (X_lenR Tryz.underlying42 rfl (o1.rd.ext hE)) <| lp rfl rfl (X_lss rfl rfl) <| nx ?_
    by_cases hi : i < (pathsL a0).length
    · have hmem : gt (pathsL a0) (i : Int) ∈ pathsL a0 := by rw [getD_gt, getD_el hi]; exact List.getElem_mem hi
      have hps := pathOK_small (paths_ok h0 _ hmem)
      have hf5 := fm_take (f := winR a0) hi
      have hf6 := fm_take (f := pickK a0) hi
      have hl5 : (((pathsL a0).take i).filterMap (winR a0)).length ≤ 80 := by have := List.length_filterMap_le (winR a0) ((pathsL a0).take i); simp at this; omega
      have hl6 : (((pathsL a0).take i).filterMap (pickK a0)).length ≤ 80 := by have := List.length_filterMap_le (pickK a0) ((pathsL a0).take i); simp at this; omega
      have hw : IntKind.wrap .i64 ((i : Int) + 1) = ((i + 1 : Nat) : Int) := by rw [Go.UL.wrap_small (by omega) (by omega)]; omega
      obtain ⟨p, hp⟩ : ∃ p, gt (pathsL a0) (i : Int) = p := ⟨_, rfl⟩
      refine W_true (cb (decide_eq_true (by omega))) <| W_skip <| thn_n <| W_seq <| W_block <| wr <| lp rfl rfl (X_move q0) <| lp rfl rfl (X_move q4) <| lp rfl rfl (X_move q7) <|
        L_idx (.plain rfl) rfl (ltb rfl) rfl Tryz.underlying42 Tryz.sizeOf9 rfl (o1.rd.ext hE) rfl (inR_nat hi) <| fun pa hA => ?_
      rw [hp] at hA hps hf5 hf6
      refine lp rfl rfl (X_loadAt (v := S p) Tryz.isAgg9 rfl hA rfl) <|
        lc rfl rfl rfl Tryz.call178 (spec_l07Winner.calls (w := W1) (a0 := a0) (a1 := p) (f_a0.ext (e1.t hE)) h0 hlen1 hps hls) rfl <| fun W2 e4 => lp rfl rfl (X_move rfl) <|
        lp rfl rfl (X_extract (v := (.agg (encRec (winner a0 p).1).toArray)) rfl rfl) <| lp rfl rfl (X_extract (v := (.int .i64 (winner a0 p).2)) rfl rfl) <| L_alloc (.plain rfl) rfl (ltb rfl) rfl Tryz.zeroValue58 <| fun b5 W3 z5 z6 e5 k5 =>
        L_storeA (.plain rfl) rfl rfl Tryz.sizeOf58 rfl rfl rfl rfl rfl k5 <| fun W4 hw4 k6 => lp rfl rfl (X_assign (v := (.int .i64 (winner a0 p).2)) rfl) <| nx <|
        wr <| lp rfl rfl (X_move (v := (.int .i64 (winner a0 p).2)) rfl) <| lp rfl rfl (X_gtr rfl rfl) <| nx ?_
      have e6 : Ext W2 W4 := Below.trans e5 (Wr.below hw4 (Nat.le_of_eq z5))
      have e7 : Ext W1 W4 := Ext.trans e4 e6
      have hE4 : Ext w1 W4 := Ext.trans hE e7
      by_cases hc : (0 : Int) < (winner a0 p).2
      · have g5 : winR a0 p = some (winner a0 p).1 := by unfold winR; rw [if_pos hc]
        have g6 : pickK a0 p = some ⟨p, (winner a0 p).2⟩ := by unfold pickK; rw [if_pos hc]
        rw [g5] at hf5
        rw [g6] at hf6
        refine W_true (cb (decide_eq_true hc)) <| wr <| lp rfl rfl (X_move (v := v5) q5) <| lp rfl rfl (X_loadS (cs := encRec (winner a0 p).1) Tryz.isAgg58 Tryz.sizeOf58 rfl rfl (Blk.at0 k6)) <|
          L_lit (.plain rfl) rfl (ltb rfl) rfl Tryz.underlying35 Tryz.sizeOf58 Tryz.zeroValue58 rfl rfl rfl (vs := [(.agg (encRec (winner a0 p).1).toArray)]) rfl (lit_all rfl) <| fun b7 W5 z7 z8 e8 k8 => ?_
        refine L_append2 (enc := encRec) (.plain rfl) rfl (ltb rfl) rfl El.t35 rfl rfl (Ow.ext hO5 (e7.t e8)) (Ow.rd (Ow.new (xs := [(winner a0 p).1]) (sz := 5) (enc := encRec) (base := W4.heap.size) k8 (Nat.le_of_eq z7) rfl (fun _ _ => by rfl) (Nat.le_of_ble_eq_true rfl))) (ones_Rec _) (by simp only [List.length_cons, List.length_nil]; omega) (Ext.trans hE4 e8).size <|
          fun v9 W6 o9 z9 g9 ap9 => lp rfl rfl (X_assign (v := v9) rfl) <| nx <| W_reg <| lp rfl rfl (X_move (v := v6) q6) <| lp rfl rfl (X_move (v := vp) q4) <| lp rfl rfl (X_move (v := .int .i64 (i : Int)) q7) <| ?_
        have hE6 : Ext w1 W6 := g9 _ (Ext.trans hE4 e8)
        obtain ⟨hO6', hD'⟩ := ap9 (Ow.ext hO6 (e7.t e8)) hD
        refine L_idx (.plain rfl) rfl (ltb rfl) rfl Tryz.underlying42 Tryz.sizeOf9 rfl (o1.rd.ext hE6) rfl (inR_nat hi) <| fun pb hB => ?_
        rw [hp] at hB
        refine lp rfl rfl (X_loadAt (v := S p) Tryz.isAgg9 rfl hB rfl) <| lp rfl rfl (X_move (v := .int .i64 (winner a0 p).2) rfl) <|
          lp rfl rfl (X_build1 (vs := [(0, (S p)), (1, (.int .i64 (winner a0 p).2))]) (pl := #[(0, 1), (1, 1)]) Tryz.underlying85 Tryz.zeroValue85 rfl (fun _ => by kernel_rfl) rfl rfl rfl) <|
          L_lit (.plain rfl) rfl (ltb rfl) rfl Tryz.underlying78 Tryz.sizeOf85 Tryz.zeroValue85 rfl rfl rfl (vs := [(.agg #[(S p), (.int .i64 (winner a0 p).2)])]) rfl (lit_all rfl) <| fun b10 W7 z10 z11 e10 k10 => ?_
        refine L_append2 (enc := encPick) (.plain rfl) rfl (ltb rfl) rfl El.t78 rfl rfl (Ow.ext hO6' e10) (Ow.rd (Ow.new (xs := [(⟨p, (winner a0 p).2⟩ : Pick)]) (sz := 2) (enc := encPick) (base := W6.heap.size) k10 (Nat.le_of_eq z10) rfl (fun _ _ => by rfl) (Nat.le_of_ble_eq_true rfl))) (ones_Pick _) (by simp only [List.length_cons, List.length_nil]; omega) (Ext.trans hE6 e10).size <|
          fun v11 W8 o11 z12 g11 ap11 => lp rfl rfl (X_assign (v := v11) rfl) <| L_nil <| blk_n <| thn_n <| W_reg <| lp rfl rfl (X_move q7) <| lp rfl rfl (X_add rfl rfl) <| lp rfl rfl (X_assign (v := .int .i64 ((i + 1 : Nat) : Int)) (congrArg (Value.int .i64) hw)) <| nx ?_
        obtain ⟨o9', hD''⟩ := ap11 (Ow.ext o9 e10) hD'.symm
        exact ⟨m - 1, by omega, i + 1, v9, v11, by omega, q0, q4, rfl, rfl, rfl, by rw [hf5]; exact o9', by rw [hf6]; exact o11, hD''.symm, g11 _ (Ext.trans hE6 e10)⟩
      · have g5 : winR a0 p = none := by unfold winR; rw [if_neg hc]
        have g6 : pickK a0 p = none := by unfold pickK; rw [if_neg hc]
        rw [g5] at hf5
        rw [g6] at hf6
        refine W_false (cb (decide_eq_false hc)) <| W_skip <| blk_n <| thn_n <| W_reg <| lp rfl rfl (X_move q7) <| lp rfl rfl (X_add rfl rfl) <| lp rfl rfl (X_assign (v := .int .i64 ((i + 1 : Nat) : Int)) (congrArg (Value.int .i64) hw)) <| nx ?_
        exact ⟨m - 1, by omega, i + 1, v5, v6, by omega, q0, q4, rfl, q5, q6, by rw [hf5]; simpa using Ow.ext hO5 e7, by rw [hf6]; simpa using Ow.ext hO6 e7, hD, hE4⟩
    · have hie : i = (pathsL a0).length := by omega
      rw [hie, List.take_length] at hO5 hO6
      refine W_false (cb (decide_eq_false (by omega))) <| W_exit <| thn_x <| thn_x <| blk_x <| thn_n ?_
      exact ⟨v5, v6, q5, q6, hO5, hO6, hE⟩
  · rintro s2 W2 ⟨v5, v6, q5, q6, hO5, hO6, hE⟩
    refine thn_n <| wr <| lp rfl rfl (X_move q5) <| L_callO (.plain rfl) rfl (ltb rfl) rfl Tryz.call124 (spec_l03Canon.calls (w := W2) (a0 := winsL a0) hO5.rd (by omega) (sheetB_path hws)) rfl <| fun v7 W3 e4 o7 =>
      lp rfl rfl (X_move (v := v6) q6) <| lp rfl rfl (X_assign (v := v7) rfl) <| lp rfl rfl (X_assign (v := v6) rfl) <| nx <| W_ret <| fin_r ?_
    exact fin2oo rfl rfl (e1.t (Ext.trans hE e4)) o7 (e1.t hE).size (Ow.ext hO6 e4) e1.size

/-! spec.MergeMany -/
theorem spec_MergeMany.walk {w : World} {a0 : List (List Rec)} {v_a0 : Value} (f_a0 : Rd2 5 encRec w v_a0 a0) {r : List Rec × Int} (H : spec_MergeMany.sh a0 = some r) :
  Calls Tryz.prog 85 #[v_a0] w (Rt (RT 58 5 encRec w r.1 (.int .i64 r.2))) := by
 unfold spec_MergeMany.sh at H
 refine calls_of_W Tryz.func85 rfl (Nat.le_of_ble_eq_true rfl) Tryz.ntmps85 rfl ?_
 refine wr <| lp rfl rfl (X_assign (v := (.slice none 0 0)) rfl) <| lp rfl rfl (X_assign (v := (.int .i64 0)) rfl) <| nx <| W_seq <| wr <| lp rfl rfl (X_move (v := v_a0) rfl) <| lp rfl rfl (X_lenR2 Tryz.underlying23 rfl f_a0) <| lp rfl rfl (X_gtr rfl rfl) <| nx ?_
 rcases bif_two H with ⟨q1, H⟩ | ⟨q1, H⟩
 ·refine W_true (cb q1) <| wr <| L_lit (.plain rfl) rfl (ltb rfl) rfl Tryz.underlying35 Tryz.sizeOf58 Tryz.zeroValue58 rfl rfl rfl (vs := []) rfl (lit_all rfl) <| fun b2 w3 z4 z5 e6 k7 => lp rfl rfl (X_assign (v := (.slice (some ⟨b2, 0, none⟩) 0 0)) rfl) <| lp rfl rfl (X_assign (v := (.int .i64 2)) rfl) <| nx <| W_ret <| thn_r <| fin_r ?_
  obtain rfl := si H
  exact fin2o rfl rfl e6 (Ow.zero (base := w.heap.size)) (Nat.le_refl _)
 ·refine W_false (cb q1) <| W_skip <| thn_n <| W_seq <| wr <| lp rfl rfl (X_move (v := v_a0) rfl) ?_
  obtain ⟨c8, H⟩ := bif_some H
  obtain ⟨c9, H⟩ := bif_some H
  obtain ⟨c10, H⟩ := bif_some H
  refine lc rfl rfl rfl Tryz.call107 (spec_l05Stack.calls (w := w) (a0 := a0) f_a0 (od c8) (od c9) (od c10)) rfl <| fun w11 e12 => lp rfl rfl (X_not rfl) <| nx ?_
  rcases bif_two H with ⟨q13, H⟩ | ⟨q13, H⟩
  ·refine W_true (cb q13) <| wr <| L_lit (.plain rfl) rfl (ltb rfl) rfl Tryz.underlying35 Tryz.sizeOf58 Tryz.zeroValue58 rfl rfl rfl (vs := []) rfl (lit_all rfl) <| fun b14 w15 z16 z17 e18 k19 => lp rfl rfl (X_assign (v := (.slice (some ⟨b14, 0, none⟩) 0 0)) rfl) <| lp rfl rfl (X_assign (v := (.int .i64 1)) rfl) <| nx <| W_ret <| thn_r <| fin_r ?_
   obtain rfl := si H
   exact fin2o rfl rfl (e12.t e18) (Ow.zero (base := w.heap.size)) (Nat.le_refl _)
  ·refine W_false (cb q13) <| W_skip <| thn_n <| wr <| lp rfl rfl (X_move (v := v_a0) rfl) ?_
   obtain ⟨c20, H⟩ := bif_some H
   refine L_callTT (.plain rfl) rfl (ltb rfl) rfl Tryz.call176 (spec_l07Merge.calls (w := w11) (a0 := a0) (Rd2.ext f_a0 e12) (od c20)) rfl <| fun v23 v24 w21 e22 o25 o26 => lp rfl rfl (X_move (v := (.tuple #[v23, v24])) rfl) <| lp rfl rfl (X_extract (v := v23) rfl rfl) <| lp rfl rfl (X_extract (v := v24) rfl rfl) <| lp rfl rfl (X_assign (v := v23) rfl) <| lp rfl rfl (X_assign (v := v24) rfl) <| nx <| W_seq <| wr <| lp rfl rfl (X_move (v := v23) rfl) <| lp rfl rfl (X_lenR Tryz.underlying35 rfl (Ow.rd o25)) <| lp rfl rfl (X_gtr rfl rfl) <| nx ?_
   rcases bif_two H with ⟨q27, H⟩ | ⟨q27, H⟩
   ·refine W_true (cb q27) <| wr <| L_lit (.plain rfl) rfl (ltb rfl) rfl Tryz.underlying35 Tryz.sizeOf58 Tryz.zeroValue58 rfl rfl rfl (vs := []) rfl (lit_all rfl) <| fun b28 w29 z30 z31 e32 k33 => lp rfl rfl (X_assign (v := (.slice (some ⟨b28, 0, none⟩) 0 0)) rfl) <| lp rfl rfl (X_assign (v := (.int .i64 7)) rfl) <| nx <| W_ret <| thn_r <| fin_r ?_
    obtain rfl := si H
    exact fin2o rfl rfl ((e12.t e22).t e32) (Ow.zero (base := w.heap.size)) (Nat.le_refl _)
   ·refine W_false (cb q27) <| W_skip <| thn_n <| wr <| lp rfl rfl (X_move (v := v23) rfl) <| lp rfl rfl (X_assign (v := v23) rfl) <| lp rfl rfl (X_assign (v := (.int .i64 0)) rfl) <| nx <| W_ret <| fin_r ?_
    obtain rfl := si H
    exact fin2o rfl rfl (e12.t e22) o25 (e12).size
theorem spec_MergeMany.calls {w : World} {a0 : List (List Rec)} {v_a0 : Value} (f_a0 : Rd2 5 encRec w v_a0 a0) (h0 : a0.length ≤ 1048576) (h1 : ∀ l ∈ a0, l.length ≤ 1048576) (h2 : ∀ l ∈ a0, ∀ x ∈ l, x.path.length ≤ 1048576) :
  Calls Tryz.prog 85 #[v_a0] w (Rt (RT 58 5 encRec w ((mergeOf a0).1) (.int .i64 ((mergeOf a0).2)))) := spec_MergeMany.walk f_a0 (spec_MergeMany.eq a0 h0 h1 h2)
/-! impl.merge -/
theorem impl_merge.walk {k : Nat} {w : World} {a0 : List (List Rec)} (gv : GV 0 w) {v_a0 : Value} (f_a0 : Rd2 5 encRec w v_a0 a0) {r : List Rec} (H : impl_merge.sh k a0 = some r) :
  Calls Tryz.prog 183 #[v_a0] w (Rt (RO 58 5 encRec w r)) := by
 unfold impl_merge.sh at H
 refine calls_of_W Tryz.func183 rfl (Nat.le_of_ble_eq_true rfl) Tryz.ntmps183 rfl ?_
 refine wr <| lp rfl rfl (X_assign (v := (.slice none 0 0)) rfl) <| nx <| wr <| L_lit (.plain rfl) rfl (ltb rfl) rfl Tryz.underlying35 Tryz.sizeOf58 Tryz.zeroValue58 rfl rfl rfl (vs := []) rfl (lit_all rfl) <| fun b1 w2 z3 z4 e5 k6 => lp rfl rfl (X_assign (v := (.slice (some ⟨b1, 0, none⟩) 0 0)) rfl) <| nx <| W_seq <| wr <| lp rfl rfl (X_move (v := v_a0) rfl) ?_
 obtain ⟨c7, H⟩ := bif_some H
 obtain ⟨c8, H⟩ := bif_some H
 obtain ⟨c9, H⟩ := bif_some H
 refine L_callO (.plain rfl) rfl (ltb rfl) rfl Tryz.call134 (impl_paths.calls (w := w2) (a0 := a0) (GV.ext gv e5) (Rd2.ext f_a0 e5) (od c7) (od c8) (od c9)) rfl <| fun v12 w10 e11 o13 => lp rfl rfl (X_lenR Tryz.underlying42 rfl (Ow.rd o13)) <| lp rfl rfl (X_move (v := (.int .i64 0)) rfl) <| nx ?_
 obtain ⟨z17, L18, C19⟩ := bind_some H
 clear H
 refine  W_cutQ (fun s0 sQ wQ => ∃ (x3_20 : List Rec) (v21 : Value), Kp [(3, 4), (5, 9), (13, 30)] s0 sQ ∧ sQ 3 = v21 ∧ Ow 58 5 encRec w10.heap.size wQ v21 x3_20 ∧ Ext w10 wQ ∧ z17 = .inr x3_20) ?_ ?_
 ·refine W_block <| W_loopI (fun s0 kk sQ wQ => ∃ (x3_14 : List Rec) (v15 : Value) (x13_16 : Int), Kp [(3, 4), (5, 9), (13, 30)] s0 sQ ∧ sQ 3 = v15 ∧ Ow 58 5 encRec w10.heap.size wQ v15 x3_14 ∧ sQ 13 = .int .i64 x13_16 ∧ Ext w10 wQ ∧ loopF (impl_merge.b1 a0) kk (x3_14, x13_16) = some z17) k ⟨([] : List Rec), (.slice (some ⟨b1, 0, none⟩) 0 0), 0, kz, rfl, (Ow.zero), rfl, er, L18⟩ ?_
  rintro k26 s27 w28 ⟨x3_14, v15, x13_16, K29, h32, h33, h34, e30, L31⟩
  cases k26 with
  | zero => exact absurd L31 (by simp [loopF])
  | succ k26 =>
   obtain ⟨t35, H, S36⟩ := loopF_succ L31
   clear L31
   unfold impl_merge.b1 at H
   refine wr <| lp rfl rfl (X_lss h34 (K29 12 rfl)) <| nx <| W_seq ?_
   rcases bif_two H with ⟨q37, H⟩ | ⟨q37, H⟩
   ·refine W_true (cb q37) <| W_skip <| thn_n <| W_seq <| W_block <| wr ?_
    obtain ⟨c38, H⟩ := bif_some H
    refine L_idx (.plain rfl) rfl (ltb rfl) rfl Tryz.underlying42 Tryz.sizeOf9 (K29 11 rfl) (Ow.rd (Ow.ext o13 e30)) h34 c38 <| fun p39 h40 => lp rfl rfl (X_loadAt Tryz.isAgg9 rfl h40 rfl) <| lp rfl rfl (X_assign (v := (S (gt (pathsL a0) x13_16))) rfl) <| nx <| wr <| lp rfl rfl (X_move (v := v_a0) (K29 0 rfl)) <| lp rfl rfl (X_move (v := (S (gt (pathsL a0) x13_16))) rfl) ?_
    obtain ⟨c41, H⟩ := bif_some H
    obtain ⟨c42, H⟩ := bif_some H
    obtain ⟨c43, H⟩ := bif_some H
    obtain ⟨c44, H⟩ := bif_some H
    refine lc rfl rfl rfl Tryz.call175 (impl_winner.calls (w := w28) (a0 := a0) (a1 := gt (pathsL a0) x13_16) (Rd2.ext f_a0 ((e5.t e11).t e30)) (od c41) (od c42) (od c43) (od c44)) rfl <| fun w45 e46 => lp rfl rfl (X_move rfl) <| lp rfl rfl (X_extract (v := (.agg (encRec ((winner a0 (gt (pathsL a0) x13_16)).1)).toArray)) rfl rfl) <| lp rfl rfl (X_extract (v := (.int .i64 ((winner a0 (gt (pathsL a0) x13_16)).2))) rfl rfl) <| lp rfl rfl (X_extract (v := (.bool (decide ((0 : Int) < (winner a0 (gt (pathsL a0) x13_16)).2)))) rfl rfl) <| L_alloc (.plain rfl) rfl (ltb rfl) rfl Tryz.zeroValue58 <| fun b47 w48 z49 z50 e51 k52 => L_storeA (.plain rfl) rfl rfl Tryz.sizeOf58 rfl rfl rfl rfl rfl k52 <| fun w53 h54 k55 => lp rfl rfl (X_assign (v := (.int .i64 ((winner a0 (gt (pathsL a0) x13_16)).2))) rfl) <| lp rfl rfl (X_assign (v := (.bool (decide ((0 : Int) < (winner a0 (gt (pathsL a0) x13_16)).2)))) rfl) <| nx <| wr <| lp rfl rfl (X_move (v := (.bool (decide ((0 : Int) < (winner a0 (gt (pathsL a0) x13_16)).2)))) rfl) <| nx ?_
    rcases bif_two H with ⟨q56, H⟩ | ⟨q56, H⟩
    ·refine W_true (cb q56) <| W_reg <| lp rfl rfl (X_move h32) <| lp rfl rfl (X_loadS Tryz.isAgg58 Tryz.sizeOf58 rfl rfl (Blk.at0 k55)) <| L_lit (.plain rfl) rfl (ltb rfl) rfl Tryz.underlying35 Tryz.sizeOf58 Tryz.zeroValue58 rfl rfl rfl (vs := [(.agg #[(.int .i64 (((winner a0 (gt (pathsL a0) x13_16)).1).kind)), (S (((winner a0 (gt (pathsL a0) x13_16)).1).path)), (S (((winner a0 (gt (pathsL a0) x13_16)).1).body)), (.int .i64 (((winner a0 (gt (pathsL a0) x13_16)).1).mode)), (.bool (((winner a0 (gt (pathsL a0) x13_16)).1).opq))])]) rfl (lit_all rfl) <| fun b57 w58 z59 z60 e61 k62 => ?_
     obtain ⟨c63, H⟩ := bif_some H
     refine L_append (enc := encRec) (.plain rfl) rfl (ltb rfl) rfl El.t35 rfl rfl (Ow.ext h33 ((e46.t (Below.trans e51 (Wr.below h54 (Nat.le_of_eq z49)))).t e61)) (Ow.rd (Ow.new (xs := [((winner a0 (gt (pathsL a0) x13_16)).1)]) (sz := 5) (enc := encRec) (base := w53.heap.size) k62 (Nat.le_of_eq z59) rfl (fun _ _ => by rfl) (Nat.le_of_ble_eq_true rfl))) (ones_Rec _) (od c63) ((((e30.t e46).t (Below.trans e51 (Wr.below h54 (Nat.le_of_eq z49)))).t e61)).size <| fun v64 w65 o66 z67 g68 => lp rfl rfl (X_assign (v := v64) rfl) <| L_nil <| blk_n <| thn_n <| W_reg <| lp rfl rfl (X_add h34 rfl) <| lp rfl rfl (X_move (v := (.int .i64 (IntKind.wrap .i64 (x13_16 + 1)))) rfl) <| nx ?_
     obtain rfl := si H
     exact ⟨_, Nat.lt_succ_self _, x3_14 ++ ([((winner a0 (gt (pathsL a0) x13_16)).1)] : List Rec), v64, IntKind.wrap .i64 (x13_16 + 1), (ku2 (ku4 (ku8 (ku8 K29 rfl) rfl) rfl) rfl), rfl, o66, rfl, (g68 _ (((e30.t e46).t (Below.trans e51 (Wr.below h54 (Nat.le_of_eq z49)))).t e61)), S36⟩
    ·refine W_false (cb q56) <| W_skip <| blk_n <| thn_n <| W_reg <| lp rfl rfl (X_add h34 rfl) <| lp rfl rfl (X_move (v := (.int .i64 (IntKind.wrap .i64 (x13_16 + 1)))) rfl) <| nx ?_
     obtain rfl := si H
     exact ⟨_, Nat.lt_succ_self _, x3_14, v15, IntKind.wrap .i64 (x13_16 + 1), (ku1 (ku8 (ku8 K29 rfl) rfl) rfl), h32, (Ow.ext h33 (e46.t (Below.trans e51 (Wr.below h54 (Nat.le_of_eq z49))))), rfl, ((e30.t e46).t (Below.trans e51 (Wr.below h54 (Nat.le_of_eq z49)))), S36⟩
   ·refine W_false (cb q37) <| W_exit <| thn_x <| thn_x <| blk_x <| thn_n ?_
    obtain rfl := si H
    obtain rfl := si S36
    exact ⟨x3_14, v15, (ku1 K29 rfl), h32, h33, e30, rfl⟩
 ·rintro s23 w22 ⟨x3_20, v21, K24, h69, h70, e25, y71⟩
  rw [y71] at C19
  have H := C19
  replace H : _ = some _ := H
  refine thn_n <| wr <| lp rfl rfl (X_move h69) ?_
  obtain ⟨c72, H⟩ := bif_some H
  obtain ⟨c73, H⟩ := bif_some H
  refine L_callO (.plain rfl) rfl (ltb rfl) rfl Tryz.call132 (impl_canonical.calls (w := w22) (a0 := x3_20) (GV.ext gv ((e5.t e11).t e25)) (Ow.rd h70) (od c72) (od c73)) rfl <| fun v76 w74 e75 o77 => lp rfl rfl (X_assign (v := v76) rfl) <| nx <| W_ret <| fin_r ?_
  obtain rfl := si H
  exact fin1o rfl (((e5.t e11).t e25).t e75) o77 (((e5.t e11).t e25)).size
theorem impl_merge.calls {w : World} {a0 : List (List Rec)} (gv : GV 0 w) {v_a0 : Value} (f_a0 : Rd2 5 encRec w v_a0 a0) (h0 : stackOK a0 = true) :
  Calls Tryz.prog 183 #[v_a0] w (Rt (RO 58 5 encRec w (mergeL a0))) := by
 obtain ⟨k, h⟩ := impl_merge.eq a0 h0
 exact impl_merge.walk gv f_a0 h
/-! impl.MergeMany -/
theorem impl_MergeMany.walk {w : World} {a0 : List (List Rec)} (gv : GV 0 w) {v_a0 : Value} (f_a0 : Rd2 5 encRec w v_a0 a0) {r : List Rec × Int} (H : impl_MergeMany.sh a0 = some r) :
  Calls Tryz.prog 84 #[v_a0] w (Rt (RT 58 5 encRec w r.1 (.int .i64 r.2))) := by
 unfold impl_MergeMany.sh at H
 refine calls_of_W Tryz.func84 rfl (Nat.le_of_ble_eq_true rfl) Tryz.ntmps84 rfl ?_
 refine wr <| lp rfl rfl (X_assign (v := (.slice none 0 0)) rfl) <| lp rfl rfl (X_assign (v := (.int .i64 0)) rfl) <| nx <| W_seq <| wr <| lp rfl rfl (X_move (v := v_a0) rfl) ?_
 obtain ⟨c1, H⟩ := bif_some H
 obtain ⟨c2, H⟩ := bif_some H
 obtain ⟨c3, H⟩ := bif_some H
 refine lc rfl rfl rfl Tryz.call105 (impl_stackCode.calls (w := w) (a0 := a0) gv f_a0 (od c1) (od c2) (od c3)) rfl <| fun w4 e5 => lp rfl rfl (X_assign (v := (.int .i64 (stackCode a0))) rfl) <| nx <| wr <| lp rfl rfl (X_move (v := (.int .i64 (stackCode a0))) rfl) <| lp rfl rfl (X_neq rfl rfl) <| nx ?_
 rcases bif_two H with ⟨q6, H⟩ | ⟨q6, H⟩
 ·refine W_true (cb q6) <| wr <| lp rfl rfl (X_move (v := (.int .i64 (stackCode a0))) rfl) <| lp rfl rfl (X_assign (v := (.slice none 0 0)) rfl) <| lp rfl rfl (X_assign (v := (.int .i64 (stackCode a0))) rfl) <| nx <| W_ret <| thn_r <| fin_r ?_
  obtain rfl := si H
  exact fin2o rfl rfl e5 (Ow.zero (base := w.heap.size)) (Nat.le_refl _)
 ·refine W_false (cb q6) <| W_skip <| thn_n <| wr <| lp rfl rfl (X_move (v := v_a0) rfl) ?_
  obtain ⟨c7, H⟩ := bif_some H
  refine L_callO (.plain rfl) rfl (ltb rfl) rfl Tryz.call183 (impl_merge.calls (w := w4) (a0 := a0) (GV.ext gv e5) (Rd2.ext f_a0 e5) (od c7)) rfl <| fun v10 w8 e9 o11 => L_callA (.plain rfl) rfl (ltb rfl) rfl Tryz.call118 (impl_fitting.calls (w := w8) (Ow.rd o11)) rfl <| fun _ w12 hA9 => ?_
  obtain ⟨rfl, e13⟩ := hA9
  refine lp rfl rfl (X_extract (v := (fitV v10 (mergeL a0))) rfl rfl) <| lp rfl rfl (X_extract (v := (.int .i64 (fitC (mergeL a0)))) rfl rfl) <| lp rfl rfl (X_assign (v := (fitV v10 (mergeL a0))) rfl) <| lp rfl rfl (X_assign (v := (.int .i64 (fitC (mergeL a0)))) rfl) <| nx <| W_ret <| fin_r ?_
  obtain rfl := si H
  exact fin2o rfl rfl ((e5.t e9).t e13) (Ow.fit (Ow.ext o11 e13)) (e5).size
theorem impl_MergeMany.calls {w : World} {a0 : List (List Rec)} (gv : GV 0 w) {v_a0 : Value} (f_a0 : Rd2 5 encRec w v_a0 a0) (h0 : a0.length ≤ 1048576) (h1 : ∀ l ∈ a0, l.length ≤ 1048576) (h2 : ∀ l ∈ a0, ∀ x ∈ l, x.path.length ≤ 1048576) :
  Calls Tryz.prog 84 #[v_a0] w (Rt (RT 58 5 encRec w ((mergeOf a0).1) (.int .i64 ((mergeOf a0).2)))) := impl_MergeMany.walk gv f_a0 (impl_MergeMany.eq a0 h0 h1 h2)
/-! spec.l00Source -/
theorem spec_l00Source.walk {w : World} {a0 : List Int} {v_a0 : Value} (f_a0 : Rd 1 (Go.UL.encI .u8) w v_a0 a0) {r : DSrc} (H : spec_l00Source.sh a0 = some r) :
  Calls Tryz.prog 103 #[v_a0] w (Rt (RSN 162 v_a0 w r)) := by
 unfold spec_l00Source.sh at H
 refine calls_of_W Tryz.func103 rfl (Nat.le_of_ble_eq_true rfl) Tryz.ntmps103 rfl ?_
 refine wr <| lp rfl rfl (X_assign rfl) <| nx <| wr <| lp rfl rfl (X_move (v := v_a0) rfl) <| lp rfl rfl (X_move (v := v_a0) rfl) <| lp rfl rfl (X_lenR Tryz.underlying22 rfl f_a0) <| lp rfl rfl (X_rem rfl rfl (by decide)) <| lp rfl rfl (X_build1 (vs := [(0, v_a0), (2, (.int .i64 ((a0.length : Int).tmod 1000)))]) (pl := #[(0, 1), (1, 1), (2, 1)]) Tryz.underlying162 Tryz.zeroValue162 rfl (fun _ => by kernel_rfl) rfl rfl (by obtain ⟨A9, c9, e9⟩ := Rd.shape f_a0; rw [e9]; rfl)) <| L_box (.plain rfl) rfl (ltb rfl) rfl rfl <| fun b1 w2 z3 z4 e5 k6 => lp rfl rfl (X_assign (v := (.pointer (some ⟨b1, 0, none⟩))) rfl) <| nx <| W_ret <| fin_r ?_
 obtain rfl := si H
 exact fin1sn rfl e5 (Nat.le_trans (er).size (Nat.le_of_eq z3)) k6
theorem spec_l00Source.calls {w : World} {a0 : List Int} {r : DSrc} {v_a0 : Value} (f_a0 : Rd 1 (Go.UL.encI .u8) w v_a0 a0) (H : (spec_l00Source.sh a0) = some r) :
  Calls Tryz.prog 103 #[v_a0] w (Rt (RSN 162 v_a0 w r)) := spec_l00Source.walk f_a0 (spec_l00Source.eq a0 H)
/-! (*spec.l00Src).byte -/
abbrev draw_byte.e1 (a1 : DSrc) := (IntKind.wrap .i64 ((IntKind.wrap .i64 (a1.pos + 1)) - 1))
abbrev draw_byte.e2 (a0 : List Int) (a1 : DSrc) := (IntKind.wrap .i64 ((IntKind.wrap .i64 (a1.seed * 31)) + (IntKind.wrap .i64 (gt a0 (draw_byte.e1 a1)))))
theorem draw_byte.walk {w : World} {a0 : List Int} {a1 : DSrc} {wc : World} {cv : Value} {bs : Nat} (kc : Ext wc w) (fc : Rd 1 (Go.UL.encI .u8) wc cv a0) (hz : wc.heap.size ≤ bs) (ks : Blk w bs (encSrc cv a1).toArray 162) {r : Int × DSrc} (H : draw_byte.sh a0 a1 = some r) :
  Calls Tryz.prog 255 #[.pointer (some ⟨bs, 0, none⟩)] w (Rt (RS 162 bs cv w (.int .i64 r.1) r.2)) := by
 unfold draw_byte.sh at H
 refine calls_of_W Tryz.func255 rfl (Nat.le_of_ble_eq_true rfl) Tryz.ntmps255 rfl ?_
 refine wr <| lp rfl rfl (X_assign (v := (.int .i64 0)) rfl) <| nx <| wr <| lp rfl rfl (X_move (v := (.pointer (some ⟨bs, 0, none⟩))) rfl) <| lp rfl rfl (X_nil rfl) <| lp rfl rfl (X_fieldAddr Tryz.underlying162 rfl Tryz.sizeOf3 rfl rfl) <| lp rfl rfl (X_loadB Tryz.isAgg3 ks rfl rfl) <| lp rfl rfl (X_add rfl rfl) <| lp rfl rfl (X_nil rfl) <| lp rfl rfl (X_fieldAddr Tryz.underlying162 rfl Tryz.sizeOf3 rfl rfl) <| L_store1 (.plain rfl) rfl rfl Tryz.sizeOf3 rfl rfl rfl ks (ltb rfl) <| fun w1 h2 k3 => nx <| W_seq <| W_seq ?_
 refine W_dM [LEq (.pointer (some ⟨bs, 0, none⟩)), LEq (.pointer (some ⟨bs, 0, none⟩)), LEq (.pointer (some ⟨bs, 1, none⟩)), LEq (.int .i64 (IntKind.wrap .i64 (a1.pos + 1))), LEq (.pointer (some ⟨bs, 0, none⟩)), LEq (.pointer (some ⟨bs, 0, none⟩)), LEq (.pointer (some ⟨bs, 0, none⟩)), LRd 1 (Go.UL.encI .u8) a0, LEq (.int .i64 (a0.length : Int)), LEq (.bool (decide ((IntKind.wrap .i64 (a1.pos + 1)) ≤ (a0.length : Int))))] (by kernel_rfl) (by kernel_rfl) ⟨LEq.mono, LEq.mono, LEq.mono, LEq.mono, LEq.mono, LEq.mono, LEq.mono, LRd.mono, LEq.mono, LEq.mono, trivial⟩ ⟨?_, ?_, ?_, ?_, ?_, ?_, ?_, ?_, ?_, ?_, trivial⟩ ?_
 ·exact fun s x e f d u => lp rfl rfl (X_move (v := (.pointer (some ⟨bs, 0, none⟩))) (f 0 rfl)) <| se rfl rfl
 ·exact fun s x e f d u => lp rfl rfl (X_nil (d 0 rfl)) <| se rfl rfl
 ·exact fun s x e f d u => lp rfl rfl (X_fieldAddr Tryz.underlying162 rfl Tryz.sizeOf3 rfl (d 1 rfl)) <| se rfl rfl
 ·exact fun s x e f d u => lp rfl rfl (X_loadB Tryz.isAgg3 (Blk.ext k3 e) (d 2 rfl) rfl) <| se rfl rfl
 ·exact fun s x e f d u => lp rfl rfl (X_move (v := (.pointer (some ⟨bs, 0, none⟩))) (f 0 rfl)) <| se rfl rfl
 ·exact fun s x e f d u => lp rfl rfl (X_nil (d 4 rfl)) <| se rfl rfl
 ·exact fun s x e f d u => lp rfl rfl (X_fieldAddr Tryz.underlying162 rfl Tryz.sizeOf22 rfl (d 5 rfl)) <| se rfl rfl
 ·exact fun s x e f d u => lp rfl rfl (X_loadB Tryz.isAgg22 (Blk.ext k3 e) (d 6 rfl) rfl) <| se rfl (Rd.ext fc (Ext.trans (Below.trans kc (Below.mono (Wr.below h2 hz) (Nat.le_refl _))) e))
 ·intro s x e f d u
  have d4 : Rd 1 (Go.UL.encI .u8) x (s 17) a0 := (d 7 rfl)
  exact lp rfl rfl (X_lenR Tryz.underlying22 rfl d4) <| se rfl rfl
 ·exact fun s x e f d u => lp rfl rfl (X_leq (d 3 rfl) (d 8 rfl)) <| se rfl rfl
 intro s5 w6 e7 hf8 ha9
 have K10 := Kp.ofD (kp := [(10, 20)]) rfl hf8
 have d11 : s5 19 = (.bool (decide ((IntKind.wrap .i64 (a1.pos + 1)) ≤ (a0.length : Int)))) := ha9 9 rfl
 clear ha9 hf8
 refine thn_n ?_
 rcases bif_two H with ⟨q12, H⟩ | ⟨q12, H⟩
 ·refine W_true (d11.trans (cb q12)) <| W_seq ?_
  obtain ⟨c13, H⟩ := bif_some H
  refine W_dN 22 [LEq (.pointer (some ⟨bs, 0, none⟩)), LEq (.pointer (some ⟨bs, 0, none⟩)), LEq (.pointer (some ⟨bs, 0, none⟩)), LEq (.pointer (some ⟨bs, 2, none⟩)), LEq (.int .i64 a1.seed), LEq (.int .i64 (IntKind.wrap .i64 (a1.seed * 31))), LEq (.pointer (some ⟨bs, 0, none⟩)), LEq (.pointer (some ⟨bs, 0, none⟩)), LEq (.pointer (some ⟨bs, 0, none⟩)), LRd 1 (Go.UL.encI .u8) a0, LEq (.pointer (some ⟨bs, 0, none⟩)), LEq (.pointer (some ⟨bs, 0, none⟩)), LEq (.pointer (some ⟨bs, 1, none⟩)), LEq (.int .i64 (IntKind.wrap .i64 (a1.pos + 1))), LEq (.int .i64 (draw_byte.e1 a1)), LAt0 ((Go.UL.encI .u8) (gt a0 (draw_byte.e1 a1))), LEq (.int .u8 (gt a0 (draw_byte.e1 a1))), LEq (.int .i64 (IntKind.wrap .i64 (gt a0 (draw_byte.e1 a1)))), LEq (.int .i64 (draw_byte.e2 a0 a1)), LEq (.int .i64 (IntKind.wrap .i64 ((draw_byte.e2 a0 a1) + 7))), LEq (.int .i64 ((IntKind.wrap .i64 ((draw_byte.e2 a0 a1) + 7)).tmod 2147483648)), LEq (.pointer (some ⟨bs, 0, none⟩))] (by kernel_rfl) (by kernel_rfl) (by kernel_rfl) ⟨LEq.mono, LEq.mono, LEq.mono, LEq.mono, LEq.mono, LEq.mono, LEq.mono, LEq.mono, LEq.mono, LRd.mono, LEq.mono, LEq.mono, LEq.mono, LEq.mono, LEq.mono, LAt0.mono, LEq.mono, LEq.mono, LEq.mono, LEq.mono, LEq.mono, LEq.mono, trivial⟩ ⟨?_, ?_, ?_, ?_, ?_, ?_, ?_, ?_, ?_, ?_, ?_, ?_, ?_, ?_, ?_, ?_, ?_, ?_, ?_, ?_, ?_, ?_, trivial⟩ ?_
  ·exact fun s x e f d u => lp rfl rfl (X_move (v := (.pointer (some ⟨bs, 0, none⟩))) ((f 0 rfl).trans (K10 0 rfl))) <| se rfl rfl
  ·exact fun s x e f d u => lp rfl rfl (X_move (v := (.pointer (some ⟨bs, 0, none⟩))) ((f 0 rfl).trans (K10 0 rfl))) <| se rfl rfl
  ·exact fun s x e f d u => lp rfl rfl (X_nil (d 1 rfl)) <| se rfl rfl
  ·exact fun s x e f d u => lp rfl rfl (X_fieldAddr Tryz.underlying162 rfl Tryz.sizeOf3 rfl (d 2 rfl)) <| se rfl rfl
  ·exact fun s x e f d u => lp rfl rfl (X_loadB Tryz.isAgg3 (Blk.ext k3 (e7.t e)) (d 3 rfl) rfl) <| se rfl rfl
  ·exact fun s x e f d u => lp rfl rfl (X_mul (d 4 rfl) rfl) <| se rfl rfl
  ·exact fun s x e f d u => lp rfl rfl (X_move (v := (.pointer (some ⟨bs, 0, none⟩))) ((f 0 rfl).trans (K10 0 rfl))) <| se rfl rfl
  ·exact fun s x e f d u => lp rfl rfl (X_nil (d 6 rfl)) <| se rfl rfl
  ·exact fun s x e f d u => lp rfl rfl (X_fieldAddr Tryz.underlying162 rfl Tryz.sizeOf22 rfl (d 7 rfl)) <| se rfl rfl
  ·exact fun s x e f d u => lp rfl rfl (X_loadB Tryz.isAgg22 (Blk.ext k3 (e7.t e)) (d 8 rfl) rfl) <| se rfl (Rd.ext fc (Ext.trans (Ext.trans (Below.trans kc (Below.mono (Wr.below h2 hz) (Nat.le_refl _))) e7) e))
  ·exact fun s x e f d u => lp rfl rfl (X_move (v := (.pointer (some ⟨bs, 0, none⟩))) ((f 0 rfl).trans (K10 0 rfl))) <| se rfl rfl
  ·exact fun s x e f d u => lp rfl rfl (X_nil (d 10 rfl)) <| se rfl rfl
  ·exact fun s x e f d u => lp rfl rfl (X_fieldAddr Tryz.underlying162 rfl Tryz.sizeOf3 rfl (d 11 rfl)) <| se rfl rfl
  ·exact fun s x e f d u => lp rfl rfl (X_loadB Tryz.isAgg3 (Blk.ext k3 (e7.t e)) (d 12 rfl) rfl) <| se rfl rfl
  ·exact fun s x e f d u => lp rfl rfl (X_sub (d 13 rfl) rfl) <| se rfl rfl
  ·intro s x e f d u
   have d16 : Rd 1 (Go.UL.encI .u8) x (s 29) a0 := (d 9 rfl)
   exact L_idx (.plain rfl) rfl (ltb rfl) rfl Tryz.underlying22 Tryz.sizeOf5 rfl d16 (d 14 rfl) c13 <| fun p18 h19 => se rfl ⟨_, rfl, h19⟩
  ·intro s x e f d u
   obtain ⟨p20, h21, h22⟩ := (d 15 rfl)
   exact lp rfl rfl (X_loadAt Tryz.isAgg5 h21 h22 rfl) <| se rfl rfl
  ·exact fun s x e f d u => lp rfl rfl (X_convInt Tryz.underlying5 Tryz.underlying3 (d 16 rfl)) <| se rfl rfl
  ·exact fun s x e f d u => lp rfl rfl (X_add (d 5 rfl) (d 17 rfl)) <| se rfl rfl
  ·exact fun s x e f d u => lp rfl rfl (X_add (d 18 rfl) rfl) <| se rfl rfl
  ·exact fun s x e f d u => lp rfl rfl (X_rem (d 19 rfl) rfl (by decide)) <| se rfl rfl
  ·exact fun s x e f d u => lp rfl rfl (X_nil (d 0 rfl)) <| se rfl rfl
  intro s23 w24 e25 hf26 ha27
  have K28 := Kp.ofD (kp := [(20, 42)]) rfl hf26
  have d29 : s23 40 = (.int .i64 ((IntKind.wrap .i64 ((draw_byte.e2 a0 a1) + 7)).tmod 2147483648)) := ha27 20 rfl
  have d30 : s23 41 = (.pointer (some ⟨bs, 0, none⟩)) := ha27 21 rfl
  clear ha27 hf26
  refine lp rfl rfl (X_fieldAddr Tryz.underlying162 rfl Tryz.sizeOf3 rfl d30) <| L_store1 (.plain rfl) rfl rfl Tryz.sizeOf3 rfl d29 rfl (Blk.ext k3 (e7.t e25)) (ltb rfl) <| fun w31 h32 k33 => nx <| W_seq ?_
  obtain ⟨c34, H⟩ := bif_some H
  refine W_dM [LEq (.pointer (some ⟨bs, 0, none⟩)), LEq (.pointer (some ⟨bs, 0, none⟩)), LEq (.pointer (some ⟨bs, 0, none⟩)), LRd 1 (Go.UL.encI .u8) a0, LEq (.pointer (some ⟨bs, 0, none⟩)), LEq (.pointer (some ⟨bs, 0, none⟩)), LEq (.pointer (some ⟨bs, 1, none⟩)), LEq (.int .i64 (IntKind.wrap .i64 (a1.pos + 1))), LEq (.int .i64 (draw_byte.e1 a1)), LAt0 ((Go.UL.encI .u8) (gt a0 (draw_byte.e1 a1))), LEq (.int .u8 (gt a0 (draw_byte.e1 a1))), LEq (.int .i64 (IntKind.wrap .i64 (gt a0 (draw_byte.e1 a1)))), LEq (.int .i64 (IntKind.wrap .i64 (gt a0 (draw_byte.e1 a1))))] (by kernel_rfl) (by kernel_rfl) ⟨LEq.mono, LEq.mono, LEq.mono, LRd.mono, LEq.mono, LEq.mono, LEq.mono, LEq.mono, LEq.mono, LAt0.mono, LEq.mono, LEq.mono, LEq.mono, trivial⟩ ⟨?_, ?_, ?_, ?_, ?_, ?_, ?_, ?_, ?_, ?_, ?_, ?_, ?_, trivial⟩ ?_
  ·exact fun s x e f d u => lp rfl rfl (X_move (v := (.pointer (some ⟨bs, 0, none⟩))) ((f 0 rfl).trans ((K28 0 rfl).trans (K10 0 rfl)))) <| se rfl rfl
  ·exact fun s x e f d u => lp rfl rfl (X_nil (d 0 rfl)) <| se rfl rfl
  ·exact fun s x e f d u => lp rfl rfl (X_fieldAddr Tryz.underlying162 rfl Tryz.sizeOf22 rfl (d 1 rfl)) <| se rfl rfl
  ·exact fun s x e f d u => lp rfl rfl (X_loadB Tryz.isAgg22 (Blk.ext k33 e) (d 2 rfl) rfl) <| se rfl (Rd.ext fc (Ext.trans (Below.trans (Ext.trans (Ext.trans (Below.trans kc (Below.mono (Wr.below h2 hz) (Nat.le_refl _))) e7) e25) (Below.mono (Wr.below h32 hz) (Nat.le_refl _))) e))
  ·exact fun s x e f d u => lp rfl rfl (X_move (v := (.pointer (some ⟨bs, 0, none⟩))) ((f 0 rfl).trans ((K28 0 rfl).trans (K10 0 rfl)))) <| se rfl rfl
  ·exact fun s x e f d u => lp rfl rfl (X_nil (d 4 rfl)) <| se rfl rfl
  ·exact fun s x e f d u => lp rfl rfl (X_fieldAddr Tryz.underlying162 rfl Tryz.sizeOf3 rfl (d 5 rfl)) <| se rfl rfl
  ·exact fun s x e f d u => lp rfl rfl (X_loadB Tryz.isAgg3 (Blk.ext k33 e) (d 6 rfl) rfl) <| se rfl rfl
  ·exact fun s x e f d u => lp rfl rfl (X_sub (d 7 rfl) rfl) <| se rfl rfl
  ·intro s x e f d u
   have d37 : Rd 1 (Go.UL.encI .u8) x (s 46) a0 := (d 3 rfl)
   exact L_idx (.plain rfl) rfl (ltb rfl) rfl Tryz.underlying22 Tryz.sizeOf5 rfl d37 (d 8 rfl) c34 <| fun p39 h40 => se rfl ⟨_, rfl, h40⟩
  ·intro s x e f d u
   obtain ⟨p41, h42, h43⟩ := (d 9 rfl)
   exact lp rfl rfl (X_loadAt Tryz.isAgg5 h42 h43 rfl) <| se rfl rfl
  ·exact fun s x e f d u => lp rfl rfl (X_convInt Tryz.underlying5 Tryz.underlying3 (d 10 rfl)) <| se rfl rfl
  ·exact fun s x e f d u => lp rfl rfl (X_assign (d 11 rfl)) <| se rfl rfl
  intro s44 w45 e46 hf47 ha48
  have K49 := Kp.ofD (kp := [(2, 3), (43, 55)]) rfl hf47
  have d50 : s44 2 = (.int .i64 (IntKind.wrap .i64 (gt a0 (draw_byte.e1 a1)))) := ha48 12 rfl
  clear ha48 hf47
  refine thn_n <| W_ret <| thn_r <| fin_r ?_
  obtain rfl := si H
  exact fin1s d50 (Gr.trans (Gr.trans (Gr.trans (Gr.trans (Gr.ofWr h2) (Gr.ext e7)) (Gr.ext e25)) (Gr.ofWr h32)) (Gr.ext e46)) (Blk.ext k33 e46)
 ·refine W_false (d11.trans (cb q12)) <| W_skip <| thn_n <| W_seq <| wr <| lp rfl rfl (X_move (v := (.pointer (some ⟨bs, 0, none⟩))) (K10 0 rfl)) <| lp rfl rfl (X_nil rfl) <| lp rfl rfl (X_fieldAddr Tryz.underlying162 rfl Tryz.sizeOf3 rfl rfl) <| lp rfl rfl (X_loadB Tryz.isAgg3 (Blk.ext k3 e7) rfl rfl) <| lp rfl rfl (X_gtr rfl rfl) <| nx ?_
  rcases bif_two H with ⟨q51, H⟩ | ⟨q51, H⟩
  ·refine W_true (cb q51) <| wr <| lp rfl rfl (X_assign (v := (.int .i64 0)) rfl) <| nx <| W_ret <| thn_r <| fin_r ?_
   obtain rfl := si H
   exact fin1s rfl (Gr.trans (Gr.ofWr h2) (Gr.ext e7)) (Blk.ext k3 e7)
  ·refine W_false (cb q51) <| W_skip <| thn_n <| wr <| lp rfl rfl (X_move (v := (.pointer (some ⟨bs, 0, none⟩))) (K10 0 rfl)) <| lp rfl rfl (X_move (v := (.pointer (some ⟨bs, 0, none⟩))) (K10 0 rfl)) <| lp rfl rfl (X_nil rfl) <| lp rfl rfl (X_fieldAddr Tryz.underlying162 rfl Tryz.sizeOf3 rfl rfl) <| lp rfl rfl (X_loadB Tryz.isAgg3 (Blk.ext k3 e7) rfl rfl) <| lp rfl rfl (X_mul rfl rfl) <| lp rfl rfl (X_add rfl rfl) <| lp rfl rfl (X_rem rfl rfl (by decide)) <| lp rfl rfl (X_nil rfl) <| lp rfl rfl (X_fieldAddr Tryz.underlying162 rfl Tryz.sizeOf3 rfl rfl) <| L_store1 (.plain rfl) rfl rfl Tryz.sizeOf3 rfl rfl rfl (Blk.ext k3 e7) (ltb rfl) <| fun w52 h53 k54 => nx <| wr <| lp rfl rfl (X_move (v := (.pointer (some ⟨bs, 0, none⟩))) (K10 0 rfl)) <| lp rfl rfl (X_nil rfl) <| lp rfl rfl (X_fieldAddr Tryz.underlying162 rfl Tryz.sizeOf3 rfl rfl) <| lp rfl rfl (X_loadB Tryz.isAgg3 k54 rfl rfl) <| lp rfl rfl (X_quo rfl rfl (by decide)) <| lp rfl rfl (X_rem rfl rfl (by decide)) <| lp rfl rfl (X_assign rfl) <| nx <| W_ret <| fin_r ?_
   obtain rfl := si H
   exact fin1s rfl (Gr.trans (Gr.trans (Gr.ofWr h2) (Gr.ext e7)) (Gr.ofWr h53)) k54
theorem draw_byte.calls {w : World} {a0 : List Int} {a1 : DSrc} {r : Int × DSrc} {wc : World} {cv : Value} {bs : Nat} (kc : Ext wc w) (fc : Rd 1 (Go.UL.encI .u8) wc cv a0) (hz : wc.heap.size ≤ bs) (ks : Blk w bs (encSrc cv a1).toArray 162) (H : (draw_byte.sh a0 a1) = some r) :
  Calls Tryz.prog 255 #[.pointer (some ⟨bs, 0, none⟩)] w (Rt (RS 162 bs cv w (.int .i64 r.1) r.2)) := draw_byte.walk kc fc hz ks (draw_byte.eq a0 a1 H)
/-! (*spec.l00Src).next -/
theorem draw_next.walk {w : World} {a0 : List Int} {a1 : DSrc} {a2 : Int} {wc : World} {cv : Value} {bs : Nat} (kc : Ext wc w) (fc : Rd 1 (Go.UL.encI .u8) wc cv a0) (hz : wc.heap.size ≤ bs) (ks : Blk w bs (encSrc cv a1).toArray 162) {r : Int × DSrc} (H : draw_next.sh a0 a1 a2 = some r) :
  Calls Tryz.prog 195 #[.pointer (some ⟨bs, 0, none⟩), .int .i64 a2] w (Rt (RS 162 bs cv w (.int .i64 r.1) r.2)) := by
 unfold draw_next.sh at H
 refine calls_of_W Tryz.func195 rfl (Nat.le_of_ble_eq_true rfl) Tryz.ntmps195 rfl ?_
 refine wr <| lp rfl rfl (X_assign (v := (.int .i64 0)) rfl) <| nx <| W_seq <| wr <| lp rfl rfl (X_move (v := (.int .i64 a2)) rfl) <| lp rfl rfl (X_leq rfl rfl) <| nx ?_
 rcases bif_two H with ⟨q1, H⟩ | ⟨q1, H⟩
 ·refine W_true (cb q1) <| wr <| lp rfl rfl (X_assign (v := (.int .i64 0)) rfl) <| nx <| W_ret <| thn_r <| fin_r ?_
  obtain rfl := si H
  exact fin1s rfl (Gr.refl _ _ _) ks
 ·refine W_false (cb q1) <| W_skip <| thn_n <| W_seq <| wr <| lp rfl rfl (X_move (v := (.int .i64 a2)) rfl) <| lp rfl rfl (X_leq rfl rfl) <| nx ?_
  rcases bif_two H with ⟨q2, H⟩ | ⟨q2, H⟩
  ·refine W_true (cb q2) <| wr <| lp rfl rfl (X_move (v := (.pointer (some ⟨bs, 0, none⟩))) rfl) ?_
   obtain ⟨z3, x4, H⟩ := bind_some H
   refine L_callS (.plain rfl) rfl (ltb rfl) rfl Tryz.call255 (draw_byte.calls (w := w) (a0 := a0) (a1 := a1) kc fc hz ks x4) rfl <| fun w7 g8 k9 => lp rfl rfl (X_move (v := (.int .i64 a2)) rfl) ?_
   obtain ⟨c10, H⟩ := bif_some H
   refine lp rfl rfl (X_rem rfl rfl (od c10)) <| lp rfl rfl (X_assign (v := (.int .i64 (z3.1.tmod a2))) rfl) <| nx <| W_ret <| thn_r <| fin_r ?_
   obtain rfl := si H
   exact fin1s rfl g8 k9
  ·refine W_false (cb q2) <| W_skip <| thn_n <| wr <| lp rfl rfl (X_move (v := (.pointer (some ⟨bs, 0, none⟩))) rfl) ?_
   obtain ⟨z11, x12, H⟩ := bind_some H
   refine L_callS (.plain rfl) rfl (ltb rfl) rfl Tryz.call255 (draw_byte.calls (w := w) (a0 := a0) (a1 := a1) kc fc hz ks x12) rfl <| fun w15 g16 k17 => lp rfl rfl (X_assign (v := (.int .i64 z11.1)) rfl) <| nx <| wr <| lp rfl rfl (X_move (v := (.pointer (some ⟨bs, 0, none⟩))) rfl) ?_
   obtain ⟨z18, x19, H⟩ := bind_some H
   refine L_callS (.plain rfl) rfl (ltb rfl) rfl Tryz.call255 (draw_byte.calls (w := w15) (a0 := a0) (a1 := z11.2) (Ext.gr kc g16 hz) fc hz k17 x19) rfl <| fun w22 g23 k24 => lp rfl rfl (X_assign (v := (.int .i64 z18.1)) rfl) <| nx <| wr <| lp rfl rfl (X_move (v := (.pointer (some ⟨bs, 0, none⟩))) rfl) ?_
   obtain ⟨z25, x26, H⟩ := bind_some H
   refine L_callS (.plain rfl) rfl (ltb rfl) rfl Tryz.call255 (draw_byte.calls (w := w22) (a0 := a0) (a1 := z18.2) (Ext.gr (Ext.gr kc g16 hz) g23 hz) fc hz k24 x26) rfl <| fun w29 g30 k31 => lp rfl rfl (X_assign (v := (.int .i64 z25.1)) rfl) <| nx <| wr <| lp rfl rfl (X_move (v := (.int .i64 z11.1)) rfl) <| lp rfl rfl (X_mul rfl rfl) <| lp rfl rfl (X_move (v := (.int .i64 z18.1)) rfl) <| lp rfl rfl (X_mul rfl rfl) <| lp rfl rfl (X_add rfl rfl) <| lp rfl rfl (X_move (v := (.int .i64 z25.1)) rfl) <| lp rfl rfl (X_add rfl rfl) <| lp rfl rfl (X_move (v := (.int .i64 a2)) rfl) ?_
   obtain ⟨c32, H⟩ := bif_some H
   refine lp rfl rfl (X_rem rfl rfl (od c32)) <| lp rfl rfl (X_assign rfl) <| nx <| W_ret <| fin_r ?_
   obtain rfl := si H
   exact fin1s rfl (Gr.trans (Gr.trans g16 g23) g30) k31
theorem draw_next.calls {w : World} {a0 : List Int} {a1 : DSrc} {a2 : Int} {r : Int × DSrc} {wc : World} {cv : Value} {bs : Nat} (kc : Ext wc w) (fc : Rd 1 (Go.UL.encI .u8) wc cv a0) (hz : wc.heap.size ≤ bs) (ks : Blk w bs (encSrc cv a1).toArray 162) (H : (draw_next.sh a0 a1 a2) = some r) :
  Calls Tryz.prog 195 #[.pointer (some ⟨bs, 0, none⟩), .int .i64 a2] w (Rt (RS 162 bs cv w (.int .i64 r.1) r.2)) := draw_next.walk kc fc hz ks (draw_next.eq a0 a1 a2 H)
/-! (*spec.l00Src).chance -/
theorem draw_chance.walk {w : World} {a0 : List Int} {a1 : DSrc} {a2 : Int} {wc : World} {cv : Value} {bs : Nat} (kc : Ext wc w) (fc : Rd 1 (Go.UL.encI .u8) wc cv a0) (hz : wc.heap.size ≤ bs) (ks : Blk w bs (encSrc cv a1).toArray 162) {r : Bool × DSrc} (H : draw_chance.sh a0 a1 a2 = some r) :
  Calls Tryz.prog 236 #[.pointer (some ⟨bs, 0, none⟩), .int .i64 a2] w (Rt (RS 162 bs cv w (.bool r.1) r.2)) := by
 unfold draw_chance.sh at H
 refine calls_of_W Tryz.func236 rfl (Nat.le_of_ble_eq_true rfl) Tryz.ntmps236 rfl ?_
 refine wr <| lp rfl rfl (X_assign (v := (.bool false)) rfl) <| nx <| wr <| lp rfl rfl (X_move (v := (.pointer (some ⟨bs, 0, none⟩))) rfl) <| lp rfl rfl (X_move (v := (.int .i64 a2)) rfl) ?_
 obtain ⟨z1, x2, H⟩ := bind_some H
 refine L_callS (.plain rfl) rfl (ltb rfl) rfl Tryz.call195 (draw_next.calls (w := w) (a0 := a0) (a1 := a1) (a2 := a2) kc fc hz ks x2) rfl <| fun w5 g6 k7 => lp rfl rfl (X_move (v := (.int .i64 a2)) rfl) <| lp rfl rfl (X_sub rfl rfl) <| lp rfl rfl (X_eql rfl rfl) <| lp rfl rfl (X_assign (v := (.bool (decide (z1.1 = (IntKind.wrap .i64 (a2 - 1)))))) rfl) <| nx <| W_ret <| fin_r ?_
 obtain rfl := si H
 exact fin1s rfl g6 k7
theorem draw_chance.calls {w : World} {a0 : List Int} {a1 : DSrc} {a2 : Int} {r : Bool × DSrc} {wc : World} {cv : Value} {bs : Nat} (kc : Ext wc w) (fc : Rd 1 (Go.UL.encI .u8) wc cv a0) (hz : wc.heap.size ≤ bs) (ks : Blk w bs (encSrc cv a1).toArray 162) (H : (draw_chance.sh a0 a1 a2) = some r) :
  Calls Tryz.prog 236 #[.pointer (some ⟨bs, 0, none⟩), .int .i64 a2] w (Rt (RS 162 bs cv w (.bool r.1) r.2)) := draw_chance.walk kc fc hz ks (draw_chance.eq a0 a1 a2 H)
/-! (*spec.l00Src).room -/
theorem draw_room.walk {w : World} {a0 : List Int} {a1 : DSrc} {a2 : Int} {wc : World} {cv : Value} {bs : Nat} (kc : Ext wc w) (fc : Rd 1 (Go.UL.encI .u8) wc cv a0) (hz : wc.heap.size ≤ bs) (ks : Blk w bs (encSrc cv a1).toArray 162) {r : Int × DSrc} (H : draw_room.sh a0 a1 a2 = some r) :
  Calls Tryz.prog 201 #[.pointer (some ⟨bs, 0, none⟩), .int .i64 a2] w (Rt (RS 162 bs cv w (.int .i64 r.1) r.2)) := by
 unfold draw_room.sh at H
 refine calls_of_W Tryz.func201 rfl (Nat.le_of_ble_eq_true rfl) Tryz.ntmps201 rfl ?_
 refine wr <| lp rfl rfl (X_assign (v := (.int .i64 0)) rfl) <| nx <| wr <| lp rfl rfl (X_move (v := (.pointer (some ⟨bs, 0, none⟩))) rfl) <| lp rfl rfl (X_nil rfl) <| lp rfl rfl (X_fieldAddr Tryz.underlying162 rfl Tryz.sizeOf22 rfl rfl) <| lp rfl rfl (X_loadB Tryz.isAgg22 ks rfl rfl) <| lp rfl rfl (X_lenR Tryz.underlying22 rfl (Rd.ext fc kc)) <| lp rfl rfl (X_quo rfl rfl (by decide)) <| lp rfl rfl (X_add rfl rfl) <| lp rfl rfl (X_move (v := (.int .i64 a2)) rfl) <| lp rfl rfl (X_min rfl rfl) <| lp rfl rfl (X_assign rfl) <| nx <| W_ret <| fin_r ?_
 obtain rfl := si H
 exact fin1s rfl (Gr.refl _ _ _) ks
theorem draw_room.calls {w : World} {a0 : List Int} {a1 : DSrc} {a2 : Int} {r : Int × DSrc} {wc : World} {cv : Value} {bs : Nat} (kc : Ext wc w) (fc : Rd 1 (Go.UL.encI .u8) wc cv a0) (hz : wc.heap.size ≤ bs) (ks : Blk w bs (encSrc cv a1).toArray 162) (H : (draw_room.sh a0 a1 a2) = some r) :
  Calls Tryz.prog 201 #[.pointer (some ⟨bs, 0, none⟩), .int .i64 a2] w (Rt (RS 162 bs cv w (.int .i64 r.1) r.2)) := draw_room.walk kc fc hz ks (draw_room.eq a0 a1 a2 H)
/-! (*spec.l00Src).pick -/
theorem draw_pick.walk {w : World} {a0 : List Int} {a1 : DSrc} {a2 : List (List UInt8)} {wc : World} {cv : Value} {bs : Nat} (kc : Ext wc w) (fc : Rd 1 (Go.UL.encI .u8) wc cv a0) (hz : wc.heap.size ≤ bs) (ks : Blk w bs (encSrc cv a1).toArray 162) {v_a2 : Value} {B_a2 : Nat} (o_a2 : Ow 9 1 encS B_a2 w v_a2 a2) (l_a2 : bs + 1 ≤ B_a2) {r : List UInt8 × DSrc} (H : draw_pick.sh a0 a1 a2 = some r) :
  Calls Tryz.prog 235 #[.pointer (some ⟨bs, 0, none⟩), v_a2] w (Rt (RS 162 bs cv w (S r.1) r.2)) := by
 unfold draw_pick.sh at H
 refine calls_of_W Tryz.func235 rfl (Nat.le_of_ble_eq_true rfl) Tryz.ntmps235 rfl ?_
 refine wr <| lp rfl rfl (X_assign (v := (S ([] : List UInt8))) rfl) <| nx <| W_seq <| wr <| lp rfl rfl (X_move (v := v_a2) rfl) <| lp rfl rfl (X_lenR Tryz.underlying42 rfl (Ow.rd o_a2)) <| lp rfl rfl (X_eql rfl rfl) <| nx ?_
 rcases bif_two H with ⟨q1, H⟩ | ⟨q1, H⟩
 ·refine W_true (cb q1) <| wr <| lp rfl rfl (X_assign (v := (S ([] : List UInt8))) rfl) <| nx <| W_ret <| thn_r <| fin_r ?_
  obtain rfl := si H
  exact fin1s rfl (Gr.refl _ _ _) ks
 ·refine W_false (cb q1) <| W_skip <| thn_n <| wr <| lp rfl rfl (X_move (v := v_a2) rfl) <| lp rfl rfl (X_move (v := (.pointer (some ⟨bs, 0, none⟩))) rfl) <| lp rfl rfl (X_move (v := v_a2) rfl) <| lp rfl rfl (X_lenR Tryz.underlying42 rfl (Ow.rd o_a2)) ?_
  obtain ⟨z2, x3, H⟩ := bind_some H
  refine L_callS (.plain rfl) rfl (ltb rfl) rfl Tryz.call195 (draw_next.calls (w := w) (a0 := a0) (a1 := a1) (a2 := (a2.length : Int)) kc fc hz ks x3) rfl <| fun w6 g7 k8 => ?_
  obtain ⟨c9, H⟩ := bif_some H
  refine L_idx (.plain rfl) rfl (ltb rfl) rfl Tryz.underlying42 Tryz.sizeOf9 rfl (Ow.rd (Ow.later o_a2 g7 l_a2)) rfl c9 <| fun p10 h11 => lp rfl rfl (X_loadAt Tryz.isAgg9 rfl h11 rfl) <| lp rfl rfl (X_assign (v := (S (gt a2 z2.1))) rfl) <| nx <| W_ret <| fin_r ?_
  obtain rfl := si H
  exact fin1s rfl g7 k8
theorem draw_pick.calls {w : World} {a0 : List Int} {a1 : DSrc} {a2 : List (List UInt8)} {r : List UInt8 × DSrc} {wc : World} {cv : Value} {bs : Nat} (kc : Ext wc w) (fc : Rd 1 (Go.UL.encI .u8) wc cv a0) (hz : wc.heap.size ≤ bs) (ks : Blk w bs (encSrc cv a1).toArray 162) {v_a2 : Value} {B_a2 : Nat} (o_a2 : Ow 9 1 encS B_a2 w v_a2 a2) (l_a2 : bs + 1 ≤ B_a2) (H : (draw_pick.sh a0 a1 a2) = some r) :
  Calls Tryz.prog 235 #[.pointer (some ⟨bs, 0, none⟩), v_a2] w (Rt (RS 162 bs cv w (S r.1) r.2)) := draw_pick.walk kc fc hz ks o_a2 l_a2 (draw_pick.eq a0 a1 a2 H)
/-! (*spec.l00Src).part -/
theorem draw_part.walk {w : World} {a0 : List Int} {a1 : DSrc} {wc : World} {cv : Value} {bs : Nat} (kc : Ext wc w) (fc : Rd 1 (Go.UL.encI .u8) wc cv a0) (hz : wc.heap.size ≤ bs) (ks : Blk w bs (encSrc cv a1).toArray 162) {r : List UInt8 × DSrc} (H : draw_part.sh a0 a1 = some r) :
  Calls Tryz.prog 229 #[.pointer (some ⟨bs, 0, none⟩)] w (Rt (RS 162 bs cv w (S r.1) r.2)) := by
 unfold draw_part.sh at H
 refine calls_of_W Tryz.func229 rfl (Nat.le_of_ble_eq_true rfl) Tryz.ntmps229 rfl ?_
 refine wr <| lp rfl rfl (X_assign (v := (S ([] : List UInt8))) rfl) <| nx <| wr <| lp rfl rfl (X_move (v := (.pointer (some ⟨bs, 0, none⟩))) rfl) <| L_lit (.plain rfl) rfl (ltb rfl) rfl Tryz.underlying42 Tryz.sizeOf9 Tryz.zeroValue9 rfl rfl rfl (vs := [(S ([97] : List UInt8)), (S ([98] : List UInt8)), (S ([99] : List UInt8)), (S ([97, 46, 98] : List UInt8)), (S ([120] : List UInt8))]) rfl (lit_all rfl) <| fun b1 w2 z3 z4 e5 k6 => ?_
 obtain ⟨z7, x8, H⟩ := bind_some H
 refine L_callS (.plain rfl) rfl (ltb rfl) rfl Tryz.call235 (draw_pick.calls (w := w2) (a0 := a0) (a1 := a1) (a2 := draw_part.lit1) (Ext.trans kc e5) fc hz (Blk.ext ks e5) (Ow.new (xs := draw_part.lit1) (sz := 1) (enc := encS) (base := w.heap.size) k6 (Nat.le_of_eq z3) rfl (fun _ _ => rfl) (Nat.le_of_ble_eq_true rfl)) (Nat.le_trans (Blk.lt ks) (Nat.le_refl _)) x8) rfl <| fun w11 g12 k13 => lp rfl rfl (X_assign (v := (S z7.1)) rfl) <| nx <| W_ret <| fin_r ?_
 obtain rfl := si H
 exact fin1s rfl (Gr.trans (Gr.ext e5) g12) k13
theorem draw_part.calls {w : World} {a0 : List Int} {a1 : DSrc} {r : List UInt8 × DSrc} {wc : World} {cv : Value} {bs : Nat} (kc : Ext wc w) (fc : Rd 1 (Go.UL.encI .u8) wc cv a0) (hz : wc.heap.size ≤ bs) (ks : Blk w bs (encSrc cv a1).toArray 162) (H : (draw_part.sh a0 a1) = some r) :
  Calls Tryz.prog 229 #[.pointer (some ⟨bs, 0, none⟩)] w (Rt (RS 162 bs cv w (S r.1) r.2)) := draw_part.walk kc fc hz ks (draw_part.eq a0 a1 H)
/-! (*spec.l00Src).path -/
theorem draw_path.walk {k : Nat} {w : World} {a0 : List Int} {a1 : DSrc} {wc : World} {cv : Value} {bs : Nat} (kc : Ext wc w) (fc : Rd 1 (Go.UL.encI .u8) wc cv a0) (hz : wc.heap.size ≤ bs) (ks : Blk w bs (encSrc cv a1).toArray 162) {r : List UInt8 × DSrc} (H : draw_path.sh k a0 a1 = some r) :
  Calls Tryz.prog 148 #[.pointer (some ⟨bs, 0, none⟩)] w (Rt (RS 162 bs cv w (S r.1) r.2)) := by
 unfold draw_path.sh at H
 refine calls_of_W Tryz.func148 rfl (Nat.le_of_ble_eq_true rfl) Tryz.ntmps148 rfl ?_
 refine wr <| lp rfl rfl (X_assign (v := (S ([] : List UInt8))) rfl) <| nx <| wr <| lp rfl rfl (X_move (v := (.pointer (some ⟨bs, 0, none⟩))) rfl) ?_
 obtain ⟨z1, x2, H⟩ := bind_some H
 refine L_callS (.plain rfl) rfl (ltb rfl) rfl Tryz.call229 (draw_part.calls (w := w) (a0 := a0) (a1 := a1) kc fc hz ks x2) rfl <| fun w5 g6 k7 => lp rfl rfl (X_assign (v := (S z1.1)) rfl) <| nx <| W_seq <| wr <| lp rfl rfl (X_move (v := (.pointer (some ⟨bs, 0, none⟩))) rfl) ?_
 obtain ⟨z8, x9, H⟩ := bind_some H
 refine L_callS (.plain rfl) rfl (ltb rfl) rfl Tryz.call195 (draw_next.calls (w := w5) (a0 := a0) (a1 := z1.2) (a2 := 3) (Ext.gr kc g6 hz) fc hz k7 x9) rfl <| fun w12 g13 k14 => lp rfl rfl (X_assign (v := (.int .i64 z8.1)) rfl) <| nx ?_
 obtain ⟨z18, L19, C20⟩ := bind_some H
 clear H
 refine  W_cutQ (fun s0 sQ wQ => ∃ (x3_21 : List UInt8) (y22 : DSrc), Kp [(3, 5), (9, 18)] s0 sQ ∧ sQ 3 = S x3_21 ∧ Blk wQ bs ((encSrc cv) y22).toArray 162 ∧ Gr bs (bs + 1) w12 wQ ∧ Ext wc wQ ∧ z18 = .inr (x3_21, y22)) ?_ ?_
 ·refine W_block <| W_loopI (fun s0 kk sQ wQ => ∃ (x3_15 : List UInt8) (x4_16 : Int) (y17 : DSrc), Kp [(3, 5), (9, 18)] s0 sQ ∧ sQ 3 = S x3_15 ∧ sQ 4 = .int .i64 x4_16 ∧ Blk wQ bs ((encSrc cv) y17).toArray 162 ∧ Gr bs (bs + 1) w12 wQ ∧ Ext wc wQ ∧ loopF (draw_path.b1 a0) kk (x3_15, x4_16, y17) = some z18) k ⟨z1.1, z8.1, z8.2, kz, rfl, rfl, k14, (Gr.refl _ _ _), (Ext.gr (Ext.gr kc g6 hz) g13 hz), L19⟩ ?_
  rintro k27 s28 w29 ⟨x3_15, x4_16, y17, K30, h33, h34, h35, e31, e31c, L32⟩
  cases k27 with
  | zero => exact absurd L32 (by simp [loopF])
  | succ k27 =>
   obtain ⟨t36, H, S37⟩ := loopF_succ L32
   clear L32
   unfold draw_path.b1 at H
   refine W_seq <| wr <| lp rfl rfl (X_move h34) <| lp rfl rfl (X_gtr rfl rfl) <| nx ?_
   rcases bif_two H with ⟨q38, H⟩ | ⟨q38, H⟩
   ·refine W_true (cb q38) <| W_skip <| thn_n <| W_seq <| W_block <| W_reg <| lp rfl rfl (X_move h33) <| lp rfl rfl (X_move (v := (.pointer (some ⟨bs, 0, none⟩))) (K30 0 rfl)) ?_
    obtain ⟨z39, x40, H⟩ := bind_some H
    refine L_callS (.plain rfl) rfl (ltb rfl) rfl Tryz.call229 (draw_part.calls (w := w29) (a0 := a0) (a1 := y17) e31c fc hz h35 x40) rfl <| fun w43 g44 k45 => ?_
    obtain ⟨c46, H⟩ := bif_some H
    refine lp rfl rfl (X_cat rfl rfl (od c46)) ?_
    obtain ⟨c47, H⟩ := bif_some H
    refine lp rfl rfl (X_cat rfl rfl (od c47)) <| lp rfl rfl (X_assign (v := (S (x3_15 ++ (([47] : List UInt8) ++ z39.1)))) rfl) <| L_nil <| blk_n <| thn_n <| W_reg <| lp rfl rfl (X_move h34) <| lp rfl rfl (X_sub rfl rfl) <| lp rfl rfl (X_assign (v := (.int .i64 (IntKind.wrap .i64 (x4_16 - 1)))) rfl) <| nx ?_
    obtain rfl := si H
    exact ⟨_, Nat.lt_succ_self _, x3_15 ++ (([47] : List UInt8) ++ z39.1), IntKind.wrap .i64 (x4_16 - 1), z39.2, (ku3 (ku8 K30 rfl) rfl), rfl, rfl, k45, (Gr.trans e31 g44), (Ext.gr e31c g44 hz), S37⟩
   ·refine W_false (cb q38) <| W_exit <| thn_x <| thn_x <| blk_x <| thn_n ?_
    obtain rfl := si H
    obtain rfl := si S37
    exact ⟨x3_15, y17, (ku2 K30 rfl), h33, h35, e31, e31c, rfl⟩
 ·rintro s24 w23 ⟨x3_21, y22, K25, h48, h49, e26, e26c, y50⟩
  rw [y50] at C20
  have H := C20
  replace H : _ = some _ := H
  refine thn_n <| wr <| lp rfl rfl (X_move h48) <| lp rfl rfl (X_assign (v := (S x3_21)) rfl) <| nx <| W_ret <| fin_r ?_
  obtain rfl := si H
  exact fin1s rfl (Gr.trans (Gr.trans g6 g13) e26) h49
theorem draw_path.calls {w : World} {a0 : List Int} {a1 : DSrc} {r : List UInt8 × DSrc} {wc : World} {cv : Value} {bs : Nat} (kc : Ext wc w) (fc : Rd 1 (Go.UL.encI .u8) wc cv a0) (hz : wc.heap.size ≤ bs) (ks : Blk w bs (encSrc cv a1).toArray 162) (H : (draw_path.sh 4 a0 a1) = some r) :
  Calls Tryz.prog 148 #[.pointer (some ⟨bs, 0, none⟩)] w (Rt (RS 162 bs cv w (S r.1) r.2)) := by
 obtain ⟨k, h⟩ := draw_path.eq a0 a1 H
 exact draw_path.walk kc fc hz ks h
/-! (*spec.l00Src).body -/
theorem draw_body.walk {w : World} {a0 : List Int} {a1 : DSrc} {wc : World} {cv : Value} {bs : Nat} (kc : Ext wc w) (fc : Rd 1 (Go.UL.encI .u8) wc cv a0) (hz : wc.heap.size ≤ bs) (ks : Blk w bs (encSrc cv a1).toArray 162) {r : List UInt8 × DSrc} (H : draw_body.sh a0 a1 = some r) :
  Calls Tryz.prog 234 #[.pointer (some ⟨bs, 0, none⟩)] w (Rt (RS 162 bs cv w (S r.1) r.2)) := by
 unfold draw_body.sh at H
 refine calls_of_W Tryz.func234 rfl (Nat.le_of_ble_eq_true rfl) Tryz.ntmps234 rfl ?_
 refine wr <| lp rfl rfl (X_assign (v := (S ([] : List UInt8))) rfl) <| nx <| wr <| lp rfl rfl (X_move (v := (.pointer (some ⟨bs, 0, none⟩))) rfl) <| L_lit (.plain rfl) rfl (ltb rfl) rfl Tryz.underlying42 Tryz.sizeOf9 Tryz.zeroValue9 rfl rfl rfl (vs := [(S ([] : List UInt8)), (S ([111, 110, 101] : List UInt8)), (S ([116, 119, 111] : List UInt8)), (S ([120, 0, 121] : List UInt8)), (S ([108, 111, 110, 103, 32, 108, 111, 110, 103, 32, 98, 111, 100, 121, 32, 104, 101, 114, 101, 33] : List UInt8))]) rfl (lit_all rfl) <| fun b1 w2 z3 z4 e5 k6 => ?_
 obtain ⟨z7, x8, H⟩ := bind_some H
 refine L_callS (.plain rfl) rfl (ltb rfl) rfl Tryz.call235 (draw_pick.calls (w := w2) (a0 := a0) (a1 := a1) (a2 := draw_body.lit1) (Ext.trans kc e5) fc hz (Blk.ext ks e5) (Ow.new (xs := draw_body.lit1) (sz := 1) (enc := encS) (base := w.heap.size) k6 (Nat.le_of_eq z3) rfl (fun _ _ => rfl) (Nat.le_of_ble_eq_true rfl)) (Nat.le_trans (Blk.lt ks) (Nat.le_refl _)) x8) rfl <| fun w11 g12 k13 => lp rfl rfl (X_assign (v := (S z7.1)) rfl) <| nx <| W_ret <| fin_r ?_
 obtain rfl := si H
 exact fin1s rfl (Gr.trans (Gr.ext e5) g12) k13
theorem draw_body.calls {w : World} {a0 : List Int} {a1 : DSrc} {r : List UInt8 × DSrc} {wc : World} {cv : Value} {bs : Nat} (kc : Ext wc w) (fc : Rd 1 (Go.UL.encI .u8) wc cv a0) (hz : wc.heap.size ≤ bs) (ks : Blk w bs (encSrc cv a1).toArray 162) (H : (draw_body.sh a0 a1) = some r) :
  Calls Tryz.prog 234 #[.pointer (some ⟨bs, 0, none⟩)] w (Rt (RS 162 bs cv w (S r.1) r.2)) := draw_body.walk kc fc hz ks (draw_body.eq a0 a1 H)
/-! (*spec.l00Src).record -/
theorem draw_record.walk {w : World} {a0 : List Int} {a1 : DSrc} {a2 : List UInt8} {wc : World} {cv : Value} {bs : Nat} (kc : Ext wc w) (fc : Rd 1 (Go.UL.encI .u8) wc cv a0) (hz : wc.heap.size ≤ bs) (ks : Blk w bs (encSrc cv a1).toArray 162) {r : Rec × DSrc} (H : draw_record.sh a0 a1 a2 = some r) :
  Calls Tryz.prog 153 #[.pointer (some ⟨bs, 0, none⟩), S a2] w (Rt (RS 162 bs cv w (.agg (encRec r.1).toArray) r.2)) := by
 unfold draw_record.sh at H
 refine calls_of_WG Tryz.func153 rfl (Nat.le_of_ble_eq_true rfl) Tryz.ntmps153 ?_
 refine wr <| L_alloc (.plain rfl) rfl (ltb rfl) rfl Tryz.zeroValue58 <| fun b1 w2 z3 z4 e5 k6 => nx <| W_seq <| wr <| lp rfl rfl (X_move (v := (.pointer (some ⟨bs, 0, none⟩))) rfl) ?_
 obtain ⟨z7, x8, H⟩ := bind_some H
 refine L_callS (.plain rfl) rfl (ltb rfl) rfl Tryz.call195 (draw_next.calls (w := w2) (a0 := a0) (a1 := a1) (a2 := 8) (Ext.trans kc e5) fc hz (Blk.ext ks e5) x8) rfl <| fun w11 g12 k13 => nx ?_
 obtain ⟨z14, L15, C16⟩ := bind_some H
 clear H
 refine W_cutQ (fun s0 sQ wQ => ∃ (y17 : DSrc), Kp [(7, 32)] s0 sQ ∧ Blk wQ bs ((encSrc cv) y17).toArray 162 ∧ Blk wQ b1 (encRec (⟨0, ([] : List UInt8), ([] : List UInt8), 0, false⟩ : Rec)).toArray 58 ∧ Gr bs (bs + 1) w11 wQ ∧ Ext wc wQ ∧ z14 = .inr y17) ?_ ?_
 ·have H := L15
  refine W_block <| W_seq <| wr <| lp rfl rfl (X_eql rfl rfl) <| lp rfl rfl (X_assign (v := (.bool (decide (z7.1 = 0)))) rfl) <| nx ?_
  obtain ⟨z18, L19, C20⟩ := bind_some H
  clear H
  refine W_cutQ (fun s0 sQ wQ => ∃ (x7_21 : Bool), Kp [(7, 8), (9, 11)] s0 sQ ∧ sQ 7 = .bool x7_21 ∧ Blk wQ bs ((encSrc cv) z7.2).toArray 162 ∧ Blk wQ b1 (encRec (⟨0, ([] : List UInt8), ([] : List UInt8), 0, false⟩ : Rec)).toArray 58 ∧ Gr bs (bs + 1) w11 wQ ∧ Ext wc wQ ∧ z18 = .inr x7_21) ?_ ?_
  ·have H := L19
   rcases bif_two H with ⟨q22, H⟩ | ⟨q22, H⟩
   ·refine W_true (cb q22) <| W_skip <| thn_n ?_
    obtain rfl := si H
    exact ⟨(decide (z7.1 = 0)), kz, rfl, k13, (Gr.blk g12 k6 (Or.inl (Nat.le_trans (Nat.le_trans (Blk.lt ks) (Nat.le_refl _)) (Nat.le_of_eq z3)))), (Gr.refl _ _ _), (Ext.gr (Ext.trans kc e5) g12 hz), rfl⟩
   ·refine W_false (cb q22) <| wr <| lp rfl rfl (X_eql rfl rfl) <| lp rfl rfl (X_assign (v := (.bool (decide (z7.1 = 1)))) rfl) <| nx ?_
    rcases bif_two H with ⟨q23, H⟩ | ⟨q23, H⟩
    ·refine W_true (cb q23) <| W_skip <| thn_n ?_
     obtain rfl := si H
     exact ⟨(decide (z7.1 = 1)), (ku2 kz rfl), rfl, k13, (Gr.blk g12 k6 (Or.inl (Nat.le_trans (Nat.le_trans (Blk.lt ks) (Nat.le_refl _)) (Nat.le_of_eq z3)))), (Gr.refl _ _ _), (Ext.gr (Ext.trans kc e5) g12 hz), rfl⟩
    ·refine W_false (cb q23) <| W_reg <| lp rfl rfl (X_eql rfl rfl) <| lp rfl rfl (X_assign (v := (.bool (decide (z7.1 = 2)))) rfl) <| nx ?_
     obtain rfl := si H
     exact ⟨(decide (z7.1 = 2)), (ku4 kz rfl), rfl, k13, (Gr.blk g12 k6 (Or.inl (Nat.le_trans (Nat.le_trans (Blk.lt ks) (Nat.le_refl _)) (Nat.le_of_eq z3)))), (Gr.refl _ _ _), (Ext.gr (Ext.trans kc e5) g12 hz), rfl⟩
  ·rintro s25 w24 ⟨x7_21, K26, h29, h30, h31, e27, e27c, y28⟩
   rw [y28] at C20
   have H := C20
   refine thn_n ?_
   rcases bif_two H with ⟨q32, H⟩ | ⟨q32, H⟩
   ·refine W_true (h29.trans (cb q32)) <| wr <| lp rfl rfl (X_move (v := (S a2)) (K26 1 rfl)) <| lp rfl rfl (X_move (v := (.pointer (some ⟨bs, 0, none⟩))) (K26 0 rfl)) ?_
    obtain ⟨z33, x34, H⟩ := bind_some H
    refine L_callS (.plain rfl) rfl (ltb rfl) rfl Tryz.call234 (draw_body.calls (w := w24) (a0 := a0) (a1 := z7.2) e27c fc hz h30 x34) rfl <| fun w37 g38 k39 => L_lit (.plain rfl) rfl (ltb rfl) rfl Tryz.underlying188 Tryz.sizeOf3 Tryz.zeroValue3 rfl rfl rfl (vs := [(.int .i64 420), (.int .i64 0), (.int .i64 511)]) rfl (lit_all rfl) <| fun b40 w41 z42 z43 e44 k45 => lp rfl rfl (X_move (v := (.pointer (some ⟨bs, 0, none⟩))) (K26 0 rfl)) ?_
    obtain ⟨z46, x47, H⟩ := bind_some H
    refine L_callS (.plain rfl) rfl (ltb rfl) rfl Tryz.call195 (draw_next.calls (w := w41) (a0 := a0) (a1 := z33.2) (a2 := 3) (Ext.trans (Ext.gr e27c g38 hz) e44) fc hz (Blk.ext k39 e44) x47) rfl <| fun w50 g51 k52 => ?_
    obtain ⟨c53, H⟩ := bif_some H
    refine L_idx (.plain rfl) rfl (ltb rfl) rfl Tryz.underlying188 Tryz.sizeOf3 rfl (Ow.rd (Ow.later (Ow.new (xs := [420, 0, 511]) (sz := 1) (enc := (Go.UL.encI .i64)) (base := w37.heap.size) k45 (Nat.le_of_eq z42) rfl (fun _ _ => by rfl) (Nat.le_of_ble_eq_true rfl)) g51 (Nat.le_trans (Blk.lt ks) ((Gr.trans (Gr.trans (Gr.trans (Gr.ext e5) g12) e27) g38)).size))) rfl c53 <| fun p54 h55 => lp rfl rfl (X_loadAt Tryz.isAgg3 rfl h55 rfl) <| lp rfl rfl (X_build1 (vs := [(0, (.int .i64 1)), (1, (S a2)), (2, (S z33.1)), (3, (.int .i64 (gt ([420, 0, 511] : List Int) z46.1)))]) (pl := #[(0, 1), (1, 1), (2, 1), (3, 1), (4, 1)]) Tryz.underlying58 Tryz.zeroValue58 rfl (fun _ => by kernel_rfl) rfl rfl rfl) <| L_storeA (.plain rfl) rfl rfl Tryz.sizeOf58 (K26 4 rfl) rfl rfl rfl rfl (Gr.blk g51 (Blk.ext (Gr.blk g38 h31 (Or.inl (Nat.le_trans (Nat.le_trans (Blk.lt ks) (Nat.le_refl _)) (Nat.le_of_eq z3)))) e44) (Or.inl (Nat.le_trans (Nat.le_trans (Blk.lt ks) (Nat.le_refl _)) (Nat.le_of_eq z3)))) <| fun w56 h57 k58 => nx <| W_ret <| blk_r <| thn_r <| thn_r <| finG_r ?_
    obtain rfl := si H
    have H := C16
    obtain rfl := si H
    exact finC1s rfl (K26 4 rfl) k58 Tryz.isAgg58 Tryz.sizeOf58 rfl (Gr.thn (Gr.trans (Gr.trans (Gr.trans (Gr.trans (Gr.trans (Gr.ext e5) g12) e27) g38) (Gr.ext e44)) g51) (Wr.below h57 (Nat.le_of_eq z3))) (Gr.blk (Gr.ofBelow (Wr.below h57 (Nat.le_of_eq z3))) k52 (Or.inr (Nat.le_trans (Blk.lt ks) (Nat.le_refl _))))
   ·refine W_false (h29.trans (cb q32)) <| wr <| lp rfl rfl (X_eql (K26 6 rfl) rfl) <| lp rfl rfl (X_assign (v := (.bool (decide (z7.1 = 3)))) rfl) <| nx ?_
    rcases bif_two H with ⟨q59, H⟩ | ⟨q59, H⟩
    ·refine W_true (cb q59) <| wr <| lp rfl rfl (X_move (v := (S a2)) (K26 1 rfl)) <| lp rfl rfl (X_move (v := (.pointer (some ⟨bs, 0, none⟩))) (K26 0 rfl)) <| L_lit (.plain rfl) rfl (ltb rfl) rfl Tryz.underlying42 Tryz.sizeOf9 Tryz.zeroValue9 rfl rfl rfl (vs := [(S ([97] : List UInt8)), (S ([46, 46, 47, 98] : List UInt8)), (S ([47] : List UInt8))]) rfl (lit_all rfl) <| fun b60 w61 z62 z63 e64 k65 => ?_
     obtain ⟨z66, x67, H⟩ := bind_some H
     refine L_callS (.plain rfl) rfl (ltb rfl) rfl Tryz.call235 (draw_pick.calls (w := w61) (a0 := a0) (a1 := z7.2) (a2 := ([([97] : List UInt8), ([46, 46, 47, 98] : List UInt8), ([47] : List UInt8)] : List (List UInt8))) (Ext.trans e27c e64) fc hz (Blk.ext h30 e64) (Ow.new (xs := [([97] : List UInt8), ([46, 46, 47, 98] : List UInt8), ([47] : List UInt8)]) (sz := 1) (enc := encS) (base := w24.heap.size) k65 (Nat.le_of_eq z62) rfl (fun _ _ => by rfl) (Nat.le_of_ble_eq_true rfl)) (Nat.le_trans (Blk.lt ks) ((Gr.trans (Gr.trans (Gr.ext e5) g12) e27)).size) x67) rfl <| fun w70 g71 k72 => lp rfl rfl (X_build1 (vs := [(0, (.int .i64 2)), (1, (S a2)), (2, (S z66.1))]) (pl := #[(0, 1), (1, 1), (2, 1), (3, 1), (4, 1)]) Tryz.underlying58 Tryz.zeroValue58 rfl (fun _ => by kernel_rfl) rfl rfl rfl) <| L_storeA (.plain rfl) rfl rfl Tryz.sizeOf58 (K26 4 rfl) rfl rfl rfl rfl (Gr.blk g71 (Blk.ext h31 e64) (Or.inl (Nat.le_trans (Nat.le_trans (Blk.lt ks) (Nat.le_refl _)) (Nat.le_of_eq z3)))) <| fun w73 h74 k75 => nx <| W_ret <| blk_r <| thn_r <| thn_r <| finG_r ?_
     obtain rfl := si H
     have H := C16
     obtain rfl := si H
     exact finC1s rfl (K26 4 rfl) k75 Tryz.isAgg58 Tryz.sizeOf58 rfl (Gr.thn (Gr.trans (Gr.trans (Gr.trans (Gr.trans (Gr.ext e5) g12) e27) (Gr.ext e64)) g71) (Wr.below h74 (Nat.le_of_eq z3))) (Gr.blk (Gr.ofBelow (Wr.below h74 (Nat.le_of_eq z3))) k72 (Or.inr (Nat.le_trans (Blk.lt ks) (Nat.le_refl _))))
    ·refine W_false (cb q59) <| W_seq <| wr <| lp rfl rfl (X_eql (K26 6 rfl) rfl) <| lp rfl rfl (X_assign (v := (.bool (decide (z7.1 = 4)))) rfl) <| nx ?_
     rcases bif_two H with ⟨q76, H⟩ | ⟨q76, H⟩
     ·refine W_true (cb q76) <| W_skip <| thn_n ?_
      rcases bif_two H with ⟨q77, H⟩ | ⟨q77, H⟩
      ·refine W_true (cb q77) <| wr <| lp rfl rfl (X_move (v := (S a2)) (K26 1 rfl)) <| lp rfl rfl (X_build1 (vs := [(0, (.int .i64 4)), (1, (S a2))]) (pl := #[(0, 1), (1, 1), (2, 1), (3, 1), (4, 1)]) Tryz.underlying58 Tryz.zeroValue58 rfl (fun _ => by kernel_rfl) rfl rfl rfl) <| L_storeA (.plain rfl) rfl rfl Tryz.sizeOf58 (K26 4 rfl) rfl rfl rfl rfl h31 <| fun w78 h79 k80 => nx <| W_ret <| blk_r <| thn_r <| thn_r <| finG_r ?_
       obtain rfl := si H
       have H := C16
       obtain rfl := si H
       exact finC1s rfl (K26 4 rfl) k80 Tryz.isAgg58 Tryz.sizeOf58 rfl (Gr.thn (Gr.trans (Gr.trans (Gr.ext e5) g12) e27) (Wr.below h79 (Nat.le_of_eq z3))) (Gr.blk (Gr.ofBelow (Wr.below h79 (Nat.le_of_eq z3))) h30 (Or.inr (Nat.le_trans (Blk.lt ks) (Nat.le_refl _))))
      ·refine W_false (cb q77) <| W_skip <| blk_n <| thn_n ?_
       obtain rfl := si H
       exact ⟨z7.2, (ku4 (Kp.cut (ku2 kz rfl) K26 rfl) rfl), h30, h31, e27, e27c, rfl⟩
     ·refine W_false (cb q76) <| W_reg <| lp rfl rfl (X_eql (K26 6 rfl) rfl) <| lp rfl rfl (X_assign (v := (.bool (decide (z7.1 = 5)))) rfl) <| nx ?_
      rcases bif_two H with ⟨q81, H⟩ | ⟨q81, H⟩
      ·refine W_true (cb q81) <| wr <| lp rfl rfl (X_move (v := (S a2)) (K26 1 rfl)) <| lp rfl rfl (X_build1 (vs := [(0, (.int .i64 4)), (1, (S a2))]) (pl := #[(0, 1), (1, 1), (2, 1), (3, 1), (4, 1)]) Tryz.underlying58 Tryz.zeroValue58 rfl (fun _ => by kernel_rfl) rfl rfl rfl) <| L_storeA (.plain rfl) rfl rfl Tryz.sizeOf58 (K26 4 rfl) rfl rfl rfl rfl h31 <| fun w82 h83 k84 => nx <| W_ret <| blk_r <| thn_r <| thn_r <| finG_r ?_
       obtain rfl := si H
       have H := C16
       obtain rfl := si H
       exact finC1s rfl (K26 4 rfl) k84 Tryz.isAgg58 Tryz.sizeOf58 rfl (Gr.thn (Gr.trans (Gr.trans (Gr.ext e5) g12) e27) (Wr.below h83 (Nat.le_of_eq z3))) (Gr.blk (Gr.ofBelow (Wr.below h83 (Nat.le_of_eq z3))) h30 (Or.inr (Nat.le_trans (Blk.lt ks) (Nat.le_refl _))))
      ·refine W_false (cb q81) <| W_skip <| blk_n <| thn_n ?_
       obtain rfl := si H
       exact ⟨z7.2, (ku2 (ku4 (Kp.cut (ku2 kz rfl) K26 rfl) rfl) rfl), h30, h31, e27, e27c, rfl⟩
 ·rintro s86 w85 ⟨y17, K87, h90, h91, e88, e88c, y89⟩
  rw [y89] at C16
  have H := C16
  refine thn_n <| W_seq ?_
  obtain ⟨z98, x99, H⟩ := bind_some H
  obtain ⟨c105, H⟩ := bif_some H
  obtain ⟨z108, x109, H⟩ := bind_some H
  refine W_drawS 9 [LEq (S a2), LOw 3 1 (Go.UL.encI .i64) w85.heap.size ([493, 448] : List Int), LEq (.pointer (some ⟨bs, 0, none⟩)), LEq (.int .i64 z98.1), LOp 3 1 (Go.UL.encI .i64) w85.heap.size ([493, 448] : List Int) z98.1, LEq (.int .i64 (gt ([493, 448] : List Int) z98.1)), LEq (.pointer (some ⟨bs, 0, none⟩)), LEq (.bool z108.1), LEq (.agg #[(.int .i64 3), (S a2), (S ([] : List UInt8)), (.int .i64 (gt ([493, 448] : List Int) z98.1)), (.bool z108.1)])] [(7, z108.2), (3, z98.2)] y17 [(7, 3, [])] (by kernel_rfl) (by kernel_rfl) (by kernel_rfl) (by kernel_rfl) rfl h90 ⟨LEq.keep, (LOw.keep (Nat.le_trans (Blk.lt ks) ((Gr.trans (Gr.trans (Gr.ext e5) g12) e88)).size)), LEq.keep, LEq.keep, (LOp.keep (Nat.le_trans (Blk.lt ks) ((Gr.trans (Gr.trans (Gr.ext e5) g12) e88)).size)), LEq.keep, LEq.keep, LEq.keep, LEq.keep, trivial⟩ ⟨?_, ?_, ?_, ?_, ?_, ?_, ?_, ?_, ?_, trivial⟩ ?_
  ·intro s115 w116 dn117 hg118 hi119 hn120 hp121 hq122 hf123 hd124 hu125
   exact lp rfl rfl (X_move (v := (S a2)) ((hf123 1 rfl).trans (K87 1 rfl))) <| L_nil <| stepQs rfl rfl rfl rfl er rfl
  ·intro s126 w127 dn128 hg129 hi130 hn131 hp132 hq133 hf134 hd135 hu136
   exact L_lit (.plain rfl) rfl (ltb rfl) rfl Tryz.underlying188 Tryz.sizeOf3 Tryz.zeroValue3 rfl rfl rfl (vs := [(.int .i64 493), (.int .i64 448)]) rfl (lit_all rfl) <| fun b137 w138 z139 z140 e141 k142 => L_nil <| stepQs rfl rfl rfl rfl e141 (Ow.base (Ow.new (xs := [493, 448]) (sz := 1) (enc := (Go.UL.encI .i64)) (base := w127.heap.size) k142 (Nat.le_of_eq z139) rfl (fun _ _ => by rfl) (Nat.le_of_ble_eq_true rfl)) (hg129).size)
  ·intro s143 w144 dn145 hg146 hi147 hn148 hp149 hq150 hf151 hd152 hu153
   exact lp rfl rfl (X_move (v := (.pointer (some ⟨bs, 0, none⟩))) ((hf151 0 rfl).trans (K87 0 rfl))) <| L_nil <| stepQs rfl rfl rfl rfl er rfl
  ·intro s154 w155 dn156 hg157 hi158 hn159 hp160 hq161 hf162 hd163 hu164
   have a166 : dn156 7 = false := hq161 7 rfl
   have k165 : Blk w155 bs (encSrc cv y17).toArray 162 := by
    have h := hi158
    simp only [InvS, srcAt, hn159, a166, cond_true, cond_false] at h
    exact h
   have a167 : setD dn156 3 3 = true := setD_self
   have a168 : setD dn156 3 7 = false := (setD_ne rfl).trans a166
   have d169 : s154 34 = (.pointer (some ⟨bs, 0, none⟩)) := (hd163 2 rfl rfl)
   exact L_callS (.plain rfl) rfl (ltb rfl) rfl Tryz.call195 (draw_next.calls (w := w155) (a0 := a0) (a1 := y17) (a2 := 2) (Ext.gr e88c hg157 hz) fc hz k165 x99) (cons2 d169 (cons2 rfl rfl)) <| fun w172 g173 k174 => L_nil <| stepQh rfl rfl rfl rfl g173 (by simp only [InvS, srcAt, a167, a168, cond_true, cond_false]; exact k174) rfl
  ·intro s175 w176 dn177 hg178 hi179 hn180 hp181 hq182 hf183 hd184 hu185
   have d186 : Ow 3 1 (Go.UL.encI .i64) w85.heap.size w176 (s175 33) ([493, 448] : List Int) := (hd184 1 rfl rfl)
   have d187 : s175 35 = (.int .i64 z98.1) := (hd184 3 rfl rfl)
   have c188 := c105
   exact L_idxO (.plain rfl) rfl (ltb rfl) rfl Tryz.underlying188 Tryz.sizeOf3 rfl d186 d187 c188 <| fun p189 h190 => L_nil <| stepQs rfl rfl rfl rfl er ⟨_, _, rfl, h190⟩
  ·intro s191 w192 dn193 hg194 hi195 hn196 hp197 hq198 hf199 hd200 hu201
   obtain ⟨u202, p203, h204, o205⟩ := (hd200 4 rfl rfl)
   exact lp rfl rfl (X_loadAt Tryz.isAgg3 h204 (OP.at o205) rfl) <| L_nil <| stepQs rfl rfl rfl rfl er rfl
  ·intro s206 w207 dn208 hg209 hi210 hn211 hp212 hq213 hf214 hd215 hu216
   exact lp rfl rfl (X_move (v := (.pointer (some ⟨bs, 0, none⟩))) ((hf214 0 rfl).trans (K87 0 rfl))) <| L_nil <| stepQs rfl rfl rfl rfl er rfl
  ·intro s217 w218 dn219 hg220 hi221 hn222 hp223 hq224 hf225 hd226 hu227
   have a229 : dn219 3 = true := hp223 3 rfl
   have k228 : Blk w218 bs (encSrc cv z98.2).toArray 162 := by
    have h := hi221
    simp only [InvS, srcAt, a229, hn222, cond_true, cond_false] at h
    exact h
   have a231 : setD dn219 7 7 = true := setD_self
   have d232 : s217 38 = (.pointer (some ⟨bs, 0, none⟩)) := (hd226 6 rfl rfl)
   exact L_callS (.plain rfl) rfl (ltb rfl) rfl Tryz.call236 (draw_chance.calls (w := w218) (a0 := a0) (a1 := z98.2) (a2 := 3) (Ext.gr e88c hg220 hz) fc hz k228 x109) (cons2 d232 (cons2 rfl rfl)) <| fun w235 g236 k237 => L_nil <| stepQh rfl rfl rfl rfl g236 (by simp only [InvS, srcAt, a231, cond_true, cond_false]; exact k237) rfl
  ·intro s238 w239 dn240 hg241 hi242 hn243 hp244 hq245 hf246 hd247 hu248
   have d249 : s238 32 = (S a2) := (hd247 0 rfl rfl)
   have d250 : s238 37 = (.int .i64 (gt ([493, 448] : List Int) z98.1)) := (hd247 5 rfl rfl)
   have d251 : s238 39 = (.bool z108.1) := (hd247 7 rfl rfl)
   exact lp rfl rfl (X_build1 (vs := [(0, (.int .i64 3)), (1, (S a2)), (3, (.int .i64 (gt ([493, 448] : List Int) z98.1))), (4, (.bool z108.1))]) (pl := #[(0, 1), (1, 1), (2, 1), (3, 1), (4, 1)]) Tryz.underlying58 Tryz.zeroValue58 rfl (fun _ => by kernel_rfl) rfl (cons2 rfl (cons2 d249 (cons2 d250 (cons2 d251 rfl)))) rfl) <| L_nil <| stepQs rfl rfl rfl rfl er rfl
  intro s252 w253 hg254 hb255 hf256 ha257
  have K258 := Kp.ofD (kp := [(32, 41)]) rfl hf256
  have k259 : Blk w253 bs (encSrc cv z108.2).toArray 162 := hb255
  have d260 : s252 40 = (.agg #[(.int .i64 3), (S a2), (S ([] : List UInt8)), (.int .i64 (gt ([493, 448] : List Int) z98.1)), (.bool z108.1)]) := ha257 8 rfl rfl
  clear ha257 hf256
  refine L_storeA (.plain rfl) rfl rfl Tryz.sizeOf58 ((K258 4 rfl).trans (K87 4 rfl)) d260 rfl rfl rfl (Gr.blk hg254 h91 (Or.inl (Nat.le_trans (Nat.le_trans (Blk.lt ks) (Nat.le_refl _)) (Nat.le_of_eq z3)))) <| fun w261 h262 k263 => nx <| W_ret <| finG_r ?_
  obtain rfl := si H
  exact finC1s rfl ((K258 4 rfl).trans (K87 4 rfl)) k263 Tryz.isAgg58 Tryz.sizeOf58 rfl (Gr.thn (Gr.trans (Gr.trans (Gr.trans (Gr.ext e5) g12) e88) hg254) (Wr.below h262 (Nat.le_of_eq z3))) (Gr.blk (Gr.ofBelow (Wr.below h262 (Nat.le_of_eq z3))) k259 (Or.inr (Nat.le_trans (Blk.lt ks) (Nat.le_refl _))))
theorem draw_record.calls {w : World} {a0 : List Int} {a1 : DSrc} {a2 : List UInt8} {r : Rec × DSrc} {wc : World} {cv : Value} {bs : Nat} (kc : Ext wc w) (fc : Rd 1 (Go.UL.encI .u8) wc cv a0) (hz : wc.heap.size ≤ bs) (ks : Blk w bs (encSrc cv a1).toArray 162) (H : (draw_record.sh a0 a1 a2) = some r) :
  Calls Tryz.prog 153 #[.pointer (some ⟨bs, 0, none⟩), S a2] w (Rt (RS 162 bs cv w (.agg (encRec r.1).toArray) r.2)) := draw_record.walk kc fc hz ks (draw_record.eq a0 a1 a2 H)
/-! laws.at -/
abbrev laws_at.e1 (a0 : List Int) (a1 : Int) := (IntKind.wrap .i64 ((IntKind.wrap .i64 ((IntKind.wrap .i64 ((IntKind.wrap .i64 (gt a0 (a1.tmod (a0.length : Int)))) * 31)) + (IntKind.wrap .i64 (gt a0 ((IntKind.wrap .i64 (a1 + 1)).tmod (a0.length : Int)))))) + (IntKind.wrap .i64 (a1.tdiv (a0.length : Int)))))
theorem laws_at.walk {w : World} {a0 : List Int} {a1 : Int} {a2 : Int} {v_a0 : Value} (f_a0 : Rd 1 (Go.UL.encI .u8) w v_a0 a0) {r : Int} (H : laws_at.sh a0 a1 a2 = some r) :
  Calls Tryz.prog 15 #[v_a0, .int .i64 a1, .int .i64 a2] w (Rt (RP w (.int .i64 r))) := by
 unfold laws_at.sh at H
 refine calls_of_W Tryz.func15 rfl (Nat.le_of_ble_eq_true rfl) Tryz.ntmps15 rfl ?_
 refine wr <| lp rfl rfl (X_assign (v := (.int .i64 0)) rfl) <| nx <| W_seq <| wr <| lp rfl rfl (X_move (v := (.int .i64 a2)) rfl) <| lp rfl rfl (X_leq rfl rfl) <| nx ?_
 rcases bif_two H with ⟨q1, H⟩ | ⟨q1, H⟩
 ·refine W_true (cb q1) <| wr <| lp rfl rfl (X_assign (v := (.int .i64 0)) rfl) <| nx <| W_ret <| thn_r <| fin_r ?_
  obtain rfl := si H
  exact fin1 rfl er
 ·refine W_false (cb q1) <| W_skip <| thn_n <| W_seq <| wr <| lp rfl rfl (X_move (v := v_a0) rfl) <| lp rfl rfl (X_lenR Tryz.underlying22 rfl f_a0) <| lp rfl rfl (X_eql rfl rfl) <| nx ?_
  rcases bif_two H with ⟨q2, H⟩ | ⟨q2, H⟩
  ·refine W_true (cb q2) <| wr <| lp rfl rfl (X_move (v := (.int .i64 a1)) rfl) <| lp rfl rfl (X_mul rfl rfl) <| lp rfl rfl (X_move (v := (.int .i64 a2)) rfl) ?_
   obtain ⟨c3, H⟩ := bif_some H
   refine lp rfl rfl (X_rem rfl rfl (od c3)) <| lp rfl rfl (X_assign (v := (.int .i64 ((IntKind.wrap .i64 (a1 * 7)).tmod a2))) rfl) <| nx <| W_ret <| thn_r <| fin_r ?_
   obtain rfl := si H
   exact fin1 rfl er
  ·refine W_false (cb q2) <| W_skip <| thn_n <| W_seq ?_
   obtain ⟨c4, H⟩ := bif_some H
   obtain ⟨c5, H⟩ := bif_some H
   obtain ⟨c8, H⟩ := bif_some H
   obtain ⟨c9, H⟩ := bif_some H
   obtain ⟨c12, H⟩ := bif_some H
   obtain ⟨c13, H⟩ := bif_some H
   refine W_dM [LEq v_a0, LEq (.int .i64 a1), LEq v_a0, LEq (.int .i64 (a0.length : Int)), LEq (.int .i64 (a1.tmod (a0.length : Int))), LAt0 ((Go.UL.encI .u8) (gt a0 (a1.tmod (a0.length : Int)))), LEq (.int .u8 (gt a0 (a1.tmod (a0.length : Int)))), LEq (.int .i64 (IntKind.wrap .i64 (gt a0 (a1.tmod (a0.length : Int))))), LEq (.int .i64 (IntKind.wrap .i64 ((IntKind.wrap .i64 (gt a0 (a1.tmod (a0.length : Int)))) * 31))), LEq v_a0, LEq (.int .i64 a1), LEq (.int .i64 (IntKind.wrap .i64 (a1 + 1))), LEq v_a0, LEq (.int .i64 (a0.length : Int)), LEq (.int .i64 ((IntKind.wrap .i64 (a1 + 1)).tmod (a0.length : Int))), LAt0 ((Go.UL.encI .u8) (gt a0 ((IntKind.wrap .i64 (a1 + 1)).tmod (a0.length : Int)))), LEq (.int .u8 (gt a0 ((IntKind.wrap .i64 (a1 + 1)).tmod (a0.length : Int)))), LEq (.int .i64 (IntKind.wrap .i64 (gt a0 ((IntKind.wrap .i64 (a1 + 1)).tmod (a0.length : Int))))), LEq (.int .i64 (IntKind.wrap .i64 ((IntKind.wrap .i64 ((IntKind.wrap .i64 (gt a0 (a1.tmod (a0.length : Int)))) * 31)) + (IntKind.wrap .i64 (gt a0 ((IntKind.wrap .i64 (a1 + 1)).tmod (a0.length : Int))))))), LEq (.int .i64 a1), LEq v_a0, LEq (.int .i64 (a0.length : Int)), LEq (.int .i64 (IntKind.wrap .i64 (a1.tdiv (a0.length : Int)))), LEq (.int .i64 (laws_at.e1 a0 a1)), LEq (.int .i64 a2), LEq (.int .i64 ((laws_at.e1 a0 a1).tmod a2)), LEq (.int .i64 ((laws_at.e1 a0 a1).tmod a2))] (by kernel_rfl) (by kernel_rfl) ⟨LEq.mono, LEq.mono, LEq.mono, LEq.mono, LEq.mono, LAt0.mono, LEq.mono, LEq.mono, LEq.mono, LEq.mono, LEq.mono, LEq.mono, LEq.mono, LEq.mono, LEq.mono, LAt0.mono, LEq.mono, LEq.mono, LEq.mono, LEq.mono, LEq.mono, LEq.mono, LEq.mono, LEq.mono, LEq.mono, LEq.mono, LEq.mono, trivial⟩ ⟨?_, ?_, ?_, ?_, ?_, ?_, ?_, ?_, ?_, ?_, ?_, ?_, ?_, ?_, ?_, ?_, ?_, ?_, ?_, ?_, ?_, ?_, ?_, ?_, ?_, ?_, ?_, trivial⟩ ?_
   ·exact fun s x e f d u => lp rfl rfl (X_move (v := v_a0) (f 0 rfl)) <| se rfl rfl
   ·exact fun s x e f d u => lp rfl rfl (X_move (v := (.int .i64 a1)) (f 1 rfl)) <| se rfl rfl
   ·exact fun s x e f d u => lp rfl rfl (X_move (v := v_a0) (f 0 rfl)) <| se rfl rfl
   ·exact fun s x e f d u => lp rfl rfl (X_lenR Tryz.underlying22 (d 2 rfl) (Rd.ext f_a0 e)) <| se rfl rfl
   ·exact fun s x e f d u => lp rfl rfl (X_rem (d 1 rfl) (d 3 rfl) (od c12)) <| se rfl rfl
   ·exact fun s x e f d u => L_idx (.plain rfl) rfl (ltb rfl) rfl Tryz.underlying22 Tryz.sizeOf5 (d 0 rfl) (Rd.ext f_a0 e) (d 4 rfl) c5 <| fun p16 h17 => se rfl ⟨_, rfl, h17⟩
   ·intro s x e f d u
    obtain ⟨p18, h19, h20⟩ := (d 5 rfl)
    exact lp rfl rfl (X_loadAt Tryz.isAgg5 h19 h20 rfl) <| se rfl rfl
   ·exact fun s x e f d u => lp rfl rfl (X_convInt Tryz.underlying5 Tryz.underlying3 (d 6 rfl)) <| se rfl rfl
   ·exact fun s x e f d u => lp rfl rfl (X_mul (d 7 rfl) rfl) <| se rfl rfl
   ·exact fun s x e f d u => lp rfl rfl (X_move (v := v_a0) (f 0 rfl)) <| se rfl rfl
   ·exact fun s x e f d u => lp rfl rfl (X_move (v := (.int .i64 a1)) (f 1 rfl)) <| se rfl rfl
   ·exact fun s x e f d u => lp rfl rfl (X_add (d 10 rfl) rfl) <| se rfl rfl
   ·exact fun s x e f d u => lp rfl rfl (X_move (v := v_a0) (f 0 rfl)) <| se rfl rfl
   ·exact fun s x e f d u => lp rfl rfl (X_lenR Tryz.underlying22 (d 12 rfl) (Rd.ext f_a0 e)) <| se rfl rfl
   ·exact fun s x e f d u => lp rfl rfl (X_rem (d 11 rfl) (d 13 rfl) (od c12)) <| se rfl rfl
   ·exact fun s x e f d u => L_idx (.plain rfl) rfl (ltb rfl) rfl Tryz.underlying22 Tryz.sizeOf5 (d 9 rfl) (Rd.ext f_a0 e) (d 14 rfl) c9 <| fun p23 h24 => se rfl ⟨_, rfl, h24⟩
   ·intro s x e f d u
    obtain ⟨p25, h26, h27⟩ := (d 15 rfl)
    exact lp rfl rfl (X_loadAt Tryz.isAgg5 h26 h27 rfl) <| se rfl rfl
   ·exact fun s x e f d u => lp rfl rfl (X_convInt Tryz.underlying5 Tryz.underlying3 (d 16 rfl)) <| se rfl rfl
   ·exact fun s x e f d u => lp rfl rfl (X_add (d 8 rfl) (d 17 rfl)) <| se rfl rfl
   ·exact fun s x e f d u => lp rfl rfl (X_move (v := (.int .i64 a1)) (f 1 rfl)) <| se rfl rfl
   ·exact fun s x e f d u => lp rfl rfl (X_move (v := v_a0) (f 0 rfl)) <| se rfl rfl
   ·exact fun s x e f d u => lp rfl rfl (X_lenR Tryz.underlying22 (d 20 rfl) (Rd.ext f_a0 e)) <| se rfl rfl
   ·exact fun s x e f d u => lp rfl rfl (X_quo (d 19 rfl) (d 21 rfl) (od c12)) <| se rfl rfl
   ·exact fun s x e f d u => lp rfl rfl (X_add (d 18 rfl) (d 22 rfl)) <| se rfl rfl
   ·exact fun s x e f d u => lp rfl rfl (X_move (v := (.int .i64 a2)) (f 2 rfl)) <| se rfl rfl
   ·exact fun s x e f d u => lp rfl rfl (X_rem (d 23 rfl) (d 24 rfl) (od c13)) <| se rfl rfl
   ·exact fun s x e f d u => lp rfl rfl (X_assign (d 25 rfl)) <| se rfl rfl
   intro s30 w31 e32 hf33 ha34
   have K35 := Kp.ofD (kp := [(6, 7), (16, 42)]) rfl hf33
   have d36 : s30 6 = (.int .i64 ((laws_at.e1 a0 a1).tmod a2)) := ha34 26 rfl
   clear ha34 hf33
   refine thn_n <| W_ret <| fin_r ?_
   obtain rfl := si H
   exact fin1 d36 e32
theorem laws_at.calls {w : World} {a0 : List Int} {a1 : Int} {a2 : Int} {r : Int} {v_a0 : Value} (f_a0 : Rd 1 (Go.UL.encI .u8) w v_a0 a0) (H : (laws_at.sh a0 a1 a2) = some r) :
  Calls Tryz.prog 15 #[v_a0, .int .i64 a1, .int .i64 a2] w (Rt (RP w (.int .i64 r))) := laws_at.walk f_a0 (laws_at.eq a0 a1 a2 H)
/-! laws.sameRecords -/
theorem laws_sameRecords.walk {k : Nat} {w : World} {a0 : List Rec} {a1 : List Rec} {v_a0 : Value} (f_a0 : Rd 5 encRec w v_a0 a0) {v_a1 : Value} (f_a1 : Rd 5 encRec w v_a1 a1) {r : Bool} (H : laws_sameRecords.sh k a0 a1 = some r) :
  Calls Tryz.prog 31 #[v_a0, v_a1] w (Rt (RP w (.bool r))) := by
 unfold laws_sameRecords.sh at H
 refine calls_of_W Tryz.func31 rfl (Nat.le_of_ble_eq_true rfl) Tryz.ntmps31 rfl ?_
 refine wr <| lp rfl rfl (X_assign (v := (.bool false)) rfl) <| nx <| W_seq <| wr <| lp rfl rfl (X_move (v := v_a0) rfl) <| lp rfl rfl (X_lenR Tryz.underlying35 rfl f_a0) <| lp rfl rfl (X_move (v := v_a1) rfl) <| lp rfl rfl (X_lenR Tryz.underlying35 rfl f_a1) <| lp rfl rfl (X_neq rfl rfl) <| nx ?_
 rcases bif_two H with ⟨q1, H⟩ | ⟨q1, H⟩
 ·refine W_true (cb q1) <| wr <| lp rfl rfl (X_assign (v := (.bool false)) rfl) <| nx <| W_ret <| thn_r <| fin_r ?_
  obtain rfl := si H
  exact fin1 rfl er
 ·refine W_false (cb q1) <| W_skip <| thn_n <| W_seq <| wr <| lp rfl rfl (X_assign (v := (.int .i64 0)) rfl) <| nx ?_
  obtain ⟨z3, L4, C5⟩ := bind_some H
  clear H
  refine  W_cutQ (fun s0 sQ wQ => Kp [(4, 6), (11, 26)] s0 sQ ∧ Ext w wQ ∧ z3 = .inr ()) ?_ ?_
  ·refine W_block <| W_loopI (fun s0 kk sQ wQ => ∃ (x5_2 : Int), Kp [(4, 6), (11, 26)] s0 sQ ∧ sQ 5 = .int .i64 x5_2 ∧ Ext w wQ ∧ loopF (laws_sameRecords.b1 a0 a1) kk x5_2 = some z3) k ⟨0, kz, rfl, er, L4⟩ ?_
   rintro k10 s11 w12 ⟨x5_2, K13, h16, e14, L15⟩
   cases k10 with
   | zero => exact absurd L15 (by simp [loopF])
   | succ k10 =>
    obtain ⟨t17, H, S18⟩ := loopF_succ L15
    clear L15
    unfold laws_sameRecords.b1 at H
    refine W_seq <| wr <| lp rfl rfl (X_move h16) <| lp rfl rfl (X_move (v := v_a0) (K13 0 rfl)) <| lp rfl rfl (X_lenR Tryz.underlying35 rfl (Rd.ext f_a0 e14)) <| lp rfl rfl (X_lss rfl rfl) <| nx ?_
    rcases bif_two H with ⟨q19, H⟩ | ⟨q19, H⟩
    ·refine W_true (cb q19) <| W_skip <| thn_n <| W_seq <| W_block <| W_seq ?_
     obtain ⟨c20, H⟩ := bif_some H
     obtain ⟨c23, H⟩ := bif_some H
     refine W_dM [LEq v_a0, LEq (.int .i64 x5_2), LAt0 (encRec (gt a0 x5_2)), LEq (.agg (encRec (gt a0 x5_2)).toArray), LEq v_a1, LEq (.int .i64 x5_2), LAt0 (encRec (gt a1 x5_2)), LEq (.agg (encRec (gt a1 x5_2)).toArray), LEq (.bool (!decide ((gt a0 x5_2) = (gt a1 x5_2))))] (by kernel_rfl) (by kernel_rfl) ⟨LEq.mono, LEq.mono, LAt0.mono, LEq.mono, LEq.mono, LEq.mono, LAt0.mono, LEq.mono, LEq.mono, trivial⟩ ⟨?_, ?_, ?_, ?_, ?_, ?_, ?_, ?_, ?_, trivial⟩ ?_
     ·exact fun s x e f d u => lp rfl rfl (X_move (v := v_a0) ((f 0 rfl).trans (K13 0 rfl))) <| se rfl rfl
     ·exact fun s x e f d u => lp rfl rfl (X_move (v := (.int .i64 x5_2)) ((f 5 rfl).trans h16)) <| se rfl rfl
     ·exact fun s x e f d u => L_idx (.plain rfl) rfl (ltb rfl) rfl Tryz.underlying35 Tryz.sizeOf58 (d 0 rfl) (Rd.ext f_a0 (e14.t e)) (d 1 rfl) c20 <| fun p27 h28 => se rfl ⟨_, rfl, h28⟩
     ·intro s x e f d u
      obtain ⟨p29, h30, h31⟩ := (d 2 rfl)
      exact lp rfl rfl (X_loadS Tryz.isAgg58 Tryz.sizeOf58 rfl h30 h31) <| se rfl rfl
     ·exact fun s x e f d u => lp rfl rfl (X_move (v := v_a1) ((f 1 rfl).trans (K13 1 rfl))) <| se rfl rfl
     ·exact fun s x e f d u => lp rfl rfl (X_move (v := (.int .i64 x5_2)) ((f 5 rfl).trans h16)) <| se rfl rfl
     ·exact fun s x e f d u => L_idx (.plain rfl) rfl (ltb rfl) rfl Tryz.underlying35 Tryz.sizeOf58 (d 4 rfl) (Rd.ext f_a1 (e14.t e)) (d 5 rfl) c23 <| fun p33 h34 => se rfl ⟨_, rfl, h34⟩
     ·intro s x e f d u
      obtain ⟨p35, h36, h37⟩ := (d 6 rfl)
      exact lp rfl rfl (X_loadS Tryz.isAgg58 Tryz.sizeOf58 rfl h36 h37) <| se rfl rfl
     ·exact fun s x e f d u => lp rfl rfl (X_neA Eqg.t58 (Eqs.t58 (gt a0 x5_2) (gt a1 x5_2)) (d 3 rfl) (d 7 rfl)) <| se rfl rfl
     intro s38 w39 e40 hf41 ha42
     have K43 := Kp.ofD (kp := [(17, 26)]) rfl hf41
     have d44 : s38 25 = (.bool (!decide ((gt a0 x5_2) = (gt a1 x5_2)))) := ha42 8 rfl
     clear ha42 hf41
     refine thn_n ?_
     rcases bif_two H with ⟨q45, H⟩ | ⟨q45, H⟩
     ·refine W_true (d44.trans (cb q45)) <| wr <| lp rfl rfl (X_assign (v := (.bool false)) rfl) <| nx <| W_ret <| blk_r <| thn_r <| thn_r <| blk_r <| thn_r <| thn_r <| fin_r ?_
      obtain rfl := si H
      obtain rfl := si S18
      have H := C5
      obtain rfl := si H
      exact fin1 rfl (e14.t e40)
     ·refine W_false (d44.trans (cb q45)) <| W_skip <| blk_n <| thn_n <| W_reg <| lp rfl rfl (X_move (v := (.int .i64 x5_2)) ((K43 5 rfl).trans h16)) <| lp rfl rfl (X_add rfl rfl) <| lp rfl rfl (X_assign (v := (.int .i64 (IntKind.wrap .i64 (x5_2 + 1)))) rfl) <| nx ?_
      obtain rfl := si H
      exact ⟨_, Nat.lt_succ_self _, IntKind.wrap .i64 (x5_2 + 1), (ku3 (Kp.cut (ku4 K13 rfl) K43 rfl) rfl), rfl, (e14.t e40), S18⟩
    ·refine W_false (cb q19) <| W_exit <| thn_x <| thn_x <| blk_x <| thn_n ?_
     obtain rfl := si H
     obtain rfl := si S18
     exact ⟨(ku4 K13 rfl), e14, rfl⟩
  ·rintro s7 w6 ⟨K8, e9, y46⟩
   rw [y46] at C5
   have H := C5
   replace H : _ = some _ := H
   refine thn_n <| wr <| lp rfl rfl (X_assign (v := (.bool true)) rfl) <| nx <| W_ret <| fin_r ?_
   obtain rfl := si H
   exact fin1 rfl e9
theorem laws_sameRecords.calls {w : World} {a0 : List Rec} {a1 : List Rec} {v_a0 : Value} (f_a0 : Rd 5 encRec w v_a0 a0) {v_a1 : Value} (f_a1 : Rd 5 encRec w v_a1 a1) (h0 : a0.length ≤ 4611686018427387904) :
  Calls Tryz.prog 31 #[v_a0, v_a1] w (Rt (RP w (.bool (decide (a0 = a1))))) := by
 obtain ⟨k, h⟩ := laws_sameRecords.eq a0 a1 h0
 exact laws_sameRecords.walk f_a0 f_a1 h
/-! spec.l03Put, by text -/
theorem spec_l03PutF.calls {w : World} {a0 : List Rec} {a1 : Rec} {v_a0 : Value} (f_a0 : Rd 5 encRec w v_a0 a0) (h0 : False) : Calls Tryz.prog 202 #[v_a0, .agg (encRec a1).toArray] w (Rt (RO 58 5 encRec w ([] : List Rec))) := h0.elim

/-! spec.l03Put -/
abbrev spec_l03Put0.e1 (a1 : Rec) (x0_13 : List Rec) (x9_50 : Int) := ((!decide (((gt x0_13 x9_50).path) = a1.path)) && (!(decide (a1.kind = 3))))
abbrev spec_l03Put0.e2 (a1 : Rec) (x0_13 : List Rec) (x9_50 : Int) := ((decide (a1.path = []) && !decide (((gt x0_13 x9_50).path) = [])) || belowP ((gt x0_13 x9_50).path) a1.path)
theorem spec_l03Put0.walk {k : Nat} {w : World} {a0 : List Rec} {a1 : Rec} {v_a0 : Value} (f_a0 : Rd 5 encRec w v_a0 a0) {r : List Rec} (H : spec_l03Put0.sh k a0 a1 = some r) :
  Calls Tryz.prog 202 #[v_a0, .agg (encRec a1).toArray] w (Rt (RO 58 5 encRec w r)) := by
 unfold spec_l03Put0.sh at H
 refine calls_of_W Tryz.func202 rfl (Nat.le_of_ble_eq_true rfl) Tryz.ntmps202 rfl ?_
 refine wr <| L_box (.plain rfl) rfl (ltb rfl) rfl rfl <| fun b1 w2 z3 z4 e5 k6 => lp rfl rfl (X_assign (v := (.slice none 0 0)) rfl) <| nx <| W_seq <| wr <| lp rfl rfl (X_fieldAddr Tryz.underlying58 rfl Tryz.sizeOf9 rfl rfl) <| lp rfl rfl (X_loadB Tryz.isAgg9 k6 rfl rfl) ?_
 obtain ⟨c7, H⟩ := bif_some H
 refine lc rfl rfl rfl Tryz.call161 (spec_l01Parent.calls (w := w2) (a0 := a1.path) (od c7)) rfl <| fun w8 e9 => lp rfl rfl (X_assign (v := (S (parentP a1.path))) rfl) <| nx <| wr <| lp rfl rfl (X_move (v := (S (parentP a1.path))) rfl) <| lp rfl rfl (X_sne rfl rfl) <| nx ?_
 obtain ⟨z10, L11, C12⟩ := bind_some H
 clear H
 refine W_cutQ (fun s0 sQ wQ => ∃ (x0_13 : List Rec) (v14 : Value), Kp [(0, 1), (6, 7), (15, 32)] s0 sQ ∧ sQ 0 = v14 ∧ Rd 5 encRec wQ v14 x0_13 ∧ Ext w8 wQ ∧ z10 = .inr x0_13) ?_ ?_
 ·have H := L11
  rcases bif_two H with ⟨q15, H⟩ | ⟨q15, H⟩
  ·refine W_true (cb q15) <| wr <| lp rfl rfl (X_move (v := v_a0) rfl) <| lp rfl rfl (X_move (v := (S (parentP a1.path))) rfl) ?_
   obtain ⟨c16, H⟩ := bif_some H
   refine lc rfl rfl rfl Tryz.call145 (spec_l03At.calls (w := w8) (a0 := a0) (a1 := (parentP a1.path)) (Rd.ext f_a0 (e5.t e9)) (od c16)) rfl <| fun w17 e18 => lp rfl rfl (X_assign (v := (.int .i64 (findR a0 (parentP a1.path)))) rfl) <| nx <| wr <| lp rfl rfl (X_move (v := (.int .i64 (findR a0 (parentP a1.path)))) rfl) <| lp rfl rfl (X_lss rfl rfl) <| lp rfl rfl (X_move (v := (.bool (decide ((findR a0 (parentP a1.path)) < 0)))) rfl) ?_
   obtain ⟨z20, x21, H⟩ := bind_some H
   refine L_grpE 7 [(21, 28)] 27 (fun q => q = z20) ?_ ?_
   ·rcases bif_two x21 with ⟨b18_, H⟩ | ⟨b18_, H⟩
    ·refine ls rfl rfl rfl (cb b18_) rfl <| ls rfl rfl rfl (cb b18_) rfl <| ls rfl rfl rfl (cb b18_) rfl <| ls rfl rfl rfl (cb b18_) rfl <| ls rfl rfl rfl (cb b18_) rfl <| ls rfl rfl rfl (cb b18_) rfl <| lp rfl rfl (X_pick (b := true) (v := (.bool true)) (cb b18_) rfl) ?_
     obtain rfl := si H
     exact nx ⟨(ku3 (ku4 kz rfl) rfl), ⟨_, rfl, rfl⟩, er⟩
    ·refine lg rfl rfl rfl rfl (cb b18_) (X_move (v := v_a0) rfl) <| lg rfl rfl rfl rfl (cb b18_) (X_move (v := (.int .i64 (findR a0 (parentP a1.path)))) rfl) ?_
     obtain ⟨c20, H⟩ := bif_some H
     refine L_idx (tg rfl rfl rfl (cb b18_)) rfl (ltb rfl) rfl Tryz.underlying35 Tryz.sizeOf58 rfl (Rd.ext f_a0 ((e5.t e9).t e18)) rfl c20 <| fun p21 h22 => lg rfl rfl rfl rfl (cb b18_) (X_fieldAddr Tryz.underlying58 rfl Tryz.sizeOf3 rfl rfl) <| lg rfl rfl rfl rfl (cb b18_) (X_loadF Tryz.isAgg3 (j := 0) h22 rfl rfl) <| lg rfl rfl rfl rfl (cb b18_) (X_neq rfl rfl) <| lp rfl rfl (X_pick (b := false) (v := (.bool (!decide (((gt a0 (findR a0 (parentP a1.path))).kind) = 3)))) (cb b18_) rfl) ?_
     obtain rfl := si H
     exact nx ⟨(ku3 (ku4 kz rfl) rfl), ⟨_, rfl, rfl⟩, er⟩
   intro s26 w22 z27 K23 hq h24 e25
   rw [hq] at h24; clear hq
   refine nx ?_
   rcases bif_two H with ⟨q28, H⟩ | ⟨q28, H⟩
   ·refine W_true (h24.trans (cb q28)) <| W_reg <| lp rfl rfl (X_move (v := v_a0) (K23 0 rfl)) <| lp rfl rfl (X_move (v := (S (parentP a1.path))) (K23 5 rfl)) <| lp rfl rfl (X_build1 (vs := [(0, (.int .i64 3)), (1, (S (parentP a1.path))), (3, (.int .i64 493))]) (pl := #[(0, 1), (1, 1), (2, 1), (3, 1), (4, 1)]) Tryz.underlying58 Tryz.zeroValue58 rfl (fun _ => by kernel_rfl) rfl rfl rfl) ?_
    obtain ⟨c29, H⟩ := bif_some H
    refine L_callO (.plain rfl) rfl (ltb rfl) rfl Tryz.call202 (spec_l03PutF.calls (w := w22) (a0 := a0) (a1 := (⟨3, (parentP a1.path), ([] : List UInt8), 493, false⟩ : Rec)) (Rd.ext f_a0 (((e5.t e9).t e18).t e25)) (od c29)) rfl <| fun v32 w30 e31 o33 => lp rfl rfl (X_assign (v := v32) rfl) <| nx ?_
    obtain rfl := si H
    exact ⟨([] : List Rec), v32, (ku1 (ku4 (Kp.cut (ku3 (ku4 kz rfl) rfl) K23 rfl) rfl) rfl), rfl, (Ow.rd o33), ((e18.t e25).t e31), rfl⟩
   ·refine W_false (h24.trans (cb q28)) <| W_skip <| thn_n ?_
    obtain rfl := si H
    exact ⟨a0, v_a0, (Kp.cut (ku3 (ku4 kz rfl) rfl) K23 rfl), (K23 0 rfl), (Rd.ext f_a0 (((e5.t e9).t e18).t e25)), (e18.t e25), rfl⟩
  ·refine W_false (cb q15) <| W_skip <| thn_n ?_
   obtain rfl := si H
   exact ⟨a0, v_a0, kz, rfl, (Rd.ext f_a0 (e5.t e9)), er, rfl⟩
 ·rintro s35 w34 ⟨x0_13, v14, K36, h39, h40, e37, y38⟩
  rw [y38] at C12
  have H := C12
  refine thn_n <| wr <| L_lit (.plain rfl) rfl (ltb rfl) rfl Tryz.underlying35 Tryz.sizeOf58 Tryz.zeroValue58 rfl rfl rfl (vs := []) rfl (lit_all rfl) <| fun b41 w42 z43 z44 e45 k46 => lp rfl rfl (X_assign (v := (.slice (some ⟨b41, 0, none⟩) 0 0)) rfl) <| nx <| wr <| lp rfl rfl (X_assign (v := (.bool false)) rfl) <| nx <| W_seq <| wr <| lp rfl rfl (X_assign (v := (.int .i64 0)) rfl) <| nx ?_
  obtain ⟨z51, L52, C53⟩ := bind_some H
  clear H
  refine  W_cutQ (fun s0 sQ wQ => ∃ (x7_54 : List Rec) (v55 : Value) (x8_56 : Bool), Kp [(7, 10), (33, 86)] s0 sQ ∧ sQ 7 = v55 ∧ Ow 58 5 encRec w42.heap.size wQ v55 x7_54 ∧ sQ 8 = .bool x8_56 ∧ Ext w42 wQ ∧ z51 = .inr (x7_54, x8_56)) ?_ ?_
  ·refine W_block <| W_loopI (fun s0 kk sQ wQ => ∃ (x7_47 : List Rec) (v48 : Value) (x8_49 : Bool) (x9_50 : Int), Kp [(7, 10), (33, 86)] s0 sQ ∧ sQ 7 = v48 ∧ Ow 58 5 encRec w42.heap.size wQ v48 x7_47 ∧ sQ 8 = .bool x8_49 ∧ sQ 9 = .int .i64 x9_50 ∧ Ext w42 wQ ∧ loopF (spec_l03Put0.b1 a1 x0_13) kk (x7_47, x8_49, x9_50) = some z51) k ⟨([] : List Rec), (.slice (some ⟨b41, 0, none⟩) 0 0), false, 0, kz, rfl, (Ow.zero), rfl, rfl, er, L52⟩ ?_
   rintro k61 s62 w63 ⟨x7_47, v48, x8_49, x9_50, K64, h67, h68, h69, h70, e65, L66⟩
   cases k61 with
   | zero => exact absurd L66 (by simp [loopF])
   | succ k61 =>
    obtain ⟨t71, H, S72⟩ := loopF_succ L66
    clear L66
    unfold spec_l03Put0.b1 at H
    refine W_seq <| wr <| lp rfl rfl (X_move h70) <| lp rfl rfl (X_move (v := v14) ((K64 0 rfl).trans h39)) <| lp rfl rfl (X_lenR Tryz.underlying35 rfl (Rd.ext h40 (e45.t e65))) <| lp rfl rfl (X_lss rfl rfl) <| nx ?_
    rcases bif_two H with ⟨q73, H⟩ | ⟨q73, H⟩
    ·refine W_true (cb q73) <| W_skip <| thn_n <| W_seq <| W_block <| W_seq <| W_seq ?_
     obtain ⟨c74, H⟩ := bif_some H
     obtain ⟨c77, H⟩ := bif_some H
     obtain ⟨c78, H⟩ := bif_some H
     refine W_dM [LEq (.bool x8_49), LEq (.bool (!x8_49)), LEq (.bool (!x8_49)), LIf (!x8_49) (LEq (.pointer (some ⟨b1, 1, none⟩))), LIf (!x8_49) (LEq (S a1.path)), LIf (!x8_49) (LEq v14), LIf (!x8_49) (LEq (.int .i64 x9_50)), LIf (!x8_49) (LAt0 (encRec (gt x0_13 x9_50))), LIf (!x8_49) (LAt 1 (encRec (gt x0_13 x9_50))), LIf (!x8_49) (LEq (S ((gt x0_13 x9_50).path))), LIf (!x8_49) (LEq (.bool (lessL (cut 47 a1.path) (cut 47 ((gt x0_13 x9_50).path))))), LEq (.bool ((!x8_49) && (lessL (cut 47 a1.path) (cut 47 ((gt x0_13 x9_50).path)))))] (by kernel_rfl) (by kernel_rfl) ⟨LEq.mono, LEq.mono, LEq.mono, (LIf.mono LEq.mono), (LIf.mono LEq.mono), (LIf.mono LEq.mono), (LIf.mono LEq.mono), (LIf.mono LAt0.mono), (LIf.mono LAt.mono), (LIf.mono LEq.mono), (LIf.mono LEq.mono), LEq.mono, trivial⟩ ⟨?_, ?_, ?_, ?_, ?_, ?_, ?_, ?_, ?_, ?_, ?_, ?_, trivial⟩ ?_
     ·exact fun s x e f d u => lp rfl rfl (X_move (v := (.bool x8_49)) ((f 8 rfl).trans h69)) <| se rfl rfl
     ·exact fun s x e f d u => lp rfl rfl (X_not (d 0 rfl)) <| se rfl rfl
     ·exact fun s x e f d u => lp rfl rfl (X_move (d 1 rfl)) <| se rfl rfl
     ·exact fun s x e f d u => gT rfl rfl rfl rfl (d 2 rfl) rfl fun b t => lt t rfl rfl (X_fieldAddr Tryz.underlying58 rfl Tryz.sizeOf9 rfl ((f 3 rfl).trans ((K64 3 rfl).trans (K36 3 rfl)))) <| sg rfl rfl b rfl
     ·exact fun s x e f d u => gT rfl rfl rfl rfl (d 2 rfl) rfl fun b t => lt t rfl rfl (X_loadB Tryz.isAgg9 (Blk.ext k6 ((((e9.t e37).t e45).t e65).t e)) ((d 3 rfl).1 b) rfl) <| sg rfl rfl b rfl
     ·exact fun s x e f d u => gT rfl rfl rfl rfl (d 2 rfl) rfl fun b t => lt t rfl rfl (X_move (v := v14) ((f 0 rfl).trans ((K64 0 rfl).trans h39))) <| sg rfl rfl b rfl
     ·exact fun s x e f d u => gT rfl rfl rfl rfl (d 2 rfl) rfl fun b t => lt t rfl rfl (X_move (v := (.int .i64 x9_50)) ((f 9 rfl).trans h70)) <| sg rfl rfl b rfl
     ·exact fun s x e f d u => gT rfl rfl rfl rfl (d 2 rfl) rfl fun b t => L_idx t rfl (ltb rfl) rfl Tryz.underlying35 Tryz.sizeOf58 ((d 5 rfl).1 b) (Rd.ext h40 ((e45.t e65).t e)) ((d 6 rfl).1 b) (imp_take b c74) <| fun p82 h83 => sg rfl rfl b ⟨_, rfl, h83⟩
     ·intro s x e f d u
      refine gT rfl rfl rfl rfl (d 2 rfl) rfl fun b t => ?_
      obtain ⟨p84, h85, h86⟩ := ((d 7 rfl).1 b)
      exact lt t rfl rfl (X_fieldAddr Tryz.underlying58 rfl Tryz.sizeOf9 rfl h85) <| sg rfl rfl b ⟨_, rfl, h86⟩
     ·intro s x e f d u
      refine gT rfl rfl rfl rfl (d 2 rfl) rfl fun b t => ?_
      obtain ⟨p87, h88, h89⟩ := ((d 8 rfl).1 b)
      exact lt t rfl rfl (X_loadF Tryz.isAgg9 (j := 1) h89 h88 rfl) <| sg rfl rfl b rfl
     ·exact fun s x e f d u => gT rfl rfl rfl rfl (d 2 rfl) rfl fun b t => L_callP t rfl (ltb rfl) rfl Tryz.call205 (spec_l01Less.calls (w := x) (a0 := a1.path) (a1 := (gt x0_13 x9_50).path) (od (imp_take b c77)) (od (imp_take b c78))) (cons2 ((d 4 rfl).1 b) (cons2 ((d 9 rfl).1 b) rfl)) <| fun w92 e93 => sgx rfl rfl b e93 rfl
     ·exact fun s x e f d u => lp rfl rfl (X_pickA (d 2 rfl) rfl fun h => ((d 10 rfl).1 h)) <| se rfl rfl
     intro s94 w95 e96 hf97 ha98
     have K99 := Kp.ofD (kp := [(39, 51)]) rfl hf97
     have d100 : s94 50 = (.bool ((!x8_49) && (lessL (cut 47 a1.path) (cut 47 ((gt x0_13 x9_50).path))))) := ha98 11 rfl
     clear ha98 hf97
     refine thn_n ?_
     obtain ⟨z101, L102, C103⟩ := bind_some H
     clear H
     refine W_cutQ (fun s0 sQ wQ => ∃ (x7_104 : List Rec) (v105 : Value) (x8_106 : Bool), Kp [(7, 9), (51, 55)] s0 sQ ∧ sQ 7 = v105 ∧ Ow 58 5 encRec w42.heap.size wQ v105 x7_104 ∧ sQ 8 = .bool x8_106 ∧ Ext w42 wQ ∧ z101 = .inr (x7_104, x8_106)) ?_ ?_
     ·have H := L102
      rcases bif_two H with ⟨q107, H⟩ | ⟨q107, H⟩
      ·refine W_true (d100.trans (cb q107)) <| wr <| lp rfl rfl (X_move (v := v48) ((K99 7 rfl).trans h67)) <| lp rfl rfl (X_loadS Tryz.isAgg58 Tryz.sizeOf58 rfl ((K99 3 rfl).trans ((K64 3 rfl).trans (K36 3 rfl))) (Blk.at0 (Blk.ext k6 ((((e9.t e37).t e45).t e65).t e96)))) <| L_lit (.plain rfl) rfl (ltb rfl) rfl Tryz.underlying35 Tryz.sizeOf58 Tryz.zeroValue58 rfl rfl rfl (vs := [(.agg #[(.int .i64 a1.kind), (S a1.path), (S a1.body), (.int .i64 a1.mode), (.bool a1.opq)])]) rfl (lit_all rfl) <| fun b108 w109 z110 z111 e112 k113 => ?_
       obtain ⟨c114, H⟩ := bif_some H
       refine L_append (enc := encRec) (.plain rfl) rfl (ltb rfl) rfl El.t35 rfl rfl (Ow.ext h68 (e96.t e112)) (Ow.rd (Ow.new (xs := [a1]) (sz := 5) (enc := encRec) (base := w95.heap.size) k113 (Nat.le_of_eq z110) rfl (fun _ _ => by rfl) (Nat.le_of_ble_eq_true rfl))) (ones_Rec _) (od c114) (((e65.t e96).t e112)).size <| fun v115 w116 o117 z118 g119 => lp rfl rfl (X_assign (v := v115) rfl) <| nx <| W_reg <| lp rfl rfl (X_assign (v := (.bool true)) rfl) <| nx ?_
       obtain rfl := si H
       exact ⟨x7_47 ++ ([a1] : List Rec), v115, true, (ku2 (ku4 kz rfl) rfl), rfl, o117, rfl, (g119 _ ((e65.t e96).t e112)), rfl⟩
      ·refine W_false (d100.trans (cb q107)) <| W_skip <| thn_n ?_
       obtain rfl := si H
       exact ⟨x7_47, v48, x8_49, kz, ((K99 7 rfl).trans h67), (Ow.ext h68 e96), ((K99 8 rfl).trans h69), (e65.t e96), rfl⟩
     ·rintro s121 w120 ⟨x7_104, v105, x8_106, K122, h125, h126, h127, e123, y124⟩
      rw [y124] at C103
      have H := C103
      refine thn_n <| W_seq ?_
      obtain ⟨c128, H⟩ := bif_some H
      obtain ⟨c131, H⟩ := bif_some H
      refine W_dM [LEq v14, LEq (.int .i64 x9_50), LAt0 (encRec (gt x0_13 x9_50)), LAt 1 (encRec (gt x0_13 x9_50)), LEq (S ((gt x0_13 x9_50).path)), LEq (.pointer (some ⟨b1, 1, none⟩)), LEq (S a1.path), LEq (.bool (!decide (((gt x0_13 x9_50).path) = a1.path))), LEq (.bool (!decide (((gt x0_13 x9_50).path) = a1.path))), LIf (!decide (((gt x0_13 x9_50).path) = a1.path)) (LEq (.pointer (some ⟨b1, 0, none⟩))), LIf (!decide (((gt x0_13 x9_50).path) = a1.path)) (LEq (.int .i64 a1.kind)), LIf (!decide (((gt x0_13 x9_50).path) = a1.path)) (LEq (.bool (decide (a1.kind = 3)))), LIf (!decide (((gt x0_13 x9_50).path) = a1.path)) (LEq (.bool (decide (a1.kind = 3)))), LIf (spec_l03Put0.e1 a1 x0_13 x9_50) (LEq v14), LIf (spec_l03Put0.e1 a1 x0_13 x9_50) (LEq (.int .i64 x9_50)), LIf (spec_l03Put0.e1 a1 x0_13 x9_50) (LAt0 (encRec (gt x0_13 x9_50))), LIf (spec_l03Put0.e1 a1 x0_13 x9_50) (LAt 1 (encRec (gt x0_13 x9_50))), LIf (spec_l03Put0.e1 a1 x0_13 x9_50) (LEq (S ((gt x0_13 x9_50).path))), LIf (spec_l03Put0.e1 a1 x0_13 x9_50) (LEq (.pointer (some ⟨b1, 1, none⟩))), LIf (spec_l03Put0.e1 a1 x0_13 x9_50) (LEq (S a1.path)), LIf (spec_l03Put0.e1 a1 x0_13 x9_50) (LEq (.bool (spec_l03Put0.e2 a1 x0_13 x9_50))), LIf (spec_l03Put0.e1 a1 x0_13 x9_50) (LEq (.bool (!(spec_l03Put0.e2 a1 x0_13 x9_50)))), LIf (!decide (((gt x0_13 x9_50).path) = a1.path)) (LEq (.bool ((decide (a1.kind = 3)) || (!(spec_l03Put0.e2 a1 x0_13 x9_50))))), LEq (.bool ((!decide (((gt x0_13 x9_50).path) = a1.path)) && ((decide (a1.kind = 3)) || (!(spec_l03Put0.e2 a1 x0_13 x9_50)))))] (by kernel_rfl) (by kernel_rfl) ⟨LEq.mono, LEq.mono, LAt0.mono, LAt.mono, LEq.mono, LEq.mono, LEq.mono, LEq.mono, LEq.mono, (LIf.mono LEq.mono), (LIf.mono LEq.mono), (LIf.mono LEq.mono), (LIf.mono LEq.mono), (LIf.mono LEq.mono), (LIf.mono LEq.mono), (LIf.mono LAt0.mono), (LIf.mono LAt.mono), (LIf.mono LEq.mono), (LIf.mono LEq.mono), (LIf.mono LEq.mono), (LIf.mono LEq.mono), (LIf.mono LEq.mono), (LIf.mono LEq.mono), LEq.mono, trivial⟩ ⟨?_, ?_, ?_, ?_, ?_, ?_, ?_, ?_, ?_, ?_, ?_, ?_, ?_, ?_, ?_, ?_, ?_, ?_, ?_, ?_, ?_, ?_, ?_, ?_, trivial⟩ ?_
      ·exact fun s x e f d u => lp rfl rfl (X_move (v := v14) ((f 0 rfl).trans ((K122 0 rfl).trans ((K99 0 rfl).trans ((K64 0 rfl).trans h39))))) <| se rfl rfl
      ·exact fun s x e f d u => lp rfl rfl (X_move (v := (.int .i64 x9_50)) ((f 9 rfl).trans ((K122 9 rfl).trans ((K99 9 rfl).trans h70)))) <| se rfl rfl
      ·exact fun s x e f d u => L_idx (.plain rfl) rfl (ltb rfl) rfl Tryz.underlying35 Tryz.sizeOf58 (d 0 rfl) (Rd.ext h40 ((e45.t e123).t e)) (d 1 rfl) c128 <| fun p137 h138 => se rfl ⟨_, rfl, h138⟩
      ·intro s x e f d u
       obtain ⟨p139, h140, h141⟩ := (d 2 rfl)
       exact lp rfl rfl (X_fieldAddr Tryz.underlying58 rfl Tryz.sizeOf9 rfl h140) <| se rfl ⟨_, rfl, h141⟩
      ·intro s x e f d u
       obtain ⟨p142, h143, h144⟩ := (d 3 rfl)
       exact lp rfl rfl (X_loadF Tryz.isAgg9 (j := 1) h144 h143 rfl) <| se rfl rfl
      ·exact fun s x e f d u => lp rfl rfl (X_fieldAddr Tryz.underlying58 rfl Tryz.sizeOf9 rfl ((f 3 rfl).trans ((K122 3 rfl).trans ((K99 3 rfl).trans ((K64 3 rfl).trans (K36 3 rfl)))))) <| se rfl rfl
      ·exact fun s x e f d u => lp rfl rfl (X_loadB Tryz.isAgg9 (Blk.ext k6 ((((e9.t e37).t e45).t e123).t e)) (d 5 rfl) rfl) <| se rfl rfl
      ·exact fun s x e f d u => lp rfl rfl (X_sne (d 4 rfl) (d 6 rfl)) <| se rfl rfl
      ·exact fun s x e f d u => lp rfl rfl (X_move (d 7 rfl)) <| se rfl rfl
      ·exact fun s x e f d u => gT rfl rfl rfl rfl (d 8 rfl) rfl fun b t => lt t rfl rfl (X_fieldAddr Tryz.underlying58 rfl Tryz.sizeOf3 rfl ((f 3 rfl).trans ((K122 3 rfl).trans ((K99 3 rfl).trans ((K64 3 rfl).trans (K36 3 rfl)))))) <| sg rfl rfl b rfl
      ·exact fun s x e f d u => gT rfl rfl rfl rfl (d 8 rfl) rfl fun b t => lt t rfl rfl (X_loadB Tryz.isAgg3 (Blk.ext k6 ((((e9.t e37).t e45).t e123).t e)) ((d 9 rfl).1 b) rfl) <| sg rfl rfl b rfl
      ·exact fun s x e f d u => gT rfl rfl rfl rfl (d 8 rfl) rfl fun b t => lt t rfl rfl (X_eql ((d 10 rfl).1 b) rfl) <| sg rfl rfl b rfl
      ·exact fun s x e f d u => gT rfl rfl rfl rfl (d 8 rfl) rfl fun b t => lt t rfl rfl (X_move (v := (.bool (decide (a1.kind = 3)))) ((d 11 rfl).1 b)) <| sg rfl rfl b rfl
      ·exact fun s x e f d u => hF rfl rfl rfl rfl (d 12 rfl) rfl fun b t => lt t rfl rfl (X_move (v := v14) ((f 0 rfl).trans ((K122 0 rfl).trans ((K99 0 rfl).trans ((K64 0 rfl).trans h39))))) <| sg rfl rfl b rfl
      ·exact fun s x e f d u => hF rfl rfl rfl rfl (d 12 rfl) rfl fun b t => lt t rfl rfl (X_move (v := (.int .i64 x9_50)) ((f 9 rfl).trans ((K122 9 rfl).trans ((K99 9 rfl).trans h70)))) <| sg rfl rfl b rfl
      ·exact fun s x e f d u => hF rfl rfl rfl rfl (d 12 rfl) rfl fun b t => L_idx t rfl (ltb rfl) rfl Tryz.underlying35 Tryz.sizeOf58 ((d 13 rfl).1 (and_mk (and_l b) (not_mk (not_f (and_r b))))) (Rd.ext h40 ((e45.t e123).t e)) ((d 14 rfl).1 (and_mk (and_l b) (not_mk (not_f (and_r b))))) (imp_take b c131) <| fun p146 h147 => sg rfl rfl b ⟨_, rfl, h147⟩
      ·intro s x e f d u
       refine hF rfl rfl rfl rfl (d 12 rfl) rfl fun b t => ?_
       obtain ⟨p148, h149, h150⟩ := ((d 15 rfl).1 (and_mk (and_l b) (not_mk (not_f (and_r b)))))
       exact lt t rfl rfl (X_fieldAddr Tryz.underlying58 rfl Tryz.sizeOf9 rfl h149) <| sg rfl rfl b ⟨_, rfl, h150⟩
      ·intro s x e f d u
       refine hF rfl rfl rfl rfl (d 12 rfl) rfl fun b t => ?_
       obtain ⟨p151, h152, h153⟩ := ((d 16 rfl).1 (and_mk (and_l b) (not_mk (not_f (and_r b)))))
       exact lt t rfl rfl (X_loadF Tryz.isAgg9 (j := 1) h153 h152 rfl) <| sg rfl rfl b rfl
      ·exact fun s x e f d u => hF rfl rfl rfl rfl (d 12 rfl) rfl fun b t => lt t rfl rfl (X_fieldAddr Tryz.underlying58 rfl Tryz.sizeOf9 rfl ((f 3 rfl).trans ((K122 3 rfl).trans ((K99 3 rfl).trans ((K64 3 rfl).trans (K36 3 rfl)))))) <| sg rfl rfl b rfl
      ·exact fun s x e f d u => hF rfl rfl rfl rfl (d 12 rfl) rfl fun b t => lt t rfl rfl (X_loadB Tryz.isAgg9 (Blk.ext k6 ((((e9.t e37).t e45).t e123).t e)) ((d 18 rfl).1 (and_mk (and_l b) (not_mk (not_f (and_r b))))) rfl) <| sg rfl rfl b rfl
      ·exact fun s x e f d u => hF rfl rfl rfl rfl (d 12 rfl) rfl fun b t => L_callP t rfl (ltb rfl) rfl Tryz.call171 (spec_l01Below.calls (w := x) (a0 := (gt x0_13 x9_50).path) (a1 := a1.path)) (cons2 ((d 17 rfl).1 (and_mk (and_l b) (not_mk (not_f (and_r b))))) (cons2 ((d 19 rfl).1 (and_mk (and_l b) (not_mk (not_f (and_r b))))) rfl)) <| fun w154 e155 => sgx rfl rfl b e155 rfl
      ·exact fun s x e f d u => hF rfl rfl rfl rfl (d 12 rfl) rfl fun b t => lt t rfl rfl (X_not ((d 20 rfl).1 (and_mk (and_l b) (not_mk (not_f (and_r b)))))) <| sg rfl rfl b rfl
      ·exact fun s x e f d u => gT rfl rfl rfl rfl (d 8 rfl) rfl fun b t => lt t rfl rfl (X_pickO ((d 12 rfl).1 b) rfl fun h => ((d 21 rfl).1 (and_mk b (not_mk h)))) <| sg rfl rfl b rfl
      ·exact fun s x e f d u => lp rfl rfl (X_pickA (d 8 rfl) rfl fun h => ((d 22 rfl).1 h)) <| se rfl rfl
      intro s156 w157 e158 hf159 ha160
      have K161 := Kp.ofD (kp := [(55, 79)]) rfl hf159
      have d162 : s156 78 = (.bool ((!decide (((gt x0_13 x9_50).path) = a1.path)) && ((decide (a1.kind = 3)) || (!(spec_l03Put0.e2 a1 x0_13 x9_50))))) := ha160 23 rfl
      clear ha160 hf159
      refine thn_n ?_
      rcases bif_two H with ⟨q163, H⟩ | ⟨q163, H⟩
      ·refine W_true (d162.trans (cb q163)) <| W_reg <| lp rfl rfl (X_move (v := v105) ((K161 7 rfl).trans h125)) <| lp rfl rfl (X_move (v := v14) ((K161 0 rfl).trans ((K122 0 rfl).trans ((K99 0 rfl).trans ((K64 0 rfl).trans h39))))) <| lp rfl rfl (X_move (v := (.int .i64 x9_50)) ((K161 9 rfl).trans ((K122 9 rfl).trans ((K99 9 rfl).trans h70)))) ?_
       obtain ⟨c164, H⟩ := bif_some H
       refine L_idx (.plain rfl) rfl (ltb rfl) rfl Tryz.underlying35 Tryz.sizeOf58 rfl (Rd.ext h40 ((e45.t e123).t e158)) rfl c164 <| fun p165 h166 => lp rfl rfl (X_loadS Tryz.isAgg58 Tryz.sizeOf58 rfl rfl h166) <| L_lit (.plain rfl) rfl (ltb rfl) rfl Tryz.underlying35 Tryz.sizeOf58 Tryz.zeroValue58 rfl rfl rfl (vs := [(.agg (encRec (gt x0_13 x9_50)).toArray)]) rfl (lit_all rfl) <| fun b167 w168 z169 z170 e171 k172 => ?_
       obtain ⟨c173, H⟩ := bif_some H
       refine L_append (enc := encRec) (.plain rfl) rfl (ltb rfl) rfl El.t35 rfl rfl (Ow.ext h126 (e158.t e171)) (Ow.rd (Ow.new (xs := [gt x0_13 x9_50]) (sz := 5) (enc := encRec) (base := w157.heap.size) k172 (Nat.le_of_eq z169) rfl (fun _ _ => by rfl) (Nat.le_of_ble_eq_true rfl))) (ones_Rec _) (od c173) (((e123.t e158).t e171)).size <| fun v174 w175 o176 z177 g178 => lp rfl rfl (X_assign (v := v174) rfl) <| L_nil <| blk_n <| thn_n <| W_reg <| lp rfl rfl (X_move (v := (.int .i64 x9_50)) ((K161 9 rfl).trans ((K122 9 rfl).trans ((K99 9 rfl).trans h70)))) <| lp rfl rfl (X_add rfl rfl) <| lp rfl rfl (X_assign (v := (.int .i64 (IntKind.wrap .i64 (x9_50 + 1)))) rfl) <| nx ?_
       obtain rfl := si H
       exact ⟨_, Nat.lt_succ_self _, x7_104 ++ ([gt x0_13 x9_50] : List Rec), v174, x8_106, IntKind.wrap .i64 (x9_50 + 1), (ku3 (ku8 (Kp.cut (Kp.cut (Kp.cut (ku4 K64 rfl) K99 rfl) K122 rfl) K161 rfl) rfl) rfl), rfl, o176, ((K161 8 rfl).trans h127), rfl, (g178 _ ((e123.t e158).t e171)), S72⟩
      ·refine W_false (d162.trans (cb q163)) <| W_skip <| blk_n <| thn_n <| W_reg <| lp rfl rfl (X_move (v := (.int .i64 x9_50)) ((K161 9 rfl).trans ((K122 9 rfl).trans ((K99 9 rfl).trans h70)))) <| lp rfl rfl (X_add rfl rfl) <| lp rfl rfl (X_assign (v := (.int .i64 (IntKind.wrap .i64 (x9_50 + 1)))) rfl) <| nx ?_
       obtain rfl := si H
       exact ⟨_, Nat.lt_succ_self _, x7_104, v105, x8_106, IntKind.wrap .i64 (x9_50 + 1), (ku3 (Kp.cut (Kp.cut (Kp.cut (ku4 K64 rfl) K99 rfl) K122 rfl) K161 rfl) rfl), ((K161 7 rfl).trans h125), (Ow.ext h126 e158), ((K161 8 rfl).trans h127), rfl, (e123.t e158), S72⟩
    ·refine W_false (cb q73) <| W_exit <| thn_x <| thn_x <| blk_x <| thn_n ?_
     obtain rfl := si H
     obtain rfl := si S72
     exact ⟨x7_47, v48, x8_49, (ku4 K64 rfl), h67, h68, h69, e65, rfl⟩
  ·rintro s58 w57 ⟨x7_54, v55, x8_56, K59, h179, h180, h181, e60, y182⟩
   rw [y182] at C53
   have H := C53
   replace H : _ = some _ := H
   refine thn_n <| W_seq <| wr <| lp rfl rfl (X_move h181) <| lp rfl rfl (X_not rfl) <| nx ?_
   rcases bif_two H with ⟨q183, H⟩ | ⟨q183, H⟩
   ·refine W_true (cb q183) <| W_reg <| lp rfl rfl (X_move h179) <| lp rfl rfl (X_loadS Tryz.isAgg58 Tryz.sizeOf58 rfl ((K59 3 rfl).trans (K36 3 rfl)) (Blk.at0 (Blk.ext k6 (((e9.t e37).t e45).t e60)))) <| L_lit (.plain rfl) rfl (ltb rfl) rfl Tryz.underlying35 Tryz.sizeOf58 Tryz.zeroValue58 rfl rfl rfl (vs := [(.agg #[(.int .i64 a1.kind), (S a1.path), (S a1.body), (.int .i64 a1.mode), (.bool a1.opq)])]) rfl (lit_all rfl) <| fun b184 w185 z186 z187 e188 k189 => ?_
    obtain ⟨c190, H⟩ := bif_some H
    refine L_append (enc := encRec) (.plain rfl) rfl (ltb rfl) rfl El.t35 rfl rfl (Ow.ext h180 e188) (Ow.rd (Ow.new (xs := [a1]) (sz := 5) (enc := encRec) (base := w57.heap.size) k189 (Nat.le_of_eq z186) rfl (fun _ _ => by rfl) (Nat.le_of_ble_eq_true rfl))) (ones_Rec _) (od c190) ((e60.t e188)).size <| fun v191 w192 o193 z194 g195 => lp rfl rfl (X_assign (v := v191) rfl) <| nx <| wr <| lp rfl rfl (X_move (v := v191) rfl) <| lp rfl rfl (X_assign (v := v191) rfl) <| nx <| W_ret <| fin_r ?_
    obtain rfl := si H
    exact fin1o rfl ((((e5.t e9).t e37).t e45).t (g195 _ (e60.t e188))) o193 ((((e5.t e9).t e37).t e45)).size
   ·refine W_false (cb q183) <| W_skip <| thn_n <| wr <| lp rfl rfl (X_move h179) <| lp rfl rfl (X_assign (v := v55) rfl) <| nx <| W_ret <| fin_r ?_
    obtain rfl := si H
    exact fin1o rfl ((((e5.t e9).t e37).t e45).t e60) h180 ((((e5.t e9).t e37).t e45)).size
theorem spec_l03Put0.calls {w : World} {a0 : List Rec} {a1 : Rec} {v_a0 : Value} (f_a0 : Rd 5 encRec w v_a0 a0) (h0 : putOKb 0 a0 a1 = true) :
  Calls Tryz.prog 202 #[v_a0, .agg (encRec a1).toArray] w (Rt (RO 58 5 encRec w (putR 0 a0 a1))) := by
 obtain ⟨k, h⟩ := spec_l03Put0.eq a0 a1 h0
 exact spec_l03Put0.walk f_a0 h
/-! spec.l03Put -/
abbrev spec_l03Put1.e1 (a1 : Rec) (x0_13 : List Rec) (x9_50 : Int) := ((!decide (((gt x0_13 x9_50).path) = a1.path)) && (!(decide (a1.kind = 3))))
abbrev spec_l03Put1.e2 (a1 : Rec) (x0_13 : List Rec) (x9_50 : Int) := ((decide (a1.path = []) && !decide (((gt x0_13 x9_50).path) = [])) || belowP ((gt x0_13 x9_50).path) a1.path)
theorem spec_l03Put1.walk {k : Nat} {w : World} {a0 : List Rec} {a1 : Rec} {v_a0 : Value} (f_a0 : Rd 5 encRec w v_a0 a0) {r : List Rec} (H : spec_l03Put1.sh k a0 a1 = some r) :
  Calls Tryz.prog 202 #[v_a0, .agg (encRec a1).toArray] w (Rt (RO 58 5 encRec w r)) := by
 unfold spec_l03Put1.sh at H
 refine calls_of_W Tryz.func202 rfl (Nat.le_of_ble_eq_true rfl) Tryz.ntmps202 rfl ?_
 refine wr <| L_box (.plain rfl) rfl (ltb rfl) rfl rfl <| fun b1 w2 z3 z4 e5 k6 => lp rfl rfl (X_assign (v := (.slice none 0 0)) rfl) <| nx <| W_seq <| wr <| lp rfl rfl (X_fieldAddr Tryz.underlying58 rfl Tryz.sizeOf9 rfl rfl) <| lp rfl rfl (X_loadB Tryz.isAgg9 k6 rfl rfl) ?_
 obtain ⟨c7, H⟩ := bif_some H
 refine lc rfl rfl rfl Tryz.call161 (spec_l01Parent.calls (w := w2) (a0 := a1.path) (od c7)) rfl <| fun w8 e9 => lp rfl rfl (X_assign (v := (S (parentP a1.path))) rfl) <| nx <| wr <| lp rfl rfl (X_move (v := (S (parentP a1.path))) rfl) <| lp rfl rfl (X_sne rfl rfl) <| nx ?_
 obtain ⟨z10, L11, C12⟩ := bind_some H
 clear H
 refine W_cutQ (fun s0 sQ wQ => ∃ (x0_13 : List Rec) (v14 : Value), Kp [(0, 1), (6, 7), (15, 32)] s0 sQ ∧ sQ 0 = v14 ∧ Rd 5 encRec wQ v14 x0_13 ∧ Ext w8 wQ ∧ z10 = .inr x0_13) ?_ ?_
 ·have H := L11
  rcases bif_two H with ⟨q15, H⟩ | ⟨q15, H⟩
  ·refine W_true (cb q15) <| wr <| lp rfl rfl (X_move (v := v_a0) rfl) <| lp rfl rfl (X_move (v := (S (parentP a1.path))) rfl) ?_
   obtain ⟨c16, H⟩ := bif_some H
   refine lc rfl rfl rfl Tryz.call145 (spec_l03At.calls (w := w8) (a0 := a0) (a1 := (parentP a1.path)) (Rd.ext f_a0 (e5.t e9)) (od c16)) rfl <| fun w17 e18 => lp rfl rfl (X_assign (v := (.int .i64 (findR a0 (parentP a1.path)))) rfl) <| nx <| wr <| lp rfl rfl (X_move (v := (.int .i64 (findR a0 (parentP a1.path)))) rfl) <| lp rfl rfl (X_lss rfl rfl) <| lp rfl rfl (X_move (v := (.bool (decide ((findR a0 (parentP a1.path)) < 0)))) rfl) ?_
   obtain ⟨z20, x21, H⟩ := bind_some H
   refine L_grpE 7 [(21, 28)] 27 (fun q => q = z20) ?_ ?_
   ·rcases bif_two x21 with ⟨b18_, H⟩ | ⟨b18_, H⟩
    ·refine ls rfl rfl rfl (cb b18_) rfl <| ls rfl rfl rfl (cb b18_) rfl <| ls rfl rfl rfl (cb b18_) rfl <| ls rfl rfl rfl (cb b18_) rfl <| ls rfl rfl rfl (cb b18_) rfl <| ls rfl rfl rfl (cb b18_) rfl <| lp rfl rfl (X_pick (b := true) (v := (.bool true)) (cb b18_) rfl) ?_
     obtain rfl := si H
     exact nx ⟨(ku3 (ku4 kz rfl) rfl), ⟨_, rfl, rfl⟩, er⟩
    ·refine lg rfl rfl rfl rfl (cb b18_) (X_move (v := v_a0) rfl) <| lg rfl rfl rfl rfl (cb b18_) (X_move (v := (.int .i64 (findR a0 (parentP a1.path)))) rfl) ?_
     obtain ⟨c20, H⟩ := bif_some H
     refine L_idx (tg rfl rfl rfl (cb b18_)) rfl (ltb rfl) rfl Tryz.underlying35 Tryz.sizeOf58 rfl (Rd.ext f_a0 ((e5.t e9).t e18)) rfl c20 <| fun p21 h22 => lg rfl rfl rfl rfl (cb b18_) (X_fieldAddr Tryz.underlying58 rfl Tryz.sizeOf3 rfl rfl) <| lg rfl rfl rfl rfl (cb b18_) (X_loadF Tryz.isAgg3 (j := 0) h22 rfl rfl) <| lg rfl rfl rfl rfl (cb b18_) (X_neq rfl rfl) <| lp rfl rfl (X_pick (b := false) (v := (.bool (!decide (((gt a0 (findR a0 (parentP a1.path))).kind) = 3)))) (cb b18_) rfl) ?_
     obtain rfl := si H
     exact nx ⟨(ku3 (ku4 kz rfl) rfl), ⟨_, rfl, rfl⟩, er⟩
   intro s26 w22 z27 K23 hq h24 e25
   rw [hq] at h24; clear hq
   refine nx ?_
   rcases bif_two H with ⟨q28, H⟩ | ⟨q28, H⟩
   ·refine W_true (h24.trans (cb q28)) <| W_reg <| lp rfl rfl (X_move (v := v_a0) (K23 0 rfl)) <| lp rfl rfl (X_move (v := (S (parentP a1.path))) (K23 5 rfl)) <| lp rfl rfl (X_build1 (vs := [(0, (.int .i64 3)), (1, (S (parentP a1.path))), (3, (.int .i64 493))]) (pl := #[(0, 1), (1, 1), (2, 1), (3, 1), (4, 1)]) Tryz.underlying58 Tryz.zeroValue58 rfl (fun _ => by kernel_rfl) rfl rfl rfl) ?_
    obtain ⟨c29, H⟩ := bif_some H
    refine L_callO (.plain rfl) rfl (ltb rfl) rfl Tryz.call202 (spec_l03Put0.calls (w := w22) (a0 := a0) (a1 := (⟨3, (parentP a1.path), ([] : List UInt8), 493, false⟩ : Rec)) (Rd.ext f_a0 (((e5.t e9).t e18).t e25)) (od c29)) rfl <| fun v32 w30 e31 o33 => lp rfl rfl (X_assign (v := v32) rfl) <| nx ?_
    obtain rfl := si H
    exact ⟨(putR 0 a0 (⟨3, (parentP a1.path), ([] : List UInt8), 493, false⟩ : Rec)), v32, (ku1 (ku4 (Kp.cut (ku3 (ku4 kz rfl) rfl) K23 rfl) rfl) rfl), rfl, (Ow.rd o33), ((e18.t e25).t e31), rfl⟩
   ·refine W_false (h24.trans (cb q28)) <| W_skip <| thn_n ?_
    obtain rfl := si H
    exact ⟨a0, v_a0, (Kp.cut (ku3 (ku4 kz rfl) rfl) K23 rfl), (K23 0 rfl), (Rd.ext f_a0 (((e5.t e9).t e18).t e25)), (e18.t e25), rfl⟩
  ·refine W_false (cb q15) <| W_skip <| thn_n ?_
   obtain rfl := si H
   exact ⟨a0, v_a0, kz, rfl, (Rd.ext f_a0 (e5.t e9)), er, rfl⟩
 ·rintro s35 w34 ⟨x0_13, v14, K36, h39, h40, e37, y38⟩
  rw [y38] at C12
  have H := C12
  refine thn_n <| wr <| L_lit (.plain rfl) rfl (ltb rfl) rfl Tryz.underlying35 Tryz.sizeOf58 Tryz.zeroValue58 rfl rfl rfl (vs := []) rfl (lit_all rfl) <| fun b41 w42 z43 z44 e45 k46 => lp rfl rfl (X_assign (v := (.slice (some ⟨b41, 0, none⟩) 0 0)) rfl) <| nx <| wr <| lp rfl rfl (X_assign (v := (.bool false)) rfl) <| nx <| W_seq <| wr <| lp rfl rfl (X_assign (v := (.int .i64 0)) rfl) <| nx ?_
  obtain ⟨z51, L52, C53⟩ := bind_some H
  clear H
  refine  W_cutQ (fun s0 sQ wQ => ∃ (x7_54 : List Rec) (v55 : Value) (x8_56 : Bool), Kp [(7, 10), (33, 86)] s0 sQ ∧ sQ 7 = v55 ∧ Ow 58 5 encRec w42.heap.size wQ v55 x7_54 ∧ sQ 8 = .bool x8_56 ∧ Ext w42 wQ ∧ z51 = .inr (x7_54, x8_56)) ?_ ?_
  ·refine W_block <| W_loopI (fun s0 kk sQ wQ => ∃ (x7_47 : List Rec) (v48 : Value) (x8_49 : Bool) (x9_50 : Int), Kp [(7, 10), (33, 86)] s0 sQ ∧ sQ 7 = v48 ∧ Ow 58 5 encRec w42.heap.size wQ v48 x7_47 ∧ sQ 8 = .bool x8_49 ∧ sQ 9 = .int .i64 x9_50 ∧ Ext w42 wQ ∧ loopF (spec_l03Put1.b1 a1 x0_13) kk (x7_47, x8_49, x9_50) = some z51) k ⟨([] : List Rec), (.slice (some ⟨b41, 0, none⟩) 0 0), false, 0, kz, rfl, (Ow.zero), rfl, rfl, er, L52⟩ ?_
   rintro k61 s62 w63 ⟨x7_47, v48, x8_49, x9_50, K64, h67, h68, h69, h70, e65, L66⟩
   cases k61 with
   | zero => exact absurd L66 (by simp [loopF])
   | succ k61 =>
    obtain ⟨t71, H, S72⟩ := loopF_succ L66
    clear L66
    unfold spec_l03Put1.b1 at H
    refine W_seq <| wr <| lp rfl rfl (X_move h70) <| lp rfl rfl (X_move (v := v14) ((K64 0 rfl).trans h39)) <| lp rfl rfl (X_lenR Tryz.underlying35 rfl (Rd.ext h40 (e45.t e65))) <| lp rfl rfl (X_lss rfl rfl) <| nx ?_
    rcases bif_two H with ⟨q73, H⟩ | ⟨q73, H⟩
    ·refine W_true (cb q73) <| W_skip <| thn_n <| W_seq <| W_block <| W_seq <| W_seq ?_
     obtain ⟨c74, H⟩ := bif_some H
     obtain ⟨c77, H⟩ := bif_some H
     obtain ⟨c78, H⟩ := bif_some H
     refine W_dM [LEq (.bool x8_49), LEq (.bool (!x8_49)), LEq (.bool (!x8_49)), LIf (!x8_49) (LEq (.pointer (some ⟨b1, 1, none⟩))), LIf (!x8_49) (LEq (S a1.path)), LIf (!x8_49) (LEq v14), LIf (!x8_49) (LEq (.int .i64 x9_50)), LIf (!x8_49) (LAt0 (encRec (gt x0_13 x9_50))), LIf (!x8_49) (LAt 1 (encRec (gt x0_13 x9_50))), LIf (!x8_49) (LEq (S ((gt x0_13 x9_50).path))), LIf (!x8_49) (LEq (.bool (lessL (cut 47 a1.path) (cut 47 ((gt x0_13 x9_50).path))))), LEq (.bool ((!x8_49) && (lessL (cut 47 a1.path) (cut 47 ((gt x0_13 x9_50).path)))))] (by kernel_rfl) (by kernel_rfl) ⟨LEq.mono, LEq.mono, LEq.mono, (LIf.mono LEq.mono), (LIf.mono LEq.mono), (LIf.mono LEq.mono), (LIf.mono LEq.mono), (LIf.mono LAt0.mono), (LIf.mono LAt.mono), (LIf.mono LEq.mono), (LIf.mono LEq.mono), LEq.mono, trivial⟩ ⟨?_, ?_, ?_, ?_, ?_, ?_, ?_, ?_, ?_, ?_, ?_, ?_, trivial⟩ ?_
     ·exact fun s x e f d u => lp rfl rfl (X_move (v := (.bool x8_49)) ((f 8 rfl).trans h69)) <| se rfl rfl
     ·exact fun s x e f d u => lp rfl rfl (X_not (d 0 rfl)) <| se rfl rfl
     ·exact fun s x e f d u => lp rfl rfl (X_move (d 1 rfl)) <| se rfl rfl
     ·exact fun s x e f d u => gT rfl rfl rfl rfl (d 2 rfl) rfl fun b t => lt t rfl rfl (X_fieldAddr Tryz.underlying58 rfl Tryz.sizeOf9 rfl ((f 3 rfl).trans ((K64 3 rfl).trans (K36 3 rfl)))) <| sg rfl rfl b rfl
     ·exact fun s x e f d u => gT rfl rfl rfl rfl (d 2 rfl) rfl fun b t => lt t rfl rfl (X_loadB Tryz.isAgg9 (Blk.ext k6 ((((e9.t e37).t e45).t e65).t e)) ((d 3 rfl).1 b) rfl) <| sg rfl rfl b rfl
     ·exact fun s x e f d u => gT rfl rfl rfl rfl (d 2 rfl) rfl fun b t => lt t rfl rfl (X_move (v := v14) ((f 0 rfl).trans ((K64 0 rfl).trans h39))) <| sg rfl rfl b rfl
     ·exact fun s x e f d u => gT rfl rfl rfl rfl (d 2 rfl) rfl fun b t => lt t rfl rfl (X_move (v := (.int .i64 x9_50)) ((f 9 rfl).trans h70)) <| sg rfl rfl b rfl
     ·exact fun s x e f d u => gT rfl rfl rfl rfl (d 2 rfl) rfl fun b t => L_idx t rfl (ltb rfl) rfl Tryz.underlying35 Tryz.sizeOf58 ((d 5 rfl).1 b) (Rd.ext h40 ((e45.t e65).t e)) ((d 6 rfl).1 b) (imp_take b c74) <| fun p82 h83 => sg rfl rfl b ⟨_, rfl, h83⟩
     ·intro s x e f d u
      refine gT rfl rfl rfl rfl (d 2 rfl) rfl fun b t => ?_
      obtain ⟨p84, h85, h86⟩ := ((d 7 rfl).1 b)
      exact lt t rfl rfl (X_fieldAddr Tryz.underlying58 rfl Tryz.sizeOf9 rfl h85) <| sg rfl rfl b ⟨_, rfl, h86⟩
     ·intro s x e f d u
      refine gT rfl rfl rfl rfl (d 2 rfl) rfl fun b t => ?_
      obtain ⟨p87, h88, h89⟩ := ((d 8 rfl).1 b)
      exact lt t rfl rfl (X_loadF Tryz.isAgg9 (j := 1) h89 h88 rfl) <| sg rfl rfl b rfl
     ·exact fun s x e f d u => gT rfl rfl rfl rfl (d 2 rfl) rfl fun b t => L_callP t rfl (ltb rfl) rfl Tryz.call205 (spec_l01Less.calls (w := x) (a0 := a1.path) (a1 := (gt x0_13 x9_50).path) (od (imp_take b c77)) (od (imp_take b c78))) (cons2 ((d 4 rfl).1 b) (cons2 ((d 9 rfl).1 b) rfl)) <| fun w92 e93 => sgx rfl rfl b e93 rfl
     ·exact fun s x e f d u => lp rfl rfl (X_pickA (d 2 rfl) rfl fun h => ((d 10 rfl).1 h)) <| se rfl rfl
     intro s94 w95 e96 hf97 ha98
     have K99 := Kp.ofD (kp := [(39, 51)]) rfl hf97
     have d100 : s94 50 = (.bool ((!x8_49) && (lessL (cut 47 a1.path) (cut 47 ((gt x0_13 x9_50).path))))) := ha98 11 rfl
     clear ha98 hf97
     refine thn_n ?_
     obtain ⟨z101, L102, C103⟩ := bind_some H
     clear H
     refine W_cutQ (fun s0 sQ wQ => ∃ (x7_104 : List Rec) (v105 : Value) (x8_106 : Bool), Kp [(7, 9), (51, 55)] s0 sQ ∧ sQ 7 = v105 ∧ Ow 58 5 encRec w42.heap.size wQ v105 x7_104 ∧ sQ 8 = .bool x8_106 ∧ Ext w42 wQ ∧ z101 = .inr (x7_104, x8_106)) ?_ ?_
     ·have H := L102
      rcases bif_two H with ⟨q107, H⟩ | ⟨q107, H⟩
      ·refine W_true (d100.trans (cb q107)) <| wr <| lp rfl rfl (X_move (v := v48) ((K99 7 rfl).trans h67)) <| lp rfl rfl (X_loadS Tryz.isAgg58 Tryz.sizeOf58 rfl ((K99 3 rfl).trans ((K64 3 rfl).trans (K36 3 rfl))) (Blk.at0 (Blk.ext k6 ((((e9.t e37).t e45).t e65).t e96)))) <| L_lit (.plain rfl) rfl (ltb rfl) rfl Tryz.underlying35 Tryz.sizeOf58 Tryz.zeroValue58 rfl rfl rfl (vs := [(.agg #[(.int .i64 a1.kind), (S a1.path), (S a1.body), (.int .i64 a1.mode), (.bool a1.opq)])]) rfl (lit_all rfl) <| fun b108 w109 z110 z111 e112 k113 => ?_
       obtain ⟨c114, H⟩ := bif_some H
       refine L_append (enc := encRec) (.plain rfl) rfl (ltb rfl) rfl El.t35 rfl rfl (Ow.ext h68 (e96.t e112)) (Ow.rd (Ow.new (xs := [a1]) (sz := 5) (enc := encRec) (base := w95.heap.size) k113 (Nat.le_of_eq z110) rfl (fun _ _ => by rfl) (Nat.le_of_ble_eq_true rfl))) (ones_Rec _) (od c114) (((e65.t e96).t e112)).size <| fun v115 w116 o117 z118 g119 => lp rfl rfl (X_assign (v := v115) rfl) <| nx <| W_reg <| lp rfl rfl (X_assign (v := (.bool true)) rfl) <| nx ?_
       obtain rfl := si H
       exact ⟨x7_47 ++ ([a1] : List Rec), v115, true, (ku2 (ku4 kz rfl) rfl), rfl, o117, rfl, (g119 _ ((e65.t e96).t e112)), rfl⟩
      ·refine W_false (d100.trans (cb q107)) <| W_skip <| thn_n ?_
       obtain rfl := si H
       exact ⟨x7_47, v48, x8_49, kz, ((K99 7 rfl).trans h67), (Ow.ext h68 e96), ((K99 8 rfl).trans h69), (e65.t e96), rfl⟩
     ·rintro s121 w120 ⟨x7_104, v105, x8_106, K122, h125, h126, h127, e123, y124⟩
      rw [y124] at C103
      have H := C103
      refine thn_n <| W_seq ?_
      obtain ⟨c128, H⟩ := bif_some H
      obtain ⟨c131, H⟩ := bif_some H
      refine W_dM [LEq v14, LEq (.int .i64 x9_50), LAt0 (encRec (gt x0_13 x9_50)), LAt 1 (encRec (gt x0_13 x9_50)), LEq (S ((gt x0_13 x9_50).path)), LEq (.pointer (some ⟨b1, 1, none⟩)), LEq (S a1.path), LEq (.bool (!decide (((gt x0_13 x9_50).path) = a1.path))), LEq (.bool (!decide (((gt x0_13 x9_50).path) = a1.path))), LIf (!decide (((gt x0_13 x9_50).path) = a1.path)) (LEq (.pointer (some ⟨b1, 0, none⟩))), LIf (!decide (((gt x0_13 x9_50).path) = a1.path)) (LEq (.int .i64 a1.kind)), LIf (!decide (((gt x0_13 x9_50).path) = a1.path)) (LEq (.bool (decide (a1.kind = 3)))), LIf (!decide (((gt x0_13 x9_50).path) = a1.path)) (LEq (.bool (decide (a1.kind = 3)))), LIf (spec_l03Put1.e1 a1 x0_13 x9_50) (LEq v14), LIf (spec_l03Put1.e1 a1 x0_13 x9_50) (LEq (.int .i64 x9_50)), LIf (spec_l03Put1.e1 a1 x0_13 x9_50) (LAt0 (encRec (gt x0_13 x9_50))), LIf (spec_l03Put1.e1 a1 x0_13 x9_50) (LAt 1 (encRec (gt x0_13 x9_50))), LIf (spec_l03Put1.e1 a1 x0_13 x9_50) (LEq (S ((gt x0_13 x9_50).path))), LIf (spec_l03Put1.e1 a1 x0_13 x9_50) (LEq (.pointer (some ⟨b1, 1, none⟩))), LIf (spec_l03Put1.e1 a1 x0_13 x9_50) (LEq (S a1.path)), LIf (spec_l03Put1.e1 a1 x0_13 x9_50) (LEq (.bool (spec_l03Put1.e2 a1 x0_13 x9_50))), LIf (spec_l03Put1.e1 a1 x0_13 x9_50) (LEq (.bool (!(spec_l03Put1.e2 a1 x0_13 x9_50)))), LIf (!decide (((gt x0_13 x9_50).path) = a1.path)) (LEq (.bool ((decide (a1.kind = 3)) || (!(spec_l03Put1.e2 a1 x0_13 x9_50))))), LEq (.bool ((!decide (((gt x0_13 x9_50).path) = a1.path)) && ((decide (a1.kind = 3)) || (!(spec_l03Put1.e2 a1 x0_13 x9_50)))))] (by kernel_rfl) (by kernel_rfl) ⟨LEq.mono, LEq.mono, LAt0.mono, LAt.mono, LEq.mono, LEq.mono, LEq.mono, LEq.mono, LEq.mono, (LIf.mono LEq.mono), (LIf.mono LEq.mono), (LIf.mono LEq.mono), (LIf.mono LEq.mono), (LIf.mono LEq.mono), (LIf.mono LEq.mono), (LIf.mono LAt0.mono), (LIf.mono LAt.mono), (LIf.mono LEq.mono), (LIf.mono LEq.mono), (LIf.mono LEq.mono), (LIf.mono LEq.mono), (LIf.mono LEq.mono), (LIf.mono LEq.mono), LEq.mono, trivial⟩ ⟨?_, ?_, ?_, ?_, ?_, ?_, ?_, ?_, ?_, ?_, ?_, ?_, ?_, ?_, ?_, ?_, ?_, ?_, ?_, ?_, ?_, ?_, ?_, ?_, trivial⟩ ?_
      ·exact fun s x e f d u => lp rfl rfl (X_move (v := v14) ((f 0 rfl).trans ((K122 0 rfl).trans ((K99 0 rfl).trans ((K64 0 rfl).trans h39))))) <| se rfl rfl
      ·exact fun s x e f d u => lp rfl rfl (X_move (v := (.int .i64 x9_50)) ((f 9 rfl).trans ((K122 9 rfl).trans ((K99 9 rfl).trans h70)))) <| se rfl rfl
      ·exact fun s x e f d u => L_idx (.plain rfl) rfl (ltb rfl) rfl Tryz.underlying35 Tryz.sizeOf58 (d 0 rfl) (Rd.ext h40 ((e45.t e123).t e)) (d 1 rfl) c128 <| fun p137 h138 => se rfl ⟨_, rfl, h138⟩
      ·intro s x e f d u
       obtain ⟨p139, h140, h141⟩ := (d 2 rfl)
       exact lp rfl rfl (X_fieldAddr Tryz.underlying58 rfl Tryz.sizeOf9 rfl h140) <| se rfl ⟨_, rfl, h141⟩
      ·intro s x e f d u
       obtain ⟨p142, h143, h144⟩ := (d 3 rfl)
       exact lp rfl rfl (X_loadF Tryz.isAgg9 (j := 1) h144 h143 rfl) <| se rfl rfl
      ·exact fun s x e f d u => lp rfl rfl (X_fieldAddr Tryz.underlying58 rfl Tryz.sizeOf9 rfl ((f 3 rfl).trans ((K122 3 rfl).trans ((K99 3 rfl).trans ((K64 3 rfl).trans (K36 3 rfl)))))) <| se rfl rfl
      ·exact fun s x e f d u => lp rfl rfl (X_loadB Tryz.isAgg9 (Blk.ext k6 ((((e9.t e37).t e45).t e123).t e)) (d 5 rfl) rfl) <| se rfl rfl
      ·exact fun s x e f d u => lp rfl rfl (X_sne (d 4 rfl) (d 6 rfl)) <| se rfl rfl
      ·exact fun s x e f d u => lp rfl rfl (X_move (d 7 rfl)) <| se rfl rfl
      ·exact fun s x e f d u => gT rfl rfl rfl rfl (d 8 rfl) rfl fun b t => lt t rfl rfl (X_fieldAddr Tryz.underlying58 rfl Tryz.sizeOf3 rfl ((f 3 rfl).trans ((K122 3 rfl).trans ((K99 3 rfl).trans ((K64 3 rfl).trans (K36 3 rfl)))))) <| sg rfl rfl b rfl
      ·exact fun s x e f d u => gT rfl rfl rfl rfl (d 8 rfl) rfl fun b t => lt t rfl rfl (X_loadB Tryz.isAgg3 (Blk.ext k6 ((((e9.t e37).t e45).t e123).t e)) ((d 9 rfl).1 b) rfl) <| sg rfl rfl b rfl
      ·exact fun s x e f d u => gT rfl rfl rfl rfl (d 8 rfl) rfl fun b t => lt t rfl rfl (X_eql ((d 10 rfl).1 b) rfl) <| sg rfl rfl b rfl
      ·exact fun s x e f d u => gT rfl rfl rfl rfl (d 8 rfl) rfl fun b t => lt t rfl rfl (X_move (v := (.bool (decide (a1.kind = 3)))) ((d 11 rfl).1 b)) <| sg rfl rfl b rfl
      ·exact fun s x e f d u => hF rfl rfl rfl rfl (d 12 rfl) rfl fun b t => lt t rfl rfl (X_move (v := v14) ((f 0 rfl).trans ((K122 0 rfl).trans ((K99 0 rfl).trans ((K64 0 rfl).trans h39))))) <| sg rfl rfl b rfl
      ·exact fun s x e f d u => hF rfl rfl rfl rfl (d 12 rfl) rfl fun b t => lt t rfl rfl (X_move (v := (.int .i64 x9_50)) ((f 9 rfl).trans ((K122 9 rfl).trans ((K99 9 rfl).trans h70)))) <| sg rfl rfl b rfl
      ·exact fun s x e f d u => hF rfl rfl rfl rfl (d 12 rfl) rfl fun b t => L_idx t rfl (ltb rfl) rfl Tryz.underlying35 Tryz.sizeOf58 ((d 13 rfl).1 (and_mk (and_l b) (not_mk (not_f (and_r b))))) (Rd.ext h40 ((e45.t e123).t e)) ((d 14 rfl).1 (and_mk (and_l b) (not_mk (not_f (and_r b))))) (imp_take b c131) <| fun p146 h147 => sg rfl rfl b ⟨_, rfl, h147⟩
      ·intro s x e f d u
       refine hF rfl rfl rfl rfl (d 12 rfl) rfl fun b t => ?_
       obtain ⟨p148, h149, h150⟩ := ((d 15 rfl).1 (and_mk (and_l b) (not_mk (not_f (and_r b)))))
       exact lt t rfl rfl (X_fieldAddr Tryz.underlying58 rfl Tryz.sizeOf9 rfl h149) <| sg rfl rfl b ⟨_, rfl, h150⟩
      ·intro s x e f d u
       refine hF rfl rfl rfl rfl (d 12 rfl) rfl fun b t => ?_
       obtain ⟨p151, h152, h153⟩ := ((d 16 rfl).1 (and_mk (and_l b) (not_mk (not_f (and_r b)))))
       exact lt t rfl rfl (X_loadF Tryz.isAgg9 (j := 1) h153 h152 rfl) <| sg rfl rfl b rfl
      ·exact fun s x e f d u => hF rfl rfl rfl rfl (d 12 rfl) rfl fun b t => lt t rfl rfl (X_fieldAddr Tryz.underlying58 rfl Tryz.sizeOf9 rfl ((f 3 rfl).trans ((K122 3 rfl).trans ((K99 3 rfl).trans ((K64 3 rfl).trans (K36 3 rfl)))))) <| sg rfl rfl b rfl
      ·exact fun s x e f d u => hF rfl rfl rfl rfl (d 12 rfl) rfl fun b t => lt t rfl rfl (X_loadB Tryz.isAgg9 (Blk.ext k6 ((((e9.t e37).t e45).t e123).t e)) ((d 18 rfl).1 (and_mk (and_l b) (not_mk (not_f (and_r b))))) rfl) <| sg rfl rfl b rfl
      ·exact fun s x e f d u => hF rfl rfl rfl rfl (d 12 rfl) rfl fun b t => L_callP t rfl (ltb rfl) rfl Tryz.call171 (spec_l01Below.calls (w := x) (a0 := (gt x0_13 x9_50).path) (a1 := a1.path)) (cons2 ((d 17 rfl).1 (and_mk (and_l b) (not_mk (not_f (and_r b))))) (cons2 ((d 19 rfl).1 (and_mk (and_l b) (not_mk (not_f (and_r b))))) rfl)) <| fun w154 e155 => sgx rfl rfl b e155 rfl
      ·exact fun s x e f d u => hF rfl rfl rfl rfl (d 12 rfl) rfl fun b t => lt t rfl rfl (X_not ((d 20 rfl).1 (and_mk (and_l b) (not_mk (not_f (and_r b)))))) <| sg rfl rfl b rfl
      ·exact fun s x e f d u => gT rfl rfl rfl rfl (d 8 rfl) rfl fun b t => lt t rfl rfl (X_pickO ((d 12 rfl).1 b) rfl fun h => ((d 21 rfl).1 (and_mk b (not_mk h)))) <| sg rfl rfl b rfl
      ·exact fun s x e f d u => lp rfl rfl (X_pickA (d 8 rfl) rfl fun h => ((d 22 rfl).1 h)) <| se rfl rfl
      intro s156 w157 e158 hf159 ha160
      have K161 := Kp.ofD (kp := [(55, 79)]) rfl hf159
      have d162 : s156 78 = (.bool ((!decide (((gt x0_13 x9_50).path) = a1.path)) && ((decide (a1.kind = 3)) || (!(spec_l03Put1.e2 a1 x0_13 x9_50))))) := ha160 23 rfl
      clear ha160 hf159
      refine thn_n ?_
      rcases bif_two H with ⟨q163, H⟩ | ⟨q163, H⟩
      ·refine W_true (d162.trans (cb q163)) <| W_reg <| lp rfl rfl (X_move (v := v105) ((K161 7 rfl).trans h125)) <| lp rfl rfl (X_move (v := v14) ((K161 0 rfl).trans ((K122 0 rfl).trans ((K99 0 rfl).trans ((K64 0 rfl).trans h39))))) <| lp rfl rfl (X_move (v := (.int .i64 x9_50)) ((K161 9 rfl).trans ((K122 9 rfl).trans ((K99 9 rfl).trans h70)))) ?_
       obtain ⟨c164, H⟩ := bif_some H
       refine L_idx (.plain rfl) rfl (ltb rfl) rfl Tryz.underlying35 Tryz.sizeOf58 rfl (Rd.ext h40 ((e45.t e123).t e158)) rfl c164 <| fun p165 h166 => lp rfl rfl (X_loadS Tryz.isAgg58 Tryz.sizeOf58 rfl rfl h166) <| L_lit (.plain rfl) rfl (ltb rfl) rfl Tryz.underlying35 Tryz.sizeOf58 Tryz.zeroValue58 rfl rfl rfl (vs := [(.agg (encRec (gt x0_13 x9_50)).toArray)]) rfl (lit_all rfl) <| fun b167 w168 z169 z170 e171 k172 => ?_
       obtain ⟨c173, H⟩ := bif_some H
       refine L_append (enc := encRec) (.plain rfl) rfl (ltb rfl) rfl El.t35 rfl rfl (Ow.ext h126 (e158.t e171)) (Ow.rd (Ow.new (xs := [gt x0_13 x9_50]) (sz := 5) (enc := encRec) (base := w157.heap.size) k172 (Nat.le_of_eq z169) rfl (fun _ _ => by rfl) (Nat.le_of_ble_eq_true rfl))) (ones_Rec _) (od c173) (((e123.t e158).t e171)).size <| fun v174 w175 o176 z177 g178 => lp rfl rfl (X_assign (v := v174) rfl) <| L_nil <| blk_n <| thn_n <| W_reg <| lp rfl rfl (X_move (v := (.int .i64 x9_50)) ((K161 9 rfl).trans ((K122 9 rfl).trans ((K99 9 rfl).trans h70)))) <| lp rfl rfl (X_add rfl rfl) <| lp rfl rfl (X_assign (v := (.int .i64 (IntKind.wrap .i64 (x9_50 + 1)))) rfl) <| nx ?_
       obtain rfl := si H
       exact ⟨_, Nat.lt_succ_self _, x7_104 ++ ([gt x0_13 x9_50] : List Rec), v174, x8_106, IntKind.wrap .i64 (x9_50 + 1), (ku3 (ku8 (Kp.cut (Kp.cut (Kp.cut (ku4 K64 rfl) K99 rfl) K122 rfl) K161 rfl) rfl) rfl), rfl, o176, ((K161 8 rfl).trans h127), rfl, (g178 _ ((e123.t e158).t e171)), S72⟩
      ·refine W_false (d162.trans (cb q163)) <| W_skip <| blk_n <| thn_n <| W_reg <| lp rfl rfl (X_move (v := (.int .i64 x9_50)) ((K161 9 rfl).trans ((K122 9 rfl).trans ((K99 9 rfl).trans h70)))) <| lp rfl rfl (X_add rfl rfl) <| lp rfl rfl (X_assign (v := (.int .i64 (IntKind.wrap .i64 (x9_50 + 1)))) rfl) <| nx ?_
       obtain rfl := si H
       exact ⟨_, Nat.lt_succ_self _, x7_104, v105, x8_106, IntKind.wrap .i64 (x9_50 + 1), (ku3 (Kp.cut (Kp.cut (Kp.cut (ku4 K64 rfl) K99 rfl) K122 rfl) K161 rfl) rfl), ((K161 7 rfl).trans h125), (Ow.ext h126 e158), ((K161 8 rfl).trans h127), rfl, (e123.t e158), S72⟩
    ·refine W_false (cb q73) <| W_exit <| thn_x <| thn_x <| blk_x <| thn_n ?_
     obtain rfl := si H
     obtain rfl := si S72
     exact ⟨x7_47, v48, x8_49, (ku4 K64 rfl), h67, h68, h69, e65, rfl⟩
  ·rintro s58 w57 ⟨x7_54, v55, x8_56, K59, h179, h180, h181, e60, y182⟩
   rw [y182] at C53
   have H := C53
   replace H : _ = some _ := H
   refine thn_n <| W_seq <| wr <| lp rfl rfl (X_move h181) <| lp rfl rfl (X_not rfl) <| nx ?_
   rcases bif_two H with ⟨q183, H⟩ | ⟨q183, H⟩
   ·refine W_true (cb q183) <| W_reg <| lp rfl rfl (X_move h179) <| lp rfl rfl (X_loadS Tryz.isAgg58 Tryz.sizeOf58 rfl ((K59 3 rfl).trans (K36 3 rfl)) (Blk.at0 (Blk.ext k6 (((e9.t e37).t e45).t e60)))) <| L_lit (.plain rfl) rfl (ltb rfl) rfl Tryz.underlying35 Tryz.sizeOf58 Tryz.zeroValue58 rfl rfl rfl (vs := [(.agg #[(.int .i64 a1.kind), (S a1.path), (S a1.body), (.int .i64 a1.mode), (.bool a1.opq)])]) rfl (lit_all rfl) <| fun b184 w185 z186 z187 e188 k189 => ?_
    obtain ⟨c190, H⟩ := bif_some H
    refine L_append (enc := encRec) (.plain rfl) rfl (ltb rfl) rfl El.t35 rfl rfl (Ow.ext h180 e188) (Ow.rd (Ow.new (xs := [a1]) (sz := 5) (enc := encRec) (base := w57.heap.size) k189 (Nat.le_of_eq z186) rfl (fun _ _ => by rfl) (Nat.le_of_ble_eq_true rfl))) (ones_Rec _) (od c190) ((e60.t e188)).size <| fun v191 w192 o193 z194 g195 => lp rfl rfl (X_assign (v := v191) rfl) <| nx <| wr <| lp rfl rfl (X_move (v := v191) rfl) <| lp rfl rfl (X_assign (v := v191) rfl) <| nx <| W_ret <| fin_r ?_
    obtain rfl := si H
    exact fin1o rfl ((((e5.t e9).t e37).t e45).t (g195 _ (e60.t e188))) o193 ((((e5.t e9).t e37).t e45)).size
   ·refine W_false (cb q183) <| W_skip <| thn_n <| wr <| lp rfl rfl (X_move h179) <| lp rfl rfl (X_assign (v := v55) rfl) <| nx <| W_ret <| fin_r ?_
    obtain rfl := si H
    exact fin1o rfl ((((e5.t e9).t e37).t e45).t e60) h180 ((((e5.t e9).t e37).t e45)).size
theorem spec_l03Put1.calls {w : World} {a0 : List Rec} {a1 : Rec} {v_a0 : Value} (f_a0 : Rd 5 encRec w v_a0 a0) (h0 : putOKb 1 a0 a1 = true) :
  Calls Tryz.prog 202 #[v_a0, .agg (encRec a1).toArray] w (Rt (RO 58 5 encRec w (putR 1 a0 a1))) := by
 obtain ⟨k, h⟩ := spec_l03Put1.eq a0 a1 h0
 exact spec_l03Put1.walk f_a0 h
end Go.Proofs.YtfefjaohlhkmaaaGreatDoor
