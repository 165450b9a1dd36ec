/- The walks, by program (wip/tools). -/
import Derived.Test.YthpjkenkbfkdhaaGreatDoorProg
import Derived.Test.YthpjkenkbfkdhaaGreatDoorKJ
import Derived.Test.YthpjkenkbfkdhaaGreatDoorKL
import Derived.Test.YthpjkenkbfkdhaaGreatDoorYWC
set_option linter.unusedVariables false
set_option maxRecDepth 10000
namespace Go.Proofs.YthpjkenkbfkdhaaGreatDoor
open Go.UL Go.RowKit
/-! impl.apply -/
theorem impl_apply.walk {k : Nat} {w : World} {a0 : List Rec} {a1 : List Nd} (gv : GV 0 w) {v_a0 : Value} (f_a0 : Rd 5 encRec w v_a0 a0) {v_a1 : Value} (f_a1 : Rd 4 encNd w v_a1 a1) {r : List Nd} (H : impl_apply.sh k a0 a1 = some r) :
    Calls Tryz.prog 74 #[v_a0, v_a1] w (Rt (RO 80 4 encNd w r)) := by
  unfold impl_apply.sh at H
  refine calls_of_W Tryz.func74 rfl (Nat.le_of_ble_eq_true rfl) Tryz.ntmps74 rfl ?_
  refine W_seq <| W_reg <| L_op (.plain rfl) rfl (ltb rfl) (X_assign (v := (.slice none 0 0)) rfl) <| L_nil <| thn_n <| W_seq <| W_reg <| L_op (.plain rfl) rfl (ltb rfl) (X_move (v := v_a1) rfl) ?_
  obtain ⟨c1, H⟩ := bif_some H
  refine L_callO (.plain rfl) rfl (ltb rfl) rfl Tryz.call121 (slices_CloneN.calls (w := w) (a0 := a1) f_a1 (of_decide_eq_true c1)) rfl <| fun v4 w2 e3 o5 => L_op (.plain rfl) rfl (ltb rfl) (X_assign (v := v4) rfl) <| L_nil <| thn_n <| W_seq <| W_seq <| W_reg <| L_op (.plain rfl) rfl (ltb rfl) (X_move (v := v_a0) rfl) <| L_op (.plain rfl) rfl (ltb rfl) (X_lenR Tryz.underlying28 rfl (Rd.ext f_a0 e3)) <| L_op (.plain rfl) rfl (ltb rfl) (X_move (v := (.int .i64 0)) rfl) <| L_nil <| thn_n ?_
  obtain ⟨z9, L10, C11⟩ := bind_some H
  clear H
  refine  W_cutQ (fun s0 sQ wQ => ∃ (x5_12 : List Nd) (v13 : Value), Kp [(5, 6), (7, 9), (13, 59)] s0 sQ ∧ sQ 5 = v13 ∧ Ow 80 4 encNd w.heap.size wQ v13 x5_12 ∧ Ext w wQ ∧ z9 = .inr x5_12) ?_ ?_
  · refine W_block <| W_loopI (fun s0 kk sQ wQ => ∃ (x5_6 : List Nd) (v7 : Value) (x13_8 : Int), Kp [(5, 6), (7, 9), (13, 59)] s0 sQ ∧ sQ 5 = v7 ∧ Ow 80 4 encNd w.heap.size wQ v7 x5_6 ∧ sQ 13 = .int .i64 x13_8 ∧ Ext w wQ ∧ loopF (impl_apply.b1 a0) kk (x5_6, x13_8) = some z9) k ⟨a1, v4, 0, (Kp.refl _ _), rfl, o5, rfl, e3, L10⟩ ?_
    rintro k18 s19 w20 ⟨x5_6, v7, x13_8, K21, h24, h25, h26, e22, L23⟩
    cases k18 with
    | zero => exact absurd L23 (by simp [loopF])
    | succ k18 =>
      obtain ⟨t27, H, S28⟩ := loopF_succ L23
      clear L23
      unfold impl_apply.b1 at H
      refine W_seq <| W_reg <| L_op (.plain rfl) rfl (ltb rfl) (X_lss h26 (K21 12 rfl)) <| L_nil <| thn_n <| W_seq ?_
      rcases bif_two H with ⟨q29, H⟩ | ⟨q29, H⟩
      · refine W_true (congrArg Value.bool q29) <| W_skip <| thn_n <| W_seq <| W_block <| W_seq <| W_reg ?_
        obtain ⟨c30, H⟩ := bif_some H
        refine L_idx (.plain rfl) rfl (ltb rfl) rfl Tryz.underlying28 Tryz.sizeOf78 (K21 11 rfl) (Rd.ext f_a0 e22) h26 c30 <| fun p31 h32 => L_op (.plain rfl) rfl (ltb rfl) (X_loadS Tryz.isAgg78 Tryz.sizeOf78 rfl rfl h32) <| L_alloc (.plain rfl) rfl (ltb rfl) rfl Tryz.zeroValue78 <| fun b33 w34 z35 z36 e37 k38 => L_storeA (.plain rfl) rfl rfl Tryz.sizeOf78 rfl rfl rfl rfl rfl k38 <| fun w39 h40 k41 => L_nil <| thn_n <| W_seq <| W_reg <| L_op (.plain rfl) rfl (ltb rfl) (X_move (v := v7) h24) <| L_op (.plain rfl) rfl (ltb rfl) (X_fieldAddr Tryz.underlying78 rfl Tryz.sizeOf9 rfl rfl) <| L_op (.plain rfl) rfl (ltb rfl) (X_loadB Tryz.isAgg9 k41 rfl rfl) ?_
        obtain ⟨c42, H⟩ := bif_some H
        refine L_callP (.plain rfl) rfl (ltb rfl) rfl Tryz.call122 (impl_at.calls (w := w39) (a0 := x5_6) (a1 := (gt a0 x13_8).path) (Ow.rd (Ow.ext h25 (Below.trans e37 (Wr.below h40 (Nat.le_of_eq z35))))) (of_decide_eq_true c42)) rfl <| fun w43 e44 => L_op (.plain rfl) rfl (ltb rfl) (X_assign (v := (.int .i64 (findN x5_6 ((gt a0 x13_8).path)))) rfl) <| L_nil <| thn_n <| W_seq <| W_seq <| W_reg <| L_op (.plain rfl) rfl (ltb rfl) (X_fieldAddr Tryz.underlying78 rfl Tryz.sizeOf3 rfl rfl) <| L_op (.plain rfl) rfl (ltb rfl) (X_loadB Tryz.isAgg3 (Blk.ext k41 e44) rfl rfl) <| L_op (.plain rfl) rfl (ltb rfl) (X_eql rfl rfl) <| L_op (.plain rfl) rfl (ltb rfl) (X_move (v := (.bool (decide (((gt a0 x13_8).kind) = 3)))) rfl) <| L_grp 4 [(25, 29)] 28 (.bool ((decide (((gt a0 x13_8).kind) = 3)) && (!((gt a0 x13_8).opq)))) ?_ ?_
        · rcases bool_two (decide (((gt a0 x13_8).kind) = 3)) with b44_ | b44_
          · exact L_op (.guard 3 true 24 rfl rfl (ltb rfl) (congrArg Value.bool b44_)) rfl (ltb rfl) (X_fieldAddr Tryz.underlying78 rfl Tryz.sizeOf4 rfl rfl) <| L_op (.guard 3 true 24 rfl rfl (ltb rfl) (congrArg Value.bool b44_)) rfl (ltb rfl) (X_loadB Tryz.isAgg4 (Blk.ext k41 e44) rfl rfl) <| L_op (.guard 3 true 24 rfl rfl (ltb rfl) (congrArg Value.bool b44_)) rfl (ltb rfl) (X_not rfl) <| L_op (.plain rfl) rfl (ltb rfl) (X_pick (b := true) (v := (.bool (!((gt a0 x13_8).opq)))) (congrArg Value.bool b44_) rfl) <| L_nil <| thn_n ⟨(Kp.upd (Kp.upd (Kp.upd (Kp.upd (Kp.refl _ _) rfl) rfl) rfl) rfl), (and_t b44_), (Ext.refl w43)⟩
          · exact L_skip rfl rfl (ltb rfl) (congrArg Value.bool b44_) rfl rfl (ltb rfl) <| L_skip rfl rfl (ltb rfl) (congrArg Value.bool b44_) rfl rfl (ltb rfl) <| L_skip rfl rfl (ltb rfl) (congrArg Value.bool b44_) rfl rfl (ltb rfl) <| L_op (.plain rfl) rfl (ltb rfl) (X_pick (b := false) (v := (.bool false)) (congrArg Value.bool b44_) rfl) <| L_nil <| thn_n ⟨(Kp.upd (Kp.upd (Kp.upd (Kp.upd (Kp.refl _ _) rfl) rfl) rfl) rfl), (and_f b44_), (Ext.refl w43)⟩
        intro s50 w46 K47 h48 e49
        refine L_op (.plain rfl) rfl (ltb rfl) (X_move h48) <| L_grp 3 [(30, 33)] 32 (.bool (((decide (((gt a0 x13_8).kind) = 3)) && (!((gt a0 x13_8).opq))) && (decide (0 ≤ (findN x5_6 ((gt a0 x13_8).path)))))) ?_ ?_
        · rcases bool_two ((decide (((gt a0 x13_8).kind) = 3)) && (!((gt a0 x13_8).opq))) with b50_ | b50_
          · exact L_op (.guard 8 true 29 rfl rfl (ltb rfl) (congrArg Value.bool b50_)) rfl (ltb rfl) (X_move (v := (.int .i64 (findN x5_6 ((gt a0 x13_8).path)))) (K47 8 rfl)) <| L_op (.guard 8 true 29 rfl rfl (ltb rfl) (congrArg Value.bool b50_)) rfl (ltb rfl) (X_geq rfl rfl) <| L_op (.plain rfl) rfl (ltb rfl) (X_pick (b := true) (v := (.bool (decide (0 ≤ (findN x5_6 ((gt a0 x13_8).path)))))) (congrArg Value.bool b50_) rfl) <| L_nil <| thn_n ⟨(Kp.upd (Kp.upd (Kp.upd (Kp.refl _ _) rfl) rfl) rfl), (and_t b50_), (Ext.refl w46)⟩
          · exact L_skip rfl rfl (ltb rfl) (congrArg Value.bool b50_) rfl rfl (ltb rfl) <| L_skip rfl rfl (ltb rfl) (congrArg Value.bool b50_) rfl rfl (ltb rfl) <| L_op (.plain rfl) rfl (ltb rfl) (X_pick (b := false) (v := (.bool false)) (congrArg Value.bool b50_) rfl) <| L_nil <| thn_n ⟨(Kp.upd (Kp.upd (Kp.upd (Kp.refl _ _) rfl) rfl) rfl), (and_f b50_), (Ext.refl w46)⟩
        intro s56 w52 K53 h54 e55
        refine L_op (.plain rfl) rfl (ltb rfl) (X_move h54) ?_
        obtain ⟨z58, x59, H⟩ := bind_some H
        refine L_grpE 7 [(34, 41)] 40 (fun q => q = z58) ?_ ?_
        · rcases bif_two x59 with ⟨b56_, H⟩ | ⟨b56_, H⟩
          · refine L_op (.guard 12 true 33 rfl rfl (ltb rfl) (congrArg Value.bool b56_)) rfl (ltb rfl) (X_move (v := v7) ((K53 5 rfl).trans ((K47 5 rfl).trans h24))) <| L_op (.guard 12 true 33 rfl rfl (ltb rfl) (congrArg Value.bool b56_)) rfl (ltb rfl) (X_move (v := (.int .i64 (findN x5_6 ((gt a0 x13_8).path)))) ((K53 8 rfl).trans (K47 8 rfl))) ?_
            obtain ⟨c58, H⟩ := bif_some H
            refine L_idx (.guard 12 true 33 rfl rfl (ltb rfl) (congrArg Value.bool b56_)) rfl (ltb rfl) rfl Tryz.underlying30 Tryz.sizeOf80 rfl (Ow.rd (Ow.ext h25 (Ext.trans (Ext.trans (Ext.trans (Below.trans e37 (Wr.below h40 (Nat.le_of_eq z35))) e44) e49) e55))) rfl c58 <| fun p59 h60 => L_op (.guard 12 true 33 rfl rfl (ltb rfl) (congrArg Value.bool b56_)) rfl (ltb rfl) (X_fieldAddr Tryz.underlying80 rfl Tryz.sizeOf3 rfl rfl) <| L_op (.guard 12 true 33 rfl rfl (ltb rfl) (congrArg Value.bool b56_)) rfl (ltb rfl) (X_loadF Tryz.isAgg3 (j := 0) h60 rfl rfl) <| L_op (.guard 12 true 33 rfl rfl (ltb rfl) (congrArg Value.bool b56_)) rfl (ltb rfl) (X_eql rfl rfl) <| L_op (.plain rfl) rfl (ltb rfl) (X_pick (b := true) (v := (.bool (decide (((gt x5_6 (findN x5_6 ((gt a0 x13_8).path))).kind) = 3)))) (congrArg Value.bool b56_) rfl) ?_
            obtain rfl := Option.some.inj H
            exact L_nil <| thn_n ⟨(Kp.upd (Kp.upd (Kp.upd (Kp.upd (Kp.upd (Kp.upd (Kp.upd (Kp.refl _ _) rfl) rfl) rfl) rfl) rfl) rfl) rfl), ⟨_, rfl, rfl⟩, (Ext.refl w52)⟩
          · refine L_skip rfl rfl (ltb rfl) (congrArg Value.bool b56_) rfl rfl (ltb rfl) <| L_skip rfl rfl (ltb rfl) (congrArg Value.bool b56_) rfl rfl (ltb rfl) <| L_skip rfl rfl (ltb rfl) (congrArg Value.bool b56_) rfl rfl (ltb rfl) <| L_skip rfl rfl (ltb rfl) (congrArg Value.bool b56_) rfl rfl (ltb rfl) <| L_skip rfl rfl (ltb rfl) (congrArg Value.bool b56_) rfl rfl (ltb rfl) <| L_skip rfl rfl (ltb rfl) (congrArg Value.bool b56_) rfl rfl (ltb rfl) <| L_op (.plain rfl) rfl (ltb rfl) (X_pick (b := false) (v := (.bool false)) (congrArg Value.bool b56_) rfl) ?_
            obtain rfl := Option.some.inj H
            exact L_nil <| thn_n ⟨(Kp.upd (Kp.upd (Kp.upd (Kp.upd (Kp.upd (Kp.upd (Kp.upd (Kp.refl _ _) rfl) rfl) rfl) rfl) rfl) rfl) rfl), ⟨_, rfl, rfl⟩, (Ext.refl w52)⟩
        intro s64 w60 z65 K61 hq h62 e63
        rw [hq] at h62; clear hq
        refine L_nil <| thn_n ?_
        rcases bif_two H with ⟨q66, H⟩ | ⟨q66, H⟩
        · refine W_true (h62.trans (congrArg Value.bool q66)) <| W_seq <| W_reg <| L_op (.plain rfl) rfl (ltb rfl) (X_move (v := v7) ((K61 5 rfl).trans ((K53 5 rfl).trans ((K47 5 rfl).trans h24)))) <| L_op (.plain rfl) rfl (ltb rfl) (X_move (v := (.int .i64 (findN x5_6 ((gt a0 x13_8).path)))) ((K61 8 rfl).trans ((K53 8 rfl).trans (K47 8 rfl)))) <| L_op (.plain rfl) rfl (ltb rfl) (X_fieldAddr Tryz.underlying78 rfl Tryz.sizeOf3 rfl ((K61 7 rfl).trans ((K53 7 rfl).trans (K47 7 rfl)))) <| L_op (.plain rfl) rfl (ltb rfl) (X_loadB Tryz.isAgg3 (Blk.ext k41 (Ext.trans (Ext.trans (Ext.trans e44 e49) e55) e63)) rfl rfl) ?_
          obtain ⟨c69, H⟩ := bif_some H
          refine L_idxO (.plain rfl) rfl (ltb rfl) rfl Tryz.underlying30 Tryz.sizeOf80 rfl (Ow.ext h25 (Ext.trans (Ext.trans (Ext.trans (Ext.trans (Below.trans e37 (Wr.below h40 (Nat.le_of_eq z35))) e44) e49) e55) e63)) rfl c69 <| fun p67 h68 => L_op (.plain rfl) rfl (ltb rfl) (X_fieldAddr Tryz.underlying80 rfl Tryz.sizeOf3 rfl rfl) <| L_storeO (a := (⟨(gt x5_6 (findN x5_6 ((gt a0 x13_8).path))).kind, (gt x5_6 (findN x5_6 ((gt a0 x13_8).path))).path, (gt x5_6 (findN x5_6 ((gt a0 x13_8).path))).body, (gt a0 x13_8).mode⟩ : Nd)) (vs := [(.int .i64 ((gt a0 x13_8).mode))]) (off := 3) (.plain rfl) rfl rfl Tryz.sizeOf3 rfl h68 rfl rfl rfl rfl rfl rfl <| fun b70 w71 h72 h73 h74 o75 => L_nil <| thn_n <| W_exit <| thn_x <| blk_x <| thn_n <| W_reg <| L_op (.plain rfl) rfl (ltb rfl) (X_add ((K61 13 rfl).trans ((K53 13 rfl).trans ((K47 13 rfl).trans h26))) rfl) <| L_op (.plain rfl) rfl (ltb rfl) (X_move (v := (.int .i64 (IntKind.wrap .i64 (x13_8 + 1)))) rfl) <| L_nil <| thn_n ?_
          obtain rfl := Option.some.inj H
          exact ⟨_, Nat.lt_succ_self _, setI x5_6 (findN x5_6 ((gt a0 x13_8).path)) (⟨(gt x5_6 (findN x5_6 ((gt a0 x13_8).path))).kind, (gt x5_6 (findN x5_6 ((gt a0 x13_8).path))).path, (gt x5_6 (findN x5_6 ((gt a0 x13_8).path))).body, (gt a0 x13_8).mode⟩ : Nd), v7, IntKind.wrap .i64 (x13_8 + 1), (Kp.upd (Kp.upd (Kp.upd (Kp.upd (Kp.upd (Kp.upd (Kp.upd (Kp.upd (Kp.cut (Kp.upd (Kp.cut (Kp.upd (Kp.cut (Kp.upd (Kp.upd (Kp.upd (Kp.upd (Kp.upd (Kp.upd (Kp.upd (Kp.upd (Kp.upd (Kp.upd (Kp.upd (Kp.upd (Kp.upd K21 rfl) rfl) rfl) rfl) rfl) rfl) rfl) rfl) rfl) rfl) rfl) rfl) rfl) K47 rfl) rfl) K53 rfl) rfl) K61 rfl) rfl) rfl) rfl) rfl) rfl) rfl) rfl) rfl), ((K61 5 rfl).trans ((K53 5 rfl).trans ((K47 5 rfl).trans h24))), o75, rfl, (Ext.wr (Ext.trans (Ext.trans (Ext.trans (Ext.trans (Ext.trans e22 (Below.trans e37 (Wr.below h40 (Nat.le_of_eq z35)))) e44) e49) e55) e63) h74 h73 (Nat.le_refl _)), S28⟩
        · refine W_false (h62.trans (congrArg Value.bool q66)) <| W_skip <| thn_n <| W_seq <| W_reg <| L_op (.plain rfl) rfl (ltb rfl) (X_move (v := v7) ((K61 5 rfl).trans ((K53 5 rfl).trans ((K47 5 rfl).trans h24)))) <| L_op (.plain rfl) rfl (ltb rfl) (X_fieldAddr Tryz.underlying78 rfl Tryz.sizeOf9 rfl ((K61 7 rfl).trans ((K53 7 rfl).trans (K47 7 rfl)))) <| L_op (.plain rfl) rfl (ltb rfl) (X_loadB Tryz.isAgg9 (Blk.ext k41 (Ext.trans (Ext.trans (Ext.trans e44 e49) e55) e63)) rfl rfl) ?_
          obtain ⟨c76, H⟩ := bif_some H
          obtain ⟨c77, H⟩ := bif_some H
          refine L_callO (.plain rfl) rfl (ltb rfl) rfl Tryz.call123 (impl_removed.calls (w := w60) (a0 := x5_6) (a1 := (gt a0 x13_8).path) (Ow.rd (Ow.ext h25 (Ext.trans (Ext.trans (Ext.trans (Ext.trans (Below.trans e37 (Wr.below h40 (Nat.le_of_eq z35))) e44) e49) e55) e63))) (of_decide_eq_true c76) (of_decide_eq_true c77)) rfl <| fun v80 w78 e79 o81 => L_op (.plain rfl) rfl (ltb rfl) (X_assign (v := v80) rfl) <| L_nil <| thn_n <| W_seq <| W_reg <| L_op (.plain rfl) rfl (ltb rfl) (X_fieldAddr Tryz.underlying78 rfl Tryz.sizeOf3 rfl ((K61 7 rfl).trans ((K53 7 rfl).trans (K47 7 rfl)))) <| L_op (.plain rfl) rfl (ltb rfl) (X_loadB Tryz.isAgg3 (Blk.ext k41 (Ext.trans (Ext.trans (Ext.trans (Ext.trans e44 e49) e55) e63) e79)) rfl rfl) <| L_op (.plain rfl) rfl (ltb rfl) (X_neq rfl rfl) <| L_nil <| thn_n ?_
          rcases bif_two H with ⟨q82, H⟩ | ⟨q82, H⟩
          · refine W_true (congrArg Value.bool q82) <| W_reg <| L_op (.plain rfl) rfl (ltb rfl) (X_move (v := v80) rfl) <| L_op (.plain rfl) rfl (ltb rfl) (X_loadS Tryz.isAgg78 Tryz.sizeOf78 rfl ((K61 7 rfl).trans ((K53 7 rfl).trans (K47 7 rfl))) (Blk.at0 (Blk.ext k41 (Ext.trans (Ext.trans (Ext.trans (Ext.trans e44 e49) e55) e63) e79)))) <| L_callP (.plain rfl) rfl (ltb rfl) rfl Tryz.call125 (impl_Record_node.calls (w := w78) (a0 := (gt a0 x13_8))) rfl <| fun w83 e84 => ?_
            obtain ⟨c85, H⟩ := bif_some H
            obtain ⟨c86, H⟩ := bif_some H
            obtain ⟨c87, H⟩ := bif_some H
            obtain ⟨c88, H⟩ := bif_some H
            refine L_callO (.plain rfl) rfl (ltb rfl) rfl Tryz.call124 (impl_place.calls (w := w83) (a0 := (without x5_6 ((gt a0 x13_8).path) true)) (a1 := (ndOf (gt a0 x13_8))) (GV.ext gv (Ext.trans (Ext.trans (Ext.trans (Ext.trans (Ext.trans (Ext.trans (Ext.trans e22 (Below.trans e37 (Wr.below h40 (Nat.le_of_eq z35)))) e44) e49) e55) e63) e79) e84)) (Ow.rd (Ow.ext o81 e84)) (of_decide_eq_true c85) (of_decide_eq_true c86) (of_decide_eq_true c87) (of_decide_eq_true c88)) rfl <| fun v91 w89 e90 o92 => L_op (.plain rfl) rfl (ltb rfl) (X_assign (v := v91) rfl) <| L_nil <| blk_n <| thn_n <| W_reg <| L_op (.plain rfl) rfl (ltb rfl) (X_add ((K61 13 rfl).trans ((K53 13 rfl).trans ((K47 13 rfl).trans h26))) rfl) <| L_op (.plain rfl) rfl (ltb rfl) (X_move (v := (.int .i64 (IntKind.wrap .i64 (x13_8 + 1)))) rfl) <| L_nil <| thn_n ?_
            obtain rfl := Option.some.inj H
            exact ⟨_, Nat.lt_succ_self _, (placeL (without x5_6 ((gt a0 x13_8).path) true) (ndOf (gt a0 x13_8))), v91, IntKind.wrap .i64 (x13_8 + 1), (Kp.upd (Kp.upd (Kp.upd (Kp.upd (Kp.upd (Kp.upd (Kp.upd (Kp.upd (Kp.upd (Kp.upd (Kp.upd (Kp.upd (Kp.upd (Kp.upd (Kp.upd (Kp.cut (Kp.upd (Kp.cut (Kp.upd (Kp.cut (Kp.upd (Kp.upd (Kp.upd (Kp.upd (Kp.upd (Kp.upd (Kp.upd (Kp.upd (Kp.upd (Kp.upd (Kp.upd (Kp.upd (Kp.upd K21 rfl) rfl) rfl) rfl) rfl) rfl) rfl) rfl) rfl) rfl) rfl) rfl) rfl) K47 rfl) rfl) K53 rfl) rfl) K61 rfl) rfl) rfl) rfl) rfl) rfl) rfl) rfl) rfl) rfl) rfl) rfl) rfl) rfl) rfl) rfl), rfl, (Ow.base o92 (Ext.trans (Ext.trans (Ext.trans (Ext.trans (Ext.trans (Ext.trans (Ext.trans e22 (Below.trans e37 (Wr.below h40 (Nat.le_of_eq z35)))) e44) e49) e55) e63) e79) e84).size), rfl, (Ext.trans (Ext.trans (Ext.trans (Ext.trans (Ext.trans (Ext.trans (Ext.trans (Ext.trans e22 (Below.trans e37 (Wr.below h40 (Nat.le_of_eq z35)))) e44) e49) e55) e63) e79) e84) e90), S28⟩
          · refine W_false (congrArg Value.bool q82) <| W_skip <| blk_n <| thn_n <| W_reg <| L_op (.plain rfl) rfl (ltb rfl) (X_add ((K61 13 rfl).trans ((K53 13 rfl).trans ((K47 13 rfl).trans h26))) rfl) <| L_op (.plain rfl) rfl (ltb rfl) (X_move (v := (.int .i64 (IntKind.wrap .i64 (x13_8 + 1)))) rfl) <| L_nil <| thn_n ?_
            obtain rfl := Option.some.inj H
            exact ⟨_, Nat.lt_succ_self _, (without x5_6 ((gt a0 x13_8).path) true), v80, IntKind.wrap .i64 (x13_8 + 1), (Kp.upd (Kp.upd (Kp.upd (Kp.upd (Kp.upd (Kp.upd (Kp.upd (Kp.upd (Kp.upd (Kp.upd (Kp.cut (Kp.upd (Kp.cut (Kp.upd (Kp.cut (Kp.upd (Kp.upd (Kp.upd (Kp.upd (Kp.upd (Kp.upd (Kp.upd (Kp.upd (Kp.upd (Kp.upd (Kp.upd (Kp.upd (Kp.upd K21 rfl) rfl) rfl) rfl) rfl) rfl) rfl) rfl) rfl) rfl) rfl) rfl) rfl) K47 rfl) rfl) K53 rfl) rfl) K61 rfl) rfl) rfl) rfl) rfl) rfl) rfl) rfl) rfl) rfl) rfl), rfl, (Ow.base o81 (Ext.trans (Ext.trans (Ext.trans (Ext.trans (Ext.trans e22 (Below.trans e37 (Wr.below h40 (Nat.le_of_eq z35)))) e44) e49) e55) e63).size), rfl, (Ext.trans (Ext.trans (Ext.trans (Ext.trans (Ext.trans (Ext.trans e22 (Below.trans e37 (Wr.below h40 (Nat.le_of_eq z35)))) e44) e49) e55) e63) e79), S28⟩
      · refine W_false (congrArg Value.bool q29) <| W_exit <| thn_x <| thn_x <| blk_x <| thn_n ?_
        obtain rfl := Option.some.inj H
        obtain rfl := Option.some.inj S28
        exact ⟨x5_6, v7, (Kp.upd K21 rfl), h24, h25, e22, rfl⟩
  · rintro s15 w14 ⟨x5_12, v13, K16, h93, h94, e17, y95⟩
    rw [y95] at C11
    have H := C11
    replace H : _ = some _ := H
    refine thn_n <| W_seq <| W_reg <| L_op (.plain rfl) rfl (ltb rfl) (X_move (v := v13) h93) <| L_op (.plain rfl) rfl (ltb rfl) (X_assign (v := v13) rfl) <| L_nil <| thn_n <| W_ret <| fin_r ?_
    obtain rfl := Option.some.inj H
    exact fin1o rfl e17 h94 ((Ext.refl w)).size
theorem impl_apply.calls {w : World} {a0 : List Rec} {a1 : List Nd} (gv : GV 0 w) {v_a0 : Value} (f_a0 : Rd 5 encRec w v_a0 a0) {v_a1 : Value} (f_a1 : Rd 4 encNd w v_a1 a1) (h0 : a0.length ≤ 16) (h1 : a1.length ≤ 1000) (h2 : okT a0 a1 = true) :
    Calls Tryz.prog 74 #[v_a0, v_a1] w (Rt (RO 80 4 encNd w (applyL a0 a1))) := by
  obtain ⟨k, h⟩ := impl_apply.eq a0 a1 h0 h1 h2
  exact impl_apply.walk gv f_a0 f_a1 h
/-! laws.markRecordSS, by text -/
theorem laws_markRecordSS.calls {w : World} {a0 : List (List Rec)} {a1 : Int} {v_a0 : Value} {B T : Nat} (o_a0 : Own2 28 78 5 encRec B w v_a0 a0) (l_a0 : HB2 w v_a0 T) (h0 : a0.length ≤ 1048576) (h1 : ∀ l ∈ a0, l.length ≤ 1048576) (h2 : (0 : Int) ≤ a1) (h3 : (a1 : Int) ≤ 4611686018427387904 - 5 * (totL a0 : Int)) :
    Calls Tryz.prog 28 #[v_a0, .int .i64 a1] w (Rt (RM2 28 78 5 encRec B T w (.int .i64 (a1 + 5 * (totL a0 : Int))) v_a0 (marksSS a0 a1))) := by
  refine calls_of_W Tryz.func28 rfl (Nat.le_of_ble_eq_true rfl) Tryz.ntmps28 rfl ?_
  refine W_seq <| W_reg <| L_op (.plain rfl) rfl (ltb rfl) (X_assign (v := (.int .i64 0)) rfl) <| L_nil <| thn_n <| W_seq <| W_seq <| W_reg <| L_op (.plain rfl) rfl (ltb rfl) (X_assign (v := (.int .i64 0)) rfl) <| L_nil <| thn_n ?_
  refine W_cutQ (fun s0 σ W => σ 1 = .int .i64 (a1 + 5 * (totL a0 : Int)) ∧ Gr B T w W ∧ Own2 28 78 5 encRec B W v_a0 (marksSS a0 a1)) ?_ ?_
  · refine W_block <| W_loopI (fun s0 m σ W => ∃ (D R : List (List Rec)) (k : Int), m = R.length ∧ σ 0 = v_a0 ∧ σ 5 = .int .i64 (D.length : Int) ∧ σ 1 = .int .i64 k ∧ D.length + R.length = a0.length ∧ Gr B T w W ∧ Own2 28 78 5 encRec B W v_a0 (D ++ R) ∧ HB2 W v_a0 T ∧ (∀ l ∈ R, l.length ≤ 1048576) ∧ 0 ≤ k ∧ k + 5 * (totL R : Int) = a1 + 5 * (totL a0 : Int) ∧ D ++ marksSS R k = marksSS a0 a1) a0.length
      ⟨[], a0, a1, rfl, rfl, rfl, rfl, by simp, Gr.refl _ _ _, o_a0, l_a0, h1, h2, rfl, rfl⟩ ?_
    rintro m s1 W1 ⟨D, R, k, rfl, q0, q5, q1, hl, hg, hO, hH, hR, hk0, hk, hf⟩
    refine W_seq <| W_seq <| W_reg <| L_op (.plain rfl) rfl (ltb rfl) (X_move q5) <| L_op (.plain rfl) rfl (ltb rfl) (X_move q0) <| L_op (.plain rfl) rfl (ltb rfl) (X_lenR2 Tryz.underlying39 rfl hO.rd) <| L_op (.plain rfl) rfl (ltb rfl) (X_lss rfl rfl) <| L_nil <| thn_n ?_
    cases R with
    | nil =>
      refine W_false (congrArg Value.bool (decide_eq_false (by simp))) <| W_exit <| thn_x <| thn_x <| blk_x <| thn_n ?_
      have hkk : k = a1 + 5 * (totL a0 : Int) := by simpa [totL] using hk
      refine ⟨by rw [← hkk]; exact q1, hg, ?_⟩
      rw [← hf]
      exact hO
    | cons l R =>
      obtain ⟨vs, u, lo, hi, hv, hvl, hu, ho, hh, hsub, hback⟩ := hO.inner hH
      have hlt : D.length < vs.length := by rw [hvl]; simp
      haveI : Inhabited Value := ⟨undef⟩
      have hgu : gt vs (D.length : Int) = u := by
        rw [getD_gt, getD_el hlt]
        rw [List.getElem?_eq_getElem hlt] at hu
        exact Option.some.inj hu
      have htot : totL (l :: R) = l.length + totL R := by simp [totL]
      rw [htot] at hk
      have hll := hR l (by simp)
      refine W_true (congrArg Value.bool (decide_eq_true (by simp; omega))) <| W_skip <| thn_n <| W_seq <| W_block <| W_reg <| L_op (.plain rfl) rfl (ltb rfl) (X_move q0) <| L_op (.plain rfl) rfl (ltb rfl) (X_move q5) <|
        L_idx (xs := vs) (.plain rfl) rfl (ltb rfl) rfl Tryz.underlying39 Tryz.sizeOf28 rfl hv rfl (inR_nat hlt) <| fun p hA => ?_
      rw [hgu] at hA
      refine L_op (.plain rfl) rfl (ltb rfl) (X_loadAt (v := u) Tryz.isAgg28 rfl hA rfl) <| L_op (.plain rfl) rfl (ltb rfl) (X_move q1) <|
        L_callM (.plain rfl) rfl (ltb rfl) rfl Tryz.call33 (laws_markRecordS.calls (w := W1) (a0 := l) (a1 := k) ho hh (by omega) hk0 (by omega)) rfl <| fun W2 g2 o2 => L_op (.plain rfl) rfl (ltb rfl) (X_assign (v := .int .i64 (k + 5 * (l.length : Int))) rfl) <| L_nil <| blk_n <| thn_n ?_
      obtain ⟨hO2, hH2⟩ := hback W2 (marksR l.length k) g2 o2
      have hw : IntKind.wrap .i64 ((D.length : Int) + 1) = (((D ++ [marksR l.length k]).length : Nat) : Int) := by simp only [List.length_append, List.length_cons, List.length_nil]; rw [Int.natCast_add]; exact Go.UL.wrap_small (by omega) (by simp at hl; omega)
      refine W_reg <| L_op (.plain rfl) rfl (ltb rfl) (X_move q5) <| L_op (.plain rfl) rfl (ltb rfl) (X_add rfl rfl) <| L_op (.plain rfl) rfl (ltb rfl) (X_assign (v := .int .i64 (((D ++ [marksR l.length k]).length : Nat) : Int)) (congrArg (Value.int .i64) hw)) <| L_nil <| thn_n ?_
      exact ⟨R.length, by simp, D ++ [marksR l.length k], R, k + 5 * (l.length : Int), rfl, q0, rfl, rfl, by simp at hl ⊢; omega, hg.trans (hsub W2 g2), by rw [List.append_assoc]; exact hO2, hH2, fun y hy => hR y (by simp [hy]), by omega, by omega, by rw [List.append_assoc]; exact hf⟩
  · rintro s2 W2 ⟨q1, hg, hO⟩
    refine thn_n <| W_seq <| W_reg <| L_op (.plain rfl) rfl (ltb rfl) (X_move q1) <| L_op (.plain rfl) rfl (ltb rfl) (X_assign (v := .int .i64 (a1 + 5 * (totL a0 : Int))) rfl) <| L_nil <| thn_n <| W_ret <| fin_r ?_
    exact ⟨_, rfl, rfl, hg, hO⟩

/-! spec.l05All -/
theorem spec_l05All.walk {k : Nat} {w : World} {a0 : List (List Rec)} {a1 : List Nd} {v_a0 : Value} (f_a0 : Rd2 5 encRec w v_a0 a0) {v_a1 : Value} (f_a1 : Rd 4 encNd w v_a1 a1) {r : List Nd} (H : spec_l05All.sh k a0 a1 = some r) :
    Calls Tryz.prog 78 #[v_a0, v_a1] w (Rt (RO 80 4 encNd w r)) := by
  unfold spec_l05All.sh at H
  refine calls_of_W Tryz.func78 rfl (Nat.le_of_ble_eq_true rfl) Tryz.ntmps78 rfl ?_
  refine W_seq <| W_reg <| L_op (.plain rfl) rfl (ltb rfl) (X_assign (v := (.slice none 0 0)) rfl) <| L_nil <| thn_n <| W_seq <| W_reg <| L_lit (.plain rfl) rfl (ltb rfl) rfl Tryz.underlying30 Tryz.sizeOf80 Tryz.zeroValue80 rfl rfl rfl (vs := []) rfl (lit_all rfl) <| fun b1 w2 z3 z4 e5 k6 => L_op (.plain rfl) rfl (ltb rfl) (X_move (v := v_a1) rfl) ?_
  obtain ⟨c7, H⟩ := bif_some H
  refine L_append (enc := encNd) (.plain rfl) rfl (ltb rfl) rfl El.t30 rfl rfl (Ow.zero (base := w2.heap.size) (w := w2)) (Rd.ext f_a1 e5) (ones_Nd _) (of_decide_eq_true c7) (Nat.le_refl _) <| fun v8 w9 o10 z11 g12 => L_op (.plain rfl) rfl (ltb rfl) (X_assign (v := v8) rfl) <| L_nil <| thn_n <| W_seq <| W_seq <| W_reg <| L_op (.plain rfl) rfl (ltb rfl) (X_assign (v := (.int .i64 0)) rfl) <| L_nil <| thn_n ?_
  obtain ⟨z16, L17, C18⟩ := bind_some H
  clear H
  refine  W_cutQ (fun s0 sQ wQ => ∃ (x1_19 : List Nd) (v20 : Value), Kp [(1, 2), (5, 6), (9, 21)] s0 sQ ∧ sQ 1 = v20 ∧ Ow 80 4 encNd w2.heap.size wQ v20 x1_19 ∧ Ext w9 wQ ∧ z16 = .inr x1_19) ?_ ?_
  · refine W_block <| W_loopI (fun s0 kk sQ wQ => ∃ (x1_13 : List Nd) (v14 : Value) (x5_15 : Int), Kp [(1, 2), (5, 6), (9, 21)] s0 sQ ∧ sQ 1 = v14 ∧ Ow 80 4 encNd w2.heap.size wQ v14 x1_13 ∧ sQ 5 = .int .i64 x5_15 ∧ Ext w9 wQ ∧ loopF (spec_l05All.b1 a0) kk (x1_13, x5_15) = some z16) k ⟨([] : List Nd) ++ a1, v8, 0, (Kp.refl _ _), rfl, o10, rfl, (Ext.refl w9), L17⟩ ?_
    rintro k25 s26 w27 ⟨x1_13, v14, x5_15, K28, h31, h32, h33, e29, L30⟩
    cases k25 with
    | zero => exact absurd L30 (by simp [loopF])
    | succ k25 =>
      obtain ⟨t34, H, S35⟩ := loopF_succ L30
      clear L30
      unfold spec_l05All.b1 at H
      refine W_seq <| W_seq <| W_reg <| L_op (.plain rfl) rfl (ltb rfl) (X_move (v := (.int .i64 x5_15)) h33) <| L_op (.plain rfl) rfl (ltb rfl) (X_move (v := v_a0) (K28 0 rfl)) <| L_op (.plain rfl) rfl (ltb rfl) (X_lenR2 Tryz.underlying39 rfl (Rd2.ext f_a0 (Ext.trans (Ext.trans e5 (g12 _ (Ext.refl w2))) e29))) <| L_op (.plain rfl) rfl (ltb rfl) (X_lss rfl rfl) <| L_nil <| thn_n ?_
      rcases bif_two H with ⟨q36, H⟩ | ⟨q36, H⟩
      · refine W_true (congrArg Value.bool q36) <| W_skip <| thn_n <| W_seq <| W_block <| W_reg <| L_op (.plain rfl) rfl (ltb rfl) (X_move (v := v_a0) (K28 0 rfl)) <| L_op (.plain rfl) rfl (ltb rfl) (X_move (v := (.int .i64 x5_15)) h33) ?_
        obtain ⟨c37, H⟩ := bif_some H
        refine L_idx2 (.plain rfl) rfl (ltb rfl) rfl Tryz.underlying39 Tryz.sizeOf28 rfl (Rd2.ext f_a0 (Ext.trans (Ext.trans e5 (g12 _ (Ext.refl w2))) e29)) rfl c37 <| fun p38 v40 h39 h41 => L_op (.plain rfl) rfl (ltb rfl) (X_loadAt Tryz.isAgg28 rfl h39 rfl) <| L_op (.plain rfl) rfl (ltb rfl) (X_move (v := v14) h31) ?_
        obtain ⟨c42, H⟩ := bif_some H
        obtain ⟨c43, H⟩ := bif_some H
        obtain ⟨c44, H⟩ := bif_some H
        refine L_callO (.plain rfl) rfl (ltb rfl) rfl Tryz.call65 (spec_l05Apply.calls (w := w27) (a0 := gt a0 x5_15) (a1 := x1_13) h41 (Ow.rd h32) (of_decide_eq_true c42) (of_decide_eq_true c43) (of_decide_eq_true c44)) rfl <| fun v47 w45 e46 o48 => L_op (.plain rfl) rfl (ltb rfl) (X_assign (v := v47) rfl) <| L_nil <| blk_n <| thn_n <| W_reg <| L_op (.plain rfl) rfl (ltb rfl) (X_move (v := (.int .i64 x5_15)) h33) <| L_op (.plain rfl) rfl (ltb rfl) (X_add rfl rfl) <| L_op (.plain rfl) rfl (ltb rfl) (X_assign (v := (.int .i64 (IntKind.wrap .i64 (x5_15 + 1)))) rfl) <| L_nil <| thn_n ?_
        obtain rfl := Option.some.inj H
        exact ⟨_, Nat.lt_succ_self _, (applyL (gt a0 x5_15) x1_13), v47, IntKind.wrap .i64 (x5_15 + 1), (Kp.upd (Kp.upd (Kp.upd (Kp.upd (Kp.upd (Kp.upd (Kp.upd (Kp.upd (Kp.upd (Kp.upd (Kp.upd (Kp.upd (Kp.upd (Kp.upd K28 rfl) rfl) rfl) rfl) rfl) rfl) rfl) rfl) rfl) rfl) rfl) rfl) rfl) rfl), rfl, (Ow.base o48 (Ext.trans (g12 _ (Ext.refl w2)) e29).size), rfl, (Ext.trans e29 e46), S35⟩
      · refine W_false (congrArg Value.bool q36) <| W_exit <| thn_x <| thn_x <| blk_x <| thn_n ?_
        obtain rfl := Option.some.inj H
        obtain rfl := Option.some.inj S35
        exact ⟨x1_13, v14, (Kp.upd (Kp.upd (Kp.upd (Kp.upd K28 rfl) rfl) rfl) rfl), h31, h32, e29, rfl⟩
  · rintro s22 w21 ⟨x1_19, v20, K23, h49, h50, e24, y51⟩
    rw [y51] at C18
    have H := C18
    replace H : _ = some _ := H
    refine thn_n <| W_seq <| W_reg <| L_op (.plain rfl) rfl (ltb rfl) (X_move (v := v20) h49) <| L_op (.plain rfl) rfl (ltb rfl) (X_assign (v := v20) rfl) <| L_nil <| thn_n <| W_ret <| fin_r ?_
    obtain rfl := Option.some.inj H
    exact fin1o rfl (Ext.trans (Ext.trans e5 (g12 _ (Ext.refl w2))) e24) h50 (e5).size
theorem spec_l05All.calls {w : World} {a0 : List (List Rec)} {a1 : List Nd} {v_a0 : Value} (f_a0 : Rd2 5 encRec w v_a0 a0) {v_a1 : Value} (f_a1 : Rd 4 encNd w v_a1 a1) (h0 : a0.length ≤ 5) (h1 : a1.length ≤ 24) (h2 : okA a0 a1 = true) :
    Calls Tryz.prog 78 #[v_a0, v_a1] w (Rt (RO 80 4 encNd w (applyAllL a0 a1))) := by
  obtain ⟨k, h⟩ := spec_l05All.eq a0 a1 h0 h1 h2
  exact spec_l05All.walk f_a0 f_a1 h
/-! spec.ApplyAll -/
theorem spec_ApplyAll.walk {w : World} {a0 : List (List Rec)} {a1 : List Nd} {v_a0 : Value} (f_a0 : Rd2 5 encRec w v_a0 a0) {v_a1 : Value} (f_a1 : Rd 4 encNd w v_a1 a1) {r : List Nd × Int} (H : spec_ApplyAll.sh a0 a1 = some r) :
    Calls Tryz.prog 34 #[v_a0, v_a1] w (Rt (RT 80 4 encNd w r.1 (.int .i64 r.2))) := by
  unfold spec_ApplyAll.sh at H
  refine calls_of_W Tryz.func34 rfl (Nat.le_of_ble_eq_true rfl) Tryz.ntmps34 rfl ?_
  refine W_seq <| W_reg <| L_op (.plain rfl) rfl (ltb rfl) (X_assign (v := (.slice none 0 0)) rfl) <| L_op (.plain rfl) rfl (ltb rfl) (X_assign (v := (.int .i64 0)) rfl) <| L_nil <| thn_n <| W_seq <| W_seq <| W_reg <| L_op (.plain rfl) rfl (ltb rfl) (X_move (v := v_a0) rfl) <| L_op (.plain rfl) rfl (ltb rfl) (X_lenR2 Tryz.underlying39 rfl f_a0) <| L_op (.plain rfl) rfl (ltb rfl) (X_gtr rfl rfl) <| L_op (.plain rfl) rfl (ltb rfl) (X_move (v := (.bool (decide (4096 < (a0.length : Int))))) rfl) <| L_grp 4 [(11, 15)] 14 (.bool ((decide (4096 < (a0.length : Int))) || (decide (4096 < (a1.length : Int))))) ?_ ?_
  · rcases bool_two (decide (4096 < (a0.length : Int))) with b0_ | b0_
    · exact L_skip rfl rfl (ltb rfl) (congrArg Value.bool b0_) rfl rfl (ltb rfl) <| L_skip rfl rfl (ltb rfl) (congrArg Value.bool b0_) rfl rfl (ltb rfl) <| L_skip rfl rfl (ltb rfl) (congrArg Value.bool b0_) rfl rfl (ltb rfl) <| L_op (.plain rfl) rfl (ltb rfl) (X_pick (b := true) (v := (.bool true)) (congrArg Value.bool b0_) rfl) <| L_nil <| thn_n ⟨(Kp.upd (Kp.upd (Kp.upd (Kp.upd (Kp.refl _ _) rfl) rfl) rfl) rfl), (or_t b0_), (Ext.refl w)⟩
    · exact L_op (.guard 3 false 10 rfl rfl (ltb rfl) (congrArg Value.bool b0_)) rfl (ltb rfl) (X_move (v := v_a1) rfl) <| L_op (.guard 3 false 10 rfl rfl (ltb rfl) (congrArg Value.bool b0_)) rfl (ltb rfl) (X_lenR Tryz.underlying30 rfl f_a1) <| L_op (.guard 3 false 10 rfl rfl (ltb rfl) (congrArg Value.bool b0_)) rfl (ltb rfl) (X_gtr rfl rfl) <| L_op (.plain rfl) rfl (ltb rfl) (X_pick (b := false) (v := (.bool (decide (4096 < (a1.length : Int))))) (congrArg Value.bool b0_) rfl) <| L_nil <| thn_n ⟨(Kp.upd (Kp.upd (Kp.upd (Kp.upd (Kp.refl _ _) rfl) rfl) rfl) rfl), (or_f b0_), (Ext.refl w)⟩
  intro s6 w2 K3 h4 e5
  refine L_nil <| thn_n ?_
  rcases bif_two H with ⟨q7, H⟩ | ⟨q7, H⟩
  · refine W_true (h4.trans (congrArg Value.bool q7)) <| W_seq <| W_reg <| L_lit (.plain rfl) rfl (ltb rfl) rfl Tryz.underlying30 Tryz.sizeOf80 Tryz.zeroValue80 rfl rfl rfl (vs := []) rfl (lit_all rfl) <| fun b8 w9 z10 z11 e12 k13 => L_op (.plain rfl) rfl (ltb rfl) (X_assign (v := (.slice (some ⟨b8, 0, none⟩) 0 0)) rfl) <| L_op (.plain rfl) rfl (ltb rfl) (X_assign (v := (.int .i64 2)) rfl) <| L_nil <| thn_n <| W_ret <| thn_r <| fin_r ?_
    obtain rfl := Option.some.inj H
    exact fin2o rfl rfl (Ext.trans e5 e12) (Ow.zero (base := w.heap.size)) (Nat.le_refl _)
  · refine W_false (h4.trans (congrArg Value.bool q7)) <| W_skip <| thn_n <| W_seq <| W_seq <| W_reg <| L_op (.plain rfl) rfl (ltb rfl) (X_move (v := v_a0) (K3 0 rfl)) ?_
    obtain ⟨c14, H⟩ := bif_some H
    obtain ⟨c15, H⟩ := bif_some H
    obtain ⟨c16, H⟩ := bif_some H
    refine L_callP (.plain rfl) rfl (ltb rfl) rfl Tryz.call77 (spec_l05Stack.calls (w := w2) (a0 := a0) (Rd2.ext f_a0 e5) (of_decide_eq_true c14) (of_decide_eq_true c15) (of_decide_eq_true c16)) rfl <| fun w17 e18 => L_op (.plain rfl) rfl (ltb rfl) (X_not rfl) <| L_op (.plain rfl) rfl (ltb rfl) (X_move (v := (.bool (!(stackOK a0)))) rfl) ?_
    obtain ⟨z20, x21, H⟩ := bind_some H
    refine L_grpE 4 [(20, 24)] 23 (fun q => q = z20) ?_ ?_
    · rcases bif_two x21 with ⟨b18_, H⟩ | ⟨b18_, H⟩
      · refine L_skip rfl rfl (ltb rfl) (congrArg Value.bool b18_) rfl rfl (ltb rfl) <| L_skip rfl rfl (ltb rfl) (congrArg Value.bool b18_) rfl rfl (ltb rfl) <| L_skip rfl rfl (ltb rfl) (congrArg Value.bool b18_) rfl rfl (ltb rfl) <| L_op (.plain rfl) rfl (ltb rfl) (X_pick (b := true) (v := (.bool true)) (congrArg Value.bool b18_) rfl) ?_
        obtain rfl := Option.some.inj H
        exact L_nil <| thn_n ⟨(Kp.upd (Kp.upd (Kp.upd (Kp.upd (Kp.refl _ _) rfl) rfl) rfl) rfl), ⟨_, rfl, rfl⟩, (Ext.refl w17)⟩
      · refine L_op (.guard 3 false 19 rfl rfl (ltb rfl) (congrArg Value.bool b18_)) rfl (ltb rfl) (X_move (v := v_a1) (K3 1 rfl)) ?_
        obtain ⟨c20, H⟩ := bif_some H
        refine L_callP (.guard 3 false 19 rfl rfl (ltb rfl) (congrArg Value.bool b18_)) rfl (ltb rfl) rfl Tryz.call63 (spec_l04OK.calls (w := w17) (a0 := a1) (Rd.ext f_a1 (Ext.trans e5 e18)) (of_decide_eq_true c20)) rfl <| fun w21 e22 => L_op (.guard 3 false 19 rfl rfl (ltb rfl) (congrArg Value.bool b18_)) rfl (ltb rfl) (X_not rfl) <| L_op (.plain rfl) rfl (ltb rfl) (X_pick (b := false) (v := (.bool (!(treeOK a1)))) (congrArg Value.bool b18_) rfl) ?_
        obtain rfl := Option.some.inj H
        exact L_nil <| thn_n ⟨(Kp.upd (Kp.upd (Kp.upd (Kp.upd (Kp.refl _ _) rfl) rfl) rfl) rfl), ⟨_, rfl, rfl⟩, e22⟩
    intro s26 w22 z27 K23 hq h24 e25
    rw [hq] at h24; clear hq
    refine L_nil <| thn_n ?_
    rcases bif_two H with ⟨q28, H⟩ | ⟨q28, H⟩
    · refine W_true (h24.trans (congrArg Value.bool q28)) <| W_seq <| W_reg <| L_lit (.plain rfl) rfl (ltb rfl) rfl Tryz.underlying30 Tryz.sizeOf80 Tryz.zeroValue80 rfl rfl rfl (vs := []) rfl (lit_all rfl) <| fun b29 w30 z31 z32 e33 k34 => L_op (.plain rfl) rfl (ltb rfl) (X_assign (v := (.slice (some ⟨b29, 0, none⟩) 0 0)) rfl) <| L_op (.plain rfl) rfl (ltb rfl) (X_assign (v := (.int .i64 1)) rfl) <| L_nil <| thn_n <| W_ret <| thn_r <| fin_r ?_
      obtain rfl := Option.some.inj H
      exact fin2o rfl rfl (Ext.trans (Ext.trans (Ext.trans e5 e18) e25) e33) (Ow.zero (base := w.heap.size)) (Nat.le_refl _)
    · refine W_false (h24.trans (congrArg Value.bool q28)) <| W_skip <| thn_n <| W_seq <| W_reg <| L_op (.plain rfl) rfl (ltb rfl) (X_move (v := v_a0) ((K23 0 rfl).trans (K3 0 rfl))) <| L_op (.plain rfl) rfl (ltb rfl) (X_move (v := v_a1) ((K23 1 rfl).trans (K3 1 rfl))) ?_
      obtain ⟨c35, H⟩ := bif_some H
      obtain ⟨c36, H⟩ := bif_some H
      obtain ⟨c37, H⟩ := bif_some H
      refine L_callO (.plain rfl) rfl (ltb rfl) rfl Tryz.call78 (spec_l05All.calls (w := w22) (a0 := a0) (a1 := a1) (Rd2.ext f_a0 (Ext.trans (Ext.trans e5 e18) e25)) (Rd.ext f_a1 (Ext.trans (Ext.trans e5 e18) e25)) (of_decide_eq_true c35) (of_decide_eq_true c36) (of_decide_eq_true c37)) rfl <| fun v40 w38 e39 o41 => L_op (.plain rfl) rfl (ltb rfl) (X_assign (v := v40) rfl) <| L_nil <| thn_n <| W_seq <| W_seq <| W_reg <| L_op (.plain rfl) rfl (ltb rfl) (X_move (v := v40) rfl) <| L_op (.plain rfl) rfl (ltb rfl) (X_lenR Tryz.underlying30 rfl (Ow.rd o41)) <| L_op (.plain rfl) rfl (ltb rfl) (X_gtr rfl rfl) <| L_nil <| thn_n ?_
      rcases bif_two H with ⟨q42, H⟩ | ⟨q42, H⟩
      · refine W_true (congrArg Value.bool q42) <| W_seq <| W_reg <| L_lit (.plain rfl) rfl (ltb rfl) rfl Tryz.underlying30 Tryz.sizeOf80 Tryz.zeroValue80 rfl rfl rfl (vs := []) rfl (lit_all rfl) <| fun b43 w44 z45 z46 e47 k48 => L_op (.plain rfl) rfl (ltb rfl) (X_assign (v := (.slice (some ⟨b43, 0, none⟩) 0 0)) rfl) <| L_op (.plain rfl) rfl (ltb rfl) (X_assign (v := (.int .i64 7)) rfl) <| L_nil <| thn_n <| W_ret <| thn_r <| fin_r ?_
        obtain rfl := Option.some.inj H
        exact fin2o rfl rfl (Ext.trans (Ext.trans (Ext.trans (Ext.trans e5 e18) e25) e39) e47) (Ow.zero (base := w.heap.size)) (Nat.le_refl _)
      · refine W_false (congrArg Value.bool q42) <| W_skip <| thn_n <| W_seq <| W_reg <| L_op (.plain rfl) rfl (ltb rfl) (X_move (v := v40) rfl) <| L_op (.plain rfl) rfl (ltb rfl) (X_assign (v := v40) rfl) <| L_op (.plain rfl) rfl (ltb rfl) (X_assign (v := (.int .i64 0)) rfl) <| L_nil <| thn_n <| W_ret <| fin_r ?_
        obtain rfl := Option.some.inj H
        exact fin2o rfl rfl (Ext.trans (Ext.trans (Ext.trans e5 e18) e25) e39) o41 ((Ext.trans (Ext.trans e5 e18) e25)).size
theorem spec_ApplyAll.calls {w : World} {a0 : List (List Rec)} {a1 : List Nd} {v_a0 : Value} (f_a0 : Rd2 5 encRec w v_a0 a0) {v_a1 : Value} (f_a1 : Rd 4 encNd w v_a1 a1) (h0 : a0.length ≤ 1048576) (h1 : ∀ l ∈ a0, l.length ≤ 1048576) (h2 : ∀ l ∈ a0, ∀ x ∈ l, x.path.length ≤ 1048576) (h3 : a1.length ≤ 1048576) (h4 : ∀ x ∈ a1, x.path.length ≤ 1048576) :
    Calls Tryz.prog 34 #[v_a0, v_a1] w (Rt (RT 80 4 encNd w ((applyAllOf a0 a1).1) (.int .i64 ((applyAllOf a0 a1).2)))) := spec_ApplyAll.walk f_a0 f_a1 (spec_ApplyAll.eq a0 a1 h0 h1 h2 h3 h4)
/-! impl.applyAll -/
theorem impl_applyAll.walk {k : Nat} {w : World} {a0 : List (List Rec)} {a1 : List Nd} (gv : GV 0 w) {v_a0 : Value} (f_a0 : Rd2 5 encRec w v_a0 a0) {v_a1 : Value} (f_a1 : Rd 4 encNd w v_a1 a1) {r : List Nd} (H : impl_applyAll.sh k a0 a1 = some r) :
    Calls Tryz.prog 80 #[v_a0, v_a1] w (Rt (RO 80 4 encNd w r)) := by
  unfold impl_applyAll.sh at H
  refine calls_of_W Tryz.func80 rfl (Nat.le_of_ble_eq_true rfl) Tryz.ntmps80 rfl ?_
  refine W_seq <| W_reg <| L_op (.plain rfl) rfl (ltb rfl) (X_assign (v := (.slice none 0 0)) rfl) <| L_nil <| thn_n <| W_seq <| W_reg <| L_op (.plain rfl) rfl (ltb rfl) (X_move (v := v_a1) rfl) ?_
  obtain ⟨c1, H⟩ := bif_some H
  refine L_callO (.plain rfl) rfl (ltb rfl) rfl Tryz.call121 (slices_CloneN.calls (w := w) (a0 := a1) f_a1 (of_decide_eq_true c1)) rfl <| fun v4 w2 e3 o5 => L_op (.plain rfl) rfl (ltb rfl) (X_assign (v := v4) rfl) <| L_nil <| thn_n <| W_seq <| W_seq <| W_reg <| L_op (.plain rfl) rfl (ltb rfl) (X_move (v := v_a0) rfl) <| L_op (.plain rfl) rfl (ltb rfl) (X_lenR2 Tryz.underlying39 rfl (Rd2.ext f_a0 e3)) <| L_op (.plain rfl) rfl (ltb rfl) (X_move (v := (.int .i64 0)) rfl) <| L_nil <| thn_n ?_
  obtain ⟨z9, L10, C11⟩ := bind_some H
  clear H
  refine  W_cutQ (fun s0 sQ wQ => ∃ (x5_12 : List Nd) (v13 : Value), Kp [(5, 6), (7, 8), (12, 20)] s0 sQ ∧ sQ 5 = v13 ∧ Ow 80 4 encNd w.heap.size wQ v13 x5_12 ∧ Ext w2 wQ ∧ z9 = .inr x5_12) ?_ ?_
  · refine W_block <| W_loopI (fun s0 kk sQ wQ => ∃ (x5_6 : List Nd) (v7 : Value) (x12_8 : Int), Kp [(5, 6), (7, 8), (12, 20)] s0 sQ ∧ sQ 5 = v7 ∧ Ow 80 4 encNd w.heap.size wQ v7 x5_6 ∧ sQ 12 = .int .i64 x12_8 ∧ Ext w2 wQ ∧ loopF (impl_applyAll.b1 a0) kk (x5_6, x12_8) = some z9) k ⟨a1, v4, 0, (Kp.refl _ _), rfl, o5, rfl, (Ext.refl w2), L10⟩ ?_
    rintro k18 s19 w20 ⟨x5_6, v7, x12_8, K21, h24, h25, h26, e22, L23⟩
    cases k18 with
    | zero => exact absurd L23 (by simp [loopF])
    | succ k18 =>
      obtain ⟨t27, H, S28⟩ := loopF_succ L23
      clear L23
      unfold impl_applyAll.b1 at H
      refine W_seq <| W_reg <| L_op (.plain rfl) rfl (ltb rfl) (X_lss h26 (K21 11 rfl)) <| L_nil <| thn_n <| W_seq ?_
      rcases bif_two H with ⟨q29, H⟩ | ⟨q29, H⟩
      · refine W_true (congrArg Value.bool q29) <| W_skip <| thn_n <| W_seq <| W_block <| W_seq <| W_reg ?_
        obtain ⟨c30, H⟩ := bif_some H
        refine L_idx2 (.plain rfl) rfl (ltb rfl) rfl Tryz.underlying39 Tryz.sizeOf28 (K21 10 rfl) (Rd2.ext f_a0 (Ext.trans e3 e22)) h26 c30 <| fun p31 v33 h32 h34 => L_op (.plain rfl) rfl (ltb rfl) (X_loadAt Tryz.isAgg28 rfl h32 rfl) <| L_op (.plain rfl) rfl (ltb rfl) (X_assign (v := v33) rfl) <| L_nil <| thn_n <| W_reg <| L_op (.plain rfl) rfl (ltb rfl) (X_move (v := v33) rfl) <| L_op (.plain rfl) rfl (ltb rfl) (X_move (v := v7) h24) ?_
        obtain ⟨c35, H⟩ := bif_some H
        obtain ⟨c36, H⟩ := bif_some H
        obtain ⟨c37, H⟩ := bif_some H
        refine L_callO (.plain rfl) rfl (ltb rfl) rfl Tryz.call74 (impl_apply.calls (w := w20) (a0 := gt a0 x12_8) (a1 := x5_6) (GV.ext gv (Ext.trans e3 e22)) h34 (Ow.rd h25) (of_decide_eq_true c35) (of_decide_eq_true c36) (of_decide_eq_true c37)) rfl <| fun v40 w38 e39 o41 => L_op (.plain rfl) rfl (ltb rfl) (X_assign (v := v40) rfl) <| L_nil <| blk_n <| thn_n <| W_reg <| L_op (.plain rfl) rfl (ltb rfl) (X_add h26 rfl) <| L_op (.plain rfl) rfl (ltb rfl) (X_move (v := (.int .i64 (IntKind.wrap .i64 (x12_8 + 1)))) rfl) <| L_nil <| thn_n ?_
        obtain rfl := Option.some.inj H
        exact ⟨_, Nat.lt_succ_self _, (applyL (gt a0 x12_8) x5_6), v40, IntKind.wrap .i64 (x12_8 + 1), (Kp.upd (Kp.upd (Kp.upd (Kp.upd (Kp.upd (Kp.upd (Kp.upd (Kp.upd (Kp.upd (Kp.upd K21 rfl) rfl) rfl) rfl) rfl) rfl) rfl) rfl) rfl) rfl), rfl, (Ow.base o41 (Ext.trans e3 e22).size), rfl, (Ext.trans e22 e39), S28⟩
      · refine W_false (congrArg Value.bool q29) <| W_exit <| thn_x <| thn_x <| blk_x <| thn_n ?_
        obtain rfl := Option.some.inj H
        obtain rfl := Option.some.inj S28
        exact ⟨x5_6, v7, (Kp.upd K21 rfl), h24, h25, e22, rfl⟩
  · rintro s15 w14 ⟨x5_12, v13, K16, h42, h43, e17, y44⟩
    rw [y44] at C11
    have H := C11
    replace H : _ = some _ := H
    refine thn_n <| W_seq <| W_reg <| L_op (.plain rfl) rfl (ltb rfl) (X_move (v := v13) h42) <| L_op (.plain rfl) rfl (ltb rfl) (X_assign (v := v13) rfl) <| L_nil <| thn_n <| W_ret <| fin_r ?_
    obtain rfl := Option.some.inj H
    exact fin1o rfl (Ext.trans e3 e17) h43 ((Ext.refl w)).size
theorem impl_applyAll.calls {w : World} {a0 : List (List Rec)} {a1 : List Nd} (gv : GV 0 w) {v_a0 : Value} (f_a0 : Rd2 5 encRec w v_a0 a0) {v_a1 : Value} (f_a1 : Rd 4 encNd w v_a1 a1) (h0 : a0.length ≤ 5) (h1 : a1.length ≤ 24) (h2 : okA a0 a1 = true) :
    Calls Tryz.prog 80 #[v_a0, v_a1] w (Rt (RO 80 4 encNd w (applyAllL a0 a1))) := by
  obtain ⟨k, h⟩ := impl_applyAll.eq a0 a1 h0 h1 h2
  exact impl_applyAll.walk gv f_a0 f_a1 h
/-! impl.ApplyAll -/
theorem impl_ApplyAll.walk {w : World} {a0 : List (List Rec)} {a1 : List Nd} (gv : GV 0 w) {v_a0 : Value} (f_a0 : Rd2 5 encRec w v_a0 a0) {v_a1 : Value} (f_a1 : Rd 4 encNd w v_a1 a1) {r : List Nd × Int} (H : impl_ApplyAll.sh a0 a1 = some r) :
    Calls Tryz.prog 35 #[v_a0, v_a1] w (Rt (RT 80 4 encNd w r.1 (.int .i64 r.2))) := by
  unfold impl_ApplyAll.sh at H
  refine calls_of_W Tryz.func35 rfl (Nat.le_of_ble_eq_true rfl) Tryz.ntmps35 rfl ?_
  refine W_seq <| W_reg <| L_op (.plain rfl) rfl (ltb rfl) (X_assign (v := (.slice none 0 0)) rfl) <| L_op (.plain rfl) rfl (ltb rfl) (X_assign (v := (.int .i64 0)) rfl) <| L_nil <| thn_n <| W_seq <| W_seq <| W_reg <| L_op (.plain rfl) rfl (ltb rfl) (X_move (v := v_a0) rfl) <| L_callP (.plain rfl) rfl (ltb rfl) rfl Tryz.call82 (impl_isLongListSS.calls (w := w) (a0 := a0) f_a0) rfl <| fun w1 e2 => L_op (.plain rfl) rfl (ltb rfl) (X_move (v := (.bool (decide (4096 < a0.length)))) rfl) <| L_grp 3 [(11, 14)] 13 (.bool ((decide (4096 < a0.length)) || (decide (4096 < a1.length)))) ?_ ?_
  · rcases bool_two (decide (4096 < a0.length)) with b2_ | b2_
    · exact L_skip rfl rfl (ltb rfl) (congrArg Value.bool b2_) rfl rfl (ltb rfl) <| L_skip rfl rfl (ltb rfl) (congrArg Value.bool b2_) rfl rfl (ltb rfl) <| L_op (.plain rfl) rfl (ltb rfl) (X_pick (b := true) (v := (.bool true)) (congrArg Value.bool b2_) rfl) <| L_nil <| thn_n ⟨(Kp.upd (Kp.upd (Kp.upd (Kp.refl _ _) rfl) rfl) rfl), (or_t b2_), (Ext.refl w1)⟩
    · exact L_op (.guard 2 false 10 rfl rfl (ltb rfl) (congrArg Value.bool b2_)) rfl (ltb rfl) (X_move (v := v_a1) rfl) <| L_callP (.guard 2 false 10 rfl rfl (ltb rfl) (congrArg Value.bool b2_)) rfl (ltb rfl) rfl Tryz.call70 (impl_isLongListN.calls (w := w1) (a0 := a1) (Rd.ext f_a1 e2)) rfl <| fun w4 e5 => L_op (.plain rfl) rfl (ltb rfl) (X_pick (b := false) (v := (.bool (decide (4096 < a1.length)))) (congrArg Value.bool b2_) rfl) <| L_nil <| thn_n ⟨(Kp.upd (Kp.upd (Kp.upd (Kp.refl _ _) rfl) rfl) rfl), (or_f b2_), e5⟩
  intro s8 w4 K5 h6 e7
  refine L_op (.plain rfl) rfl (ltb rfl) (X_mkiface Tryz.underlying4 rfl h6) <| L_op (.plain rfl) rfl (ltb rfl) (X_mkiface Tryz.underlying3 rfl rfl) <| L_op (.plain rfl) rfl (ltb rfl) (X_move (v := v_a0) (K5 0 rfl)) ?_
  obtain ⟨c9, H⟩ := bif_some H
  obtain ⟨c10, H⟩ := bif_some H
  obtain ⟨c11, H⟩ := bif_some H
  refine L_callP (.plain rfl) rfl (ltb rfl) rfl Tryz.call83 (impl_StackOK.calls (w := w4) (a0 := a0) (GV.ext gv (Ext.trans e2 e7)) (Rd2.ext f_a0 (Ext.trans e2 e7)) (of_decide_eq_true c9) (of_decide_eq_true c10) (of_decide_eq_true c11)) rfl <| fun w12 e13 => L_op (.plain rfl) rfl (ltb rfl) (X_not rfl) <| L_op (.plain rfl) rfl (ltb rfl) (X_move (v := (.bool (!(stackOK a0)))) rfl) ?_
  obtain ⟨z15, x16, H⟩ := bind_some H
  refine L_grpE 4 [(20, 24)] 23 (fun q => q = z15) ?_ ?_
  · rcases bif_two x16 with ⟨b13_, H⟩ | ⟨b13_, H⟩
    · refine L_skip rfl rfl (ltb rfl) (congrArg Value.bool b13_) rfl rfl (ltb rfl) <| L_skip rfl rfl (ltb rfl) (congrArg Value.bool b13_) rfl rfl (ltb rfl) <| L_skip rfl rfl (ltb rfl) (congrArg Value.bool b13_) rfl rfl (ltb rfl) <| L_op (.plain rfl) rfl (ltb rfl) (X_pick (b := true) (v := (.bool true)) (congrArg Value.bool b13_) rfl) ?_
      obtain rfl := Option.some.inj H
      exact L_nil <| thn_n ⟨(Kp.upd (Kp.upd (Kp.upd (Kp.upd (Kp.refl _ _) rfl) rfl) rfl) rfl), ⟨_, rfl, rfl⟩, (Ext.refl w12)⟩
    · refine L_op (.guard 11 false 19 rfl rfl (ltb rfl) (congrArg Value.bool b13_)) rfl (ltb rfl) (X_move (v := v_a1) (K5 1 rfl)) ?_
      obtain ⟨c15, H⟩ := bif_some H
      obtain ⟨c16, H⟩ := bif_some H
      refine L_callP (.guard 11 false 19 rfl rfl (ltb rfl) (congrArg Value.bool b13_)) rfl (ltb rfl) rfl Tryz.call72 (impl_TreeOK.calls (w := w12) (a0 := a1) (GV.ext gv (Ext.trans (Ext.trans e2 e7) e13)) (Rd.ext f_a1 (Ext.trans (Ext.trans e2 e7) e13)) (of_decide_eq_true c15) (of_decide_eq_true c16)) rfl <| fun w17 e18 => L_op (.guard 11 false 19 rfl rfl (ltb rfl) (congrArg Value.bool b13_)) rfl (ltb rfl) (X_not rfl) <| L_op (.plain rfl) rfl (ltb rfl) (X_pick (b := false) (v := (.bool (!(treeOK a1)))) (congrArg Value.bool b13_) rfl) ?_
      obtain rfl := Option.some.inj H
      exact L_nil <| thn_n ⟨(Kp.upd (Kp.upd (Kp.upd (Kp.upd (Kp.refl _ _) rfl) rfl) rfl) rfl), ⟨_, rfl, rfl⟩, e18⟩
  intro s21 w17 z22 K18 hq h19 e20
  rw [hq] at h19; clear hq
  refine L_op (.plain rfl) rfl (ltb rfl) (X_mkiface Tryz.underlying4 rfl h19) <| L_op (.plain rfl) rfl (ltb rfl) (X_mkiface Tryz.underlying3 rfl rfl) <| L_lit (.plain rfl) rfl (ltb rfl) rfl Tryz.underlying119 Tryz.sizeOf20 Tryz.zeroValue20 rfl rfl rfl (vs := [(.iface 4 (.bool ((decide (4096 < a0.length)) || (decide (4096 < a1.length))))), (.iface 3 (.int .i64 2)), (.iface 4 (.bool z15)), (.iface 3 (.int .i64 1))]) (cons2 (K18 14 rfl) (cons2 (K18 15 rfl) (cons2 rfl (cons2 rfl rfl)))) (lit_all rfl) <| fun b23 w24 z25 z26 e27 k28 => ?_
  obtain ⟨c29, H⟩ := bif_some H
  obtain ⟨z32, x33, H⟩ := bind_some H
  replace x33 := Option.some.inj x33
  refine L_callP (.plain rfl) rfl (ltb rfl) rfl Tryz.call68 (impl_first.calls (w := w24) (a0 := ([.inl ((decide (4096 < a0.length)) || (decide (4096 < a1.length))), .inr 2, .inl z15, .inr 1] : List (Bool ⊕ Int))) (Ow.rd (Ow.new (xs := [.inl ((decide (4096 < a0.length)) || (decide (4096 < a1.length))), .inr 2, .inl z15, .inr 1]) (sz := 1) (enc := (encAny 4 3)) (base := w17.heap.size) k28 (Nat.le_of_eq z25) rfl (fun _ _ => by first | rfl | exact encAny_len _ _ _) (Nat.le_of_ble_eq_true rfl))) (of_decide_eq_true c29)) rfl <| fun w30 e31 => L_op (.plain rfl) rfl (ltb rfl) (X_assign (v := (.int .i64 z32)) (congrArg (Value.int .i64) x33)) <| L_nil <| thn_n <| W_seq <| W_reg <| L_op (.plain rfl) rfl (ltb rfl) (X_move (v := (.int .i64 z32)) rfl) <| L_op (.plain rfl) rfl (ltb rfl) (X_neq rfl rfl) <| L_nil <| thn_n ?_
  rcases bif_two H with ⟨q34, H⟩ | ⟨q34, H⟩
  · refine W_true (congrArg Value.bool q34) <| W_seq <| W_reg <| L_op (.plain rfl) rfl (ltb rfl) (X_move (v := (.int .i64 z32)) rfl) <| L_op (.plain rfl) rfl (ltb rfl) (X_assign (v := (.slice none 0 0)) rfl) <| L_op (.plain rfl) rfl (ltb rfl) (X_assign (v := (.int .i64 z32)) rfl) <| L_nil <| thn_n <| W_ret <| thn_r <| fin_r ?_
    obtain rfl := Option.some.inj H
    exact fin2o rfl rfl (Ext.trans (Ext.trans (Ext.trans (Ext.trans (Ext.trans e2 e7) e13) e20) e27) e31) (Ow.zero (base := w.heap.size)) (Nat.le_refl _)
  · refine W_false (congrArg Value.bool q34) <| W_skip <| thn_n <| W_seq <| W_reg <| L_op (.plain rfl) rfl (ltb rfl) (X_move (v := v_a0) ((K18 0 rfl).trans (K5 0 rfl))) <| L_op (.plain rfl) rfl (ltb rfl) (X_move (v := v_a1) ((K18 1 rfl).trans (K5 1 rfl))) ?_
    obtain ⟨c35, H⟩ := bif_some H
    obtain ⟨c36, H⟩ := bif_some H
    obtain ⟨c37, H⟩ := bif_some H
    refine L_callO (.plain rfl) rfl (ltb rfl) rfl Tryz.call80 (impl_applyAll.calls (w := w30) (a0 := a0) (a1 := a1) (GV.ext gv (Ext.trans (Ext.trans (Ext.trans (Ext.trans (Ext.trans e2 e7) e13) e20) e27) e31)) (Rd2.ext f_a0 (Ext.trans (Ext.trans (Ext.trans (Ext.trans (Ext.trans e2 e7) e13) e20) e27) e31)) (Rd.ext f_a1 (Ext.trans (Ext.trans (Ext.trans (Ext.trans (Ext.trans e2 e7) e13) e20) e27) e31)) (of_decide_eq_true c35) (of_decide_eq_true c36) (of_decide_eq_true c37)) rfl <| fun v40 w38 e39 o41 => L_op (.plain rfl) rfl (ltb rfl) (X_assign (v := v40) rfl) <| L_nil <| thn_n <| W_seq <| W_seq <| W_reg <| L_op (.plain rfl) rfl (ltb rfl) (X_move (v := v40) rfl) <| L_op (.plain rfl) rfl (ltb rfl) (X_lenR Tryz.underlying30 rfl (Ow.rd o41)) <| L_op (.plain rfl) rfl (ltb rfl) (X_gtr rfl rfl) <| L_nil <| thn_n ?_
    rcases bif_two H with ⟨q42, H⟩ | ⟨q42, H⟩
    · refine W_true (congrArg Value.bool q42) <| W_seq <| W_reg <| L_op (.plain rfl) rfl (ltb rfl) (X_assign (v := (.slice none 0 0)) rfl) <| L_op (.plain rfl) rfl (ltb rfl) (X_assign (v := (.int .i64 7)) rfl) <| L_nil <| thn_n <| W_ret <| thn_r <| fin_r ?_
      obtain rfl := Option.some.inj H
      exact fin2o rfl rfl (Ext.trans (Ext.trans (Ext.trans (Ext.trans (Ext.trans (Ext.trans e2 e7) e13) e20) e27) e31) e39) (Ow.zero (base := w.heap.size)) (Nat.le_refl _)
    · refine W_false (congrArg Value.bool q42) <| W_skip <| thn_n <| W_seq <| W_reg <| L_op (.plain rfl) rfl (ltb rfl) (X_move (v := v40) rfl) <| L_op (.plain rfl) rfl (ltb rfl) (X_assign (v := v40) rfl) <| L_op (.plain rfl) rfl (ltb rfl) (X_assign (v := (.int .i64 0)) rfl) <| L_nil <| thn_n <| W_ret <| fin_r ?_
      obtain rfl := Option.some.inj H
      exact fin2o rfl rfl (Ext.trans (Ext.trans (Ext.trans (Ext.trans (Ext.trans (Ext.trans e2 e7) e13) e20) e27) e31) e39) o41 ((Ext.trans (Ext.trans (Ext.trans (Ext.trans (Ext.trans e2 e7) e13) e20) e27) e31)).size
theorem impl_ApplyAll.calls {w : World} {a0 : List (List Rec)} {a1 : List Nd} (gv : GV 0 w) {v_a0 : Value} (f_a0 : Rd2 5 encRec w v_a0 a0) {v_a1 : Value} (f_a1 : Rd 4 encNd w v_a1 a1) (h0 : a0.length ≤ 1048576) (h1 : ∀ l ∈ a0, l.length ≤ 1048576) (h2 : ∀ l ∈ a0, ∀ x ∈ l, x.path.length ≤ 1048576) (h3 : a1.length ≤ 1048576) (h4 : ∀ x ∈ a1, x.path.length ≤ 1048576) :
    Calls Tryz.prog 35 #[v_a0, v_a1] w (Rt (RT 80 4 encNd w ((applyAllOf a0 a1).1) (.int .i64 ((applyAllOf a0 a1).2)))) := impl_ApplyAll.walk gv f_a0 f_a1 (impl_ApplyAll.eq a0 a1 h0 h1 h2 h3 h4)
/-! laws.FnExactApplyAll -/
abbrev law_ApplyAll.e1 (a0 : List (List Rec)) (a1 : List Nd) := (!(decide (((applyAllOf a0 a1).1) = ((applyAllOf a0 a1).1))))
theorem law_ApplyAll.walk {w : World} {a0 : List (List Rec)} {a1 : List Nd} (gv : GV 0 w) {v_a0 : Value} (f_a0 : Rd2 5 encRec w v_a0 a0) {v_a1 : Value} (f_a1 : Rd 4 encNd w v_a1 a1) {r : Bool} (H : law_ApplyAll.sh a0 a1 = some r) :
    Calls Tryz.prog 6 #[v_a0, v_a1] w (Rt (RP w (.bool r))) := by
  unfold law_ApplyAll.sh at H
  refine calls_of_W Tryz.func6 rfl (Nat.le_of_ble_eq_true rfl) Tryz.ntmps6 rfl ?_
  refine W_seq <| W_reg <| L_op (.plain rfl) rfl (ltb rfl) (X_assign (v := (.bool false)) rfl) <| L_nil <| thn_n <| W_seq <| W_reg <| L_op (.plain rfl) rfl (ltb rfl) (X_assign (v := (.int .i64 1048576)) rfl) <| L_nil <| thn_n <| W_seq <| W_reg <| L_op (.plain rfl) rfl (ltb rfl) (X_move (v := v_a0) rfl) <| L_op (.plain rfl) rfl (ltb rfl) (X_move (v := (.int .i64 1048576)) rfl) ?_
  obtain ⟨c1, H⟩ := bif_some H
  obtain ⟨c2, H⟩ := bif_some H
  obtain ⟨c3, H⟩ := bif_some H
  obtain ⟨c4, H⟩ := bif_some H
  obtain ⟨c5, H⟩ := bif_some H
  refine L_callP (.plain rfl) rfl (ltb rfl) rfl Tryz.call23 (laws_szRecordSS.calls (w := w) (a0 := a0) (a1 := 1048576) f_a0 (of_decide_eq_true c1) (of_decide_eq_true c2) (of_decide_eq_true c3) (of_decide_eq_true c4) (of_decide_eq_true c5)) rfl <| fun w6 e7 => L_op (.plain rfl) rfl (ltb rfl) (X_assign (v := (.int .i64 (szRecSS a0 1048576))) rfl) <| L_nil <| thn_n <| W_seq <| W_seq <| W_reg <| L_op (.plain rfl) rfl (ltb rfl) (X_move (v := (.int .i64 (szRecSS a0 1048576))) rfl) <| L_op (.plain rfl) rfl (ltb rfl) (X_lss rfl rfl) <| L_nil <| thn_n ?_
  rcases bif_two H with ⟨q8, H⟩ | ⟨q8, H⟩
  · refine W_true (congrArg Value.bool q8) <| W_seq <| W_reg <| L_op (.plain rfl) rfl (ltb rfl) (X_assign (v := (.bool true)) rfl) <| L_nil <| thn_n <| W_ret <| thn_r <| fin_r ?_
    obtain rfl := Option.some.inj H
    exact fin1 rfl e7
  · refine W_false (congrArg Value.bool q8) <| W_skip <| thn_n <| W_seq <| W_reg <| L_op (.plain rfl) rfl (ltb rfl) (X_move (v := v_a1) rfl) <| L_op (.plain rfl) rfl (ltb rfl) (X_move (v := (.int .i64 (szRecSS a0 1048576))) rfl) ?_
    obtain ⟨c9, H⟩ := bif_some H
    obtain ⟨c10, H⟩ := bif_some H
    obtain ⟨c11, H⟩ := bif_some H
    obtain ⟨c12, H⟩ := bif_some H
    refine L_callP (.plain rfl) rfl (ltb rfl) rfl Tryz.call16 (laws_szNodeS.calls (w := w6) (a0 := a1) (a1 := (szRecSS a0 1048576)) (Rd.ext f_a1 e7) (of_decide_eq_true c9) (of_decide_eq_true c10) (of_decide_eq_true c11) (of_decide_eq_true c12)) rfl <| fun w13 e14 => L_op (.plain rfl) rfl (ltb rfl) (X_assign (v := (.int .i64 (szNdS a1 (szRecSS a0 1048576)))) rfl) <| L_nil <| thn_n <| W_seq <| W_seq <| W_reg <| L_op (.plain rfl) rfl (ltb rfl) (X_move (v := (.int .i64 (szNdS a1 (szRecSS a0 1048576)))) rfl) <| L_op (.plain rfl) rfl (ltb rfl) (X_lss rfl rfl) <| L_nil <| thn_n ?_
    rcases bif_two H with ⟨q15, H⟩ | ⟨q15, H⟩
    · refine W_true (congrArg Value.bool q15) <| W_seq <| W_reg <| L_op (.plain rfl) rfl (ltb rfl) (X_assign (v := (.bool true)) rfl) <| L_nil <| thn_n <| W_ret <| thn_r <| fin_r ?_
      obtain rfl := Option.some.inj H
      exact fin1 rfl (Ext.trans e7 e14)
    · refine W_false (congrArg Value.bool q15) <| W_skip <| thn_n <| W_seq <| W_reg <| L_op (.plain rfl) rfl (ltb rfl) (X_move (v := v_a0) rfl) ?_
      obtain ⟨c16, H⟩ := bif_some H
      obtain ⟨c17, H⟩ := bif_some H
      refine L_callOS (.plain rfl) rfl (ltb rfl) rfl Tryz.call25 (laws_toRecordSS.calls (w := w13) (a0 := a0) (Rd2.ext f_a0 (Ext.trans e7 e14)) (of_decide_eq_true c16) (of_decide_eq_true c17)) rfl <| fun v20 w18 e19 o21 => L_op (.plain rfl) rfl (ltb rfl) (X_move (v := v_a1) rfl) ?_
      obtain ⟨c22, H⟩ := bif_some H
      refine L_callO (.plain rfl) rfl (ltb rfl) rfl Tryz.call19 (laws_toNodeS.calls (w := w18) (a0 := a1) (Rd.ext f_a1 (Ext.trans (Ext.trans e7 e14) e19)) (of_decide_eq_true c22)) rfl <| fun v25 w23 e24 o26 => ?_
      obtain ⟨c27, H⟩ := bif_some H
      obtain ⟨c28, H⟩ := bif_some H
      obtain ⟨c29, H⟩ := bif_some H
      obtain ⟨c30, H⟩ := bif_some H
      obtain ⟨c31, H⟩ := bif_some H
      refine L_callT (.plain rfl) rfl (ltb rfl) rfl Tryz.call34 (spec_ApplyAll.calls (w := w23) (a0 := a0) (a1 := a1) (Own2.rd (Own2.ext o21 e24)) (Ow.rd o26) (of_decide_eq_true c27) (of_decide_eq_true c28) (of_decide_eq_true c29) (of_decide_eq_true c30) (of_decide_eq_true c31)) rfl <| fun v34 w32 e33 o35 => L_op (.plain rfl) rfl (ltb rfl) (X_move (v := (.tuple #[v34, (.int .i64 ((applyAllOf a0 a1).2))])) rfl) <| L_op (.plain rfl) rfl (ltb rfl) (X_extract (v := v34) rfl rfl) <| L_op (.plain rfl) rfl (ltb rfl) (X_extract (v := (.int .i64 ((applyAllOf a0 a1).2))) rfl rfl) <| L_op (.plain rfl) rfl (ltb rfl) (X_assign (v := v34) rfl) <| L_op (.plain rfl) rfl (ltb rfl) (X_assign (v := (.int .i64 ((applyAllOf a0 a1).2))) rfl) <| L_nil <| thn_n <| W_seq <| W_reg <| L_op (.plain rfl) rfl (ltb rfl) (X_move (v := v_a0) rfl) ?_
      obtain ⟨c36, H⟩ := bif_some H
      obtain ⟨c37, H⟩ := bif_some H
      refine L_callOS (.plain rfl) rfl (ltb rfl) rfl Tryz.call25 (laws_toRecordSS.calls (w := w32) (a0 := a0) (Rd2.ext f_a0 (Ext.trans (Ext.trans (Ext.trans (Ext.trans e7 e14) e19) e24) e33)) (of_decide_eq_true c36) (of_decide_eq_true c37)) rfl <| fun v40 w38 e39 o41 => L_op (.plain rfl) rfl (ltb rfl) (X_assign (v := v40) rfl) <| L_nil <| thn_n <| W_seq <| W_reg <| L_op (.plain rfl) rfl (ltb rfl) (X_move (v := v_a1) rfl) ?_
      obtain ⟨c42, H⟩ := bif_some H
      refine L_callO (.plain rfl) rfl (ltb rfl) rfl Tryz.call19 (laws_toNodeS.calls (w := w38) (a0 := a1) (Rd.ext f_a1 (Ext.trans (Ext.trans (Ext.trans (Ext.trans (Ext.trans e7 e14) e19) e24) e33) e39)) (of_decide_eq_true c42)) rfl <| fun v45 w43 e44 o46 => L_op (.plain rfl) rfl (ltb rfl) (X_assign (v := v45) rfl) <| L_nil <| thn_n <| W_seq <| W_reg <| L_op (.plain rfl) rfl (ltb rfl) (X_move (v := v40) rfl) <| L_op (.plain rfl) rfl (ltb rfl) (X_move (v := v45) rfl) ?_
      obtain ⟨c47, H⟩ := bif_some H
      obtain ⟨c48, H⟩ := bif_some H
      obtain ⟨c49, H⟩ := bif_some H
      obtain ⟨c50, H⟩ := bif_some H
      obtain ⟨c51, H⟩ := bif_some H
      refine L_callT (.plain rfl) rfl (ltb rfl) rfl Tryz.call35 (impl_ApplyAll.calls (w := w43) (a0 := a0) (a1 := a1) (GV.ext gv (Ext.trans (Ext.trans (Ext.trans (Ext.trans (Ext.trans (Ext.trans e7 e14) e19) e24) e33) e39) e44)) (Own2.rd (Own2.ext o41 e44)) (Ow.rd o46) (of_decide_eq_true c47) (of_decide_eq_true c48) (of_decide_eq_true c49) (of_decide_eq_true c50) (of_decide_eq_true c51)) rfl <| fun v54 w52 e53 o55 => L_op (.plain rfl) rfl (ltb rfl) (X_move (v := (.tuple #[v54, (.int .i64 ((applyAllOf a0 a1).2))])) rfl) <| L_op (.plain rfl) rfl (ltb rfl) (X_extract (v := v54) rfl rfl) <| L_op (.plain rfl) rfl (ltb rfl) (X_extract (v := (.int .i64 ((applyAllOf a0 a1).2))) rfl rfl) <| L_op (.plain rfl) rfl (ltb rfl) (X_assign (v := v54) rfl) <| L_op (.plain rfl) rfl (ltb rfl) (X_assign (v := (.int .i64 ((applyAllOf a0 a1).2))) rfl) <| L_nil <| thn_n <| W_seq <| W_seq <| W_reg <| L_op (.plain rfl) rfl (ltb rfl) (X_move (v := v54) rfl) <| L_op (.plain rfl) rfl (ltb rfl) (X_move (v := v34) rfl) ?_
      obtain ⟨c56, H⟩ := bif_some H
      refine L_callP (.plain rfl) rfl (ltb rfl) rfl Tryz.call22 (laws_eqNodeS.calls (w := w52) (a0 := (applyAllOf a0 a1).1) (a1 := (applyAllOf a0 a1).1) (Ow.rd o55) (Ow.rd (Ow.ext o35 (Ext.trans (Ext.trans e39 e44) e53))) (of_decide_eq_true c56)) rfl <| fun w57 e58 => L_op (.plain rfl) rfl (ltb rfl) (X_not rfl) <| L_op (.plain rfl) rfl (ltb rfl) (X_move (v := (.bool (law_ApplyAll.e1 a0 a1))) rfl) <| L_grp 4 [(50, 54)] 53 (.bool ((law_ApplyAll.e1 a0 a1) || (!decide (((applyAllOf a0 a1).2) = ((applyAllOf a0 a1).2))))) ?_ ?_
      · rcases bool_two (law_ApplyAll.e1 a0 a1) with b58_ | b58_
        · exact L_skip rfl rfl (ltb rfl) (congrArg Value.bool b58_) rfl rfl (ltb rfl) <| L_skip rfl rfl (ltb rfl) (congrArg Value.bool b58_) rfl rfl (ltb rfl) <| L_skip rfl rfl (ltb rfl) (congrArg Value.bool b58_) rfl rfl (ltb rfl) <| L_op (.plain rfl) rfl (ltb rfl) (X_pick (b := true) (v := (.bool true)) (congrArg Value.bool b58_) rfl) <| L_nil <| thn_n ⟨(Kp.upd (Kp.upd (Kp.upd (Kp.upd (Kp.refl _ _) rfl) rfl) rfl) rfl), (or_t b58_), (Ext.refl w57)⟩
        · exact L_op (.guard 4 false 49 rfl rfl (ltb rfl) (congrArg Value.bool b58_)) rfl (ltb rfl) (X_move (v := (.int .i64 ((applyAllOf a0 a1).2))) rfl) <| L_op (.guard 4 false 49 rfl rfl (ltb rfl) (congrArg Value.bool b58_)) rfl (ltb rfl) (X_move (v := (.int .i64 ((applyAllOf a0 a1).2))) rfl) <| L_op (.guard 4 false 49 rfl rfl (ltb rfl) (congrArg Value.bool b58_)) rfl (ltb rfl) (X_neq rfl rfl) <| L_op (.plain rfl) rfl (ltb rfl) (X_pick (b := false) (v := (.bool (!decide (((applyAllOf a0 a1).2) = ((applyAllOf a0 a1).2))))) (congrArg Value.bool b58_) rfl) <| L_nil <| thn_n ⟨(Kp.upd (Kp.upd (Kp.upd (Kp.upd (Kp.refl _ _) rfl) rfl) rfl) rfl), (or_f b58_), (Ext.refl w57)⟩
      intro s64 w60 K61 h62 e63
      refine L_nil <| thn_n ?_
      rcases bif_two H with ⟨q65, H⟩ | ⟨q65, H⟩
      · refine W_true (h62.trans (congrArg Value.bool q65)) <| W_seq <| W_reg <| L_op (.plain rfl) rfl (ltb rfl) (X_assign (v := (.bool false)) rfl) <| L_nil <| thn_n <| W_ret <| thn_r <| fin_r ?_
        obtain rfl := Option.some.inj H
        exact fin1 rfl (Ext.trans (Ext.trans (Ext.trans (Ext.trans (Ext.trans (Ext.trans (Ext.trans (Ext.trans (Ext.trans e7 e14) e19) e24) e33) e39) e44) e53) e58) e63)
      · refine W_false (h62.trans (congrArg Value.bool q65)) <| W_skip <| thn_n <| W_seq <| W_seq <| W_reg <| L_op (.plain rfl) rfl (ltb rfl) (X_move (v := v40) (K61 8 rfl)) <| L_op (.plain rfl) rfl (ltb rfl) (X_move (v := v_a0) (K61 0 rfl)) ?_
        obtain ⟨c66, H⟩ := bif_some H
        obtain ⟨c67, H⟩ := bif_some H
        refine L_callOS (.plain rfl) rfl (ltb rfl) rfl Tryz.call25 (laws_toRecordSS.calls (w := w60) (a0 := a0) (Rd2.ext f_a0 (Ext.trans (Ext.trans (Ext.trans (Ext.trans (Ext.trans (Ext.trans (Ext.trans (Ext.trans (Ext.trans e7 e14) e19) e24) e33) e39) e44) e53) e58) e63)) (of_decide_eq_true c66) (of_decide_eq_true c67)) rfl <| fun v70 w68 e69 o71 => ?_
        obtain ⟨c72, H⟩ := bif_some H
        obtain ⟨c73, H⟩ := bif_some H
        refine L_callP (.plain rfl) rfl (ltb rfl) rfl Tryz.call27 (laws_eqRecordSS.calls (w := w68) (a0 := a0) (a1 := a0) (Own2.rd (Own2.ext o41 (Ext.trans (Ext.trans (Ext.trans (Ext.trans e44 e53) e58) e63) e69))) (Own2.rd o71) (of_decide_eq_true c72) (of_decide_eq_true c73)) rfl <| fun w74 e75 => L_op (.plain rfl) rfl (ltb rfl) (X_not rfl) <| L_nil <| thn_n ?_
        rcases bif_two H with ⟨q76, H⟩ | ⟨q76, H⟩
        · refine W_true (congrArg Value.bool q76) <| W_seq <| W_reg <| L_op (.plain rfl) rfl (ltb rfl) (X_assign (v := (.bool false)) rfl) <| L_nil <| thn_n <| W_ret <| thn_r <| fin_r ?_
          obtain rfl := Option.some.inj H
          exact fin1 rfl (Ext.trans (Ext.trans (Ext.trans (Ext.trans (Ext.trans (Ext.trans (Ext.trans (Ext.trans (Ext.trans (Ext.trans (Ext.trans e7 e14) e19) e24) e33) e39) e44) e53) e58) e63) e69) e75)
        · refine W_false (congrArg Value.bool q76) <| W_skip <| thn_n <| W_seq <| W_seq <| W_reg <| L_op (.plain rfl) rfl (ltb rfl) (X_move (v := v45) (K61 9 rfl)) <| L_op (.plain rfl) rfl (ltb rfl) (X_move (v := v_a1) (K61 1 rfl)) ?_
          obtain ⟨c77, H⟩ := bif_some H
          refine L_callO (.plain rfl) rfl (ltb rfl) rfl Tryz.call19 (laws_toNodeS.calls (w := w74) (a0 := a1) (Rd.ext f_a1 (Ext.trans (Ext.trans (Ext.trans (Ext.trans (Ext.trans (Ext.trans (Ext.trans (Ext.trans (Ext.trans (Ext.trans (Ext.trans e7 e14) e19) e24) e33) e39) e44) e53) e58) e63) e69) e75)) (of_decide_eq_true c77)) rfl <| fun v80 w78 e79 o81 => ?_
          obtain ⟨c82, H⟩ := bif_some H
          refine L_callP (.plain rfl) rfl (ltb rfl) rfl Tryz.call22 (laws_eqNodeS.calls (w := w78) (a0 := a1) (a1 := a1) (Ow.rd (Ow.ext o46 (Ext.trans (Ext.trans (Ext.trans (Ext.trans (Ext.trans e53 e58) e63) e69) e75) e79))) (Ow.rd o81) (of_decide_eq_true c82)) rfl <| fun w83 e84 => L_op (.plain rfl) rfl (ltb rfl) (X_not rfl) <| L_nil <| thn_n ?_
          rcases bif_two H with ⟨q85, H⟩ | ⟨q85, H⟩
          · refine W_true (congrArg Value.bool q85) <| W_seq <| W_reg <| L_op (.plain rfl) rfl (ltb rfl) (X_assign (v := (.bool false)) rfl) <| L_nil <| thn_n <| W_ret <| thn_r <| fin_r ?_
            obtain rfl := Option.some.inj H
            exact fin1 rfl (Ext.trans (Ext.trans (Ext.trans (Ext.trans (Ext.trans (Ext.trans (Ext.trans (Ext.trans (Ext.trans (Ext.trans (Ext.trans (Ext.trans (Ext.trans e7 e14) e19) e24) e33) e39) e44) e53) e58) e63) e69) e75) e79) e84)
          · refine W_false (congrArg Value.bool q85) <| W_skip <| thn_n <| W_seq <| W_reg <| L_op (.plain rfl) rfl (ltb rfl) (X_assign (v := (.int .i64 1)) rfl) <| L_nil <| thn_n <| W_seq <| W_reg <| L_op (.plain rfl) rfl (ltb rfl) (X_move (v := v40) (K61 8 rfl)) <| L_op (.plain rfl) rfl (ltb rfl) (X_move (v := (.int .i64 1)) rfl) ?_
            obtain ⟨c86, H⟩ := bif_some H
            obtain ⟨c87, H⟩ := bif_some H
            obtain ⟨c88, H⟩ := bif_some H
            obtain ⟨c89, H⟩ := bif_some H
            refine L_callM2 (.plain rfl) rfl (ltb rfl) rfl Tryz.call28 (laws_markRecordSS.calls (w := w83) (a0 := a0) (a1 := 1) (Own2.ext o41 (Ext.trans (Ext.trans (Ext.trans (Ext.trans (Ext.trans (Ext.trans (Ext.trans e44 e53) e58) e63) e69) e75) e79) e84)) (Own2.hbx o41 (Ext.trans (Ext.trans (Ext.trans (Ext.trans (Ext.trans (Ext.trans (Ext.trans e44 e53) e58) e63) e69) e75) e79) e84)) (of_decide_eq_true c86) (of_decide_eq_true c87) (of_decide_eq_true c88) (of_decide_eq_true c89)) rfl <| fun w90 e91 o92 => L_op (.plain rfl) rfl (ltb rfl) (X_assign (v := (.int .i64 (1 + 5 * (totL a0 : Int)))) rfl) <| L_nil <| thn_n <| W_seq <| W_reg <| L_op (.plain rfl) rfl (ltb rfl) (X_move (v := v45) (K61 9 rfl)) <| L_op (.plain rfl) rfl (ltb rfl) (X_move (v := (.int .i64 (1 + 5 * (totL a0 : Int)))) rfl) ?_
            obtain ⟨c93, H⟩ := bif_some H
            obtain ⟨c94, H⟩ := bif_some H
            obtain ⟨c95, H⟩ := bif_some H
            refine L_callM (.plain rfl) rfl (ltb rfl) rfl Tryz.call29 (laws_markNodeS.calls (w := w90) (a0 := a1) (a1 := (1 + 5 * (totL a0 : Int))) (Ow.later (Ow.ext o46 (Ext.trans (Ext.trans (Ext.trans (Ext.trans (Ext.trans (Ext.trans e53 e58) e63) e69) e75) e79) e84)) e91 (Ext.refl w38).size) (Ow.hb o46) (of_decide_eq_true c93) (of_decide_eq_true c94) (of_decide_eq_true c95)) rfl <| fun w96 e97 o98 => L_op (.plain rfl) rfl (ltb rfl) (X_assign (v := (.int .i64 ((1 + 5 * (totL a0 : Int)) + 4 * (a1.length : Int)))) rfl) <| L_nil <| thn_n <| W_seq <| W_seq <| W_reg <| L_op (.plain rfl) rfl (ltb rfl) (X_move (v := (.int .i64 ((1 + 5 * (totL a0 : Int)) + 4 * (a1.length : Int)))) rfl) <| L_op (.plain rfl) rfl (ltb rfl) (X_lss rfl rfl) <| L_op (.plain rfl) rfl (ltb rfl) (X_move rfl) ?_
            obtain ⟨z100, x101, H⟩ := bind_some H
            refine L_grpE 5 [(73, 78)] 77 (fun q => q = z100) ?_ ?_
            · rcases bif_two x101 with ⟨b98_, H⟩ | ⟨b98_, H⟩
              · refine L_skip rfl rfl (ltb rfl) (congrArg Value.bool b98_) rfl rfl (ltb rfl) <| L_skip rfl rfl (ltb rfl) (congrArg Value.bool b98_) rfl rfl (ltb rfl) <| L_skip rfl rfl (ltb rfl) (congrArg Value.bool b98_) rfl rfl (ltb rfl) <| L_skip rfl rfl (ltb rfl) (congrArg Value.bool b98_) rfl rfl (ltb rfl) <| L_op (.plain rfl) rfl (ltb rfl) (X_pick (b := true) (v := (.bool true)) (congrArg Value.bool b98_) rfl) ?_
                obtain rfl := Option.some.inj H
                exact L_nil <| thn_n ⟨(Kp.upd (Kp.upd (Kp.upd (Kp.upd (Kp.upd (Kp.refl _ _) rfl) rfl) rfl) rfl) rfl), ⟨_, rfl, rfl⟩, (Ext.refl w96)⟩
              · refine L_op (.guard 2 false 72 rfl rfl (ltb rfl) (congrArg Value.bool b98_)) rfl (ltb rfl) (X_move (v := v54) (K61 10 rfl)) <| L_op (.guard 2 false 72 rfl rfl (ltb rfl) (congrArg Value.bool b98_)) rfl (ltb rfl) (X_move (v := v34) (K61 6 rfl)) ?_
                obtain ⟨c100, H⟩ := bif_some H
                refine L_callP (.guard 2 false 72 rfl rfl (ltb rfl) (congrArg Value.bool b98_)) rfl (ltb rfl) rfl Tryz.call22 (laws_eqNodeS.calls (w := w96) (a0 := (applyAllOf a0 a1).1) (a1 := (applyAllOf a0 a1).1) (Ow.rd (Ow.later (Ow.later (Ow.ext o55 (Ext.trans (Ext.trans (Ext.trans (Ext.trans (Ext.trans e58 e63) e69) e75) e79) e84)) e91 e44.size) e97 (Ext.refl w43).size)) (Ow.rd (Ow.ext o35 (Ext.gr (Ext.gr (Ext.trans (Ext.trans (Ext.trans (Ext.trans (Ext.trans (Ext.trans (Ext.trans (Ext.trans e39 e44) e53) e58) e63) e69) e75) e79) e84) e91 (Ext.refl w32).size) e97 e39.size))) (of_decide_eq_true c100)) rfl <| fun w101 e102 => L_op (.guard 2 false 72 rfl rfl (ltb rfl) (congrArg Value.bool b98_)) rfl (ltb rfl) (X_not rfl) <| L_op (.plain rfl) rfl (ltb rfl) (X_pick (b := false) (v := (.bool (law_ApplyAll.e1 a0 a1))) (congrArg Value.bool b98_) rfl) ?_
                obtain rfl := Option.some.inj H
                exact L_nil <| thn_n ⟨(Kp.upd (Kp.upd (Kp.upd (Kp.upd (Kp.upd (Kp.refl _ _) rfl) rfl) rfl) rfl) rfl), ⟨_, rfl, rfl⟩, e102⟩
            intro s106 w102 z107 K103 hq h104 e105
            rw [hq] at h104; clear hq
            refine L_op (.plain rfl) rfl (ltb rfl) (X_move (v := (.bool z100)) h104) <| L_grp 4 [(79, 83)] 82 (.bool (z100 || (!decide (((applyAllOf a0 a1).2) = ((applyAllOf a0 a1).2))))) ?_ ?_
            · rcases bool_two z100 with b107_ | b107_
              · exact L_skip rfl rfl (ltb rfl) (congrArg Value.bool b107_) rfl rfl (ltb rfl) <| L_skip rfl rfl (ltb rfl) (congrArg Value.bool b107_) rfl rfl (ltb rfl) <| L_skip rfl rfl (ltb rfl) (congrArg Value.bool b107_) rfl rfl (ltb rfl) <| L_op (.plain rfl) rfl (ltb rfl) (X_pick (b := true) (v := (.bool true)) (congrArg Value.bool b107_) rfl) <| L_nil <| thn_n ⟨(Kp.upd (Kp.upd (Kp.upd (Kp.upd (Kp.refl _ _) rfl) rfl) rfl) rfl), (or_t b107_), (Ext.refl w102)⟩
              · exact L_op (.guard 8 false 78 rfl rfl (ltb rfl) (congrArg Value.bool b107_)) rfl (ltb rfl) (X_move (v := (.int .i64 ((applyAllOf a0 a1).2))) ((K103 11 rfl).trans (K61 11 rfl))) <| L_op (.guard 8 false 78 rfl rfl (ltb rfl) (congrArg Value.bool b107_)) rfl (ltb rfl) (X_move (v := (.int .i64 ((applyAllOf a0 a1).2))) ((K103 7 rfl).trans (K61 7 rfl))) <| L_op (.guard 8 false 78 rfl rfl (ltb rfl) (congrArg Value.bool b107_)) rfl (ltb rfl) (X_neq rfl rfl) <| L_op (.plain rfl) rfl (ltb rfl) (X_pick (b := false) (v := (.bool (!decide (((applyAllOf a0 a1).2) = ((applyAllOf a0 a1).2))))) (congrArg Value.bool b107_) rfl) <| L_nil <| thn_n ⟨(Kp.upd (Kp.upd (Kp.upd (Kp.upd (Kp.refl _ _) rfl) rfl) rfl) rfl), (or_f b107_), (Ext.refl w102)⟩
            intro s113 w109 K110 h111 e112
            refine L_nil <| thn_n ?_
            rcases bif_two H with ⟨q114, H⟩ | ⟨q114, H⟩
            · refine W_true (h111.trans (congrArg Value.bool q114)) <| W_seq <| W_reg <| L_op (.plain rfl) rfl (ltb rfl) (X_assign (v := (.bool false)) rfl) <| L_nil <| thn_n <| W_ret <| thn_r <| fin_r ?_
              obtain rfl := Option.some.inj H
              exact fin1 rfl (Ext.trans (Ext.trans (Ext.trans (Ext.trans (Ext.trans (Ext.trans (Ext.trans e7 e14) e19) e24) e33) (Ext.gr (Ext.gr (Ext.trans (Ext.trans (Ext.trans (Ext.trans (Ext.trans (Ext.trans (Ext.trans (Ext.trans e39 e44) e53) e58) e63) e69) e75) e79) e84) e91 (Ext.refl w32).size) e97 e39.size)) e105) e112)
            · refine W_false (h111.trans (congrArg Value.bool q114)) <| W_skip <| thn_n <| W_seq <| W_reg <| L_op (.plain rfl) rfl (ltb rfl) (X_assign (v := (.int .i64 1)) rfl) <| L_nil <| thn_n <| W_seq <| W_reg <| L_op (.plain rfl) rfl (ltb rfl) (X_move (v := v54) ((K110 10 rfl).trans ((K103 10 rfl).trans (K61 10 rfl)))) <| L_op (.plain rfl) rfl (ltb rfl) (X_move (v := (.int .i64 1)) rfl) ?_
              obtain ⟨c115, H⟩ := bif_some H
              obtain ⟨c116, H⟩ := bif_some H
              obtain ⟨c117, H⟩ := bif_some H
              refine L_callM (.plain rfl) rfl (ltb rfl) rfl Tryz.call29 (laws_markNodeS.calls (w := w109) (a0 := (applyAllOf a0 a1).1) (a1 := 1) (Ow.ext (Ow.later (Ow.later (Ow.ext o55 (Ext.trans (Ext.trans (Ext.trans (Ext.trans (Ext.trans e58 e63) e69) e75) e79) e84)) e91 e44.size) e97 (Ext.refl w43).size) (Ext.trans e105 e112)) (Ow.hb o55) (of_decide_eq_true c115) (of_decide_eq_true c116) (of_decide_eq_true c117)) rfl <| fun w118 e119 o120 => L_op (.plain rfl) rfl (ltb rfl) (X_assign (v := (.int .i64 (1 + 4 * (((applyAllOf a0 a1).1).length : Int)))) rfl) <| L_nil <| thn_n <| W_seq <| W_reg <| L_op (.plain rfl) rfl (ltb rfl) (X_assign (v := (.int .i64 1)) rfl) <| L_nil <| thn_n <| W_seq <| W_reg <| L_op (.plain rfl) rfl (ltb rfl) (X_move (v := v54) ((K110 10 rfl).trans ((K103 10 rfl).trans (K61 10 rfl)))) <| L_op (.plain rfl) rfl (ltb rfl) (X_move (v := (.int .i64 1)) rfl) ?_
              obtain ⟨c121, H⟩ := bif_some H
              obtain ⟨c122, H⟩ := bif_some H
              obtain ⟨c123, H⟩ := bif_some H
              refine L_callP (.plain rfl) rfl (ltb rfl) rfl Tryz.call30 (laws_heldNodeS.calls (w := w118) (a0 := (marksN ((applyAllOf a0 a1).1).length 1)) (a1 := 1) (Ow.rd o120) (of_decide_eq_true c121) (of_decide_eq_true c122) (of_decide_eq_true c123)) rfl <| fun w124 e125 => L_op (.plain rfl) rfl (ltb rfl) (X_assign (v := (.int .i64 (heldN (marksN ((applyAllOf a0 a1).1).length 1) 1))) rfl) <| L_nil <| thn_n <| W_seq <| W_seq <| W_reg <| L_op (.plain rfl) rfl (ltb rfl) (X_move (v := (.int .i64 (heldN (marksN ((applyAllOf a0 a1).1).length 1) 1))) rfl) <| L_op (.plain rfl) rfl (ltb rfl) (X_lss rfl rfl) <| L_nil <| thn_n ?_
              rcases bif_two H with ⟨q126, H⟩ | ⟨q126, H⟩
              · refine W_true (congrArg Value.bool q126) <| W_seq <| W_reg <| L_op (.plain rfl) rfl (ltb rfl) (X_assign (v := (.bool false)) rfl) <| L_nil <| thn_n <| W_ret <| thn_r <| fin_r ?_
                obtain rfl := Option.some.inj H
                exact fin1 rfl (Ext.trans (Ext.trans (Ext.trans (Ext.trans (Ext.trans (Ext.trans e7 e14) e19) e24) e33) (Ext.gr (Ext.trans (Ext.trans (Ext.gr (Ext.gr (Ext.trans (Ext.trans (Ext.trans (Ext.trans (Ext.trans (Ext.trans (Ext.trans (Ext.trans e39 e44) e53) e58) e63) e69) e75) e79) e84) e91 (Ext.refl w32).size) e97 e39.size) e105) e112) e119 (Ext.trans e39 e44).size)) e125)
              · refine W_false (congrArg Value.bool q126) <| W_skip <| thn_n <| W_seq <| W_seq <| W_reg <| L_op (.plain rfl) rfl (ltb rfl) (X_move (v := (.int .i64 (heldN (marksN ((applyAllOf a0 a1).1).length 1) 1))) rfl) <| L_op (.plain rfl) rfl (ltb rfl) (X_move (v := (.int .i64 (1 + 4 * (((applyAllOf a0 a1).1).length : Int)))) rfl) <| L_op (.plain rfl) rfl (ltb rfl) (X_neq rfl rfl) <| L_nil <| thn_n ?_
                rcases bif_two H with ⟨q127, H⟩ | ⟨q127, H⟩
                · refine W_true (congrArg Value.bool q127) <| W_seq <| W_reg <| L_op (.plain rfl) rfl (ltb rfl) (X_assign (v := (.bool false)) rfl) <| L_nil <| thn_n <| W_ret <| thn_r <| fin_r ?_
                  obtain rfl := Option.some.inj H
                  exact fin1 rfl (Ext.trans (Ext.trans (Ext.trans (Ext.trans (Ext.trans (Ext.trans e7 e14) e19) e24) e33) (Ext.gr (Ext.trans (Ext.trans (Ext.gr (Ext.gr (Ext.trans (Ext.trans (Ext.trans (Ext.trans (Ext.trans (Ext.trans (Ext.trans (Ext.trans e39 e44) e53) e58) e63) e69) e75) e79) e84) e91 (Ext.refl w32).size) e97 e39.size) e105) e112) e119 (Ext.trans e39 e44).size)) e125)
                · refine W_false (congrArg Value.bool q127) <| W_skip <| thn_n <| W_seq <| W_reg <| L_op (.plain rfl) rfl (ltb rfl) (X_move (v := v_a0) ((K110 0 rfl).trans ((K103 0 rfl).trans (K61 0 rfl)))) ?_
                  obtain ⟨c128, H⟩ := bif_some H
                  obtain ⟨c129, H⟩ := bif_some H
                  refine L_callOS (.plain rfl) rfl (ltb rfl) rfl Tryz.call25 (laws_toRecordSS.calls (w := w124) (a0 := a0) (Rd2.ext f_a0 (Ext.trans (Ext.trans (Ext.trans (Ext.trans (Ext.trans (Ext.trans e7 e14) e19) e24) e33) (Ext.gr (Ext.trans (Ext.trans (Ext.gr (Ext.gr (Ext.trans (Ext.trans (Ext.trans (Ext.trans (Ext.trans (Ext.trans (Ext.trans (Ext.trans e39 e44) e53) e58) e63) e69) e75) e79) e84) e91 (Ext.refl w32).size) e97 e39.size) e105) e112) e119 (Ext.trans e39 e44).size)) e125)) (of_decide_eq_true c128) (of_decide_eq_true c129)) rfl <| fun v132 w130 e131 o133 => L_op (.plain rfl) rfl (ltb rfl) (X_move (v := v_a1) ((K110 1 rfl).trans ((K103 1 rfl).trans (K61 1 rfl)))) ?_
                  obtain ⟨c134, H⟩ := bif_some H
                  refine L_callO (.plain rfl) rfl (ltb rfl) rfl Tryz.call19 (laws_toNodeS.calls (w := w130) (a0 := a1) (Rd.ext f_a1 (Ext.trans (Ext.trans (Ext.trans (Ext.trans (Ext.trans (Ext.trans (Ext.trans e7 e14) e19) e24) e33) (Ext.gr (Ext.trans (Ext.trans (Ext.gr (Ext.gr (Ext.trans (Ext.trans (Ext.trans (Ext.trans (Ext.trans (Ext.trans (Ext.trans (Ext.trans e39 e44) e53) e58) e63) e69) e75) e79) e84) e91 (Ext.refl w32).size) e97 e39.size) e105) e112) e119 (Ext.trans e39 e44).size)) e125) e131)) (of_decide_eq_true c134)) rfl <| fun v137 w135 e136 o138 => ?_
                  obtain ⟨c139, H⟩ := bif_some H
                  obtain ⟨c140, H⟩ := bif_some H
                  obtain ⟨c141, H⟩ := bif_some H
                  obtain ⟨c142, H⟩ := bif_some H
                  obtain ⟨c143, H⟩ := bif_some H
                  refine L_callT (.plain rfl) rfl (ltb rfl) rfl Tryz.call35 (impl_ApplyAll.calls (w := w135) (a0 := a0) (a1 := a1) (GV.ext gv (Ext.trans (Ext.trans (Ext.trans (Ext.trans (Ext.trans (Ext.trans (Ext.trans (Ext.trans e7 e14) e19) e24) e33) (Ext.gr (Ext.trans (Ext.trans (Ext.gr (Ext.gr (Ext.trans (Ext.trans (Ext.trans (Ext.trans (Ext.trans (Ext.trans (Ext.trans (Ext.trans e39 e44) e53) e58) e63) e69) e75) e79) e84) e91 (Ext.refl w32).size) e97 e39.size) e105) e112) e119 (Ext.trans e39 e44).size)) e125) e131) e136)) (Own2.rd (Own2.ext o133 e136)) (Ow.rd o138) (of_decide_eq_true c139) (of_decide_eq_true c140) (of_decide_eq_true c141) (of_decide_eq_true c142) (of_decide_eq_true c143)) rfl <| fun v146 w144 e145 o147 => L_op (.plain rfl) rfl (ltb rfl) (X_move (v := (.tuple #[v146, (.int .i64 ((applyAllOf a0 a1).2))])) rfl) <| L_op (.plain rfl) rfl (ltb rfl) (X_extract (v := v146) rfl rfl) <| L_op (.plain rfl) rfl (ltb rfl) (X_extract (v := (.int .i64 ((applyAllOf a0 a1).2))) rfl rfl) <| L_op (.plain rfl) rfl (ltb rfl) (X_assign (v := v146) rfl) <| L_op (.plain rfl) rfl (ltb rfl) (X_assign (v := (.int .i64 ((applyAllOf a0 a1).2))) rfl) <| L_nil <| thn_n <| W_seq <| W_seq <| W_reg <| L_op (.plain rfl) rfl (ltb rfl) (X_move (v := v146) rfl) <| L_op (.plain rfl) rfl (ltb rfl) (X_move (v := v34) ((K110 6 rfl).trans ((K103 6 rfl).trans (K61 6 rfl)))) ?_
                  obtain ⟨c148, H⟩ := bif_some H
                  refine L_callP (.plain rfl) rfl (ltb rfl) rfl Tryz.call22 (laws_eqNodeS.calls (w := w144) (a0 := (applyAllOf a0 a1).1) (a1 := (applyAllOf a0 a1).1) (Ow.rd o147) (Ow.rd (Ow.ext o35 (Ext.trans (Ext.trans (Ext.trans (Ext.trans (Ext.gr (Ext.trans (Ext.trans (Ext.gr (Ext.gr (Ext.trans (Ext.trans (Ext.trans (Ext.trans (Ext.trans (Ext.trans (Ext.trans (Ext.trans e39 e44) e53) e58) e63) e69) e75) e79) e84) e91 (Ext.refl w32).size) e97 e39.size) e105) e112) e119 (Ext.trans e39 e44).size) e125) e131) e136) e145))) (of_decide_eq_true c148)) rfl <| fun w149 e150 => L_op (.plain rfl) rfl (ltb rfl) (X_not rfl) <| L_op (.plain rfl) rfl (ltb rfl) (X_move (v := (.bool (law_ApplyAll.e1 a0 a1))) rfl) <| L_grp 4 [(107, 111)] 110 (.bool ((law_ApplyAll.e1 a0 a1) || (!decide (((applyAllOf a0 a1).2) = ((applyAllOf a0 a1).2))))) ?_ ?_
                  · rcases bool_two (law_ApplyAll.e1 a0 a1) with b150_ | b150_
                    · exact L_skip rfl rfl (ltb rfl) (congrArg Value.bool b150_) rfl rfl (ltb rfl) <| L_skip rfl rfl (ltb rfl) (congrArg Value.bool b150_) rfl rfl (ltb rfl) <| L_skip rfl rfl (ltb rfl) (congrArg Value.bool b150_) rfl rfl (ltb rfl) <| L_op (.plain rfl) rfl (ltb rfl) (X_pick (b := true) (v := (.bool true)) (congrArg Value.bool b150_) rfl) <| L_nil <| thn_n ⟨(Kp.upd (Kp.upd (Kp.upd (Kp.upd (Kp.refl _ _) rfl) rfl) rfl) rfl), (or_t b150_), (Ext.refl w149)⟩
                    · exact L_op (.guard 4 false 106 rfl rfl (ltb rfl) (congrArg Value.bool b150_)) rfl (ltb rfl) (X_move (v := (.int .i64 ((applyAllOf a0 a1).2))) rfl) <| L_op (.guard 4 false 106 rfl rfl (ltb rfl) (congrArg Value.bool b150_)) rfl (ltb rfl) (X_move (v := (.int .i64 ((applyAllOf a0 a1).2))) ((K110 7 rfl).trans ((K103 7 rfl).trans (K61 7 rfl)))) <| L_op (.guard 4 false 106 rfl rfl (ltb rfl) (congrArg Value.bool b150_)) rfl (ltb rfl) (X_neq rfl rfl) <| L_op (.plain rfl) rfl (ltb rfl) (X_pick (b := false) (v := (.bool (!decide (((applyAllOf a0 a1).2) = ((applyAllOf a0 a1).2))))) (congrArg Value.bool b150_) rfl) <| L_nil <| thn_n ⟨(Kp.upd (Kp.upd (Kp.upd (Kp.upd (Kp.refl _ _) rfl) rfl) rfl) rfl), (or_f b150_), (Ext.refl w149)⟩
                  intro s156 w152 K153 h154 e155
                  refine L_nil <| thn_n ?_
                  rcases bif_two H with ⟨q157, H⟩ | ⟨q157, H⟩
                  · refine W_true (h154.trans (congrArg Value.bool q157)) <| W_seq <| W_reg <| L_op (.plain rfl) rfl (ltb rfl) (X_assign (v := (.bool false)) rfl) <| L_nil <| thn_n <| W_ret <| thn_r <| fin_r ?_
                    obtain rfl := Option.some.inj H
                    exact fin1 rfl (Ext.trans (Ext.trans (Ext.trans (Ext.trans (Ext.trans (Ext.trans (Ext.trans (Ext.trans (Ext.trans (Ext.trans (Ext.trans e7 e14) e19) e24) e33) (Ext.gr (Ext.trans (Ext.trans (Ext.gr (Ext.gr (Ext.trans (Ext.trans (Ext.trans (Ext.trans (Ext.trans (Ext.trans (Ext.trans (Ext.trans e39 e44) e53) e58) e63) e69) e75) e79) e84) e91 (Ext.refl w32).size) e97 e39.size) e105) e112) e119 (Ext.trans e39 e44).size)) e125) e131) e136) e145) e150) e155)
                  · refine W_false (h154.trans (congrArg Value.bool q157)) <| W_skip <| thn_n <| W_seq <| W_reg <| L_op (.plain rfl) rfl (ltb rfl) (X_assign (v := (.int .i64 1)) rfl) <| L_nil <| thn_n <| W_seq <| W_reg <| L_op (.plain rfl) rfl (ltb rfl) (X_move (v := v54) ((K153 10 rfl).trans ((K110 10 rfl).trans ((K103 10 rfl).trans (K61 10 rfl))))) <| L_op (.plain rfl) rfl (ltb rfl) (X_move (v := (.int .i64 1)) rfl) ?_
                    obtain ⟨c158, H⟩ := bif_some H
                    obtain ⟨c159, H⟩ := bif_some H
                    obtain ⟨c160, H⟩ := bif_some H
                    refine L_callP (.plain rfl) rfl (ltb rfl) rfl Tryz.call30 (laws_heldNodeS.calls (w := w152) (a0 := (marksN ((applyAllOf a0 a1).1).length 1)) (a1 := 1) (Ow.rd (Ow.ext o120 (Ext.trans (Ext.trans (Ext.trans (Ext.trans (Ext.trans e125 e131) e136) e145) e150) e155))) (of_decide_eq_true c158) (of_decide_eq_true c159) (of_decide_eq_true c160)) rfl <| fun w161 e162 => L_op (.plain rfl) rfl (ltb rfl) (X_assign (v := (.int .i64 (heldN (marksN ((applyAllOf a0 a1).1).length 1) 1))) rfl) <| L_nil <| thn_n <| W_seq <| W_seq <| W_reg <| L_op (.plain rfl) rfl (ltb rfl) (X_move (v := (.int .i64 (heldN (marksN ((applyAllOf a0 a1).1).length 1) 1))) rfl) <| L_op (.plain rfl) rfl (ltb rfl) (X_lss rfl rfl) <| L_nil <| thn_n ?_
                    rcases bif_two H with ⟨q163, H⟩ | ⟨q163, H⟩
                    · refine W_true (congrArg Value.bool q163) <| W_seq <| W_reg <| L_op (.plain rfl) rfl (ltb rfl) (X_assign (v := (.bool false)) rfl) <| L_nil <| thn_n <| W_ret <| thn_r <| fin_r ?_
                      obtain rfl := Option.some.inj H
                      exact fin1 rfl (Ext.trans (Ext.trans (Ext.trans (Ext.trans (Ext.trans (Ext.trans (Ext.trans (Ext.trans (Ext.trans (Ext.trans (Ext.trans (Ext.trans e7 e14) e19) e24) e33) (Ext.gr (Ext.trans (Ext.trans (Ext.gr (Ext.gr (Ext.trans (Ext.trans (Ext.trans (Ext.trans (Ext.trans (Ext.trans (Ext.trans (Ext.trans e39 e44) e53) e58) e63) e69) e75) e79) e84) e91 (Ext.refl w32).size) e97 e39.size) e105) e112) e119 (Ext.trans e39 e44).size)) e125) e131) e136) e145) e150) e155) e162)
                    · refine W_false (congrArg Value.bool q163) <| W_skip <| thn_n <| W_seq <| W_seq <| W_reg <| L_op (.plain rfl) rfl (ltb rfl) (X_move (v := (.int .i64 (heldN (marksN ((applyAllOf a0 a1).1).length 1) 1))) rfl) <| L_op (.plain rfl) rfl (ltb rfl) (X_move (v := (.int .i64 (1 + 4 * (((applyAllOf a0 a1).1).length : Int)))) (K153 13 rfl)) <| L_op (.plain rfl) rfl (ltb rfl) (X_neq rfl rfl) <| L_nil <| thn_n ?_
                      rcases bif_two H with ⟨q164, H⟩ | ⟨q164, H⟩
                      · refine W_true (congrArg Value.bool q164) <| W_seq <| W_reg <| L_op (.plain rfl) rfl (ltb rfl) (X_assign (v := (.bool false)) rfl) <| L_nil <| thn_n <| W_ret <| thn_r <| fin_r ?_
                        obtain rfl := Option.some.inj H
                        exact fin1 rfl (Ext.trans (Ext.trans (Ext.trans (Ext.trans (Ext.trans (Ext.trans (Ext.trans (Ext.trans (Ext.trans (Ext.trans (Ext.trans (Ext.trans e7 e14) e19) e24) e33) (Ext.gr (Ext.trans (Ext.trans (Ext.gr (Ext.gr (Ext.trans (Ext.trans (Ext.trans (Ext.trans (Ext.trans (Ext.trans (Ext.trans (Ext.trans e39 e44) e53) e58) e63) e69) e75) e79) e84) e91 (Ext.refl w32).size) e97 e39.size) e105) e112) e119 (Ext.trans e39 e44).size)) e125) e131) e136) e145) e150) e155) e162)
                      · refine W_false (congrArg Value.bool q164) <| W_skip <| thn_n <| W_seq <| W_reg <| L_op (.plain rfl) rfl (ltb rfl) (X_assign (v := (.bool true)) rfl) <| L_nil <| thn_n <| W_ret <| fin_r ?_
                        obtain rfl := Option.some.inj H
                        exact fin1 rfl (Ext.trans (Ext.trans (Ext.trans (Ext.trans (Ext.trans (Ext.trans (Ext.trans (Ext.trans (Ext.trans (Ext.trans (Ext.trans (Ext.trans e7 e14) e19) e24) e33) (Ext.gr (Ext.trans (Ext.trans (Ext.gr (Ext.gr (Ext.trans (Ext.trans (Ext.trans (Ext.trans (Ext.trans (Ext.trans (Ext.trans (Ext.trans e39 e44) e53) e58) e63) e69) e75) e79) e84) e91 (Ext.refl w32).size) e97 e39.size) e105) e112) e119 (Ext.trans e39 e44).size)) e125) e131) e136) e145) e150) e155) e162)
theorem law_ApplyAll.calls {w : World} {a0 : List (List Rec)} {a1 : List Nd} (gv : GV 0 w) {v_a0 : Value} (f_a0 : Rd2 5 encRec w v_a0 a0) {v_a1 : Value} (f_a1 : Rd 4 encNd w v_a1 a1) (h0 : ∀ l ∈ a0, ∀ x ∈ l, okRec x) (h1 : a0.length ≤ 9223372036854775807) (h2 : ∀ l ∈ a0, l.length ≤ 9223372036854775807) (h3 : ∀ x ∈ a1, okNd x) (h4 : a1.length ≤ 9223372036854775807) :
    Calls Tryz.prog 6 #[v_a0, v_a1] w (Rt (RP w (.bool true))) := law_ApplyAll.walk gv f_a0 f_a1 (law_ApplyAll.eq a0 a1 h0 h1 h2 h3 h4)
end Go.Proofs.YthpjkenkbfkdhaaGreatDoor
