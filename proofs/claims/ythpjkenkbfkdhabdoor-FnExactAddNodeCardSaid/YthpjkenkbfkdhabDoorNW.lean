/- The walks, by program (wip/tools). -/
import Derived.Test.YthpjkenkbfkdhabDoorProg
import Derived.Test.YthpjkenkbfkdhabDoorKI
import Derived.Test.YthpjkenkbfkdhabDoorKJ
import Derived.Test.YthpjkenkbfkdhabDoorKL
import Derived.Test.YthpjkenkbfkdhabDoorNWB
set_option linter.unusedVariables false
set_option maxRecDepth 10000
namespace Go.Proofs.YthpjkenkbfkdhabDoor
open Go.UL Go.RowKit
/-! spec.AddNode -/
theorem spec_AddNode.walk {w : World} {a0 : List Nd} {a1 : Nd} {v_a0 : Value} (f_a0 : Rd 4 encNd w v_a0 a0) {r : List Nd × Int} (H : spec_AddNode.sh a0 a1 = some r) :
    Calls Tryd.prog 6 #[v_a0, .agg (encNd a1).toArray] w (Rt (RT 31 4 encNd w r.1 (.int .i64 r.2))) := by
  unfold spec_AddNode.sh at H
  refine calls_of_W Tryd.func6 rfl (Nat.le_of_ble_eq_true rfl) Tryd.ntmps6 rfl ?_
  refine W_seq <| W_reg <| L_box (.plain rfl) rfl (ltb rfl) rfl rfl <| fun b1 w2 z3 z4 e5 k6 => L_op (.plain rfl) rfl (ltb rfl) (X_assign (v := (.slice none 0 0)) rfl) <| L_op (.plain rfl) rfl (ltb rfl) (X_assign (v := (.int .i64 0)) rfl) <| L_nil <| thn_n <| W_seq <| W_seq <| W_reg <| L_op (.plain rfl) rfl (ltb rfl) (X_move (v := v_a0) rfl) <| L_op (.plain rfl) rfl (ltb rfl) (X_lenR Tryd.underlying27 rfl (Rd.ext f_a0 e5)) <| L_op (.plain rfl) rfl (ltb rfl) (X_gtr rfl rfl) <| L_nil <| thn_n ?_
  rcases bif_two H with ⟨q7, H⟩ | ⟨q7, H⟩
  · refine W_true (congrArg Value.bool q7) <| W_seq <| W_reg <| L_lit (.plain rfl) rfl (ltb rfl) rfl Tryd.underlying27 Tryd.sizeOf31 Tryd.zeroValue31 rfl rfl rfl (vs := []) rfl (lit_all rfl) <| fun b8 w9 z10 z11 e12 k13 => L_op (.plain rfl) rfl (ltb rfl) (X_assign (v := (.slice (some ⟨b8, 0, none⟩) 0 0)) rfl) <| L_op (.plain rfl) rfl (ltb rfl) (X_assign (v := (.int .i64 2)) rfl) <| L_nil <| thn_n <| W_ret <| thn_r <| fin_r ?_
    obtain rfl := Option.some.inj H
    exact fin2o rfl rfl (Ext.trans e5 e12) (Ow.zero (base := w.heap.size)) (Nat.le_refl _)
  · refine W_false (congrArg Value.bool q7) <| W_skip <| thn_n <| W_seq <| W_seq <| W_reg <| L_op (.plain rfl) rfl (ltb rfl) (X_move (v := v_a0) rfl) ?_
    obtain ⟨c14, H⟩ := bif_some H
    refine L_callP (.plain rfl) rfl (ltb rfl) rfl Tryd.call13 (spec_l04OK.calls (w := w2) (a0 := a0) (Rd.ext f_a0 e5) (of_decide_eq_true c14)) rfl <| fun w15 e16 => L_op (.plain rfl) rfl (ltb rfl) (X_not rfl) <| L_op (.plain rfl) rfl (ltb rfl) (X_move (v := (.bool (!(treeOK a0)))) rfl) <| L_grp 4 [(17, 21)] 20 (.bool ((!(treeOK a0)) || (decide (a1.kind = 4)))) ?_ ?_
    · rcases bool_two (!(treeOK a0)) with b16_ | b16_
      · exact L_skip rfl rfl (ltb rfl) (congrArg Value.bool b16_) rfl rfl (ltb rfl) <| L_skip rfl rfl (ltb rfl) (congrArg Value.bool b16_) rfl rfl (ltb rfl) <| L_skip rfl rfl (ltb rfl) (congrArg Value.bool b16_) rfl rfl (ltb rfl) <| L_op (.plain rfl) rfl (ltb rfl) (X_pick (b := true) (v := (.bool true)) (congrArg Value.bool b16_) rfl) <| L_nil <| thn_n ⟨(Kp.upd (Kp.upd (Kp.upd (Kp.upd (Kp.refl _ _) rfl) rfl) rfl) rfl), (or_t b16_), (Ext.refl w15)⟩
      · exact L_op (.guard 3 false 16 rfl rfl (ltb rfl) (congrArg Value.bool b16_)) rfl (ltb rfl) (X_fieldAddr Tryd.underlying31 rfl Tryd.sizeOf3 rfl rfl) <| L_op (.guard 3 false 16 rfl rfl (ltb rfl) (congrArg Value.bool b16_)) rfl (ltb rfl) (X_loadB Tryd.isAgg3 (Blk.ext k6 e16) rfl rfl) <| L_op (.guard 3 false 16 rfl rfl (ltb rfl) (congrArg Value.bool b16_)) rfl (ltb rfl) (X_eql rfl rfl) <| L_op (.plain rfl) rfl (ltb rfl) (X_pick (b := false) (v := (.bool (decide (a1.kind = 4)))) (congrArg Value.bool b16_) rfl) <| L_nil <| thn_n ⟨(Kp.upd (Kp.upd (Kp.upd (Kp.upd (Kp.refl _ _) rfl) rfl) rfl) rfl), (or_f b16_), (Ext.refl w15)⟩
    intro s22 w18 K19 h20 e21
    refine L_op (.plain rfl) rfl (ltb rfl) (X_move (v := (.bool ((!(treeOK a0)) || (decide (a1.kind = 4))))) h20) <| L_grp 5 [(22, 27)] 26 (.bool (((!(treeOK a0)) || (decide (a1.kind = 4))) || (!(decide (recFault (recOf a1) = 0))))) ?_ ?_
    · rcases bool_two ((!(treeOK a0)) || (decide (a1.kind = 4))) with b22_ | b22_
      · exact L_skip rfl rfl (ltb rfl) (congrArg Value.bool b22_) rfl rfl (ltb rfl) <| L_skip rfl rfl (ltb rfl) (congrArg Value.bool b22_) rfl rfl (ltb rfl) <| L_skip rfl rfl (ltb rfl) (congrArg Value.bool b22_) rfl rfl (ltb rfl) <| L_skip rfl rfl (ltb rfl) (congrArg Value.bool b22_) rfl rfl (ltb rfl) <| L_op (.plain rfl) rfl (ltb rfl) (X_pick (b := true) (v := (.bool true)) (congrArg Value.bool b22_) rfl) <| L_nil <| thn_n ⟨(Kp.upd (Kp.upd (Kp.upd (Kp.upd (Kp.upd (Kp.refl _ _) rfl) rfl) rfl) rfl) rfl), (or_t b22_), (Ext.refl w18)⟩
      · exact L_op (.guard 8 false 21 rfl rfl (ltb rfl) (congrArg Value.bool b22_)) rfl (ltb rfl) (X_loadS Tryd.isAgg31 Tryd.sizeOf31 rfl (K19 3 rfl) (Blk.at0 (Blk.ext k6 (Ext.trans e16 e21)))) <| L_callP (.guard 8 false 21 rfl rfl (ltb rfl) (congrArg Value.bool b22_)) rfl (ltb rfl) rfl Tryd.call15 (spec_l04Record.calls (w := w18) (a0 := a1)) rfl <| fun w24 e25 => L_callP (.guard 8 false 21 rfl rfl (ltb rfl) (congrArg Value.bool b22_)) rfl (ltb rfl) rfl Tryd.call14 (spec_l02OK.calls (w := w24) (a0 := (recOf a1))) rfl <| fun w26 e27 => L_op (.guard 8 false 21 rfl rfl (ltb rfl) (congrArg Value.bool b22_)) rfl (ltb rfl) (X_not rfl) <| L_op (.plain rfl) rfl (ltb rfl) (X_pick (b := false) (v := (.bool (!(decide (recFault (recOf a1) = 0))))) (congrArg Value.bool b22_) rfl) <| L_nil <| thn_n ⟨(Kp.upd (Kp.upd (Kp.upd (Kp.upd (Kp.upd (Kp.refl _ _) rfl) rfl) rfl) rfl) rfl), (or_f b22_), (Ext.trans e25 e27)⟩
    intro s28 w24 K25 h26 e27
    refine L_nil <| thn_n ?_
    rcases bif_two H with ⟨q29, H⟩ | ⟨q29, H⟩
    · refine W_true (h26.trans (congrArg Value.bool q29)) <| W_seq <| W_reg <| L_lit (.plain rfl) rfl (ltb rfl) rfl Tryd.underlying27 Tryd.sizeOf31 Tryd.zeroValue31 rfl rfl rfl (vs := []) rfl (lit_all rfl) <| fun b30 w31 z32 z33 e34 k35 => L_op (.plain rfl) rfl (ltb rfl) (X_assign (v := (.slice (some ⟨b30, 0, none⟩) 0 0)) rfl) <| L_op (.plain rfl) rfl (ltb rfl) (X_assign (v := (.int .i64 1)) rfl) <| L_nil <| thn_n <| W_ret <| thn_r <| fin_r ?_
      obtain rfl := Option.some.inj H
      exact fin2o rfl rfl (Ext.trans (Ext.trans (Ext.trans (Ext.trans e5 e16) e21) e27) e34) (Ow.zero (base := w.heap.size)) (Nat.le_refl _)
    · refine W_false (h26.trans (congrArg Value.bool q29)) <| W_skip <| thn_n <| W_seq <| W_reg <| L_op (.plain rfl) rfl (ltb rfl) (X_move (v := v_a0) ((K25 0 rfl).trans (K19 0 rfl))) <| L_op (.plain rfl) rfl (ltb rfl) (X_fieldAddr Tryd.underlying31 rfl Tryd.sizeOf9 rfl ((K25 3 rfl).trans (K19 3 rfl))) <| L_op (.plain rfl) rfl (ltb rfl) (X_loadB Tryd.isAgg9 (Blk.ext k6 (Ext.trans (Ext.trans e16 e21) e27)) rfl rfl) ?_
      obtain ⟨c36, H⟩ := bif_some H
      obtain ⟨c37, H⟩ := bif_some H
      refine L_callP (.plain rfl) rfl (ltb rfl) rfl Tryd.call16 (spec_l04Find.calls (w := w24) (a0 := a0) (a1 := a1.path) (Rd.ext f_a0 (Ext.trans (Ext.trans (Ext.trans e5 e16) e21) e27)) (of_decide_eq_true c36) (of_decide_eq_true c37)) rfl <| fun w38 e39 => L_op (.plain rfl) rfl (ltb rfl) (X_move rfl) <| L_op (.plain rfl) rfl (ltb rfl) (X_extract (v := (.agg (encNd ((findNd a0 a1.path).1)).toArray)) rfl rfl) <| L_op (.plain rfl) rfl (ltb rfl) (X_extract (v := (.int .i64 ((findNd a0 a1.path).2))) rfl rfl) <| L_alloc (.plain rfl) rfl (ltb rfl) rfl Tryd.zeroValue31 <| fun b40 w41 z42 z43 e44 k45 => L_storeA (.plain rfl) rfl rfl Tryd.sizeOf31 rfl rfl rfl rfl rfl k45 <| fun w46 h47 k48 => L_op (.plain rfl) rfl (ltb rfl) (X_assign (v := (.int .i64 ((findNd a0 a1.path).2))) rfl) <| L_nil <| thn_n <| W_seq <| W_reg <| L_op (.plain rfl) rfl (ltb rfl) (X_fieldAddr Tryd.underlying31 rfl Tryd.sizeOf9 rfl ((K25 3 rfl).trans (K19 3 rfl))) <| L_op (.plain rfl) rfl (ltb rfl) (X_loadB Tryd.isAgg9 (Blk.ext k6 (Ext.trans (Ext.trans (Ext.trans (Ext.trans e16 e21) e27) e39) (Below.trans e44 (Wr.below h47 (Nat.le_of_eq z42))))) rfl rfl) ?_
      obtain ⟨c49, H⟩ := bif_some H
      refine L_callP (.plain rfl) rfl (ltb rfl) rfl Tryd.call17 (spec_l01Parent.calls (w := w46) (a0 := a1.path) (of_decide_eq_true c49)) rfl <| fun w50 e51 => L_op (.plain rfl) rfl (ltb rfl) (X_assign (v := (S (parentP a1.path))) rfl) <| L_nil <| thn_n <| W_seq <| W_block <| W_seq <| W_reg <| L_op (.plain rfl) rfl (ltb rfl) (X_move (v := (.int .i64 ((findNd a0 a1.path).2))) rfl) <| L_op (.plain rfl) rfl (ltb rfl) (X_eql rfl rfl) <| L_op (.plain rfl) rfl (ltb rfl) (X_assign (v := (.bool (decide (((findNd a0 a1.path).2) = 0)))) rfl) <| L_nil <| thn_n ?_
      rcases bif_two H with ⟨q52, H⟩ | ⟨q52, H⟩
      · refine W_true (congrArg Value.bool q52) <| W_seq <| W_reg <| L_lit (.plain rfl) rfl (ltb rfl) rfl Tryd.underlying27 Tryd.sizeOf31 Tryd.zeroValue31 rfl rfl rfl (vs := []) rfl (lit_all rfl) <| fun b53 w54 z55 z56 e57 k58 => L_op (.plain rfl) rfl (ltb rfl) (X_move (v := v_a0) ((K25 0 rfl).trans (K19 0 rfl))) ?_
        obtain ⟨c59, H⟩ := bif_some H
        refine L_append (enc := encNd) (.plain rfl) rfl (ltb rfl) rfl El.t27 rfl rfl (Ow.zero (base := w54.heap.size) (w := w54)) (Rd.ext f_a0 (Ext.trans (Ext.trans (Ext.trans (Ext.trans (Ext.trans (Ext.trans (Ext.trans e5 e16) e21) e27) e39) (Below.trans e44 (Wr.below h47 (Nat.le_of_eq z42)))) e51) e57)) (ones_Nd _) (of_decide_eq_true c59) (Nat.le_refl _) <| fun v60 w61 o62 z63 g64 => L_op (.plain rfl) rfl (ltb rfl) (X_assign (v := v60) rfl) <| L_op (.plain rfl) rfl (ltb rfl) (X_assign (v := (.int .i64 18)) rfl) <| L_nil <| thn_n <| W_ret <| blk_r <| thn_r <| fin_r ?_
        obtain rfl := Option.some.inj H
        exact fin2o rfl rfl (Ext.trans (Ext.trans (Ext.trans (Ext.trans (Ext.trans (Ext.trans (Ext.trans (Ext.trans e5 e16) e21) e27) e39) (Below.trans e44 (Wr.below h47 (Nat.le_of_eq z42)))) e51) e57) (g64 _ (Ext.refl w54))) o62 ((Ext.trans (Ext.trans (Ext.trans (Ext.trans (Ext.trans (Ext.trans (Ext.trans e5 e16) e21) e27) e39) (Below.trans e44 (Wr.below h47 (Nat.le_of_eq z42)))) e51) e57)).size
      · refine W_false (congrArg Value.bool q52) <| W_seq <| W_reg <| L_op (.plain rfl) rfl (ltb rfl) (X_move (v := (.int .i64 ((findNd a0 a1.path).2))) rfl) <| L_op (.plain rfl) rfl (ltb rfl) (X_eql rfl rfl) <| L_op (.plain rfl) rfl (ltb rfl) (X_assign (v := (.bool (decide (((findNd a0 a1.path).2) = 13)))) rfl) <| L_nil <| thn_n ?_
        rcases bif_two H with ⟨q65, H⟩ | ⟨q65, H⟩
        · refine W_true (congrArg Value.bool q65) <| W_seq <| W_reg <| L_lit (.plain rfl) rfl (ltb rfl) rfl Tryd.underlying27 Tryd.sizeOf31 Tryd.zeroValue31 rfl rfl rfl (vs := []) rfl (lit_all rfl) <| fun b66 w67 z68 z69 e70 k71 => L_op (.plain rfl) rfl (ltb rfl) (X_move (v := v_a0) ((K25 0 rfl).trans (K19 0 rfl))) ?_
          obtain ⟨c72, H⟩ := bif_some H
          refine L_append (enc := encNd) (.plain rfl) rfl (ltb rfl) rfl El.t27 rfl rfl (Ow.zero (base := w67.heap.size) (w := w67)) (Rd.ext f_a0 (Ext.trans (Ext.trans (Ext.trans (Ext.trans (Ext.trans (Ext.trans (Ext.trans e5 e16) e21) e27) e39) (Below.trans e44 (Wr.below h47 (Nat.le_of_eq z42)))) e51) e70)) (ones_Nd _) (of_decide_eq_true c72) (Nat.le_refl _) <| fun v73 w74 o75 z76 g77 => L_op (.plain rfl) rfl (ltb rfl) (X_assign (v := v73) rfl) <| L_op (.plain rfl) rfl (ltb rfl) (X_assign (v := (.int .i64 13)) rfl) <| L_nil <| thn_n <| W_ret <| blk_r <| thn_r <| fin_r ?_
          obtain rfl := Option.some.inj H
          exact fin2o rfl rfl (Ext.trans (Ext.trans (Ext.trans (Ext.trans (Ext.trans (Ext.trans (Ext.trans (Ext.trans e5 e16) e21) e27) e39) (Below.trans e44 (Wr.below h47 (Nat.le_of_eq z42)))) e51) e70) (g77 _ (Ext.refl w67))) o75 ((Ext.trans (Ext.trans (Ext.trans (Ext.trans (Ext.trans (Ext.trans (Ext.trans e5 e16) e21) e27) e39) (Below.trans e44 (Wr.below h47 (Nat.le_of_eq z42)))) e51) e70)).size
        · refine W_false (congrArg Value.bool q65) <| W_seq <| W_reg <| L_op (.plain rfl) rfl (ltb rfl) (X_move (v := (S (parentP a1.path))) rfl) <| L_op (.plain rfl) rfl (ltb rfl) (X_sne rfl rfl) <| L_op (.plain rfl) rfl (ltb rfl) (X_move (v := (.bool (!decide ((parentP a1.path) = ([] : List UInt8))))) rfl) ?_
          obtain ⟨z79, x80, H⟩ := bind_some H
          refine L_grpE 5 [(54, 59)] 58 (fun q => q = z79) ?_ ?_
          · rcases bif_two x80 with ⟨b77_, H⟩ | ⟨b77_, H⟩
            · refine L_op (.guard 2 true 53 rfl rfl (ltb rfl) (congrArg Value.bool b77_)) rfl (ltb rfl) (X_move (v := v_a0) ((K25 0 rfl).trans (K19 0 rfl))) <| L_op (.guard 2 true 53 rfl rfl (ltb rfl) (congrArg Value.bool b77_)) rfl (ltb rfl) (X_move (v := (S (parentP a1.path))) rfl) ?_
              obtain ⟨c79, H⟩ := bif_some H
              refine L_callP (.guard 2 true 53 rfl rfl (ltb rfl) (congrArg Value.bool b77_)) rfl (ltb rfl) rfl Tryd.call18 (spec_l04At.calls (w := w50) (a0 := a0) (a1 := (parentP a1.path)) (Rd.ext f_a0 (Ext.trans (Ext.trans (Ext.trans (Ext.trans (Ext.trans (Ext.trans e5 e16) e21) e27) e39) (Below.trans e44 (Wr.below h47 (Nat.le_of_eq z42)))) e51)) (of_decide_eq_true c79)) rfl <| fun w80 e81 => L_op (.guard 2 true 53 rfl rfl (ltb rfl) (congrArg Value.bool b77_)) rfl (ltb rfl) (X_lss rfl rfl) <| L_op (.plain rfl) rfl (ltb rfl) (X_pick (b := true) (v := (.bool (decide ((findN a0 (parentP a1.path)) < 0)))) (congrArg Value.bool b77_) rfl) ?_
              obtain rfl := Option.some.inj H
              exact L_nil <| thn_n ⟨(Kp.upd (Kp.upd (Kp.upd (Kp.upd (Kp.upd (Kp.refl _ _) rfl) rfl) rfl) rfl) rfl), ⟨_, rfl, rfl⟩, e81⟩
            · refine L_skip rfl rfl (ltb rfl) (congrArg Value.bool b77_) rfl rfl (ltb rfl) <| L_skip rfl rfl (ltb rfl) (congrArg Value.bool b77_) rfl rfl (ltb rfl) <| L_skip rfl rfl (ltb rfl) (congrArg Value.bool b77_) rfl rfl (ltb rfl) <| L_skip rfl rfl (ltb rfl) (congrArg Value.bool b77_) rfl rfl (ltb rfl) <| L_op (.plain rfl) rfl (ltb rfl) (X_pick (b := false) (v := (.bool false)) (congrArg Value.bool b77_) rfl) ?_
              obtain rfl := Option.some.inj H
              exact L_nil <| thn_n ⟨(Kp.upd (Kp.upd (Kp.upd (Kp.upd (Kp.upd (Kp.refl _ _) rfl) rfl) rfl) rfl) rfl), ⟨_, rfl, rfl⟩, (Ext.refl w50)⟩
          intro s85 w81 z86 K82 hq h83 e84
          rw [hq] at h83; clear hq
          refine L_op (.plain rfl) rfl (ltb rfl) (X_assign (v := (.bool z79)) h83) <| L_nil <| thn_n ?_
          rcases bif_two H with ⟨q87, H⟩ | ⟨q87, H⟩
          · refine W_true (congrArg Value.bool q87) <| W_seq <| W_reg <| L_lit (.plain rfl) rfl (ltb rfl) rfl Tryd.underlying27 Tryd.sizeOf31 Tryd.zeroValue31 rfl rfl rfl (vs := []) rfl (lit_all rfl) <| fun b88 w89 z90 z91 e92 k93 => L_op (.plain rfl) rfl (ltb rfl) (X_move (v := v_a0) ((K82 0 rfl).trans ((K25 0 rfl).trans (K19 0 rfl)))) ?_
            obtain ⟨c94, H⟩ := bif_some H
            refine L_append (enc := encNd) (.plain rfl) rfl (ltb rfl) rfl El.t27 rfl rfl (Ow.zero (base := w89.heap.size) (w := w89)) (Rd.ext f_a0 (Ext.trans (Ext.trans (Ext.trans (Ext.trans (Ext.trans (Ext.trans (Ext.trans (Ext.trans e5 e16) e21) e27) e39) (Below.trans e44 (Wr.below h47 (Nat.le_of_eq z42)))) e51) e84) e92)) (ones_Nd _) (of_decide_eq_true c94) (Nat.le_refl _) <| fun v95 w96 o97 z98 g99 => L_op (.plain rfl) rfl (ltb rfl) (X_assign (v := v95) rfl) <| L_op (.plain rfl) rfl (ltb rfl) (X_assign (v := (.int .i64 12)) rfl) <| L_nil <| thn_n <| W_ret <| blk_r <| thn_r <| fin_r ?_
            obtain rfl := Option.some.inj H
            exact fin2o rfl rfl (Ext.trans (Ext.trans (Ext.trans (Ext.trans (Ext.trans (Ext.trans (Ext.trans (Ext.trans (Ext.trans e5 e16) e21) e27) e39) (Below.trans e44 (Wr.below h47 (Nat.le_of_eq z42)))) e51) e84) e92) (g99 _ (Ext.refl w89))) o97 ((Ext.trans (Ext.trans (Ext.trans (Ext.trans (Ext.trans (Ext.trans (Ext.trans (Ext.trans e5 e16) e21) e27) e39) (Below.trans e44 (Wr.below h47 (Nat.le_of_eq z42)))) e51) e84) e92)).size
          · refine W_false (congrArg Value.bool q87) <| W_seq <| W_reg <| L_op (.plain rfl) rfl (ltb rfl) (X_move (v := (S (parentP a1.path))) (K82 8 rfl)) <| L_op (.plain rfl) rfl (ltb rfl) (X_sne rfl rfl) <| L_op (.plain rfl) rfl (ltb rfl) (X_move (v := (.bool (!decide ((parentP a1.path) = ([] : List UInt8))))) rfl) ?_
            obtain ⟨z101, x102, H⟩ := bind_some H
            refine L_grpE 9 [(66, 75)] 74 (fun q => q = z101) ?_ ?_
            · rcases bif_two x102 with ⟨b99_, H⟩ | ⟨b99_, H⟩
              · refine L_op (.guard 2 true 65 rfl rfl (ltb rfl) (congrArg Value.bool b99_)) rfl (ltb rfl) (X_move (v := v_a0) ((K82 0 rfl).trans ((K25 0 rfl).trans (K19 0 rfl)))) <| L_op (.guard 2 true 65 rfl rfl (ltb rfl) (congrArg Value.bool b99_)) rfl (ltb rfl) (X_move (v := v_a0) ((K82 0 rfl).trans ((K25 0 rfl).trans (K19 0 rfl)))) <| L_op (.guard 2 true 65 rfl rfl (ltb rfl) (congrArg Value.bool b99_)) rfl (ltb rfl) (X_move (v := (S (parentP a1.path))) (K82 8 rfl)) ?_
                obtain ⟨c101, H⟩ := bif_some H
                refine L_callP (.guard 2 true 65 rfl rfl (ltb rfl) (congrArg Value.bool b99_)) rfl (ltb rfl) rfl Tryd.call18 (spec_l04At.calls (w := w81) (a0 := a0) (a1 := (parentP a1.path)) (Rd.ext f_a0 (Ext.trans (Ext.trans (Ext.trans (Ext.trans (Ext.trans (Ext.trans (Ext.trans e5 e16) e21) e27) e39) (Below.trans e44 (Wr.below h47 (Nat.le_of_eq z42)))) e51) e84)) (of_decide_eq_true c101)) rfl <| fun w102 e103 => ?_
                obtain ⟨c104, H⟩ := bif_some H
                refine L_idx (.guard 2 true 65 rfl rfl (ltb rfl) (congrArg Value.bool b99_)) rfl (ltb rfl) rfl Tryd.underlying27 Tryd.sizeOf31 rfl (Rd.ext f_a0 (Ext.trans (Ext.trans (Ext.trans (Ext.trans (Ext.trans (Ext.trans (Ext.trans (Ext.trans e5 e16) e21) e27) e39) (Below.trans e44 (Wr.below h47 (Nat.le_of_eq z42)))) e51) e84) e103)) rfl c104 <| fun p105 h106 => L_op (.guard 2 true 65 rfl rfl (ltb rfl) (congrArg Value.bool b99_)) rfl (ltb rfl) (X_fieldAddr Tryd.underlying31 rfl Tryd.sizeOf3 rfl rfl) <| L_op (.guard 2 true 65 rfl rfl (ltb rfl) (congrArg Value.bool b99_)) rfl (ltb rfl) (X_loadF Tryd.isAgg3 (j := 0) h106 rfl rfl) <| L_op (.guard 2 true 65 rfl rfl (ltb rfl) (congrArg Value.bool b99_)) rfl (ltb rfl) (X_neq rfl rfl) <| L_op (.plain rfl) rfl (ltb rfl) (X_pick (b := true) (v := (.bool (!decide (((gt a0 (findN a0 (parentP a1.path))).kind) = 3)))) (congrArg Value.bool b99_) rfl) ?_
                obtain rfl := Option.some.inj H
                exact L_nil <| thn_n ⟨(Kp.upd (Kp.upd (Kp.upd (Kp.upd (Kp.upd (Kp.upd (Kp.upd (Kp.upd (Kp.upd (Kp.refl _ _) rfl) rfl) rfl) rfl) rfl) rfl) rfl) rfl) rfl), ⟨_, rfl, rfl⟩, e103⟩
              · refine L_skip rfl rfl (ltb rfl) (congrArg Value.bool b99_) rfl rfl (ltb rfl) <| L_skip rfl rfl (ltb rfl) (congrArg Value.bool b99_) rfl rfl (ltb rfl) <| L_skip rfl rfl (ltb rfl) (congrArg Value.bool b99_) rfl rfl (ltb rfl) <| L_skip rfl rfl (ltb rfl) (congrArg Value.bool b99_) rfl rfl (ltb rfl) <| L_skip rfl rfl (ltb rfl) (congrArg Value.bool b99_) rfl rfl (ltb rfl) <| L_skip rfl rfl (ltb rfl) (congrArg Value.bool b99_) rfl rfl (ltb rfl) <| L_skip rfl rfl (ltb rfl) (congrArg Value.bool b99_) rfl rfl (ltb rfl) <| L_skip rfl rfl (ltb rfl) (congrArg Value.bool b99_) rfl rfl (ltb rfl) <| L_op (.plain rfl) rfl (ltb rfl) (X_pick (b := false) (v := (.bool false)) (congrArg Value.bool b99_) rfl) ?_
                obtain rfl := Option.some.inj H
                exact L_nil <| thn_n ⟨(Kp.upd (Kp.upd (Kp.upd (Kp.upd (Kp.upd (Kp.upd (Kp.upd (Kp.upd (Kp.upd (Kp.refl _ _) rfl) rfl) rfl) rfl) rfl) rfl) rfl) rfl) rfl), ⟨_, rfl, rfl⟩, (Ext.refl w81)⟩
            intro s107 w103 z108 K104 hq h105 e106
            rw [hq] at h105; clear hq
            refine L_op (.plain rfl) rfl (ltb rfl) (X_assign (v := (.bool z101)) h105) <| L_nil <| thn_n ?_
            rcases bif_two H with ⟨q109, H⟩ | ⟨q109, H⟩
            · refine W_true (congrArg Value.bool q109) <| W_seq <| W_reg <| L_lit (.plain rfl) rfl (ltb rfl) rfl Tryd.underlying27 Tryd.sizeOf31 Tryd.zeroValue31 rfl rfl rfl (vs := []) rfl (lit_all rfl) <| fun b110 w111 z112 z113 e114 k115 => L_op (.plain rfl) rfl (ltb rfl) (X_move (v := v_a0) ((K104 0 rfl).trans ((K82 0 rfl).trans ((K25 0 rfl).trans (K19 0 rfl))))) ?_
              obtain ⟨c116, H⟩ := bif_some H
              refine L_append (enc := encNd) (.plain rfl) rfl (ltb rfl) rfl El.t27 rfl rfl (Ow.zero (base := w111.heap.size) (w := w111)) (Rd.ext f_a0 (Ext.trans (Ext.trans (Ext.trans (Ext.trans (Ext.trans (Ext.trans (Ext.trans (Ext.trans (Ext.trans e5 e16) e21) e27) e39) (Below.trans e44 (Wr.below h47 (Nat.le_of_eq z42)))) e51) e84) e106) e114)) (ones_Nd _) (of_decide_eq_true c116) (Nat.le_refl _) <| fun v117 w118 o119 z120 g121 => L_op (.plain rfl) rfl (ltb rfl) (X_assign (v := v117) rfl) <| L_op (.plain rfl) rfl (ltb rfl) (X_assign (v := (.int .i64 13)) rfl) <| L_nil <| thn_n <| W_ret <| blk_r <| thn_r <| fin_r ?_
              obtain rfl := Option.some.inj H
              exact fin2o rfl rfl (Ext.trans (Ext.trans (Ext.trans (Ext.trans (Ext.trans (Ext.trans (Ext.trans (Ext.trans (Ext.trans (Ext.trans e5 e16) e21) e27) e39) (Below.trans e44 (Wr.below h47 (Nat.le_of_eq z42)))) e51) e84) e106) e114) (g121 _ (Ext.refl w111))) o119 ((Ext.trans (Ext.trans (Ext.trans (Ext.trans (Ext.trans (Ext.trans (Ext.trans (Ext.trans (Ext.trans e5 e16) e21) e27) e39) (Below.trans e44 (Wr.below h47 (Nat.le_of_eq z42)))) e51) e84) e106) e114)).size
            · refine W_false (congrArg Value.bool q109) <| W_seq <| W_reg <| L_op (.plain rfl) rfl (ltb rfl) (X_move (v := v_a0) ((K104 0 rfl).trans ((K82 0 rfl).trans ((K25 0 rfl).trans (K19 0 rfl))))) <| L_op (.plain rfl) rfl (ltb rfl) (X_lenR Tryd.underlying27 rfl (Rd.ext f_a0 (Ext.trans (Ext.trans (Ext.trans (Ext.trans (Ext.trans (Ext.trans (Ext.trans (Ext.trans e5 e16) e21) e27) e39) (Below.trans e44 (Wr.below h47 (Nat.le_of_eq z42)))) e51) e84) e106))) <| L_op (.plain rfl) rfl (ltb rfl) (X_eql rfl rfl) <| L_op (.plain rfl) rfl (ltb rfl) (X_assign (v := (.bool (decide ((a0.length : Int) = 24)))) rfl) <| L_nil <| thn_n ?_
              rcases bif_two H with ⟨q122, H⟩ | ⟨q122, H⟩
              · refine W_true (congrArg Value.bool q122) <| W_seq <| W_reg <| L_lit (.plain rfl) rfl (ltb rfl) rfl Tryd.underlying27 Tryd.sizeOf31 Tryd.zeroValue31 rfl rfl rfl (vs := []) rfl (lit_all rfl) <| fun b123 w124 z125 z126 e127 k128 => L_op (.plain rfl) rfl (ltb rfl) (X_move (v := v_a0) ((K104 0 rfl).trans ((K82 0 rfl).trans ((K25 0 rfl).trans (K19 0 rfl))))) ?_
                obtain ⟨c129, H⟩ := bif_some H
                refine L_append (enc := encNd) (.plain rfl) rfl (ltb rfl) rfl El.t27 rfl rfl (Ow.zero (base := w124.heap.size) (w := w124)) (Rd.ext f_a0 (Ext.trans (Ext.trans (Ext.trans (Ext.trans (Ext.trans (Ext.trans (Ext.trans (Ext.trans (Ext.trans e5 e16) e21) e27) e39) (Below.trans e44 (Wr.below h47 (Nat.le_of_eq z42)))) e51) e84) e106) e127)) (ones_Nd _) (of_decide_eq_true c129) (Nat.le_refl _) <| fun v130 w131 o132 z133 g134 => L_op (.plain rfl) rfl (ltb rfl) (X_assign (v := v130) rfl) <| L_op (.plain rfl) rfl (ltb rfl) (X_assign (v := (.int .i64 7)) rfl) <| L_nil <| thn_n <| W_ret <| blk_r <| thn_r <| fin_r ?_
                obtain rfl := Option.some.inj H
                exact fin2o rfl rfl (Ext.trans (Ext.trans (Ext.trans (Ext.trans (Ext.trans (Ext.trans (Ext.trans (Ext.trans (Ext.trans (Ext.trans e5 e16) e21) e27) e39) (Below.trans e44 (Wr.below h47 (Nat.le_of_eq z42)))) e51) e84) e106) e127) (g134 _ (Ext.refl w124))) o132 ((Ext.trans (Ext.trans (Ext.trans (Ext.trans (Ext.trans (Ext.trans (Ext.trans (Ext.trans (Ext.trans e5 e16) e21) e27) e39) (Below.trans e44 (Wr.below h47 (Nat.le_of_eq z42)))) e51) e84) e106) e127)).size
              · refine W_false (congrArg Value.bool q122) <| W_skip <| blk_n <| thn_n <| W_seq <| W_reg <| L_op (.plain rfl) rfl (ltb rfl) (X_move (v := v_a0) ((K104 0 rfl).trans ((K82 0 rfl).trans ((K25 0 rfl).trans (K19 0 rfl))))) <| L_op (.plain rfl) rfl (ltb rfl) (X_loadS Tryd.isAgg31 Tryd.sizeOf31 rfl ((K104 3 rfl).trans ((K82 3 rfl).trans ((K25 3 rfl).trans (K19 3 rfl)))) (Blk.at0 (Blk.ext k6 (Ext.trans (Ext.trans (Ext.trans (Ext.trans (Ext.trans (Ext.trans (Ext.trans e16 e21) e27) e39) (Below.trans e44 (Wr.below h47 (Nat.le_of_eq z42)))) e51) e84) e106)))) ?_
                obtain ⟨c135, H⟩ := bif_some H
                obtain ⟨c136, H⟩ := bif_some H
                obtain ⟨c137, H⟩ := bif_some H
                refine L_callO (.plain rfl) rfl (ltb rfl) rfl Tryd.call19 (spec_l04Put.calls (w := w103) (a0 := a0) (a1 := a1) (Rd.ext f_a0 (Ext.trans (Ext.trans (Ext.trans (Ext.trans (Ext.trans (Ext.trans (Ext.trans (Ext.trans e5 e16) e21) e27) e39) (Below.trans e44 (Wr.below h47 (Nat.le_of_eq z42)))) e51) e84) e106)) (of_decide_eq_true c135) (of_decide_eq_true c136) (of_decide_eq_true c137)) rfl <| fun v140 w138 e139 o141 => L_op (.plain rfl) rfl (ltb rfl) (X_assign (v := v140) rfl) <| L_op (.plain rfl) rfl (ltb rfl) (X_assign (v := (.int .i64 0)) rfl) <| L_nil <| thn_n <| W_ret <| fin_r ?_
                obtain rfl := Option.some.inj H
                exact fin2o rfl rfl (Ext.trans (Ext.trans (Ext.trans (Ext.trans (Ext.trans (Ext.trans (Ext.trans (Ext.trans (Ext.trans e5 e16) e21) e27) e39) (Below.trans e44 (Wr.below h47 (Nat.le_of_eq z42)))) e51) e84) e106) e139) o141 ((Ext.trans (Ext.trans (Ext.trans (Ext.trans (Ext.trans (Ext.trans (Ext.trans (Ext.trans e5 e16) e21) e27) e39) (Below.trans e44 (Wr.below h47 (Nat.le_of_eq z42)))) e51) e84) e106)).size
theorem spec_AddNode.calls {w : World} {a0 : List Nd} {a1 : Nd} {v_a0 : Value} (f_a0 : Rd 4 encNd w v_a0 a0) (h0 : a0.length ≤ 1048576) (h1 : ∀ x ∈ a0, x.path.length ≤ 1048576) (h2 : a1.path.length ≤ 1048576) :
    Calls Tryd.prog 6 #[v_a0, .agg (encNd a1).toArray] w (Rt (RT 31 4 encNd w ((addNode a0 a1).1) (.int .i64 ((addNode a0 a1).2)))) := spec_AddNode.walk f_a0 (spec_AddNode.eq a0 a1 h0 h1 h2)
/-! impl.AddNode -/
theorem impl_AddNode.walk {w : World} {a0 : List Nd} {a1 : Nd} (gv : GV 0 w) {v_a0 : Value} (f_a0 : Rd 4 encNd w v_a0 a0) {r : List Nd × Int} (H : impl_AddNode.sh a0 a1 = some r) :
    Calls Tryd.prog 9 #[v_a0, .agg (encNd a1).toArray] w (Rt (RT 31 4 encNd w r.1 (.int .i64 r.2))) := by
  unfold impl_AddNode.sh at H
  refine calls_of_W Tryd.func9 rfl (Nat.le_of_ble_eq_true rfl) Tryd.ntmps9 rfl ?_
  refine W_seq <| W_reg <| L_box (.plain rfl) rfl (ltb rfl) rfl rfl <| fun b1 w2 z3 z4 e5 k6 => L_op (.plain rfl) rfl (ltb rfl) (X_assign (v := (.slice none 0 0)) rfl) <| L_op (.plain rfl) rfl (ltb rfl) (X_assign (v := (.int .i64 0)) rfl) <| L_nil <| thn_n <| W_seq <| W_seq <| W_reg <| L_op (.plain rfl) rfl (ltb rfl) (X_move (v := v_a0) rfl) <| L_callP (.plain rfl) rfl (ltb rfl) rfl Tryd.call21 (impl_isLongListN.calls (w := w2) (a0 := a0) (Rd.ext f_a0 e5)) rfl <| fun w7 e8 => L_op (.plain rfl) rfl (ltb rfl) (X_mkiface Tryd.underlying4 rfl rfl) <| L_op (.plain rfl) rfl (ltb rfl) (X_mkiface Tryd.underlying3 rfl rfl) <| L_op (.plain rfl) rfl (ltb rfl) (X_move (v := v_a0) rfl) ?_
  obtain ⟨c9, H⟩ := bif_some H
  obtain ⟨c10, H⟩ := bif_some H
  refine L_callP (.plain rfl) rfl (ltb rfl) rfl Tryd.call22 (impl_TreeOK.calls (w := w7) (a0 := a0) (GV.ext gv (Ext.trans e5 e8)) (Rd.ext f_a0 (Ext.trans e5 e8)) (of_decide_eq_true c9) (of_decide_eq_true c10)) rfl <| fun w11 e12 => L_op (.plain rfl) rfl (ltb rfl) (X_not rfl) <| L_op (.plain rfl) rfl (ltb rfl) (X_move (v := (.bool (!(treeOK a0)))) rfl) <| L_grp 4 [(18, 22)] 21 (.bool ((!(treeOK a0)) || (!(nodeOK a1)))) ?_ ?_
  · rcases bool_two (!(treeOK a0)) with b12_ | b12_
    · exact L_skip rfl rfl (ltb rfl) (congrArg Value.bool b12_) rfl rfl (ltb rfl) <| L_skip rfl rfl (ltb rfl) (congrArg Value.bool b12_) rfl rfl (ltb rfl) <| L_skip rfl rfl (ltb rfl) (congrArg Value.bool b12_) rfl rfl (ltb rfl) <| L_op (.plain rfl) rfl (ltb rfl) (X_pick (b := true) (v := (.bool true)) (congrArg Value.bool b12_) rfl) <| L_nil <| thn_n ⟨(Kp.upd (Kp.upd (Kp.upd (Kp.upd (Kp.refl _ _) rfl) rfl) rfl) rfl), (or_t b12_), (Ext.refl w11)⟩
    · exact L_op (.guard 7 false 17 rfl rfl (ltb rfl) (congrArg Value.bool b12_)) rfl (ltb rfl) (X_loadS Tryd.isAgg31 Tryd.sizeOf31 rfl rfl (Blk.at0 (Blk.ext k6 (Ext.trans e8 e12)))) <| L_callP (.guard 7 false 17 rfl rfl (ltb rfl) (congrArg Value.bool b12_)) rfl (ltb rfl) rfl Tryd.call23 (impl_nodeOK.calls (w := w11) (a0 := a1) (GV.ext gv (Ext.trans (Ext.trans e5 e8) e12))) rfl <| fun w14 e15 => L_op (.guard 7 false 17 rfl rfl (ltb rfl) (congrArg Value.bool b12_)) rfl (ltb rfl) (X_not rfl) <| L_op (.plain rfl) rfl (ltb rfl) (X_pick (b := false) (v := (.bool (!(nodeOK a1)))) (congrArg Value.bool b12_) rfl) <| L_nil <| thn_n ⟨(Kp.upd (Kp.upd (Kp.upd (Kp.upd (Kp.refl _ _) rfl) rfl) rfl) rfl), (or_f b12_), e15⟩
  intro s18 w14 K15 h16 e17
  refine L_op (.plain rfl) rfl (ltb rfl) (X_mkiface Tryd.underlying4 rfl h16) <| L_op (.plain rfl) rfl (ltb rfl) (X_mkiface Tryd.underlying3 rfl rfl) <| L_lit (.plain rfl) rfl (ltb rfl) rfl Tryd.underlying59 Tryd.sizeOf20 Tryd.zeroValue20 rfl rfl rfl (vs := [(.iface 4 (.bool (decide (4096 < a0.length)))), (.iface 3 (.int .i64 2)), (.iface 4 (.bool ((!(treeOK a0)) || (!(nodeOK a1))))), (.iface 3 (.int .i64 1))]) (cons2 (K15 12 rfl) (cons2 (K15 13 rfl) (cons2 rfl (cons2 rfl rfl)))) (lit_all rfl) <| fun b19 w20 z21 z22 e23 k24 => ?_
  obtain ⟨c25, H⟩ := bif_some H
  obtain ⟨z28, x29, H⟩ := bind_some H
  replace x29 := Option.some.inj x29
  refine L_callP (.plain rfl) rfl (ltb rfl) rfl Tryd.call20 (impl_first.calls (w := w20) (a0 := ([.inl (decide (4096 < a0.length)), .inr 2, .inl ((!(treeOK a0)) || (!(nodeOK a1))), .inr 1] : List (Bool ⊕ Int))) (Ow.rd (Ow.new (xs := [.inl (decide (4096 < a0.length)), .inr 2, .inl ((!(treeOK a0)) || (!(nodeOK a1))), .inr 1]) (sz := 1) (enc := (encAny 4 3)) (base := w14.heap.size) k24 (Nat.le_of_eq z21) rfl (fun _ _ => by first | rfl | exact encAny_len _ _ _) (Nat.le_of_ble_eq_true rfl))) (of_decide_eq_true c25)) rfl <| fun w26 e27 => L_op (.plain rfl) rfl (ltb rfl) (X_assign (v := (.int .i64 z28)) (congrArg (Value.int .i64) x29)) <| L_nil <| thn_n <| W_seq <| W_reg <| L_op (.plain rfl) rfl (ltb rfl) (X_move (v := (.int .i64 z28)) rfl) <| L_op (.plain rfl) rfl (ltb rfl) (X_neq rfl rfl) <| L_nil <| thn_n ?_
  rcases bif_two H with ⟨q30, H⟩ | ⟨q30, H⟩
  · refine W_true (congrArg Value.bool q30) <| W_seq <| W_reg <| L_op (.plain rfl) rfl (ltb rfl) (X_move (v := (.int .i64 z28)) rfl) <| L_op (.plain rfl) rfl (ltb rfl) (X_assign (v := (.slice none 0 0)) rfl) <| L_op (.plain rfl) rfl (ltb rfl) (X_assign (v := (.int .i64 z28)) rfl) <| L_nil <| thn_n <| W_ret <| thn_r <| fin_r ?_
    obtain rfl := Option.some.inj H
    exact fin2o rfl rfl (Ext.trans (Ext.trans (Ext.trans (Ext.trans (Ext.trans e5 e8) e12) e17) e23) e27) (Ow.zero (base := w.heap.size)) (Nat.le_refl _)
  · refine W_false (congrArg Value.bool q30) <| W_skip <| thn_n <| W_seq <| W_reg <| L_op (.plain rfl) rfl (ltb rfl) (X_move (v := v_a0) (K15 0 rfl)) <| L_op (.plain rfl) rfl (ltb rfl) (X_fieldAddr Tryd.underlying31 rfl Tryd.sizeOf9 rfl (K15 3 rfl)) <| L_op (.plain rfl) rfl (ltb rfl) (X_loadB Tryd.isAgg9 (Blk.ext k6 (Ext.trans (Ext.trans (Ext.trans (Ext.trans e8 e12) e17) e23) e27)) rfl rfl) ?_
    obtain ⟨c31, H⟩ := bif_some H
    obtain ⟨c32, H⟩ := bif_some H
    refine L_callP (.plain rfl) rfl (ltb rfl) rfl Tryd.call24 (impl_resolve.calls (w := w26) (a0 := a0) (a1 := a1.path) (Rd.ext f_a0 (Ext.trans (Ext.trans (Ext.trans (Ext.trans (Ext.trans e5 e8) e12) e17) e23) e27)) (of_decide_eq_true c31) (of_decide_eq_true c32)) rfl <| fun w33 e34 => L_op (.plain rfl) rfl (ltb rfl) (X_move rfl) <| L_op (.plain rfl) rfl (ltb rfl) (X_extract (v := (.int .i64 ((resolveT a0 a1.path).1))) rfl rfl) <| L_op (.plain rfl) rfl (ltb rfl) (X_extract (v := (.int .i64 ((resolveT a0 a1.path).2))) rfl rfl) <| L_op (.plain rfl) rfl (ltb rfl) (X_assign (v := (.int .i64 ((resolveT a0 a1.path).1))) rfl) <| L_op (.plain rfl) rfl (ltb rfl) (X_assign (v := (.int .i64 ((resolveT a0 a1.path).2))) rfl) <| L_nil <| thn_n <| W_seq <| W_seq <| W_reg <| L_op (.plain rfl) rfl (ltb rfl) (X_move (v := (.int .i64 ((resolveT a0 a1.path).2))) rfl) <| L_op (.plain rfl) rfl (ltb rfl) (X_eql rfl rfl) <| L_op (.plain rfl) rfl (ltb rfl) (X_mkiface Tryd.underlying4 rfl rfl) <| L_op (.plain rfl) rfl (ltb rfl) (X_mkiface Tryd.underlying3 rfl rfl) <| L_op (.plain rfl) rfl (ltb rfl) (X_move (v := (.int .i64 ((resolveT a0 a1.path).2))) rfl) <| L_op (.plain rfl) rfl (ltb rfl) (X_eql rfl rfl) <| L_op (.plain rfl) rfl (ltb rfl) (X_mkiface Tryd.underlying4 rfl rfl) <| L_op (.plain rfl) rfl (ltb rfl) (X_mkiface Tryd.underlying3 rfl rfl) <| L_op (.plain rfl) rfl (ltb rfl) (X_move (v := v_a0) (K15 0 rfl)) <| L_op (.plain rfl) rfl (ltb rfl) (X_fieldAddr Tryd.underlying31 rfl Tryd.sizeOf9 rfl (K15 3 rfl)) <| L_op (.plain rfl) rfl (ltb rfl) (X_loadB Tryd.isAgg9 (Blk.ext k6 (Ext.trans (Ext.trans (Ext.trans (Ext.trans (Ext.trans e8 e12) e17) e23) e27) e34)) rfl rfl) ?_
    obtain ⟨c35, H⟩ := bif_some H
    refine L_callP (.plain rfl) rfl (ltb rfl) rfl Tryd.call26 (impl_parent.calls (w := w33) (a0 := a1.path) (of_decide_eq_true c35)) rfl <| fun w36 e37 => ?_
    obtain ⟨c38, H⟩ := bif_some H
    refine L_callP (.plain rfl) rfl (ltb rfl) rfl Tryd.call25 (impl_isDir.calls (w := w36) (a0 := a0) (a1 := (parentP a1.path)) (Rd.ext f_a0 (Ext.trans (Ext.trans (Ext.trans (Ext.trans (Ext.trans (Ext.trans (Ext.trans e5 e8) e12) e17) e23) e27) e34) e37)) (of_decide_eq_true c38)) rfl <| fun w39 e40 => L_op (.plain rfl) rfl (ltb rfl) (X_not rfl) <| L_op (.plain rfl) rfl (ltb rfl) (X_mkiface Tryd.underlying4 rfl rfl) <| L_op (.plain rfl) rfl (ltb rfl) (X_mkiface Tryd.underlying3 rfl rfl) <| L_op (.plain rfl) rfl (ltb rfl) (X_move (v := v_a0) (K15 0 rfl)) <| L_op (.plain rfl) rfl (ltb rfl) (X_lenR Tryd.underlying27 rfl (Rd.ext f_a0 (Ext.trans (Ext.trans (Ext.trans (Ext.trans (Ext.trans (Ext.trans (Ext.trans (Ext.trans e5 e8) e12) e17) e23) e27) e34) e37) e40))) <| L_op (.plain rfl) rfl (ltb rfl) (X_eql rfl rfl) <| L_op (.plain rfl) rfl (ltb rfl) (X_mkiface Tryd.underlying4 rfl rfl) <| L_op (.plain rfl) rfl (ltb rfl) (X_mkiface Tryd.underlying3 rfl rfl) <| L_lit (.plain rfl) rfl (ltb rfl) rfl Tryd.underlying59 Tryd.sizeOf20 Tryd.zeroValue20 rfl rfl rfl (vs := [(.iface 4 (.bool (decide (((resolveT a0 a1.path).2) = 0)))), (.iface 3 (.int .i64 18)), (.iface 4 (.bool (decide (((resolveT a0 a1.path).2) = 13)))), (.iface 3 (.int .i64 13)), (.iface 4 (.bool (!(isDirN a0 (parentP a1.path))))), (.iface 3 (.int .i64 12)), (.iface 4 (.bool (decide ((a0.length : Int) = 24)))), (.iface 3 (.int .i64 7))]) rfl (lit_all rfl) <| fun b41 w42 z43 z44 e45 k46 => ?_
    obtain ⟨c47, H⟩ := bif_some H
    obtain ⟨z50, x51, H⟩ := bind_some H
    replace x51 := Option.some.inj x51
    refine L_callP (.plain rfl) rfl (ltb rfl) rfl Tryd.call20 (impl_first.calls (w := w42) (a0 := ([.inl (decide (((resolveT a0 a1.path).2) = 0)), .inr 18, .inl (decide (((resolveT a0 a1.path).2) = 13)), .inr 13, .inl (!(isDirN a0 (parentP a1.path))), .inr 12, .inl (decide ((a0.length : Int) = 24)), .inr 7] : List (Bool ⊕ Int))) (Ow.rd (Ow.new (xs := [.inl (decide (((resolveT a0 a1.path).2) = 0)), .inr 18, .inl (decide (((resolveT a0 a1.path).2) = 13)), .inr 13, .inl (!(isDirN a0 (parentP a1.path))), .inr 12, .inl (decide ((a0.length : Int) = 24)), .inr 7]) (sz := 1) (enc := (encAny 4 3)) (base := w39.heap.size) k46 (Nat.le_of_eq z43) rfl (fun _ _ => by first | rfl | exact encAny_len _ _ _) (Nat.le_of_ble_eq_true rfl))) (of_decide_eq_true c47)) rfl <| fun w48 e49 => L_op (.plain rfl) rfl (ltb rfl) (X_assign (v := (.int .i64 z50)) (congrArg (Value.int .i64) x51)) <| L_nil <| thn_n <| W_seq <| W_reg <| L_op (.plain rfl) rfl (ltb rfl) (X_move (v := (.int .i64 z50)) rfl) <| L_op (.plain rfl) rfl (ltb rfl) (X_neq rfl rfl) <| L_nil <| thn_n ?_
    rcases bif_two H with ⟨q52, H⟩ | ⟨q52, H⟩
    · refine W_true (congrArg Value.bool q52) <| W_seq <| W_reg <| L_op (.plain rfl) rfl (ltb rfl) (X_move (v := v_a0) (K15 0 rfl)) ?_
      obtain ⟨c53, H⟩ := bif_some H
      refine L_callO (.plain rfl) rfl (ltb rfl) rfl Tryd.call27 (slices_CloneN.calls (w := w48) (a0 := a0) (Rd.ext f_a0 (Ext.trans (Ext.trans (Ext.trans (Ext.trans (Ext.trans (Ext.trans (Ext.trans (Ext.trans (Ext.trans (Ext.trans e5 e8) e12) e17) e23) e27) e34) e37) e40) e45) e49)) (of_decide_eq_true c53)) rfl <| fun v56 w54 e55 o57 => L_op (.plain rfl) rfl (ltb rfl) (X_move (v := (.int .i64 z50)) rfl) <| L_op (.plain rfl) rfl (ltb rfl) (X_assign (v := v56) rfl) <| L_op (.plain rfl) rfl (ltb rfl) (X_assign (v := (.int .i64 z50)) rfl) <| L_nil <| thn_n <| W_ret <| thn_r <| fin_r ?_
      obtain rfl := Option.some.inj H
      exact fin2o rfl rfl (Ext.trans (Ext.trans (Ext.trans (Ext.trans (Ext.trans (Ext.trans (Ext.trans (Ext.trans (Ext.trans (Ext.trans (Ext.trans e5 e8) e12) e17) e23) e27) e34) e37) e40) e45) e49) e55) o57 ((Ext.trans (Ext.trans (Ext.trans (Ext.trans (Ext.trans (Ext.trans (Ext.trans (Ext.trans (Ext.trans (Ext.trans e5 e8) e12) e17) e23) e27) e34) e37) e40) e45) e49)).size
    · refine W_false (congrArg Value.bool q52) <| W_skip <| thn_n <| W_seq <| W_reg <| L_op (.plain rfl) rfl (ltb rfl) (X_move (v := v_a0) (K15 0 rfl)) <| L_op (.plain rfl) rfl (ltb rfl) (X_loadS Tryd.isAgg31 Tryd.sizeOf31 rfl (K15 3 rfl) (Blk.at0 (Blk.ext k6 (Ext.trans (Ext.trans (Ext.trans (Ext.trans (Ext.trans (Ext.trans (Ext.trans (Ext.trans (Ext.trans e8 e12) e17) e23) e27) e34) e37) e40) e45) e49)))) ?_
      obtain ⟨c58, H⟩ := bif_some H
      obtain ⟨c59, H⟩ := bif_some H
      obtain ⟨c60, H⟩ := bif_some H
      obtain ⟨c61, H⟩ := bif_some H
      refine L_callO (.plain rfl) rfl (ltb rfl) rfl Tryd.call28 (impl_place.calls (w := w48) (a0 := a0) (a1 := a1) (GV.ext gv (Ext.trans (Ext.trans (Ext.trans (Ext.trans (Ext.trans (Ext.trans (Ext.trans (Ext.trans (Ext.trans (Ext.trans e5 e8) e12) e17) e23) e27) e34) e37) e40) e45) e49)) (Rd.ext f_a0 (Ext.trans (Ext.trans (Ext.trans (Ext.trans (Ext.trans (Ext.trans (Ext.trans (Ext.trans (Ext.trans (Ext.trans e5 e8) e12) e17) e23) e27) e34) e37) e40) e45) e49)) (of_decide_eq_true c58) (of_decide_eq_true c59) (of_decide_eq_true c60) (of_decide_eq_true c61)) rfl <| fun v64 w62 e63 o65 => L_op (.plain rfl) rfl (ltb rfl) (X_assign (v := v64) rfl) <| L_op (.plain rfl) rfl (ltb rfl) (X_assign (v := (.int .i64 0)) rfl) <| L_nil <| thn_n <| W_ret <| fin_r ?_
      obtain rfl := Option.some.inj H
      exact fin2o rfl rfl (Ext.trans (Ext.trans (Ext.trans (Ext.trans (Ext.trans (Ext.trans (Ext.trans (Ext.trans (Ext.trans (Ext.trans (Ext.trans e5 e8) e12) e17) e23) e27) e34) e37) e40) e45) e49) e63) o65 ((Ext.trans (Ext.trans (Ext.trans (Ext.trans (Ext.trans (Ext.trans (Ext.trans (Ext.trans (Ext.trans (Ext.trans e5 e8) e12) e17) e23) e27) e34) e37) e40) e45) e49)).size
theorem impl_AddNode.calls {w : World} {a0 : List Nd} {a1 : Nd} (gv : GV 0 w) {v_a0 : Value} (f_a0 : Rd 4 encNd w v_a0 a0) (h0 : a0.length ≤ 1048576) (h1 : ∀ x ∈ a0, x.path.length ≤ 1048576) (h2 : a1.path.length ≤ 1048576) :
    Calls Tryd.prog 9 #[v_a0, .agg (encNd a1).toArray] w (Rt (RT 31 4 encNd w ((addNode a0 a1).1) (.int .i64 ((addNode a0 a1).2)))) := impl_AddNode.walk gv f_a0 (impl_AddNode.eq a0 a1 h0 h1 h2)
/-! laws.FnExactAddNode -/
theorem law_AddNode.walk {w : World} {a0 : List Nd} {a1 : Nd} (gv : GV 0 w) {v_a0 : Value} (f_a0 : Rd 4 encNd w v_a0 a0) {r : Bool} (H : law_AddNode.sh a0 a1 = some r) :
    Calls Tryd.prog 3 #[v_a0, .agg (encNd a1).toArray] w (Rt (RP w (.bool r))) := by
  unfold law_AddNode.sh at H
  refine calls_of_W Tryd.func3 rfl (Nat.le_of_ble_eq_true rfl) Tryd.ntmps3 rfl ?_
  refine W_seq <| W_reg <| L_box (.plain rfl) rfl (ltb rfl) rfl rfl <| fun b1 w2 z3 z4 e5 k6 => L_op (.plain rfl) rfl (ltb rfl) (X_assign (v := (.bool false)) rfl) <| L_nil <| thn_n <| W_seq <| W_reg <| L_op (.plain rfl) rfl (ltb rfl) (X_assign (v := (.int .i64 1048576)) rfl) <| L_nil <| thn_n <| W_seq <| W_reg <| L_op (.plain rfl) rfl (ltb rfl) (X_move (v := v_a0) rfl) <| L_op (.plain rfl) rfl (ltb rfl) (X_move (v := (.int .i64 1048576)) rfl) ?_
  obtain ⟨c7, H⟩ := bif_some H
  obtain ⟨c8, H⟩ := bif_some H
  obtain ⟨c9, H⟩ := bif_some H
  obtain ⟨c10, H⟩ := bif_some H
  refine L_callP (.plain rfl) rfl (ltb rfl) rfl Tryd.call4 (laws_szNodeS.calls (w := w2) (a0 := a0) (a1 := 1048576) (Rd.ext f_a0 e5) (of_decide_eq_true c7) (of_decide_eq_true c8) (of_decide_eq_true c9) (of_decide_eq_true c10)) rfl <| fun w11 e12 => L_op (.plain rfl) rfl (ltb rfl) (X_assign (v := (.int .i64 (szNdS a0 1048576))) rfl) <| L_nil <| thn_n <| W_seq <| W_seq <| W_reg <| L_op (.plain rfl) rfl (ltb rfl) (X_move (v := (.int .i64 (szNdS a0 1048576))) rfl) <| L_op (.plain rfl) rfl (ltb rfl) (X_lss rfl rfl) <| L_nil <| thn_n ?_
  rcases bif_two H with ⟨q13, H⟩ | ⟨q13, H⟩
  · refine W_true (congrArg Value.bool q13) <| W_seq <| W_reg <| L_op (.plain rfl) rfl (ltb rfl) (X_assign (v := (.bool true)) rfl) <| L_nil <| thn_n <| W_ret <| thn_r <| fin_r ?_
    obtain rfl := Option.some.inj H
    exact fin1 rfl (Ext.trans e5 e12)
  · refine W_false (congrArg Value.bool q13) <| W_skip <| thn_n <| W_seq <| W_reg <| L_op (.plain rfl) rfl (ltb rfl) (X_loadS Tryd.isAgg24 Tryd.sizeOf24 rfl rfl (Blk.at0 (Blk.ext k6 e12))) <| L_op (.plain rfl) rfl (ltb rfl) (X_move (v := (.int .i64 (szNdS a0 1048576))) rfl) ?_
    obtain ⟨c14, H⟩ := bif_some H
    obtain ⟨c15, H⟩ := bif_some H
    obtain ⟨c16, H⟩ := bif_some H
    obtain ⟨c17, H⟩ := bif_some H
    refine L_callP (.plain rfl) rfl (ltb rfl) rfl Tryd.call5 (laws_szNode.calls (w := w11) (a0 := a1) (a1 := (szNdS a0 1048576)) (of_decide_eq_true c14) (of_decide_eq_true c15) (of_decide_eq_true c16) (of_decide_eq_true c17)) rfl <| fun w18 e19 => L_op (.plain rfl) rfl (ltb rfl) (X_assign (v := (.int .i64 (szNd a1 (szNdS a0 1048576)))) rfl) <| L_nil <| thn_n <| W_seq <| W_seq <| W_reg <| L_op (.plain rfl) rfl (ltb rfl) (X_move (v := (.int .i64 (szNd a1 (szNdS a0 1048576)))) rfl) <| L_op (.plain rfl) rfl (ltb rfl) (X_lss rfl rfl) <| L_nil <| thn_n ?_
    rcases bif_two H with ⟨q20, H⟩ | ⟨q20, H⟩
    · refine W_true (congrArg Value.bool q20) <| W_seq <| W_reg <| L_op (.plain rfl) rfl (ltb rfl) (X_assign (v := (.bool true)) rfl) <| L_nil <| thn_n <| W_ret <| thn_r <| fin_r ?_
      obtain rfl := Option.some.inj H
      exact fin1 rfl (Ext.trans (Ext.trans e5 e12) e19)
    · refine W_false (congrArg Value.bool q20) <| W_skip <| thn_n <| W_seq ?_
      obtain ⟨c21, H⟩ := bif_some H
      obtain ⟨c28, H⟩ := bif_some H
      obtain ⟨c29, H⟩ := bif_some H
      obtain ⟨c30, H⟩ := bif_some H
      refine W_drawR (B := w18.heap.size) [LEq v_a0, LOw 31 4 encNd w18.heap.size a0, LEq (.agg #[(.int .i64 a1.kind), (S a1.path), (S a1.body), (.int .i64 a1.mode)]), LEq (.agg (encNd a1).toArray), LTup 31 4 encNd w18.heap.size ((addNode a0 a1).1) (.int .i64 ((addNode a0 a1).2)), LTup 31 4 encNd w18.heap.size ((addNode a0 a1).1) (.int .i64 ((addNode a0 a1).2)), LOw 31 4 encNd w18.heap.size ((addNode a0 a1).1), LEq (.int .i64 ((addNode a0 a1).2)), LOw 31 4 encNd w18.heap.size ((addNode a0 a1).1), LEq (.int .i64 ((addNode a0 a1).2))] [⟨true, true, true, false, []⟩, ⟨true, false, true, false, [0]⟩, ⟨true, true, true, false, []⟩, ⟨true, true, true, false, [2]⟩, ⟨true, false, true, false, [1, 3]⟩, ⟨true, false, true, false, [4]⟩, ⟨true, false, true, false, [5]⟩, ⟨true, true, true, false, [5]⟩, ⟨true, false, true, true, [6]⟩, ⟨true, true, true, true, [7]⟩] [] (by kernel_rfl) (by kernel_rfl) (Nat.le_refl _) ⟨⟨LEq.rig.mono, fun _ => LEq.rig⟩, ⟨LOw.mono, noR⟩, ⟨LEq.rig.mono, fun _ => LEq.rig⟩, ⟨LEq.rig.mono, fun _ => LEq.rig⟩, ⟨LTup.mono, noR⟩, ⟨LTup.mono, noR⟩, ⟨LOw.mono, noR⟩, ⟨LEq.rig.mono, fun _ => LEq.rig⟩, ⟨LOw.mono, noR⟩, ⟨LEq.rig.mono, fun _ => LEq.rig⟩, trivial⟩ ⟨?_, ?_, ?_, ?_, ?_, ?_, ?_, ?_, ?_, ?_, trivial⟩ ?_
      · intro s35 w36 hb37 hx38 hf39 hd40 hu41
        have e42 : Ext w18 w36 := hx38 rfl
        exact L_op (.plain rfl) rfl (ltb rfl) (X_move (v := v_a0) (hf39 0 rfl)) <| L_nil <| stepS rfl rfl rfl (Ext.refl w36) rfl
      · intro s43 w44 hb45 hx46 hf47 hd48 hu49
        have e50 : Ext w18 w44 := hx46 rfl
        have d51 : s43 27 = v_a0 := (hd48 0 rfl)
        have c52 := c28
        exact L_callO (.plain rfl) rfl (ltb rfl) rfl Tryd.call7 (laws_toNodeS.calls (w := w44) (a0 := a0) (Rd.ext f_a0 (Ext.trans (Ext.trans (Ext.trans e5 e12) e19) e50)) (of_decide_eq_true c52)) (cons2 d51 rfl) <| fun v55 w53 e54 o56 => L_nil <| stepS rfl rfl rfl e54 (Ow.base o56 e50.size)
      · intro s57 w58 hb59 hx60 hf61 hd62 hu63
        have e64 : Ext w18 w58 := hx60 rfl
        exact L_op (.plain rfl) rfl (ltb rfl) (X_loadS Tryd.isAgg24 Tryd.sizeOf24 rfl (hf61 3 rfl) (Blk.at0 (Blk.ext k6 (Ext.trans (Ext.trans e12 e19) e64)))) <| L_nil <| stepS rfl rfl rfl (Ext.refl w58) rfl
      · intro s65 w66 hb67 hx68 hf69 hd70 hu71
        have e72 : Ext w18 w66 := hx68 rfl
        have d73 : s65 29 = (.agg #[(.int .i64 a1.kind), (S a1.path), (S a1.body), (.int .i64 a1.mode)]) := (hd70 2 rfl)
        exact L_callP (.plain rfl) rfl (ltb rfl) rfl Tryd.call8 (laws_toNode.calls (w := w66) (a0 := a1)) (cons2 d73 rfl) <| fun w74 e75 => L_nil <| stepS rfl rfl rfl e75 rfl
      · intro s76 w77 hb78 hx79 hf80 hd81 hu82
        have e83 : Ext w18 w77 := hx79 rfl
        have d84 : Ow 31 4 encNd w18.heap.size w77 (s76 28) a0 := (hd81 1 rfl)
        have d85 : s76 30 = (.agg (encNd a1).toArray) := (hd81 3 rfl)
        have c86 := c28
        have c87 := c29
        have c88 := c30
        exact L_callT (.plain rfl) rfl (ltb rfl) rfl Tryd.call6 (spec_AddNode.calls (w := w77) (a0 := a0) (a1 := a1) (Ow.rd d84) (of_decide_eq_true c86) (of_decide_eq_true c87) (of_decide_eq_true c88)) (cons2 rfl (cons2 d85 rfl)) <| fun v91 w89 e90 o92 => L_nil <| stepS rfl rfl rfl e90 ⟨_, rfl, (Ow.base o92 e83.size)⟩
      · intro s93 w94 hb95 hx96 hf97 hd98 hu99
        have e100 : Ext w18 w94 := hx96 rfl
        obtain ⟨u101, h102, o103⟩ := (hd98 4 rfl)
        exact L_op (.plain rfl) rfl (ltb rfl) (X_move (v := (.tuple #[u101, (.int .i64 ((addNode a0 a1).2))])) h102) <| L_nil <| stepS rfl rfl rfl (Ext.refl w94) ⟨_, rfl, o103⟩
      · intro s104 w105 hb106 hx107 hf108 hd109 hu110
        have e111 : Ext w18 w105 := hx107 rfl
        obtain ⟨u112, h113, o114⟩ := (hd109 5 rfl)
        exact L_op (.plain rfl) rfl (ltb rfl) (X_extract (v := u112) h113 rfl) <| L_nil <| stepS rfl rfl rfl (Ext.refl w105) o114
      · intro s115 w116 hb117 hx118 hf119 hd120 hu121
        have e122 : Ext w18 w116 := hx118 rfl
        obtain ⟨u123, h124, o125⟩ := (hd120 5 rfl)
        exact L_op (.plain rfl) rfl (ltb rfl) (X_extract (v := (.int .i64 ((addNode a0 a1).2))) h124 rfl) <| L_nil <| stepS rfl rfl rfl (Ext.refl w116) rfl
      · intro s126 w127 hb128 hx129 hf130 hd131 hu132
        have e133 : Ext w18 w127 := hx129 rfl
        have d134 : Ow 31 4 encNd w18.heap.size w127 (s126 32) ((addNode a0 a1).1) := (hd131 6 rfl)
        exact L_op (.plain rfl) rfl (ltb rfl) (X_assign (v := (s126 32)) rfl) <| L_nil <| stepS rfl rfl rfl (Ext.refl w127) d134
      · intro s135 w136 hb137 hx138 hf139 hd140 hu141
        have e142 : Ext w18 w136 := hx138 rfl
        have d143 : s135 33 = (.int .i64 ((addNode a0 a1).2)) := (hd140 7 rfl)
        exact L_op (.plain rfl) rfl (ltb rfl) (X_assign (v := (.int .i64 ((addNode a0 a1).2))) d143) <| L_nil <| stepS rfl rfl rfl (Ext.refl w136) rfl
      intro s144 w145 hb146 hf148 ha149
      have K150 := Kp.ofD (kp := [(6, 8), (26, 34)]) rfl hf148
      have e147 : Ext w18 w145 := hb146
      have d151 : Ow 31 4 encNd w18.heap.size w145 (s144 6) ((addNode a0 a1).1) := ha149 8 rfl rfl
      have d152 : s144 7 = (.int .i64 ((addNode a0 a1).2)) := ha149 9 rfl rfl
      clear ha149 hf148
      refine thn_n <| W_seq <| W_reg <| L_op (.plain rfl) rfl (ltb rfl) (X_move (v := v_a0) (K150 0 rfl)) ?_
      obtain ⟨c153, H⟩ := bif_some H
      refine L_callO (.plain rfl) rfl (ltb rfl) rfl Tryd.call7 (laws_toNodeS.calls (w := w145) (a0 := a0) (Rd.ext f_a0 (Ext.trans (Ext.trans (Ext.trans e5 e12) e19) e147)) (of_decide_eq_true c153)) rfl <| fun v156 w154 e155 o157 => L_op (.plain rfl) rfl (ltb rfl) (X_assign (v := v156) rfl) <| L_nil <| thn_n <| W_seq <| W_reg <| L_op (.plain rfl) rfl (ltb rfl) (X_move (v := v156) rfl) <| L_op (.plain rfl) rfl (ltb rfl) (X_loadS Tryd.isAgg24 Tryd.sizeOf24 rfl (K150 3 rfl) (Blk.at0 (Blk.ext k6 (Ext.trans (Ext.trans (Ext.trans e12 e19) e147) e155)))) <| L_callP (.plain rfl) rfl (ltb rfl) rfl Tryd.call8 (laws_toNode.calls (w := w154) (a0 := a1)) rfl <| fun w158 e159 => ?_
      obtain ⟨c160, H⟩ := bif_some H
      obtain ⟨c161, H⟩ := bif_some H
      obtain ⟨c162, H⟩ := bif_some H
      refine L_callT (.plain rfl) rfl (ltb rfl) rfl Tryd.call9 (impl_AddNode.calls (w := w158) (a0 := a0) (a1 := a1) (GV.ext gv (Ext.trans (Ext.trans (Ext.trans (Ext.trans (Ext.trans e5 e12) e19) e147) e155) e159)) (Ow.rd (Ow.ext o157 e159)) (of_decide_eq_true c160) (of_decide_eq_true c161) (of_decide_eq_true c162)) rfl <| fun v165 w163 e164 o166 => L_op (.plain rfl) rfl (ltb rfl) (X_move (v := (.tuple #[v165, (.int .i64 ((addNode a0 a1).2))])) rfl) <| L_op (.plain rfl) rfl (ltb rfl) (X_extract (v := v165) rfl rfl) <| L_op (.plain rfl) rfl (ltb rfl) (X_extract (v := (.int .i64 ((addNode a0 a1).2))) rfl rfl) <| L_op (.plain rfl) rfl (ltb rfl) (X_assign (v := v165) rfl) <| L_op (.plain rfl) rfl (ltb rfl) (X_assign (v := (.int .i64 ((addNode a0 a1).2))) rfl) <| L_nil <| thn_n <| W_seq <| W_seq <| W_reg <| L_op (.plain rfl) rfl (ltb rfl) (X_move (v := v165) rfl) <| L_op (.plain rfl) rfl (ltb rfl) (X_move (v := (s144 6)) rfl) ?_
      obtain ⟨c167, H⟩ := bif_some H
      refine L_callP (.plain rfl) rfl (ltb rfl) rfl Tryd.call10 (laws_eqNodeS.calls (w := w163) (a0 := (addNode a0 a1).1) (a1 := (addNode a0 a1).1) (Ow.rd o166) (Ow.rd (Ow.ext d151 (Ext.trans (Ext.trans e155 e159) e164))) (of_decide_eq_true c167)) rfl <| fun w168 e169 => L_op (.plain rfl) rfl (ltb rfl) (X_not rfl) <| L_op (.plain rfl) rfl (ltb rfl) (X_move (v := (.bool (!(decide (((addNode a0 a1).1) = ((addNode a0 a1).1)))))) rfl) <| L_grp 4 [(48, 52)] 51 (.bool ((!(decide (((addNode a0 a1).1) = ((addNode a0 a1).1)))) || (!decide (((addNode a0 a1).2) = ((addNode a0 a1).2))))) ?_ ?_
      · rcases bool_two (!(decide (((addNode a0 a1).1) = ((addNode a0 a1).1)))) with b169_ | b169_
        · exact L_skip rfl rfl (ltb rfl) (congrArg Value.bool b169_) rfl rfl (ltb rfl) <| L_skip rfl rfl (ltb rfl) (congrArg Value.bool b169_) rfl rfl (ltb rfl) <| L_skip rfl rfl (ltb rfl) (congrArg Value.bool b169_) rfl rfl (ltb rfl) <| L_op (.plain rfl) rfl (ltb rfl) (X_pick (b := true) (v := (.bool true)) (congrArg Value.bool b169_) rfl) <| L_nil <| thn_n ⟨(Kp.upd (Kp.upd (Kp.upd (Kp.upd (Kp.refl _ _) rfl) rfl) rfl) rfl), (or_t b169_), (Ext.refl w168)⟩
        · exact L_op (.guard 4 false 47 rfl rfl (ltb rfl) (congrArg Value.bool b169_)) rfl (ltb rfl) (X_move (v := (.int .i64 ((addNode a0 a1).2))) rfl) <| L_op (.guard 4 false 47 rfl rfl (ltb rfl) (congrArg Value.bool b169_)) rfl (ltb rfl) (X_move (v := (.int .i64 ((addNode a0 a1).2))) d152) <| L_op (.guard 4 false 47 rfl rfl (ltb rfl) (congrArg Value.bool b169_)) rfl (ltb rfl) (X_neq rfl rfl) <| L_op (.plain rfl) rfl (ltb rfl) (X_pick (b := false) (v := (.bool (!decide (((addNode a0 a1).2) = ((addNode a0 a1).2))))) (congrArg Value.bool b169_) rfl) <| L_nil <| thn_n ⟨(Kp.upd (Kp.upd (Kp.upd (Kp.upd (Kp.refl _ _) rfl) rfl) rfl) rfl), (or_f b169_), (Ext.refl w168)⟩
      intro s175 w171 K172 h173 e174
      refine L_nil <| thn_n ?_
      rcases bif_two H with ⟨q176, H⟩ | ⟨q176, H⟩
      · refine W_true (h173.trans (congrArg Value.bool q176)) <| W_seq <| W_reg <| L_op (.plain rfl) rfl (ltb rfl) (X_assign (v := (.bool false)) rfl) <| L_nil <| thn_n <| W_ret <| thn_r <| fin_r ?_
        obtain rfl := Option.some.inj H
        exact fin1 rfl (Ext.trans (Ext.trans (Ext.trans (Ext.trans (Ext.trans (Ext.trans (Ext.trans (Ext.trans e5 e12) e19) e147) e155) e159) e164) e169) e174)
      · refine W_false (h173.trans (congrArg Value.bool q176)) <| W_skip <| thn_n <| W_seq <| W_seq <| W_reg <| L_op (.plain rfl) rfl (ltb rfl) (X_move (v := v156) (K172 8 rfl)) <| L_op (.plain rfl) rfl (ltb rfl) (X_move (v := v_a0) ((K172 0 rfl).trans (K150 0 rfl))) ?_
        obtain ⟨c177, H⟩ := bif_some H
        refine L_callO (.plain rfl) rfl (ltb rfl) rfl Tryd.call7 (laws_toNodeS.calls (w := w171) (a0 := a0) (Rd.ext f_a0 (Ext.trans (Ext.trans (Ext.trans (Ext.trans (Ext.trans (Ext.trans (Ext.trans (Ext.trans e5 e12) e19) e147) e155) e159) e164) e169) e174)) (of_decide_eq_true c177)) rfl <| fun v180 w178 e179 o181 => ?_
        obtain ⟨c182, H⟩ := bif_some H
        refine L_callP (.plain rfl) rfl (ltb rfl) rfl Tryd.call10 (laws_eqNodeS.calls (w := w178) (a0 := a0) (a1 := a0) (Ow.rd (Ow.ext o157 (Ext.trans (Ext.trans (Ext.trans (Ext.trans e159 e164) e169) e174) e179))) (Ow.rd o181) (of_decide_eq_true c182)) rfl <| fun w183 e184 => L_op (.plain rfl) rfl (ltb rfl) (X_not rfl) <| L_nil <| thn_n ?_
        rcases bif_two H with ⟨q185, H⟩ | ⟨q185, H⟩
        · refine W_true (congrArg Value.bool q185) <| W_seq <| W_reg <| L_op (.plain rfl) rfl (ltb rfl) (X_assign (v := (.bool false)) rfl) <| L_nil <| thn_n <| W_ret <| thn_r <| fin_r ?_
          obtain rfl := Option.some.inj H
          exact fin1 rfl (Ext.trans (Ext.trans (Ext.trans (Ext.trans (Ext.trans (Ext.trans (Ext.trans (Ext.trans (Ext.trans (Ext.trans e5 e12) e19) e147) e155) e159) e164) e169) e174) e179) e184)
        · refine W_false (congrArg Value.bool q185) <| W_skip <| thn_n <| W_seq <| W_reg <| L_op (.plain rfl) rfl (ltb rfl) (X_assign (v := (.int .i64 1)) rfl) <| L_nil <| thn_n <| W_seq <| W_reg <| L_op (.plain rfl) rfl (ltb rfl) (X_move (v := v156) (K172 8 rfl)) <| L_op (.plain rfl) rfl (ltb rfl) (X_move (v := (.int .i64 1)) rfl) ?_
          obtain ⟨c186, H⟩ := bif_some H
          obtain ⟨c187, H⟩ := bif_some H
          obtain ⟨c188, H⟩ := bif_some H
          refine L_callM (.plain rfl) rfl (ltb rfl) rfl Tryd.call11 (laws_markNodeS.calls (w := w183) (a0 := a0) (a1 := 1) (Ow.ext o157 (Ext.trans (Ext.trans (Ext.trans (Ext.trans (Ext.trans e159 e164) e169) e174) e179) e184)) (Ow.hb o157) (of_decide_eq_true c186) (of_decide_eq_true c187) (of_decide_eq_true c188)) rfl <| fun w189 e190 o191 => L_op (.plain rfl) rfl (ltb rfl) (X_assign (v := (.int .i64 (1 + 4 * (a0.length : Int)))) rfl) <| L_nil <| thn_n <| W_seq <| W_seq <| W_reg <| L_op (.plain rfl) rfl (ltb rfl) (X_move (v := (.int .i64 (1 + 4 * (a0.length : Int)))) rfl) <| L_op (.plain rfl) rfl (ltb rfl) (X_lss rfl rfl) <| L_op (.plain rfl) rfl (ltb rfl) (X_move (v := (.bool (decide ((1 + 4 * (a0.length : Int)) < 0)))) rfl) ?_
          obtain ⟨z193, x194, H⟩ := bind_some H
          refine L_grpE 5 [(63, 68)] 67 (fun q => q = z193) ?_ ?_
          · rcases bif_two x194 with ⟨b191_, H⟩ | ⟨b191_, H⟩
            · refine L_skip rfl rfl (ltb rfl) (congrArg Value.bool b191_) rfl rfl (ltb rfl) <| L_skip rfl rfl (ltb rfl) (congrArg Value.bool b191_) rfl rfl (ltb rfl) <| L_skip rfl rfl (ltb rfl) (congrArg Value.bool b191_) rfl rfl (ltb rfl) <| L_skip rfl rfl (ltb rfl) (congrArg Value.bool b191_) rfl rfl (ltb rfl) <| L_op (.plain rfl) rfl (ltb rfl) (X_pick (b := true) (v := (.bool true)) (congrArg Value.bool b191_) rfl) ?_
              obtain rfl := Option.some.inj H
              exact L_nil <| thn_n ⟨(Kp.upd (Kp.upd (Kp.upd (Kp.upd (Kp.upd (Kp.refl _ _) rfl) rfl) rfl) rfl) rfl), ⟨_, rfl, rfl⟩, (Ext.refl w189)⟩
            · refine L_op (.guard 2 false 62 rfl rfl (ltb rfl) (congrArg Value.bool b191_)) rfl (ltb rfl) (X_move (v := v165) (K172 9 rfl)) <| L_op (.guard 2 false 62 rfl rfl (ltb rfl) (congrArg Value.bool b191_)) rfl (ltb rfl) (X_move (v := (s144 6)) (K172 6 rfl)) ?_
              obtain ⟨c193, H⟩ := bif_some H
              refine L_callP (.guard 2 false 62 rfl rfl (ltb rfl) (congrArg Value.bool b191_)) rfl (ltb rfl) rfl Tryd.call10 (laws_eqNodeS.calls (w := w189) (a0 := (addNode a0 a1).1) (a1 := (addNode a0 a1).1) (Ow.rd (Ow.later (Ow.ext o166 (Ext.trans (Ext.trans (Ext.trans e169 e174) e179) e184)) e190 e159.size)) (Ow.rd (Ow.ext d151 (Ext.gr (Ext.trans (Ext.trans (Ext.trans (Ext.trans (Ext.trans (Ext.trans e155 e159) e164) e169) e174) e179) e184) e190 (Ext.refl w145).size))) (of_decide_eq_true c193)) rfl <| fun w194 e195 => L_op (.guard 2 false 62 rfl rfl (ltb rfl) (congrArg Value.bool b191_)) rfl (ltb rfl) (X_not rfl) <| L_op (.plain rfl) rfl (ltb rfl) (X_pick (b := false) (v := (.bool (!(decide (((addNode a0 a1).1) = ((addNode a0 a1).1)))))) (congrArg Value.bool b191_) rfl) ?_
              obtain rfl := Option.some.inj H
              exact L_nil <| thn_n ⟨(Kp.upd (Kp.upd (Kp.upd (Kp.upd (Kp.upd (Kp.refl _ _) rfl) rfl) rfl) rfl) rfl), ⟨_, rfl, rfl⟩, e195⟩
          intro s199 w195 z200 K196 hq h197 e198
          rw [hq] at h197; clear hq
          refine L_op (.plain rfl) rfl (ltb rfl) (X_move (v := (.bool z193)) h197) <| L_grp 4 [(69, 73)] 72 (.bool (z193 || (!decide (((addNode a0 a1).2) = ((addNode a0 a1).2))))) ?_ ?_
          · rcases bool_two z193 with b200_ | b200_
            · exact L_skip rfl rfl (ltb rfl) (congrArg Value.bool b200_) rfl rfl (ltb rfl) <| L_skip rfl rfl (ltb rfl) (congrArg Value.bool b200_) rfl rfl (ltb rfl) <| L_skip rfl rfl (ltb rfl) (congrArg Value.bool b200_) rfl rfl (ltb rfl) <| L_op (.plain rfl) rfl (ltb rfl) (X_pick (b := true) (v := (.bool true)) (congrArg Value.bool b200_) rfl) <| L_nil <| thn_n ⟨(Kp.upd (Kp.upd (Kp.upd (Kp.upd (Kp.refl _ _) rfl) rfl) rfl) rfl), (or_t b200_), (Ext.refl w195)⟩
            · exact L_op (.guard 8 false 68 rfl rfl (ltb rfl) (congrArg Value.bool b200_)) rfl (ltb rfl) (X_move (v := (.int .i64 ((addNode a0 a1).2))) ((K196 10 rfl).trans (K172 10 rfl))) <| L_op (.guard 8 false 68 rfl rfl (ltb rfl) (congrArg Value.bool b200_)) rfl (ltb rfl) (X_move (v := (.int .i64 ((addNode a0 a1).2))) ((K196 7 rfl).trans ((K172 7 rfl).trans d152))) <| L_op (.guard 8 false 68 rfl rfl (ltb rfl) (congrArg Value.bool b200_)) rfl (ltb rfl) (X_neq rfl rfl) <| L_op (.plain rfl) rfl (ltb rfl) (X_pick (b := false) (v := (.bool (!decide (((addNode a0 a1).2) = ((addNode a0 a1).2))))) (congrArg Value.bool b200_) rfl) <| L_nil <| thn_n ⟨(Kp.upd (Kp.upd (Kp.upd (Kp.upd (Kp.refl _ _) rfl) rfl) rfl) rfl), (or_f b200_), (Ext.refl w195)⟩
          intro s206 w202 K203 h204 e205
          refine L_nil <| thn_n ?_
          rcases bif_two H with ⟨q207, H⟩ | ⟨q207, H⟩
          · refine W_true (h204.trans (congrArg Value.bool q207)) <| W_seq <| W_reg <| L_op (.plain rfl) rfl (ltb rfl) (X_assign (v := (.bool false)) rfl) <| L_nil <| thn_n <| W_ret <| thn_r <| fin_r ?_
            obtain rfl := Option.some.inj H
            exact fin1 rfl (Ext.trans (Ext.trans (Ext.trans (Ext.trans (Ext.trans (Ext.trans e5 e12) e19) e147) (Ext.gr (Ext.trans (Ext.trans (Ext.trans (Ext.trans (Ext.trans (Ext.trans e155 e159) e164) e169) e174) e179) e184) e190 (Ext.refl w145).size)) e198) e205)
          · refine W_false (h204.trans (congrArg Value.bool q207)) <| W_skip <| thn_n <| W_seq <| W_reg <| L_op (.plain rfl) rfl (ltb rfl) (X_assign (v := (.int .i64 1)) rfl) <| L_nil <| thn_n <| W_seq <| W_reg <| L_op (.plain rfl) rfl (ltb rfl) (X_move (v := v165) ((K203 9 rfl).trans ((K196 9 rfl).trans (K172 9 rfl)))) <| L_op (.plain rfl) rfl (ltb rfl) (X_move (v := (.int .i64 1)) rfl) ?_
            obtain ⟨c208, H⟩ := bif_some H
            obtain ⟨c209, H⟩ := bif_some H
            obtain ⟨c210, H⟩ := bif_some H
            refine L_callM (.plain rfl) rfl (ltb rfl) rfl Tryd.call11 (laws_markNodeS.calls (w := w202) (a0 := (addNode a0 a1).1) (a1 := 1) (Ow.ext (Ow.later (Ow.ext o166 (Ext.trans (Ext.trans (Ext.trans e169 e174) e179) e184)) e190 e159.size) (Ext.trans e198 e205)) (Ow.hb o166) (of_decide_eq_true c208) (of_decide_eq_true c209) (of_decide_eq_true c210)) rfl <| fun w211 e212 o213 => L_op (.plain rfl) rfl (ltb rfl) (X_assign (v := (.int .i64 (1 + 4 * (((addNode a0 a1).1).length : Int)))) rfl) <| L_nil <| thn_n <| W_seq <| W_reg <| L_op (.plain rfl) rfl (ltb rfl) (X_assign (v := (.int .i64 1)) rfl) <| L_nil <| thn_n <| W_seq <| W_reg <| L_op (.plain rfl) rfl (ltb rfl) (X_move (v := v165) ((K203 9 rfl).trans ((K196 9 rfl).trans (K172 9 rfl)))) <| L_op (.plain rfl) rfl (ltb rfl) (X_move (v := (.int .i64 1)) rfl) ?_
            obtain ⟨c214, H⟩ := bif_some H
            obtain ⟨c215, H⟩ := bif_some H
            obtain ⟨c216, H⟩ := bif_some H
            refine L_callP (.plain rfl) rfl (ltb rfl) rfl Tryd.call12 (laws_heldNodeS.calls (w := w211) (a0 := (marksN ((addNode a0 a1).1).length 1)) (a1 := 1) (Ow.rd o213) (of_decide_eq_true c214) (of_decide_eq_true c215) (of_decide_eq_true c216)) rfl <| fun w217 e218 => L_op (.plain rfl) rfl (ltb rfl) (X_assign (v := (.int .i64 (heldN (marksN ((addNode a0 a1).1).length 1) 1))) rfl) <| L_nil <| thn_n <| W_seq <| W_seq <| W_reg <| L_op (.plain rfl) rfl (ltb rfl) (X_move (v := (.int .i64 (heldN (marksN ((addNode a0 a1).1).length 1) 1))) rfl) <| L_op (.plain rfl) rfl (ltb rfl) (X_lss rfl rfl) <| L_nil <| thn_n ?_
            rcases bif_two H with ⟨q219, H⟩ | ⟨q219, H⟩
            · refine W_true (congrArg Value.bool q219) <| W_seq <| W_reg <| L_op (.plain rfl) rfl (ltb rfl) (X_assign (v := (.bool false)) rfl) <| L_nil <| thn_n <| W_ret <| thn_r <| fin_r ?_
              obtain rfl := Option.some.inj H
              exact fin1 rfl (Ext.trans (Ext.trans (Ext.trans (Ext.trans (Ext.trans e5 e12) e19) e147) (Ext.gr (Ext.trans (Ext.trans (Ext.gr (Ext.trans (Ext.trans (Ext.trans (Ext.trans (Ext.trans (Ext.trans e155 e159) e164) e169) e174) e179) e184) e190 (Ext.refl w145).size) e198) e205) e212 (Ext.trans e155 e159).size)) e218)
            · refine W_false (congrArg Value.bool q219) <| W_skip <| thn_n <| W_seq <| W_seq <| W_reg <| L_op (.plain rfl) rfl (ltb rfl) (X_move (v := (.int .i64 (heldN (marksN ((addNode a0 a1).1).length 1) 1))) rfl) <| L_op (.plain rfl) rfl (ltb rfl) (X_move (v := (.int .i64 (1 + 4 * (((addNode a0 a1).1).length : Int)))) rfl) <| L_op (.plain rfl) rfl (ltb rfl) (X_neq rfl rfl) <| L_nil <| thn_n ?_
              rcases bif_two H with ⟨q220, H⟩ | ⟨q220, H⟩
              · refine W_true (congrArg Value.bool q220) <| W_seq <| W_reg <| L_op (.plain rfl) rfl (ltb rfl) (X_assign (v := (.bool false)) rfl) <| L_nil <| thn_n <| W_ret <| thn_r <| fin_r ?_
                obtain rfl := Option.some.inj H
                exact fin1 rfl (Ext.trans (Ext.trans (Ext.trans (Ext.trans (Ext.trans e5 e12) e19) e147) (Ext.gr (Ext.trans (Ext.trans (Ext.gr (Ext.trans (Ext.trans (Ext.trans (Ext.trans (Ext.trans (Ext.trans e155 e159) e164) e169) e174) e179) e184) e190 (Ext.refl w145).size) e198) e205) e212 (Ext.trans e155 e159).size)) e218)
              · refine W_false (congrArg Value.bool q220) <| W_skip <| thn_n <| W_seq ?_
                obtain ⟨c221, H⟩ := bif_some H
                obtain ⟨c228, H⟩ := bif_some H
                obtain ⟨c229, H⟩ := bif_some H
                obtain ⟨c230, H⟩ := bif_some H
                refine W_drawR (B := w217.heap.size) [LEq v_a0, LOw 31 4 encNd w217.heap.size a0, LEq (.agg #[(.int .i64 a1.kind), (S a1.path), (S a1.body), (.int .i64 a1.mode)]), LEq (.agg (encNd a1).toArray), LTup 31 4 encNd w217.heap.size ((addNode a0 a1).1) (.int .i64 ((addNode a0 a1).2)), LTup 31 4 encNd w217.heap.size ((addNode a0 a1).1) (.int .i64 ((addNode a0 a1).2)), LOw 31 4 encNd w217.heap.size ((addNode a0 a1).1), LEq (.int .i64 ((addNode a0 a1).2)), LOw 31 4 encNd w217.heap.size ((addNode a0 a1).1), LEq (.int .i64 ((addNode a0 a1).2))] [⟨true, true, true, false, []⟩, ⟨true, false, true, false, [0]⟩, ⟨true, true, true, false, []⟩, ⟨true, true, true, false, [2]⟩, ⟨true, false, true, false, [1, 3]⟩, ⟨true, false, true, false, [4]⟩, ⟨true, false, true, false, [5]⟩, ⟨true, true, true, false, [5]⟩, ⟨true, false, true, true, [6]⟩, ⟨true, true, true, true, [7]⟩] [] (by kernel_rfl) (by kernel_rfl) (Nat.le_refl _) ⟨⟨LEq.rig.mono, fun _ => LEq.rig⟩, ⟨LOw.mono, noR⟩, ⟨LEq.rig.mono, fun _ => LEq.rig⟩, ⟨LEq.rig.mono, fun _ => LEq.rig⟩, ⟨LTup.mono, noR⟩, ⟨LTup.mono, noR⟩, ⟨LOw.mono, noR⟩, ⟨LEq.rig.mono, fun _ => LEq.rig⟩, ⟨LOw.mono, noR⟩, ⟨LEq.rig.mono, fun _ => LEq.rig⟩, trivial⟩ ⟨?_, ?_, ?_, ?_, ?_, ?_, ?_, ?_, ?_, ?_, trivial⟩ ?_
                · intro s235 w236 hb237 hx238 hf239 hd240 hu241
                  have e242 : Ext w217 w236 := hx238 rfl
                  exact L_op (.plain rfl) rfl (ltb rfl) (X_move (v := v_a0) ((hf239 0 rfl).trans ((K203 0 rfl).trans ((K196 0 rfl).trans ((K172 0 rfl).trans (K150 0 rfl)))))) <| L_nil <| stepS rfl rfl rfl (Ext.refl w236) rfl
                · intro s243 w244 hb245 hx246 hf247 hd248 hu249
                  have e250 : Ext w217 w244 := hx246 rfl
                  have d251 : s243 85 = v_a0 := (hd248 0 rfl)
                  have c252 := c228
                  exact L_callO (.plain rfl) rfl (ltb rfl) rfl Tryd.call7 (laws_toNodeS.calls (w := w244) (a0 := a0) (Rd.ext f_a0 (Ext.trans (Ext.trans (Ext.trans (Ext.trans (Ext.trans (Ext.trans e5 e12) e19) e147) (Ext.gr (Ext.trans (Ext.trans (Ext.gr (Ext.trans (Ext.trans (Ext.trans (Ext.trans (Ext.trans (Ext.trans e155 e159) e164) e169) e174) e179) e184) e190 (Ext.refl w145).size) e198) e205) e212 (Ext.trans e155 e159).size)) e218) e250)) (of_decide_eq_true c252)) (cons2 d251 rfl) <| fun v255 w253 e254 o256 => L_nil <| stepS rfl rfl rfl e254 (Ow.base o256 e250.size)
                · intro s257 w258 hb259 hx260 hf261 hd262 hu263
                  have e264 : Ext w217 w258 := hx260 rfl
                  exact L_op (.plain rfl) rfl (ltb rfl) (X_loadS Tryd.isAgg24 Tryd.sizeOf24 rfl ((hf261 3 rfl).trans ((K203 3 rfl).trans ((K196 3 rfl).trans ((K172 3 rfl).trans (K150 3 rfl))))) (Blk.at0 (Blk.ext k6 (Ext.trans (Ext.trans (Ext.trans (Ext.trans (Ext.trans e12 e19) e147) (Ext.gr (Ext.trans (Ext.trans (Ext.gr (Ext.trans (Ext.trans (Ext.trans (Ext.trans (Ext.trans (Ext.trans e155 e159) e164) e169) e174) e179) e184) e190 (Ext.refl w145).size) e198) e205) e212 (Ext.trans e155 e159).size)) e218) e264)))) <| L_nil <| stepS rfl rfl rfl (Ext.refl w258) rfl
                · intro s265 w266 hb267 hx268 hf269 hd270 hu271
                  have e272 : Ext w217 w266 := hx268 rfl
                  have d273 : s265 87 = (.agg #[(.int .i64 a1.kind), (S a1.path), (S a1.body), (.int .i64 a1.mode)]) := (hd270 2 rfl)
                  exact L_callP (.plain rfl) rfl (ltb rfl) rfl Tryd.call8 (laws_toNode.calls (w := w266) (a0 := a1)) (cons2 d273 rfl) <| fun w274 e275 => L_nil <| stepS rfl rfl rfl e275 rfl
                · intro s276 w277 hb278 hx279 hf280 hd281 hu282
                  have e283 : Ext w217 w277 := hx279 rfl
                  have d284 : Ow 31 4 encNd w217.heap.size w277 (s276 86) a0 := (hd281 1 rfl)
                  have d285 : s276 88 = (.agg (encNd a1).toArray) := (hd281 3 rfl)
                  have c286 := c228
                  have c287 := c229
                  have c288 := c230
                  exact L_callT (.plain rfl) rfl (ltb rfl) rfl Tryd.call9 (impl_AddNode.calls (w := w277) (a0 := a0) (a1 := a1) (GV.ext gv (Ext.trans (Ext.trans (Ext.trans (Ext.trans (Ext.trans (Ext.trans e5 e12) e19) e147) (Ext.gr (Ext.trans (Ext.trans (Ext.gr (Ext.trans (Ext.trans (Ext.trans (Ext.trans (Ext.trans (Ext.trans e155 e159) e164) e169) e174) e179) e184) e190 (Ext.refl w145).size) e198) e205) e212 (Ext.trans e155 e159).size)) e218) e283)) (Ow.rd d284) (of_decide_eq_true c286) (of_decide_eq_true c287) (of_decide_eq_true c288)) (cons2 rfl (cons2 d285 rfl)) <| fun v291 w289 e290 o292 => L_nil <| stepS rfl rfl rfl e290 ⟨_, rfl, (Ow.base o292 e283.size)⟩
                · intro s293 w294 hb295 hx296 hf297 hd298 hu299
                  have e300 : Ext w217 w294 := hx296 rfl
                  obtain ⟨u301, h302, o303⟩ := (hd298 4 rfl)
                  exact L_op (.plain rfl) rfl (ltb rfl) (X_move (v := (.tuple #[u301, (.int .i64 ((addNode a0 a1).2))])) h302) <| L_nil <| stepS rfl rfl rfl (Ext.refl w294) ⟨_, rfl, o303⟩
                · intro s304 w305 hb306 hx307 hf308 hd309 hu310
                  have e311 : Ext w217 w305 := hx307 rfl
                  obtain ⟨u312, h313, o314⟩ := (hd309 5 rfl)
                  exact L_op (.plain rfl) rfl (ltb rfl) (X_extract (v := u312) h313 rfl) <| L_nil <| stepS rfl rfl rfl (Ext.refl w305) o314
                · intro s315 w316 hb317 hx318 hf319 hd320 hu321
                  have e322 : Ext w217 w316 := hx318 rfl
                  obtain ⟨u323, h324, o325⟩ := (hd320 5 rfl)
                  exact L_op (.plain rfl) rfl (ltb rfl) (X_extract (v := (.int .i64 ((addNode a0 a1).2))) h324 rfl) <| L_nil <| stepS rfl rfl rfl (Ext.refl w316) rfl
                · intro s326 w327 hb328 hx329 hf330 hd331 hu332
                  have e333 : Ext w217 w327 := hx329 rfl
                  have d334 : Ow 31 4 encNd w217.heap.size w327 (s326 90) ((addNode a0 a1).1) := (hd331 6 rfl)
                  exact L_op (.plain rfl) rfl (ltb rfl) (X_assign (v := (s326 90)) rfl) <| L_nil <| stepS rfl rfl rfl (Ext.refl w327) d334
                · intro s335 w336 hb337 hx338 hf339 hd340 hu341
                  have e342 : Ext w217 w336 := hx338 rfl
                  have d343 : s335 91 = (.int .i64 ((addNode a0 a1).2)) := (hd340 7 rfl)
                  exact L_op (.plain rfl) rfl (ltb rfl) (X_assign (v := (.int .i64 ((addNode a0 a1).2))) d343) <| L_nil <| stepS rfl rfl rfl (Ext.refl w336) rfl
                intro s344 w345 hb346 hf348 ha349
                have K350 := Kp.ofD (kp := [(14, 16), (84, 92)]) rfl hf348
                have e347 : Ext w217 w345 := hb346
                have d351 : Ow 31 4 encNd w217.heap.size w345 (s344 14) ((addNode a0 a1).1) := ha349 8 rfl rfl
                have d352 : s344 15 = (.int .i64 ((addNode a0 a1).2)) := ha349 9 rfl rfl
                clear ha349 hf348
                refine thn_n <| W_seq <| W_seq <| W_reg <| L_op (.plain rfl) rfl (ltb rfl) (X_move (v := (s344 14)) rfl) <| L_op (.plain rfl) rfl (ltb rfl) (X_move (v := (s144 6)) ((K350 6 rfl).trans ((K203 6 rfl).trans ((K196 6 rfl).trans (K172 6 rfl))))) ?_
                obtain ⟨c353, H⟩ := bif_some H
                refine L_callP (.plain rfl) rfl (ltb rfl) rfl Tryd.call10 (laws_eqNodeS.calls (w := w345) (a0 := (addNode a0 a1).1) (a1 := (addNode a0 a1).1) (Ow.rd d351) (Ow.rd (Ow.ext d151 (Ext.trans (Ext.trans (Ext.gr (Ext.trans (Ext.trans (Ext.gr (Ext.trans (Ext.trans (Ext.trans (Ext.trans (Ext.trans (Ext.trans e155 e159) e164) e169) e174) e179) e184) e190 (Ext.refl w145).size) e198) e205) e212 (Ext.trans e155 e159).size) e218) e347))) (of_decide_eq_true c353)) rfl <| fun w354 e355 => L_op (.plain rfl) rfl (ltb rfl) (X_not rfl) <| L_op (.plain rfl) rfl (ltb rfl) (X_move (v := (.bool (!(decide (((addNode a0 a1).1) = ((addNode a0 a1).1)))))) rfl) <| L_grp 4 [(97, 101)] 100 (.bool ((!(decide (((addNode a0 a1).1) = ((addNode a0 a1).1)))) || (!decide (((addNode a0 a1).2) = ((addNode a0 a1).2))))) ?_ ?_
                · rcases bool_two (!(decide (((addNode a0 a1).1) = ((addNode a0 a1).1)))) with b355_ | b355_
                  · exact L_skip rfl rfl (ltb rfl) (congrArg Value.bool b355_) rfl rfl (ltb rfl) <| L_skip rfl rfl (ltb rfl) (congrArg Value.bool b355_) rfl rfl (ltb rfl) <| L_skip rfl rfl (ltb rfl) (congrArg Value.bool b355_) rfl rfl (ltb rfl) <| L_op (.plain rfl) rfl (ltb rfl) (X_pick (b := true) (v := (.bool true)) (congrArg Value.bool b355_) rfl) <| L_nil <| thn_n ⟨(Kp.upd (Kp.upd (Kp.upd (Kp.upd (Kp.refl _ _) rfl) rfl) rfl) rfl), (or_t b355_), (Ext.refl w354)⟩
                  · exact L_op (.guard 4 false 96 rfl rfl (ltb rfl) (congrArg Value.bool b355_)) rfl (ltb rfl) (X_move (v := (.int .i64 ((addNode a0 a1).2))) d352) <| L_op (.guard 4 false 96 rfl rfl (ltb rfl) (congrArg Value.bool b355_)) rfl (ltb rfl) (X_move (v := (.int .i64 ((addNode a0 a1).2))) ((K350 7 rfl).trans ((K203 7 rfl).trans ((K196 7 rfl).trans ((K172 7 rfl).trans d152))))) <| L_op (.guard 4 false 96 rfl rfl (ltb rfl) (congrArg Value.bool b355_)) rfl (ltb rfl) (X_neq rfl rfl) <| L_op (.plain rfl) rfl (ltb rfl) (X_pick (b := false) (v := (.bool (!decide (((addNode a0 a1).2) = ((addNode a0 a1).2))))) (congrArg Value.bool b355_) rfl) <| L_nil <| thn_n ⟨(Kp.upd (Kp.upd (Kp.upd (Kp.upd (Kp.refl _ _) rfl) rfl) rfl) rfl), (or_f b355_), (Ext.refl w354)⟩
                intro s361 w357 K358 h359 e360
                refine L_nil <| thn_n ?_
                rcases bif_two H with ⟨q362, H⟩ | ⟨q362, H⟩
                · refine W_true (h359.trans (congrArg Value.bool q362)) <| W_seq <| W_reg <| L_op (.plain rfl) rfl (ltb rfl) (X_assign (v := (.bool false)) rfl) <| L_nil <| thn_n <| W_ret <| thn_r <| fin_r ?_
                  obtain rfl := Option.some.inj H
                  exact fin1 rfl (Ext.trans (Ext.trans (Ext.trans (Ext.trans (Ext.trans (Ext.trans (Ext.trans (Ext.trans e5 e12) e19) e147) (Ext.gr (Ext.trans (Ext.trans (Ext.gr (Ext.trans (Ext.trans (Ext.trans (Ext.trans (Ext.trans (Ext.trans e155 e159) e164) e169) e174) e179) e184) e190 (Ext.refl w145).size) e198) e205) e212 (Ext.trans e155 e159).size)) e218) e347) e355) e360)
                · refine W_false (h359.trans (congrArg Value.bool q362)) <| W_skip <| thn_n <| W_seq <| W_reg <| L_op (.plain rfl) rfl (ltb rfl) (X_assign (v := (.int .i64 1)) rfl) <| L_nil <| thn_n <| W_seq <| W_reg <| L_op (.plain rfl) rfl (ltb rfl) (X_move (v := v165) ((K358 9 rfl).trans ((K350 9 rfl).trans ((K203 9 rfl).trans ((K196 9 rfl).trans (K172 9 rfl)))))) <| L_op (.plain rfl) rfl (ltb rfl) (X_move (v := (.int .i64 1)) rfl) ?_
                  obtain ⟨c363, H⟩ := bif_some H
                  obtain ⟨c364, H⟩ := bif_some H
                  obtain ⟨c365, H⟩ := bif_some H
                  refine L_callP (.plain rfl) rfl (ltb rfl) rfl Tryd.call12 (laws_heldNodeS.calls (w := w357) (a0 := (marksN ((addNode a0 a1).1).length 1)) (a1 := 1) (Ow.rd (Ow.ext o213 (Ext.trans (Ext.trans (Ext.trans e218 e347) e355) e360))) (of_decide_eq_true c363) (of_decide_eq_true c364) (of_decide_eq_true c365)) rfl <| fun w366 e367 => L_op (.plain rfl) rfl (ltb rfl) (X_assign (v := (.int .i64 (heldN (marksN ((addNode a0 a1).1).length 1) 1))) rfl) <| L_nil <| thn_n <| W_seq <| W_seq <| W_reg <| L_op (.plain rfl) rfl (ltb rfl) (X_move (v := (.int .i64 (heldN (marksN ((addNode a0 a1).1).length 1) 1))) rfl) <| L_op (.plain rfl) rfl (ltb rfl) (X_lss rfl rfl) <| L_nil <| thn_n ?_
                  rcases bif_two H with ⟨q368, H⟩ | ⟨q368, H⟩
                  · refine W_true (congrArg Value.bool q368) <| W_seq <| W_reg <| L_op (.plain rfl) rfl (ltb rfl) (X_assign (v := (.bool false)) rfl) <| L_nil <| thn_n <| W_ret <| thn_r <| fin_r ?_
                    obtain rfl := Option.some.inj H
                    exact fin1 rfl (Ext.trans (Ext.trans (Ext.trans (Ext.trans (Ext.trans (Ext.trans (Ext.trans (Ext.trans (Ext.trans e5 e12) e19) e147) (Ext.gr (Ext.trans (Ext.trans (Ext.gr (Ext.trans (Ext.trans (Ext.trans (Ext.trans (Ext.trans (Ext.trans e155 e159) e164) e169) e174) e179) e184) e190 (Ext.refl w145).size) e198) e205) e212 (Ext.trans e155 e159).size)) e218) e347) e355) e360) e367)
                  · refine W_false (congrArg Value.bool q368) <| W_skip <| thn_n <| W_seq <| W_seq <| W_reg <| L_op (.plain rfl) rfl (ltb rfl) (X_move (v := (.int .i64 (heldN (marksN ((addNode a0 a1).1).length 1) 1))) rfl) <| L_op (.plain rfl) rfl (ltb rfl) (X_move (v := (.int .i64 (1 + 4 * (((addNode a0 a1).1).length : Int)))) ((K358 12 rfl).trans (K350 12 rfl))) <| L_op (.plain rfl) rfl (ltb rfl) (X_neq rfl rfl) <| L_nil <| thn_n ?_
                    rcases bif_two H with ⟨q369, H⟩ | ⟨q369, H⟩
                    · refine W_true (congrArg Value.bool q369) <| W_seq <| W_reg <| L_op (.plain rfl) rfl (ltb rfl) (X_assign (v := (.bool false)) rfl) <| L_nil <| thn_n <| W_ret <| thn_r <| fin_r ?_
                      obtain rfl := Option.some.inj H
                      exact fin1 rfl (Ext.trans (Ext.trans (Ext.trans (Ext.trans (Ext.trans (Ext.trans (Ext.trans (Ext.trans (Ext.trans e5 e12) e19) e147) (Ext.gr (Ext.trans (Ext.trans (Ext.gr (Ext.trans (Ext.trans (Ext.trans (Ext.trans (Ext.trans (Ext.trans e155 e159) e164) e169) e174) e179) e184) e190 (Ext.refl w145).size) e198) e205) e212 (Ext.trans e155 e159).size)) e218) e347) e355) e360) e367)
                    · refine W_false (congrArg Value.bool q369) <| W_skip <| thn_n <| W_seq <| W_reg <| L_op (.plain rfl) rfl (ltb rfl) (X_assign (v := (.bool true)) rfl) <| L_nil <| thn_n <| W_ret <| fin_r ?_
                      obtain rfl := Option.some.inj H
                      exact fin1 rfl (Ext.trans (Ext.trans (Ext.trans (Ext.trans (Ext.trans (Ext.trans (Ext.trans (Ext.trans (Ext.trans e5 e12) e19) e147) (Ext.gr (Ext.trans (Ext.trans (Ext.gr (Ext.trans (Ext.trans (Ext.trans (Ext.trans (Ext.trans (Ext.trans e155 e159) e164) e169) e174) e179) e184) e190 (Ext.refl w145).size) e198) e205) e212 (Ext.trans e155 e159).size)) e218) e347) e355) e360) e367)
theorem law_AddNode.calls {w : World} {a0 : List Nd} {a1 : Nd} (gv : GV 0 w) {v_a0 : Value} (f_a0 : Rd 4 encNd w v_a0 a0) (h0 : ∀ x ∈ a0, okNd x) (h1 : a0.length ≤ 9223372036854775807) (h2 : okNd a1) :
    Calls Tryd.prog 3 #[v_a0, .agg (encNd a1).toArray] w (Rt (RP w (.bool true))) := law_AddNode.walk gv f_a0 (law_AddNode.eq a0 a1 h0 h1 h2)
end Go.Proofs.YthpjkenkbfkdhabDoor
