/- The walks, by program (wip/tools). -/
import Derived.Test.YtilogldgepaeiabDoorProg
import Derived.Test.YtilogldgepaeiabDoorAWC
set_option linter.unusedVariables false
set_option maxRecDepth 10000
namespace Go.Proofs.YtilogldgepaeiabDoor
open Go.UL Go.RowKit
/-! laws.FnExactLayerOfTree -/
theorem law_LayerOfTree.walk {w : World} {a0 : List Nd} (gv : GV 0 w) {v_a0 : Value} (f_a0 : Rd 4 encNd w v_a0 a0) {r : Bool} (H : law_LayerOfTree.sh a0 = some r) :
    Calls Tryd.prog 9 #[v_a0] w (Rt (RP w (.bool r))) := by
  unfold law_LayerOfTree.sh at H
  refine calls_of_W Tryd.func9 rfl (Nat.le_of_ble_eq_true rfl) Tryd.ntmps9 rfl ?_
  refine W_seq <| W_reg <| L_op (.plain rfl) rfl (ltb rfl) (X_assign (v := (.bool false)) rfl) <| L_nil <| thn_n <| W_seq <| W_reg <| L_op (.plain rfl) rfl (ltb rfl) (X_assign (v := (.int .i64 1048576)) rfl) <| L_nil <| thn_n <| W_seq <| W_reg <| L_op (.plain rfl) rfl (ltb rfl) (X_move (v := v_a0) rfl) <| L_op (.plain rfl) rfl (ltb rfl) (X_move (v := (.int .i64 1048576)) rfl) ?_
  obtain ⟨c1, H⟩ := bif_some H
  obtain ⟨c2, H⟩ := bif_some H
  obtain ⟨c3, H⟩ := bif_some H
  obtain ⟨c4, H⟩ := bif_some H
  refine L_callP (.plain rfl) rfl (ltb rfl) rfl Tryd.call27 (laws_szNodeS.calls (w := w) (a0 := a0) (a1 := 1048576) f_a0 (of_decide_eq_true c1) (of_decide_eq_true c2) (of_decide_eq_true c3) (of_decide_eq_true c4)) rfl <| fun w5 e6 => L_op (.plain rfl) rfl (ltb rfl) (X_assign (v := (.int .i64 (szNdS a0 1048576))) rfl) <| L_nil <| thn_n <| W_seq <| W_seq <| W_reg <| L_op (.plain rfl) rfl (ltb rfl) (X_move (v := (.int .i64 (szNdS a0 1048576))) rfl) <| L_op (.plain rfl) rfl (ltb rfl) (X_lss rfl rfl) <| L_nil <| thn_n ?_
  rcases bif_two H with ⟨q7, H⟩ | ⟨q7, H⟩
  · refine W_true (congrArg Value.bool q7) <| W_seq <| W_reg <| L_op (.plain rfl) rfl (ltb rfl) (X_assign (v := (.bool true)) rfl) <| L_nil <| thn_n <| W_ret <| thn_r <| fin_r ?_
    obtain rfl := Option.some.inj H
    exact fin1 rfl e6
  · refine W_false (congrArg Value.bool q7) <| W_skip <| thn_n <| W_seq <| W_reg <| L_op (.plain rfl) rfl (ltb rfl) (X_move (v := v_a0) rfl) ?_
    obtain ⟨c8, H⟩ := bif_some H
    refine L_callO (.plain rfl) rfl (ltb rfl) rfl Tryd.call29 (laws_toNodeS.calls (w := w5) (a0 := a0) (Rd.ext f_a0 e6) (of_decide_eq_true c8)) rfl <| fun v11 w9 e10 o12 => ?_
    obtain ⟨c13, H⟩ := bif_some H
    obtain ⟨c14, H⟩ := bif_some H
    refine L_callT (.plain rfl) rfl (ltb rfl) rfl Tryd.call37 (spec_LayerOfTree.calls (w := w9) (a0 := a0) (Own.rd o12) (of_decide_eq_true c13) (of_decide_eq_true c14)) rfl <| fun v17 w15 e16 o18 => L_op (.plain rfl) rfl (ltb rfl) (X_move (v := (.tuple #[v17, (.int .i64 ((layerOfT a0).2))])) rfl) <| L_op (.plain rfl) rfl (ltb rfl) (X_extract (v := v17) rfl rfl) <| L_op (.plain rfl) rfl (ltb rfl) (X_extract (v := (.int .i64 ((layerOfT a0).2))) rfl rfl) <| L_op (.plain rfl) rfl (ltb rfl) (X_assign (v := v17) rfl) <| L_op (.plain rfl) rfl (ltb rfl) (X_assign (v := (.int .i64 ((layerOfT a0).2))) rfl) <| L_nil <| thn_n <| W_seq <| W_reg <| L_op (.plain rfl) rfl (ltb rfl) (X_move (v := v_a0) rfl) ?_
    obtain ⟨c19, H⟩ := bif_some H
    refine L_callO (.plain rfl) rfl (ltb rfl) rfl Tryd.call29 (laws_toNodeS.calls (w := w15) (a0 := a0) (Rd.ext f_a0 (Ext.trans (Ext.trans e6 e10) e16)) (of_decide_eq_true c19)) rfl <| fun v22 w20 e21 o23 => L_op (.plain rfl) rfl (ltb rfl) (X_assign (v := v22) rfl) <| L_nil <| thn_n <| W_seq <| W_reg <| L_op (.plain rfl) rfl (ltb rfl) (X_move (v := v22) rfl) ?_
    obtain ⟨c24, H⟩ := bif_some H
    obtain ⟨c25, H⟩ := bif_some H
    refine L_callT (.plain rfl) rfl (ltb rfl) rfl Tryd.call38 (impl_LayerOfTree.calls (w := w20) (a0 := a0) (GV.ext gv (Ext.trans (Ext.trans (Ext.trans e6 e10) e16) e21)) (Own.rd o23) (of_decide_eq_true c24) (of_decide_eq_true c25)) rfl <| fun v28 w26 e27 o29 => L_op (.plain rfl) rfl (ltb rfl) (X_move (v := (.tuple #[v28, (.int .i64 ((layerOfT a0).2))])) rfl) <| L_op (.plain rfl) rfl (ltb rfl) (X_extract (v := v28) rfl rfl) <| L_op (.plain rfl) rfl (ltb rfl) (X_extract (v := (.int .i64 ((layerOfT a0).2))) rfl rfl) <| L_op (.plain rfl) rfl (ltb rfl) (X_assign (v := v28) rfl) <| L_op (.plain rfl) rfl (ltb rfl) (X_assign (v := (.int .i64 ((layerOfT a0).2))) rfl) <| L_nil <| thn_n <| W_seq <| W_seq <| W_reg <| L_op (.plain rfl) rfl (ltb rfl) (X_move (v := v28) rfl) <| L_op (.plain rfl) rfl (ltb rfl) (X_move (v := v17) rfl) ?_
    obtain ⟨c30, H⟩ := bif_some H
    refine L_callP (.plain rfl) rfl (ltb rfl) rfl Tryd.call19 (laws_eqRecordS.calls (w := w26) (a0 := (layerOfT a0).1) (a1 := (layerOfT a0).1) (Own.rd o29) (Own.rd (Own.ext o18 (Ext.trans e21 e27))) (of_decide_eq_true c30)) rfl <| fun w31 e32 => L_op (.plain rfl) rfl (ltb rfl) (X_not rfl) <| L_op (.plain rfl) rfl (ltb rfl) (X_move (v := (.bool (!(decide (((layerOfT a0).1) = ((layerOfT a0).1)))))) rfl) <| L_grp 4 [(37, 41)] 40 (.bool ((!(decide (((layerOfT a0).1) = ((layerOfT a0).1)))) || (!decide (((layerOfT a0).2) = ((layerOfT a0).2))))) ?_ ?_
    · rcases bool_two (!(decide (((layerOfT a0).1) = ((layerOfT a0).1)))) with b32_ | b32_
      · exact L_skip rfl rfl (ltb rfl) (congrArg Value.bool b32_) rfl rfl (ltb rfl) <| L_skip rfl rfl (ltb rfl) (congrArg Value.bool b32_) rfl rfl (ltb rfl) <| L_skip rfl rfl (ltb rfl) (congrArg Value.bool b32_) rfl rfl (ltb rfl) <| L_op (.plain rfl) rfl (ltb rfl) (X_pick (b := true) (v := (.bool true)) (congrArg Value.bool b32_) rfl) <| L_nil <| thn_n ⟨(Kp.upd (Kp.upd (Kp.upd (Kp.upd (Kp.refl _ _) rfl) rfl) rfl) rfl), (or_t b32_), (Ext.refl w31)⟩
      · exact L_op (.guard 4 false 36 rfl rfl (ltb rfl) (congrArg Value.bool b32_)) rfl (ltb rfl) (X_move (v := (.int .i64 ((layerOfT a0).2))) rfl) <| L_op (.guard 4 false 36 rfl rfl (ltb rfl) (congrArg Value.bool b32_)) rfl (ltb rfl) (X_move (v := (.int .i64 ((layerOfT a0).2))) rfl) <| L_op (.guard 4 false 36 rfl rfl (ltb rfl) (congrArg Value.bool b32_)) rfl (ltb rfl) (X_neq rfl rfl) <| L_op (.plain rfl) rfl (ltb rfl) (X_pick (b := false) (v := (.bool (!decide (((layerOfT a0).2) = ((layerOfT a0).2))))) (congrArg Value.bool b32_) rfl) <| L_nil <| thn_n ⟨(Kp.upd (Kp.upd (Kp.upd (Kp.upd (Kp.refl _ _) rfl) rfl) rfl) rfl), (or_f b32_), (Ext.refl w31)⟩
    intro s38 w34 K35 h36 e37
    refine L_nil <| thn_n ?_
    rcases bif_two H with ⟨q39, H⟩ | ⟨q39, H⟩
    · refine W_true (h36.trans (congrArg Value.bool q39)) <| W_seq <| W_reg <| L_op (.plain rfl) rfl (ltb rfl) (X_assign (v := (.bool false)) rfl) <| L_nil <| thn_n <| W_ret <| thn_r <| fin_r ?_
      obtain rfl := Option.some.inj H
      exact fin1 rfl (Ext.trans (Ext.trans (Ext.trans (Ext.trans (Ext.trans (Ext.trans e6 e10) e16) e21) e27) e32) e37)
    · refine W_false (h36.trans (congrArg Value.bool q39)) <| W_skip <| thn_n <| W_seq <| W_seq <| W_reg <| L_op (.plain rfl) rfl (ltb rfl) (X_move (v := v22) (K35 6 rfl)) <| L_op (.plain rfl) rfl (ltb rfl) (X_move (v := v_a0) (K35 0 rfl)) ?_
      obtain ⟨c40, H⟩ := bif_some H
      refine L_callO (.plain rfl) rfl (ltb rfl) rfl Tryd.call29 (laws_toNodeS.calls (w := w34) (a0 := a0) (Rd.ext f_a0 (Ext.trans (Ext.trans (Ext.trans (Ext.trans (Ext.trans (Ext.trans e6 e10) e16) e21) e27) e32) e37)) (of_decide_eq_true c40)) rfl <| fun v43 w41 e42 o44 => ?_
      obtain ⟨c45, H⟩ := bif_some H
      refine L_callP (.plain rfl) rfl (ltb rfl) rfl Tryd.call32 (laws_eqNodeS.calls (w := w41) (a0 := a0) (a1 := a0) (Own.rd (Own.ext o23 (Ext.trans (Ext.trans (Ext.trans e27 e32) e37) e42))) (Own.rd o44) (of_decide_eq_true c45)) rfl <| fun w46 e47 => L_op (.plain rfl) rfl (ltb rfl) (X_not rfl) <| L_nil <| thn_n ?_
      rcases bif_two H with ⟨q48, H⟩ | ⟨q48, H⟩
      · refine W_true (congrArg Value.bool q48) <| W_seq <| W_reg <| L_op (.plain rfl) rfl (ltb rfl) (X_assign (v := (.bool false)) rfl) <| L_nil <| thn_n <| W_ret <| thn_r <| fin_r ?_
        obtain rfl := Option.some.inj H
        exact fin1 rfl (Ext.trans (Ext.trans (Ext.trans (Ext.trans (Ext.trans (Ext.trans (Ext.trans (Ext.trans e6 e10) e16) e21) e27) e32) e37) e42) e47)
      · refine W_false (congrArg Value.bool q48) <| W_skip <| thn_n <| W_seq <| W_reg <| L_op (.plain rfl) rfl (ltb rfl) (X_assign (v := (.int .i64 1)) rfl) <| L_nil <| thn_n <| W_seq <| W_reg <| L_op (.plain rfl) rfl (ltb rfl) (X_move (v := v22) (K35 6 rfl)) <| L_op (.plain rfl) rfl (ltb rfl) (X_move (v := (.int .i64 1)) rfl) ?_
        obtain ⟨c49, H⟩ := bif_some H
        obtain ⟨c50, H⟩ := bif_some H
        obtain ⟨c51, H⟩ := bif_some H
        refine L_callM (.plain rfl) rfl (ltb rfl) rfl Tryd.call39 (laws_markNodeS.calls (w := w46) (a0 := a0) (a1 := 1) (Own.ext o23 (Ext.trans (Ext.trans (Ext.trans (Ext.trans e27 e32) e37) e42) e47)) (Own.hb o23) (of_decide_eq_true c49) (of_decide_eq_true c50) (of_decide_eq_true c51)) rfl <| fun w52 e53 o54 => L_op (.plain rfl) rfl (ltb rfl) (X_assign (v := (.int .i64 (1 + 4 * (a0.length : Int)))) rfl) <| L_nil <| thn_n <| W_seq <| W_seq <| W_reg <| L_op (.plain rfl) rfl (ltb rfl) (X_move (v := (.int .i64 (1 + 4 * (a0.length : Int)))) rfl) <| L_op (.plain rfl) rfl (ltb rfl) (X_lss rfl rfl) <| L_op (.plain rfl) rfl (ltb rfl) (X_move (v := (.bool (decide ((1 + 4 * (a0.length : Int)) < 0)))) rfl) ?_
        obtain ⟨z56, x57, H⟩ := bind_some H
        refine L_grpE 5 [(52, 57)] 56 (fun q => q = z56) ?_ ?_
        · rcases bif_two x57 with ⟨b54_, H⟩ | ⟨b54_, H⟩
          · refine L_skip rfl rfl (ltb rfl) (congrArg Value.bool b54_) rfl rfl (ltb rfl) <| L_skip rfl rfl (ltb rfl) (congrArg Value.bool b54_) rfl rfl (ltb rfl) <| L_skip rfl rfl (ltb rfl) (congrArg Value.bool b54_) rfl rfl (ltb rfl) <| L_skip rfl rfl (ltb rfl) (congrArg Value.bool b54_) rfl rfl (ltb rfl) <| L_op (.plain rfl) rfl (ltb rfl) (X_pick (b := true) (v := (.bool true)) (congrArg Value.bool b54_) rfl) ?_
            obtain rfl := Option.some.inj H
            exact L_nil <| thn_n ⟨(Kp.upd (Kp.upd (Kp.upd (Kp.upd (Kp.upd (Kp.refl _ _) rfl) rfl) rfl) rfl) rfl), ⟨_, rfl, rfl⟩, (Ext.refl w52)⟩
          · refine L_op (.guard 2 false 51 rfl rfl (ltb rfl) (congrArg Value.bool b54_)) rfl (ltb rfl) (X_move (v := v28) (K35 7 rfl)) <| L_op (.guard 2 false 51 rfl rfl (ltb rfl) (congrArg Value.bool b54_)) rfl (ltb rfl) (X_move (v := v17) (K35 4 rfl)) ?_
            obtain ⟨c56, H⟩ := bif_some H
            refine L_callP (.guard 2 false 51 rfl rfl (ltb rfl) (congrArg Value.bool b54_)) rfl (ltb rfl) rfl Tryd.call19 (laws_eqRecordS.calls (w := w52) (a0 := (layerOfT a0).1) (a1 := (layerOfT a0).1) (Own.rd (Own.later (Own.ext o29 (Ext.trans (Ext.trans (Ext.trans e32 e37) e42) e47)) e53 (Ext.refl w20).size)) (Own.rd (Own.ext o18 (Ext.gr (Ext.trans (Ext.trans (Ext.trans (Ext.trans (Ext.trans e21 e27) e32) e37) e42) e47) e53 (Ext.refl w15).size))) (of_decide_eq_true c56)) rfl <| fun w57 e58 => L_op (.guard 2 false 51 rfl rfl (ltb rfl) (congrArg Value.bool b54_)) rfl (ltb rfl) (X_not rfl) <| L_op (.plain rfl) rfl (ltb rfl) (X_pick (b := false) (v := (.bool (!(decide (((layerOfT a0).1) = ((layerOfT a0).1)))))) (congrArg Value.bool b54_) rfl) ?_
            obtain rfl := Option.some.inj H
            exact L_nil <| thn_n ⟨(Kp.upd (Kp.upd (Kp.upd (Kp.upd (Kp.upd (Kp.refl _ _) rfl) rfl) rfl) rfl) rfl), ⟨_, rfl, rfl⟩, e58⟩
        intro s62 w58 z63 K59 hq h60 e61
        rw [hq] at h60; clear hq
        refine L_op (.plain rfl) rfl (ltb rfl) (X_move (v := (.bool z56)) h60) <| L_grp 4 [(58, 62)] 61 (.bool (z56 || (!decide (((layerOfT a0).2) = ((layerOfT a0).2))))) ?_ ?_
        · rcases bool_two z56 with b63_ | b63_
          · exact L_skip rfl rfl (ltb rfl) (congrArg Value.bool b63_) rfl rfl (ltb rfl) <| L_skip rfl rfl (ltb rfl) (congrArg Value.bool b63_) rfl rfl (ltb rfl) <| L_skip rfl rfl (ltb rfl) (congrArg Value.bool b63_) rfl rfl (ltb rfl) <| L_op (.plain rfl) rfl (ltb rfl) (X_pick (b := true) (v := (.bool true)) (congrArg Value.bool b63_) rfl) <| L_nil <| thn_n ⟨(Kp.upd (Kp.upd (Kp.upd (Kp.upd (Kp.refl _ _) rfl) rfl) rfl) rfl), (or_t b63_), (Ext.refl w58)⟩
          · exact L_op (.guard 8 false 57 rfl rfl (ltb rfl) (congrArg Value.bool b63_)) rfl (ltb rfl) (X_move (v := (.int .i64 ((layerOfT a0).2))) ((K59 8 rfl).trans (K35 8 rfl))) <| L_op (.guard 8 false 57 rfl rfl (ltb rfl) (congrArg Value.bool b63_)) rfl (ltb rfl) (X_move (v := (.int .i64 ((layerOfT a0).2))) ((K59 5 rfl).trans (K35 5 rfl))) <| L_op (.guard 8 false 57 rfl rfl (ltb rfl) (congrArg Value.bool b63_)) rfl (ltb rfl) (X_neq rfl rfl) <| L_op (.plain rfl) rfl (ltb rfl) (X_pick (b := false) (v := (.bool (!decide (((layerOfT a0).2) = ((layerOfT a0).2))))) (congrArg Value.bool b63_) rfl) <| L_nil <| thn_n ⟨(Kp.upd (Kp.upd (Kp.upd (Kp.upd (Kp.refl _ _) rfl) rfl) rfl) rfl), (or_f b63_), (Ext.refl w58)⟩
        intro s69 w65 K66 h67 e68
        refine L_nil <| thn_n ?_
        rcases bif_two H with ⟨q70, H⟩ | ⟨q70, H⟩
        · refine W_true (h67.trans (congrArg Value.bool q70)) <| W_seq <| W_reg <| L_op (.plain rfl) rfl (ltb rfl) (X_assign (v := (.bool false)) rfl) <| L_nil <| thn_n <| W_ret <| thn_r <| fin_r ?_
          obtain rfl := Option.some.inj H
          exact fin1 rfl (Ext.trans (Ext.trans (Ext.trans (Ext.trans (Ext.trans e6 e10) e16) (Ext.gr (Ext.trans (Ext.trans (Ext.trans (Ext.trans (Ext.trans e21 e27) e32) e37) e42) e47) e53 (Ext.refl w15).size)) e61) e68)
        · refine W_false (h67.trans (congrArg Value.bool q70)) <| W_skip <| thn_n <| W_seq <| W_reg <| L_op (.plain rfl) rfl (ltb rfl) (X_assign (v := (.int .i64 1)) rfl) <| L_nil <| thn_n <| W_seq <| W_reg <| L_op (.plain rfl) rfl (ltb rfl) (X_move (v := v28) ((K66 7 rfl).trans ((K59 7 rfl).trans (K35 7 rfl)))) <| L_op (.plain rfl) rfl (ltb rfl) (X_move (v := (.int .i64 1)) rfl) ?_
          obtain ⟨c71, H⟩ := bif_some H
          obtain ⟨c72, H⟩ := bif_some H
          obtain ⟨c73, H⟩ := bif_some H
          refine L_callM (.plain rfl) rfl (ltb rfl) rfl Tryd.call40 (laws_markRecordS.calls (w := w65) (a0 := (layerOfT a0).1) (a1 := 1) (Own.ext (Own.later (Own.ext o29 (Ext.trans (Ext.trans (Ext.trans e32 e37) e42) e47)) e53 (Ext.refl w20).size) (Ext.trans e61 e68)) (Own.hb o29) (of_decide_eq_true c71) (of_decide_eq_true c72) (of_decide_eq_true c73)) rfl <| fun w74 e75 o76 => L_op (.plain rfl) rfl (ltb rfl) (X_assign (v := (.int .i64 (1 + 5 * (((layerOfT a0).1).length : Int)))) rfl) <| L_nil <| thn_n <| W_seq <| W_reg <| L_op (.plain rfl) rfl (ltb rfl) (X_assign (v := (.int .i64 1)) rfl) <| L_nil <| thn_n <| W_seq <| W_reg <| L_op (.plain rfl) rfl (ltb rfl) (X_move (v := v28) ((K66 7 rfl).trans ((K59 7 rfl).trans (K35 7 rfl)))) <| L_op (.plain rfl) rfl (ltb rfl) (X_move (v := (.int .i64 1)) rfl) ?_
          obtain ⟨c77, H⟩ := bif_some H
          obtain ⟨c78, H⟩ := bif_some H
          obtain ⟨c79, H⟩ := bif_some H
          refine L_callP (.plain rfl) rfl (ltb rfl) rfl Tryd.call41 (laws_heldRecordS.calls (w := w74) (a0 := (marksR ((layerOfT a0).1).length 1)) (a1 := 1) (Own.rd o76) (of_decide_eq_true c77) (of_decide_eq_true c78) (of_decide_eq_true c79)) rfl <| fun w80 e81 => L_op (.plain rfl) rfl (ltb rfl) (X_assign (v := (.int .i64 (heldR (marksR ((layerOfT a0).1).length 1) 1))) rfl) <| L_nil <| thn_n <| W_seq <| W_seq <| W_reg <| L_op (.plain rfl) rfl (ltb rfl) (X_move (v := (.int .i64 (heldR (marksR ((layerOfT a0).1).length 1) 1))) rfl) <| L_op (.plain rfl) rfl (ltb rfl) (X_lss rfl rfl) <| L_nil <| thn_n ?_
          rcases bif_two H with ⟨q82, H⟩ | ⟨q82, H⟩
          · refine W_true (congrArg Value.bool q82) <| W_seq <| W_reg <| L_op (.plain rfl) rfl (ltb rfl) (X_assign (v := (.bool false)) rfl) <| L_nil <| thn_n <| W_ret <| thn_r <| fin_r ?_
            obtain rfl := Option.some.inj H
            exact fin1 rfl (Ext.trans (Ext.trans (Ext.trans (Ext.trans e6 e10) e16) (Ext.gr (Ext.trans (Ext.trans (Ext.gr (Ext.trans (Ext.trans (Ext.trans (Ext.trans (Ext.trans e21 e27) e32) e37) e42) e47) e53 (Ext.refl w15).size) e61) e68) e75 e21.size)) e81)
          · refine W_false (congrArg Value.bool q82) <| W_skip <| thn_n <| W_seq <| W_seq <| W_reg <| L_op (.plain rfl) rfl (ltb rfl) (X_move (v := (.int .i64 (heldR (marksR ((layerOfT a0).1).length 1) 1))) rfl) <| L_op (.plain rfl) rfl (ltb rfl) (X_move (v := (.int .i64 (1 + 5 * (((layerOfT a0).1).length : Int)))) rfl) <| L_op (.plain rfl) rfl (ltb rfl) (X_neq rfl rfl) <| L_nil <| thn_n ?_
            rcases bif_two H with ⟨q83, H⟩ | ⟨q83, H⟩
            · refine W_true (congrArg Value.bool q83) <| W_seq <| W_reg <| L_op (.plain rfl) rfl (ltb rfl) (X_assign (v := (.bool false)) rfl) <| L_nil <| thn_n <| W_ret <| thn_r <| fin_r ?_
              obtain rfl := Option.some.inj H
              exact fin1 rfl (Ext.trans (Ext.trans (Ext.trans (Ext.trans e6 e10) e16) (Ext.gr (Ext.trans (Ext.trans (Ext.gr (Ext.trans (Ext.trans (Ext.trans (Ext.trans (Ext.trans e21 e27) e32) e37) e42) e47) e53 (Ext.refl w15).size) e61) e68) e75 e21.size)) e81)
            · refine W_false (congrArg Value.bool q83) <| W_skip <| thn_n <| W_seq <| W_reg <| L_op (.plain rfl) rfl (ltb rfl) (X_move (v := v_a0) ((K66 0 rfl).trans ((K59 0 rfl).trans (K35 0 rfl)))) ?_
              obtain ⟨c84, H⟩ := bif_some H
              refine L_callO (.plain rfl) rfl (ltb rfl) rfl Tryd.call29 (laws_toNodeS.calls (w := w80) (a0 := a0) (Rd.ext f_a0 (Ext.trans (Ext.trans (Ext.trans (Ext.trans e6 e10) e16) (Ext.gr (Ext.trans (Ext.trans (Ext.gr (Ext.trans (Ext.trans (Ext.trans (Ext.trans (Ext.trans e21 e27) e32) e37) e42) e47) e53 (Ext.refl w15).size) e61) e68) e75 e21.size)) e81)) (of_decide_eq_true c84)) rfl <| fun v87 w85 e86 o88 => ?_
              obtain ⟨c89, H⟩ := bif_some H
              obtain ⟨c90, H⟩ := bif_some H
              refine L_callT (.plain rfl) rfl (ltb rfl) rfl Tryd.call38 (impl_LayerOfTree.calls (w := w85) (a0 := a0) (GV.ext gv (Ext.trans (Ext.trans (Ext.trans (Ext.trans (Ext.trans e6 e10) e16) (Ext.gr (Ext.trans (Ext.trans (Ext.gr (Ext.trans (Ext.trans (Ext.trans (Ext.trans (Ext.trans e21 e27) e32) e37) e42) e47) e53 (Ext.refl w15).size) e61) e68) e75 e21.size)) e81) e86)) (Own.rd o88) (of_decide_eq_true c89) (of_decide_eq_true c90)) rfl <| fun v93 w91 e92 o94 => L_op (.plain rfl) rfl (ltb rfl) (X_move (v := (.tuple #[v93, (.int .i64 ((layerOfT a0).2))])) rfl) <| L_op (.plain rfl) rfl (ltb rfl) (X_extract (v := v93) rfl rfl) <| L_op (.plain rfl) rfl (ltb rfl) (X_extract (v := (.int .i64 ((layerOfT a0).2))) rfl rfl) <| L_op (.plain rfl) rfl (ltb rfl) (X_assign (v := v93) rfl) <| L_op (.plain rfl) rfl (ltb rfl) (X_assign (v := (.int .i64 ((layerOfT a0).2))) rfl) <| L_nil <| thn_n <| W_seq <| W_seq <| W_reg <| L_op (.plain rfl) rfl (ltb rfl) (X_move (v := v93) rfl) <| L_op (.plain rfl) rfl (ltb rfl) (X_move (v := v17) ((K66 4 rfl).trans ((K59 4 rfl).trans (K35 4 rfl)))) ?_
              obtain ⟨c95, H⟩ := bif_some H
              refine L_callP (.plain rfl) rfl (ltb rfl) rfl Tryd.call19 (laws_eqRecordS.calls (w := w91) (a0 := (layerOfT a0).1) (a1 := (layerOfT a0).1) (Own.rd o94) (Own.rd (Own.ext o18 (Ext.trans (Ext.trans (Ext.trans (Ext.gr (Ext.trans (Ext.trans (Ext.gr (Ext.trans (Ext.trans (Ext.trans (Ext.trans (Ext.trans e21 e27) e32) e37) e42) e47) e53 (Ext.refl w15).size) e61) e68) e75 e21.size) e81) e86) e92))) (of_decide_eq_true c95)) rfl <| fun w96 e97 => L_op (.plain rfl) rfl (ltb rfl) (X_not rfl) <| L_op (.plain rfl) rfl (ltb rfl) (X_move (v := (.bool (!(decide (((layerOfT a0).1) = ((layerOfT a0).1)))))) rfl) <| L_grp 4 [(84, 88)] 87 (.bool ((!(decide (((layerOfT a0).1) = ((layerOfT a0).1)))) || (!decide (((layerOfT a0).2) = ((layerOfT a0).2))))) ?_ ?_
              · rcases bool_two (!(decide (((layerOfT a0).1) = ((layerOfT a0).1)))) with b97_ | b97_
                · exact L_skip rfl rfl (ltb rfl) (congrArg Value.bool b97_) rfl rfl (ltb rfl) <| L_skip rfl rfl (ltb rfl) (congrArg Value.bool b97_) rfl rfl (ltb rfl) <| L_skip rfl rfl (ltb rfl) (congrArg Value.bool b97_) rfl rfl (ltb rfl) <| L_op (.plain rfl) rfl (ltb rfl) (X_pick (b := true) (v := (.bool true)) (congrArg Value.bool b97_) rfl) <| L_nil <| thn_n ⟨(Kp.upd (Kp.upd (Kp.upd (Kp.upd (Kp.refl _ _) rfl) rfl) rfl) rfl), (or_t b97_), (Ext.refl w96)⟩
                · exact L_op (.guard 4 false 83 rfl rfl (ltb rfl) (congrArg Value.bool b97_)) rfl (ltb rfl) (X_move (v := (.int .i64 ((layerOfT a0).2))) rfl) <| L_op (.guard 4 false 83 rfl rfl (ltb rfl) (congrArg Value.bool b97_)) rfl (ltb rfl) (X_move (v := (.int .i64 ((layerOfT a0).2))) ((K66 5 rfl).trans ((K59 5 rfl).trans (K35 5 rfl)))) <| L_op (.guard 4 false 83 rfl rfl (ltb rfl) (congrArg Value.bool b97_)) rfl (ltb rfl) (X_neq rfl rfl) <| L_op (.plain rfl) rfl (ltb rfl) (X_pick (b := false) (v := (.bool (!decide (((layerOfT a0).2) = ((layerOfT a0).2))))) (congrArg Value.bool b97_) rfl) <| L_nil <| thn_n ⟨(Kp.upd (Kp.upd (Kp.upd (Kp.upd (Kp.refl _ _) rfl) rfl) rfl) rfl), (or_f b97_), (Ext.refl w96)⟩
              intro s103 w99 K100 h101 e102
              refine L_nil <| thn_n ?_
              rcases bif_two H with ⟨q104, H⟩ | ⟨q104, H⟩
              · refine W_true (h101.trans (congrArg Value.bool q104)) <| W_seq <| W_reg <| L_op (.plain rfl) rfl (ltb rfl) (X_assign (v := (.bool false)) rfl) <| L_nil <| thn_n <| W_ret <| thn_r <| fin_r ?_
                obtain rfl := Option.some.inj H
                exact fin1 rfl (Ext.trans (Ext.trans (Ext.trans (Ext.trans (Ext.trans (Ext.trans (Ext.trans (Ext.trans e6 e10) e16) (Ext.gr (Ext.trans (Ext.trans (Ext.gr (Ext.trans (Ext.trans (Ext.trans (Ext.trans (Ext.trans e21 e27) e32) e37) e42) e47) e53 (Ext.refl w15).size) e61) e68) e75 e21.size)) e81) e86) e92) e97) e102)
              · refine W_false (h101.trans (congrArg Value.bool q104)) <| W_skip <| thn_n <| W_seq <| W_reg <| L_op (.plain rfl) rfl (ltb rfl) (X_assign (v := (.int .i64 1)) rfl) <| L_nil <| thn_n <| W_seq <| W_reg <| L_op (.plain rfl) rfl (ltb rfl) (X_move (v := v28) ((K100 7 rfl).trans ((K66 7 rfl).trans ((K59 7 rfl).trans (K35 7 rfl))))) <| L_op (.plain rfl) rfl (ltb rfl) (X_move (v := (.int .i64 1)) rfl) ?_
                obtain ⟨c105, H⟩ := bif_some H
                obtain ⟨c106, H⟩ := bif_some H
                obtain ⟨c107, H⟩ := bif_some H
                refine L_callP (.plain rfl) rfl (ltb rfl) rfl Tryd.call41 (laws_heldRecordS.calls (w := w99) (a0 := (marksR ((layerOfT a0).1).length 1)) (a1 := 1) (Own.rd (Own.ext o76 (Ext.trans (Ext.trans (Ext.trans (Ext.trans e81 e86) e92) e97) e102))) (of_decide_eq_true c105) (of_decide_eq_true c106) (of_decide_eq_true c107)) rfl <| fun w108 e109 => L_op (.plain rfl) rfl (ltb rfl) (X_assign (v := (.int .i64 (heldR (marksR ((layerOfT a0).1).length 1) 1))) rfl) <| L_nil <| thn_n <| W_seq <| W_seq <| W_reg <| L_op (.plain rfl) rfl (ltb rfl) (X_move (v := (.int .i64 (heldR (marksR ((layerOfT a0).1).length 1) 1))) rfl) <| L_op (.plain rfl) rfl (ltb rfl) (X_lss rfl rfl) <| L_nil <| thn_n ?_
                rcases bif_two H with ⟨q110, H⟩ | ⟨q110, H⟩
                · refine W_true (congrArg Value.bool q110) <| W_seq <| W_reg <| L_op (.plain rfl) rfl (ltb rfl) (X_assign (v := (.bool false)) rfl) <| L_nil <| thn_n <| W_ret <| thn_r <| fin_r ?_
                  obtain rfl := Option.some.inj H
                  exact fin1 rfl (Ext.trans (Ext.trans (Ext.trans (Ext.trans (Ext.trans (Ext.trans (Ext.trans (Ext.trans (Ext.trans e6 e10) e16) (Ext.gr (Ext.trans (Ext.trans (Ext.gr (Ext.trans (Ext.trans (Ext.trans (Ext.trans (Ext.trans e21 e27) e32) e37) e42) e47) e53 (Ext.refl w15).size) e61) e68) e75 e21.size)) e81) e86) e92) e97) e102) e109)
                · refine W_false (congrArg Value.bool q110) <| W_skip <| thn_n <| W_seq <| W_seq <| W_reg <| L_op (.plain rfl) rfl (ltb rfl) (X_move (v := (.int .i64 (heldR (marksR ((layerOfT a0).1).length 1) 1))) rfl) <| L_op (.plain rfl) rfl (ltb rfl) (X_move (v := (.int .i64 (1 + 5 * (((layerOfT a0).1).length : Int)))) (K100 10 rfl)) <| L_op (.plain rfl) rfl (ltb rfl) (X_neq rfl rfl) <| L_nil <| thn_n ?_
                  rcases bif_two H with ⟨q111, H⟩ | ⟨q111, H⟩
                  · refine W_true (congrArg Value.bool q111) <| W_seq <| W_reg <| L_op (.plain rfl) rfl (ltb rfl) (X_assign (v := (.bool false)) rfl) <| L_nil <| thn_n <| W_ret <| thn_r <| fin_r ?_
                    obtain rfl := Option.some.inj H
                    exact fin1 rfl (Ext.trans (Ext.trans (Ext.trans (Ext.trans (Ext.trans (Ext.trans (Ext.trans (Ext.trans (Ext.trans e6 e10) e16) (Ext.gr (Ext.trans (Ext.trans (Ext.gr (Ext.trans (Ext.trans (Ext.trans (Ext.trans (Ext.trans e21 e27) e32) e37) e42) e47) e53 (Ext.refl w15).size) e61) e68) e75 e21.size)) e81) e86) e92) e97) e102) e109)
                  · refine W_false (congrArg Value.bool q111) <| W_skip <| thn_n <| W_seq <| W_reg <| L_op (.plain rfl) rfl (ltb rfl) (X_assign (v := (.bool true)) rfl) <| L_nil <| thn_n <| W_ret <| fin_r ?_
                    obtain rfl := Option.some.inj H
                    exact fin1 rfl (Ext.trans (Ext.trans (Ext.trans (Ext.trans (Ext.trans (Ext.trans (Ext.trans (Ext.trans (Ext.trans e6 e10) e16) (Ext.gr (Ext.trans (Ext.trans (Ext.gr (Ext.trans (Ext.trans (Ext.trans (Ext.trans (Ext.trans e21 e27) e32) e37) e42) e47) e53 (Ext.refl w15).size) e61) e68) e75 e21.size)) e81) e86) e92) e97) e102) e109)
theorem law_LayerOfTree.calls {w : World} {a0 : List Nd} (gv : GV 0 w) {v_a0 : Value} (f_a0 : Rd 4 encNd w v_a0 a0) (h0 : ∀ x ∈ a0, okNd x) (h1 : a0.length ≤ 9223372036854775807) :
    Calls Tryd.prog 9 #[v_a0] w (Rt (RP w (.bool true))) := law_LayerOfTree.walk gv f_a0 (law_LayerOfTree.eq a0 h0 h1)
/-! spec.Hidden -/
theorem spec_Hidden.walk {k : Nat} {w : World} {a0 : List Rec} {a1 : List Rec} {v_a0 : Value} (f_a0 : Rd 5 encRec w v_a0 a0) {v_a1 : Value} (f_a1 : Rd 5 encRec w v_a1 a1) {r : List (List UInt8) × Int} (H : spec_Hidden.sh k a0 a1 = some r) :
    Calls Tryd.prog 42 #[v_a0, v_a1] w (Rt (RT 9 1 encS w r.1 (.int .i64 r.2))) := by
  unfold spec_Hidden.sh at H
  refine calls_of_W Tryd.func42 rfl (Nat.le_of_ble_eq_true rfl) Tryd.ntmps42 rfl ?_
  refine W_seq <| W_reg <| L_op (.plain rfl) rfl (ltb rfl) (X_assign (v := (.slice none 0 0)) rfl) <| L_op (.plain rfl) rfl (ltb rfl) (X_assign (v := (.int .i64 0)) rfl) <| L_nil <| thn_n <| W_seq <| W_seq <| W_reg <| L_op (.plain rfl) rfl (ltb rfl) (X_move (v := v_a0) rfl) <| L_op (.plain rfl) rfl (ltb rfl) (X_lenR Tryd.underlying26 rfl f_a0) <| L_op (.plain rfl) rfl (ltb rfl) (X_gtr rfl rfl) <| L_op (.plain rfl) rfl (ltb rfl) (X_move (v := (.bool (decide (4096 < (a0.length : Int))))) rfl) <| L_grp 4 [(12, 16)] 15 (.bool ((decide (4096 < (a0.length : Int))) || (decide (4096 < (a1.length : Int))))) ?_ ?_
  · rcases bool_two (decide (4096 < (a0.length : Int))) with b0_ | b0_
    · exact L_skip rfl rfl (ltb rfl) (congrArg Value.bool b0_) rfl rfl (ltb rfl) <| L_skip rfl rfl (ltb rfl) (congrArg Value.bool b0_) rfl rfl (ltb rfl) <| L_skip rfl rfl (ltb rfl) (congrArg Value.bool b0_) rfl rfl (ltb rfl) <| L_op (.plain rfl) rfl (ltb rfl) (X_pick (b := true) (v := (.bool true)) (congrArg Value.bool b0_) rfl) <| L_nil <| thn_n ⟨(Kp.upd (Kp.upd (Kp.upd (Kp.upd (Kp.refl _ _) rfl) rfl) rfl) rfl), (or_t b0_), (Ext.refl w)⟩
    · exact L_op (.guard 3 false 11 rfl rfl (ltb rfl) (congrArg Value.bool b0_)) rfl (ltb rfl) (X_move (v := v_a1) rfl) <| L_op (.guard 3 false 11 rfl rfl (ltb rfl) (congrArg Value.bool b0_)) rfl (ltb rfl) (X_lenR Tryd.underlying26 rfl f_a1) <| L_op (.guard 3 false 11 rfl rfl (ltb rfl) (congrArg Value.bool b0_)) rfl (ltb rfl) (X_gtr rfl rfl) <| L_op (.plain rfl) rfl (ltb rfl) (X_pick (b := false) (v := (.bool (decide (4096 < (a1.length : Int))))) (congrArg Value.bool b0_) rfl) <| L_nil <| thn_n ⟨(Kp.upd (Kp.upd (Kp.upd (Kp.upd (Kp.refl _ _) rfl) rfl) rfl) rfl), (or_f b0_), (Ext.refl w)⟩
  intro s6 w2 K3 h4 e5
  refine L_nil <| thn_n ?_
  rcases bif_two H with ⟨q7, H⟩ | ⟨q7, H⟩
  · refine W_true (h4.trans (congrArg Value.bool q7)) <| W_seq <| W_reg <| L_lit (.plain rfl) rfl (ltb rfl) rfl Tryd.underlying57 Tryd.sizeOf9 Tryd.zeroValue9 rfl rfl rfl (vs := []) rfl (lit_all rfl) <| fun b8 w9 z10 z11 e12 k13 => L_op (.plain rfl) rfl (ltb rfl) (X_assign (v := (.slice (some ⟨b8, 0, none⟩) 0 0)) rfl) <| L_op (.plain rfl) rfl (ltb rfl) (X_assign (v := (.int .i64 2)) rfl) <| L_nil <| thn_n <| W_ret <| thn_r <| fin_r ?_
    obtain rfl := Option.some.inj H
    exact fin2o rfl rfl (Ext.trans e5 e12) (Own.zero (base := w.heap.size)) (Nat.le_refl _)
  · refine W_false (h4.trans (congrArg Value.bool q7)) <| W_skip <| thn_n <| W_seq <| W_seq <| W_reg <| L_op (.plain rfl) rfl (ltb rfl) (X_move (v := v_a0) (K3 0 rfl)) ?_
    obtain ⟨c14, H⟩ := bif_some H
    obtain ⟨c15, H⟩ := bif_some H
    refine L_callP (.plain rfl) rfl (ltb rfl) rfl Tryd.call57 (spec_l03OK.calls (w := w2) (a0 := a0) (Rd.ext f_a0 e5) (of_decide_eq_true c14) (of_decide_eq_true c15)) rfl <| fun w16 e17 => L_op (.plain rfl) rfl (ltb rfl) (X_not rfl) <| L_op (.plain rfl) rfl (ltb rfl) (X_move (v := (.bool (!(decide ((layerFault a0).2 = 0))))) rfl) ?_
    obtain ⟨z19, x20, H⟩ := bind_some H
    refine L_grpE 4 [(21, 25)] 24 (fun q => q = z19) ?_ ?_
    · rcases bif_two x20 with ⟨b17_, H⟩ | ⟨b17_, H⟩
      · refine L_skip rfl rfl (ltb rfl) (congrArg Value.bool b17_) rfl rfl (ltb rfl) <| L_skip rfl rfl (ltb rfl) (congrArg Value.bool b17_) rfl rfl (ltb rfl) <| L_skip rfl rfl (ltb rfl) (congrArg Value.bool b17_) rfl rfl (ltb rfl) <| L_op (.plain rfl) rfl (ltb rfl) (X_pick (b := true) (v := (.bool true)) (congrArg Value.bool b17_) rfl) ?_
        obtain rfl := Option.some.inj H
        exact L_nil <| thn_n ⟨(Kp.upd (Kp.upd (Kp.upd (Kp.upd (Kp.refl _ _) rfl) rfl) rfl) rfl), ⟨_, rfl, rfl⟩, (Ext.refl w16)⟩
      · refine L_op (.guard 3 false 20 rfl rfl (ltb rfl) (congrArg Value.bool b17_)) rfl (ltb rfl) (X_move (v := v_a1) (K3 1 rfl)) ?_
        obtain ⟨c19, H⟩ := bif_some H
        obtain ⟨c20, H⟩ := bif_some H
        refine L_callP (.guard 3 false 20 rfl rfl (ltb rfl) (congrArg Value.bool b17_)) rfl (ltb rfl) rfl Tryd.call57 (spec_l03OK.calls (w := w16) (a0 := a1) (Rd.ext f_a1 (Ext.trans e5 e17)) (of_decide_eq_true c19) (of_decide_eq_true c20)) rfl <| fun w21 e22 => L_op (.guard 3 false 20 rfl rfl (ltb rfl) (congrArg Value.bool b17_)) rfl (ltb rfl) (X_not rfl) <| L_op (.plain rfl) rfl (ltb rfl) (X_pick (b := false) (v := (.bool (!(decide ((layerFault a1).2 = 0))))) (congrArg Value.bool b17_) rfl) ?_
        obtain rfl := Option.some.inj H
        exact L_nil <| thn_n ⟨(Kp.upd (Kp.upd (Kp.upd (Kp.upd (Kp.refl _ _) rfl) rfl) rfl) rfl), ⟨_, rfl, rfl⟩, e22⟩
    intro s25 w21 z26 K22 hq h23 e24
    rw [hq] at h23; clear hq
    refine L_nil <| thn_n ?_
    rcases bif_two H with ⟨q27, H⟩ | ⟨q27, H⟩
    · refine W_true (h23.trans (congrArg Value.bool q27)) <| W_seq <| W_reg <| L_lit (.plain rfl) rfl (ltb rfl) rfl Tryd.underlying57 Tryd.sizeOf9 Tryd.zeroValue9 rfl rfl rfl (vs := []) rfl (lit_all rfl) <| fun b28 w29 z30 z31 e32 k33 => L_op (.plain rfl) rfl (ltb rfl) (X_assign (v := (.slice (some ⟨b28, 0, none⟩) 0 0)) rfl) <| L_op (.plain rfl) rfl (ltb rfl) (X_assign (v := (.int .i64 1)) rfl) <| L_nil <| thn_n <| W_ret <| thn_r <| fin_r ?_
      obtain rfl := Option.some.inj H
      exact fin2o rfl rfl (Ext.trans (Ext.trans (Ext.trans e5 e17) e24) e32) (Own.zero (base := w.heap.size)) (Nat.le_refl _)
    · refine W_false (h23.trans (congrArg Value.bool q27)) <| W_skip <| thn_n <| W_seq <| W_reg <| L_lit (.plain rfl) rfl (ltb rfl) rfl Tryd.underlying57 Tryd.sizeOf9 Tryd.zeroValue9 rfl rfl rfl (vs := []) rfl (lit_all rfl) <| fun b34 w35 z36 z37 e38 k39 => L_op (.plain rfl) rfl (ltb rfl) (X_assign (v := (.slice (some ⟨b34, 0, none⟩) 0 0)) rfl) <| L_nil <| thn_n <| W_seq <| W_seq <| W_reg <| L_op (.plain rfl) rfl (ltb rfl) (X_assign (v := (.int .i64 0)) rfl) <| L_nil <| thn_n ?_
      obtain ⟨z43, L44, C45⟩ := bind_some H
      clear H
      refine  W_cutQ (fun s0 sQ wQ => ∃ (x6_46 : List (List UInt8)) (v47 : Value), Kp [(6, 8), (27, 48)] s0 sQ ∧ sQ 6 = v47 ∧ Own 9 1 encS w35.heap.size wQ v47 x6_46 ∧ Ext w35 wQ ∧ z43 = .inr x6_46) ?_ ?_
      · refine W_block <| W_loopI (fun s0 kk sQ wQ => ∃ (x6_40 : List (List UInt8)) (v41 : Value) (x7_42 : Int), Kp [(6, 8), (27, 48)] s0 sQ ∧ sQ 6 = v41 ∧ Own 9 1 encS w35.heap.size wQ v41 x6_40 ∧ sQ 7 = .int .i64 x7_42 ∧ Ext w35 wQ ∧ loopF (spec_Hidden.b1 a0 a1) kk (x6_40, x7_42) = some z43) k ⟨([] : List (List UInt8)), (.slice (some ⟨b34, 0, none⟩) 0 0), 0, (Kp.refl _ _), rfl, (Own.zero), rfl, (Ext.refl w35), L44⟩ ?_
        rintro k52 s53 w54 ⟨x6_40, v41, x7_42, K55, h58, h59, h60, e56, L57⟩
        cases k52 with
        | zero => exact absurd L57 (by simp [loopF])
        | succ k52 =>
          obtain ⟨t61, H, S62⟩ := loopF_succ L57
          clear L57
          unfold spec_Hidden.b1 at H
          refine W_seq <| W_seq <| W_reg <| L_op (.plain rfl) rfl (ltb rfl) (X_move (v := (.int .i64 x7_42)) h60) <| L_op (.plain rfl) rfl (ltb rfl) (X_move (v := v_a0) ((K55 0 rfl).trans ((K22 0 rfl).trans (K3 0 rfl)))) <| L_op (.plain rfl) rfl (ltb rfl) (X_lenR Tryd.underlying26 rfl (Rd.ext f_a0 (Ext.trans (Ext.trans (Ext.trans (Ext.trans e5 e17) e24) e38) e56))) <| L_op (.plain rfl) rfl (ltb rfl) (X_lss rfl rfl) <| L_nil <| thn_n ?_
          rcases bif_two H with ⟨q63, H⟩ | ⟨q63, H⟩
          · refine W_true (congrArg Value.bool q63) <| W_skip <| thn_n <| W_seq <| W_block <| W_seq <| W_reg <| L_op (.plain rfl) rfl (ltb rfl) (X_move (v := v_a1) ((K55 1 rfl).trans ((K22 1 rfl).trans (K3 1 rfl)))) <| L_op (.plain rfl) rfl (ltb rfl) (X_move (v := v_a0) ((K55 0 rfl).trans ((K22 0 rfl).trans (K3 0 rfl)))) <| L_op (.plain rfl) rfl (ltb rfl) (X_move (v := (.int .i64 x7_42)) h60) ?_
            obtain ⟨c64, H⟩ := bif_some H
            refine L_idx (.plain rfl) rfl (ltb rfl) rfl Tryd.underlying26 Tryd.sizeOf74 rfl (Rd.ext f_a0 (Ext.trans (Ext.trans (Ext.trans (Ext.trans e5 e17) e24) e38) e56)) rfl c64 <| fun p65 h66 => L_op (.plain rfl) rfl (ltb rfl) (X_fieldAddr Tryd.underlying74 rfl Tryd.sizeOf9 rfl rfl) <| L_op (.plain rfl) rfl (ltb rfl) (X_loadF Tryd.isAgg9 (j := 1) h66 rfl rfl) ?_
            obtain ⟨c67, H⟩ := bif_some H
            obtain ⟨c68, H⟩ := bif_some H
            refine L_callP (.plain rfl) rfl (ltb rfl) rfl Tryd.call68 (spec_l06Cuts.calls (w := w54) (a0 := a1) (a1 := (gt a0 x7_42).path) (Rd.ext f_a1 (Ext.trans (Ext.trans (Ext.trans (Ext.trans e5 e17) e24) e38) e56)) (of_decide_eq_true c67) (of_decide_eq_true c68)) rfl <| fun w69 e70 => L_nil <| thn_n ?_
            rcases bif_two H with ⟨q71, H⟩ | ⟨q71, H⟩
            · refine W_true (congrArg Value.bool q71) <| W_reg <| L_op (.plain rfl) rfl (ltb rfl) (X_move (v := v41) h58) <| L_op (.plain rfl) rfl (ltb rfl) (X_move (v := v_a0) ((K55 0 rfl).trans ((K22 0 rfl).trans (K3 0 rfl)))) <| L_op (.plain rfl) rfl (ltb rfl) (X_move (v := (.int .i64 x7_42)) h60) ?_
              obtain ⟨c72, H⟩ := bif_some H
              refine L_idx (.plain rfl) rfl (ltb rfl) rfl Tryd.underlying26 Tryd.sizeOf74 rfl (Rd.ext f_a0 (Ext.trans (Ext.trans (Ext.trans (Ext.trans (Ext.trans e5 e17) e24) e38) e56) e70)) rfl c72 <| fun p73 h74 => L_op (.plain rfl) rfl (ltb rfl) (X_fieldAddr Tryd.underlying74 rfl Tryd.sizeOf9 rfl rfl) <| L_op (.plain rfl) rfl (ltb rfl) (X_loadF Tryd.isAgg9 (j := 1) h74 rfl rfl) <| L_lit (.plain rfl) rfl (ltb rfl) rfl Tryd.underlying57 Tryd.sizeOf9 Tryd.zeroValue9 rfl rfl rfl (vs := [(S ((gt a0 x7_42).path))]) rfl (lit_all rfl) <| fun b75 w76 z77 z78 e79 k80 => ?_
              obtain ⟨c81, H⟩ := bif_some H
              refine L_append (enc := encS) (.plain rfl) rfl (ltb rfl) rfl El.t57 rfl rfl (Own.ext h59 (Ext.trans e70 e79)) (Own.rd (Own.new (xs := [(gt a0 x7_42).path]) (sz := 1) (enc := encS) (base := w69.heap.size) k80 (Nat.le_of_eq z77) rfl (fun _ _ => by rfl) (Nat.le_of_ble_eq_true rfl))) (ones_S _) (of_decide_eq_true c81) ((Ext.trans (Ext.trans e56 e70) e79)).size <| fun v82 w83 o84 z85 g86 => L_op (.plain rfl) rfl (ltb rfl) (X_assign (v := v82) rfl) <| L_nil <| blk_n <| thn_n <| W_reg <| L_op (.plain rfl) rfl (ltb rfl) (X_move (v := (.int .i64 x7_42)) h60) <| L_op (.plain rfl) rfl (ltb rfl) (X_add rfl rfl) <| L_op (.plain rfl) rfl (ltb rfl) (X_assign (v := (.int .i64 (IntKind.wrap .i64 (x7_42 + 1)))) rfl) <| L_nil <| thn_n ?_
              obtain rfl := Option.some.inj H
              exact ⟨_, Nat.lt_succ_self _, x6_40 ++ ([(gt a0 x7_42).path] : List (List UInt8)), v82, IntKind.wrap .i64 (x7_42 + 1), (Kp.upd (Kp.upd (Kp.upd (Kp.upd (Kp.upd (Kp.upd (Kp.upd (Kp.upd (Kp.upd (Kp.upd (Kp.upd (Kp.upd (Kp.upd (Kp.upd (Kp.upd (Kp.upd (Kp.upd (Kp.upd (Kp.upd (Kp.upd (Kp.upd (Kp.upd (Kp.upd K55 rfl) rfl) rfl) rfl) rfl) rfl) rfl) rfl) rfl) rfl) rfl) rfl) rfl) rfl) rfl) rfl) rfl) rfl) rfl) rfl) rfl) rfl) rfl), rfl, o84, rfl, (g86 _ (Ext.trans (Ext.trans e56 e70) e79)), S62⟩
            · refine W_false (congrArg Value.bool q71) <| W_skip <| blk_n <| thn_n <| W_reg <| L_op (.plain rfl) rfl (ltb rfl) (X_move (v := (.int .i64 x7_42)) h60) <| L_op (.plain rfl) rfl (ltb rfl) (X_add rfl rfl) <| L_op (.plain rfl) rfl (ltb rfl) (X_assign (v := (.int .i64 (IntKind.wrap .i64 (x7_42 + 1)))) rfl) <| L_nil <| thn_n ?_
              obtain rfl := Option.some.inj H
              exact ⟨_, Nat.lt_succ_self _, x6_40, v41, IntKind.wrap .i64 (x7_42 + 1), (Kp.upd (Kp.upd (Kp.upd (Kp.upd (Kp.upd (Kp.upd (Kp.upd (Kp.upd (Kp.upd (Kp.upd (Kp.upd (Kp.upd (Kp.upd (Kp.upd K55 rfl) rfl) rfl) rfl) rfl) rfl) rfl) rfl) rfl) rfl) rfl) rfl) rfl) rfl), h58, (Own.ext h59 e70), rfl, (Ext.trans e56 e70), S62⟩
          · refine W_false (congrArg Value.bool q63) <| W_exit <| thn_x <| thn_x <| blk_x <| thn_n ?_
            obtain rfl := Option.some.inj H
            obtain rfl := Option.some.inj S62
            exact ⟨x6_40, v41, (Kp.upd (Kp.upd (Kp.upd (Kp.upd K55 rfl) rfl) rfl) rfl), h58, h59, e56, rfl⟩
      · rintro s49 w48 ⟨x6_46, v47, K50, h87, h88, e51, y89⟩
        rw [y89] at C45
        have H := C45
        replace H : _ = some _ := H
        refine thn_n <| W_seq <| W_reg <| L_op (.plain rfl) rfl (ltb rfl) (X_move (v := v47) h87) <| L_op (.plain rfl) rfl (ltb rfl) (X_assign (v := v47) rfl) <| L_op (.plain rfl) rfl (ltb rfl) (X_assign (v := (.int .i64 0)) rfl) <| L_nil <| thn_n <| W_ret <| fin_r ?_
        obtain rfl := Option.some.inj H
        exact fin2o rfl rfl (Ext.trans (Ext.trans (Ext.trans (Ext.trans e5 e17) e24) e38) e51) h88 ((Ext.trans (Ext.trans (Ext.trans e5 e17) e24) e38)).size
theorem spec_Hidden.calls {w : World} {a0 : List Rec} {a1 : List Rec} {v_a0 : Value} (f_a0 : Rd 5 encRec w v_a0 a0) {v_a1 : Value} (f_a1 : Rd 5 encRec w v_a1 a1) (h0 : a0.length ≤ 1048576) (h1 : a1.length ≤ 1048576) (h2 : ∀ x ∈ a0, x.path.length ≤ 1048576) (h3 : ∀ x ∈ a1, x.path.length ≤ 1048576) :
    Calls Tryd.prog 42 #[v_a0, v_a1] w (Rt (RT 9 1 encS w ((hiddenL a0 a1).1) (.int .i64 ((hiddenL a0 a1).2)))) := by
  obtain ⟨k, h⟩ := spec_Hidden.eq a0 a1 h0 h1 h2 h3
  exact spec_Hidden.walk f_a0 f_a1 h
/-! impl.Hidden -/
theorem impl_Hidden.walk {k : Nat} {w : World} {a0 : List Rec} {a1 : List Rec} (gv : GV 0 w) {v_a0 : Value} (f_a0 : Rd 5 encRec w v_a0 a0) {v_a1 : Value} (f_a1 : Rd 5 encRec w v_a1 a1) {r : List (List UInt8) × Int} (H : impl_Hidden.sh k a0 a1 = some r) :
    Calls Tryd.prog 43 #[v_a0, v_a1] w (Rt (RT 9 1 encS w r.1 (.int .i64 r.2))) := by
  unfold impl_Hidden.sh at H
  refine calls_of_W Tryd.func43 rfl (Nat.le_of_ble_eq_true rfl) Tryd.ntmps43 rfl ?_
  refine W_seq <| W_reg <| L_op (.plain rfl) rfl (ltb rfl) (X_assign (v := (.slice none 0 0)) rfl) <| L_op (.plain rfl) rfl (ltb rfl) (X_assign (v := (.int .i64 0)) rfl) <| L_nil <| thn_n <| W_seq <| W_seq <| W_reg <| L_op (.plain rfl) rfl (ltb rfl) (X_move (v := v_a0) rfl) <| L_op (.plain rfl) rfl (ltb rfl) (X_move (v := v_a1) rfl) ?_
  obtain ⟨c1, H⟩ := bif_some H
  obtain ⟨c2, H⟩ := bif_some H
  obtain ⟨c3, H⟩ := bif_some H
  obtain ⟨c4, H⟩ := bif_some H
  refine L_callP (.plain rfl) rfl (ltb rfl) rfl Tryd.call83 (impl_pairCode.calls (w := w) (a0 := a0) (a1 := a1) gv f_a0 f_a1 (of_decide_eq_true c1) (of_decide_eq_true c2) (of_decide_eq_true c3) (of_decide_eq_true c4)) rfl <| fun w5 e6 => L_op (.plain rfl) rfl (ltb rfl) (X_assign (v := (.int .i64 (pairCode a0 a1))) rfl) <| L_nil <| thn_n <| W_seq <| W_reg <| L_op (.plain rfl) rfl (ltb rfl) (X_move (v := (.int .i64 (pairCode a0 a1))) rfl) <| L_op (.plain rfl) rfl (ltb rfl) (X_neq rfl rfl) <| L_nil <| thn_n ?_
  rcases bif_two H with ⟨q7, H⟩ | ⟨q7, H⟩
  · refine W_true (congrArg Value.bool q7) <| W_seq <| W_reg <| L_op (.plain rfl) rfl (ltb rfl) (X_move (v := (.int .i64 (pairCode a0 a1))) rfl) <| L_op (.plain rfl) rfl (ltb rfl) (X_assign (v := (.slice none 0 0)) rfl) <| L_op (.plain rfl) rfl (ltb rfl) (X_assign (v := (.int .i64 (pairCode a0 a1))) rfl) <| L_nil <| thn_n <| W_ret <| thn_r <| fin_r ?_
    obtain rfl := Option.some.inj H
    exact fin2o rfl rfl e6 (Own.zero (base := w.heap.size)) (Nat.le_refl _)
  · refine W_false (congrArg Value.bool q7) <| W_skip <| thn_n <| W_seq <| W_reg <| L_lit (.plain rfl) rfl (ltb rfl) rfl Tryd.underlying57 Tryd.sizeOf9 Tryd.zeroValue9 rfl rfl rfl (vs := []) rfl (lit_all rfl) <| fun b8 w9 z10 z11 e12 k13 => L_op (.plain rfl) rfl (ltb rfl) (X_assign (v := (.slice (some ⟨b8, 0, none⟩) 0 0)) rfl) <| L_nil <| thn_n <| W_seq <| W_seq <| W_reg <| L_op (.plain rfl) rfl (ltb rfl) (X_move (v := v_a0) rfl) <| L_op (.plain rfl) rfl (ltb rfl) (X_lenR Tryd.underlying26 rfl (Rd.ext f_a0 (Ext.trans e6 e12))) <| L_op (.plain rfl) rfl (ltb rfl) (X_move (v := (.int .i64 0)) rfl) <| L_nil <| thn_n ?_
    obtain ⟨z17, L18, C19⟩ := bind_some H
    clear H
    refine  W_cutQ (fun s0 sQ wQ => ∃ (x7_20 : List (List UInt8)) (v21 : Value), Kp [(7, 8), (9, 10), (19, 33)] s0 sQ ∧ sQ 7 = v21 ∧ Own 9 1 encS w9.heap.size wQ v21 x7_20 ∧ Ext w9 wQ ∧ z17 = .inr x7_20) ?_ ?_
    · refine W_block <| W_loopI (fun s0 kk sQ wQ => ∃ (x7_14 : List (List UInt8)) (v15 : Value) (x19_16 : Int), Kp [(7, 8), (9, 10), (19, 33)] s0 sQ ∧ sQ 7 = v15 ∧ Own 9 1 encS w9.heap.size wQ v15 x7_14 ∧ sQ 19 = .int .i64 x19_16 ∧ Ext w9 wQ ∧ loopF (impl_Hidden.b1 a0 a1) kk (x7_14, x19_16) = some z17) k ⟨([] : List (List UInt8)), (.slice (some ⟨b8, 0, none⟩) 0 0), 0, (Kp.refl _ _), rfl, (Own.zero), rfl, (Ext.refl w9), L18⟩ ?_
      rintro k26 s27 w28 ⟨x7_14, v15, x19_16, K29, h32, h33, h34, e30, L31⟩
      cases k26 with
      | zero => exact absurd L31 (by simp [loopF])
      | succ k26 =>
        obtain ⟨t35, H, S36⟩ := loopF_succ L31
        clear L31
        unfold impl_Hidden.b1 at H
        refine W_seq <| W_reg <| L_op (.plain rfl) rfl (ltb rfl) (X_lss h34 (K29 18 rfl)) <| L_nil <| thn_n <| W_seq ?_
        rcases bif_two H with ⟨q37, H⟩ | ⟨q37, H⟩
        · refine W_true (congrArg Value.bool q37) <| W_skip <| thn_n <| W_seq <| W_block <| W_seq <| W_reg ?_
          obtain ⟨c38, H⟩ := bif_some H
          refine L_idx (.plain rfl) rfl (ltb rfl) rfl Tryd.underlying26 Tryd.sizeOf74 (K29 17 rfl) (Rd.ext f_a0 (Ext.trans (Ext.trans e6 e12) e30)) h34 c38 <| fun p39 h40 => L_op (.plain rfl) rfl (ltb rfl) (X_loadS Tryd.isAgg74 Tryd.sizeOf74 rfl rfl h40) <| L_alloc (.plain rfl) rfl (ltb rfl) rfl Tryd.zeroValue74 <| fun b41 w42 z43 z44 e45 k46 => L_storeA (.plain rfl) rfl rfl Tryd.sizeOf74 rfl rfl rfl rfl rfl k46 <| fun w47 h48 k49 => L_nil <| thn_n <| W_seq <| W_reg <| L_op (.plain rfl) rfl (ltb rfl) (X_move (v := v_a1) (K29 1 rfl)) <| L_op (.plain rfl) rfl (ltb rfl) (X_fieldAddr Tryd.underlying74 rfl Tryd.sizeOf9 rfl rfl) <| L_op (.plain rfl) rfl (ltb rfl) (X_loadB Tryd.isAgg9 k49 rfl rfl) ?_
          obtain ⟨c50, H⟩ := bif_some H
          obtain ⟨c51, H⟩ := bif_some H
          refine L_callP (.plain rfl) rfl (ltb rfl) rfl Tryd.call69 (impl_cuts.calls (w := w47) (a0 := a1) (a1 := (gt a0 x19_16).path) (Rd.ext f_a1 (Ext.trans (Ext.trans (Ext.trans e6 e12) e30) (Below.trans e45 (Wr.below h48 (Nat.le_of_eq z43))))) (of_decide_eq_true c50) (of_decide_eq_true c51)) rfl <| fun w52 e53 => L_nil <| thn_n ?_
          rcases bif_two H with ⟨q54, H⟩ | ⟨q54, H⟩
          · refine W_true (congrArg Value.bool q54) <| W_reg <| L_op (.plain rfl) rfl (ltb rfl) (X_move (v := v15) h32) <| L_op (.plain rfl) rfl (ltb rfl) (X_fieldAddr Tryd.underlying74 rfl Tryd.sizeOf9 rfl rfl) <| L_op (.plain rfl) rfl (ltb rfl) (X_loadB Tryd.isAgg9 (Blk.ext k49 e53) rfl rfl) <| L_lit (.plain rfl) rfl (ltb rfl) rfl Tryd.underlying57 Tryd.sizeOf9 Tryd.zeroValue9 rfl rfl rfl (vs := [(S ((gt a0 x19_16).path))]) rfl (lit_all rfl) <| fun b55 w56 z57 z58 e59 k60 => ?_
            obtain ⟨c61, H⟩ := bif_some H
            refine L_append (enc := encS) (.plain rfl) rfl (ltb rfl) rfl El.t57 rfl rfl (Own.ext h33 (Ext.trans (Ext.trans (Below.trans e45 (Wr.below h48 (Nat.le_of_eq z43))) e53) e59)) (Own.rd (Own.new (xs := [(gt a0 x19_16).path]) (sz := 1) (enc := encS) (base := w52.heap.size) k60 (Nat.le_of_eq z57) rfl (fun _ _ => by rfl) (Nat.le_of_ble_eq_true rfl))) (ones_S _) (of_decide_eq_true c61) ((Ext.trans (Ext.trans (Ext.trans e30 (Below.trans e45 (Wr.below h48 (Nat.le_of_eq z43)))) e53) e59)).size <| fun v62 w63 o64 z65 g66 => L_op (.plain rfl) rfl (ltb rfl) (X_assign (v := v62) rfl) <| L_nil <| blk_n <| thn_n <| W_reg <| L_op (.plain rfl) rfl (ltb rfl) (X_add h34 rfl) <| L_op (.plain rfl) rfl (ltb rfl) (X_move (v := (.int .i64 (IntKind.wrap .i64 (x19_16 + 1)))) rfl) <| L_nil <| thn_n ?_
            obtain rfl := Option.some.inj H
            exact ⟨_, Nat.lt_succ_self _, x7_14 ++ ([(gt a0 x19_16).path] : List (List UInt8)), v62, IntKind.wrap .i64 (x19_16 + 1), (Kp.upd (Kp.upd (Kp.upd (Kp.upd (Kp.upd (Kp.upd (Kp.upd (Kp.upd (Kp.upd (Kp.upd (Kp.upd (Kp.upd (Kp.upd (Kp.upd (Kp.upd (Kp.upd K29 rfl) rfl) rfl) rfl) rfl) rfl) rfl) rfl) rfl) rfl) rfl) rfl) rfl) rfl) rfl) rfl), rfl, o64, rfl, (g66 _ (Ext.trans (Ext.trans (Ext.trans e30 (Below.trans e45 (Wr.below h48 (Nat.le_of_eq z43)))) e53) e59)), S36⟩
          · refine W_false (congrArg Value.bool q54) <| W_skip <| blk_n <| thn_n <| W_reg <| L_op (.plain rfl) rfl (ltb rfl) (X_add h34 rfl) <| L_op (.plain rfl) rfl (ltb rfl) (X_move (v := (.int .i64 (IntKind.wrap .i64 (x19_16 + 1)))) rfl) <| L_nil <| thn_n ?_
            obtain rfl := Option.some.inj H
            exact ⟨_, Nat.lt_succ_self _, x7_14, v15, IntKind.wrap .i64 (x19_16 + 1), (Kp.upd (Kp.upd (Kp.upd (Kp.upd (Kp.upd (Kp.upd (Kp.upd (Kp.upd (Kp.upd (Kp.upd K29 rfl) rfl) rfl) rfl) rfl) rfl) rfl) rfl) rfl) rfl), h32, (Own.ext h33 (Ext.trans (Below.trans e45 (Wr.below h48 (Nat.le_of_eq z43))) e53)), rfl, (Ext.trans (Ext.trans e30 (Below.trans e45 (Wr.below h48 (Nat.le_of_eq z43)))) e53), S36⟩
        · refine W_false (congrArg Value.bool q37) <| W_exit <| thn_x <| thn_x <| blk_x <| thn_n ?_
          obtain rfl := Option.some.inj H
          obtain rfl := Option.some.inj S36
          exact ⟨x7_14, v15, (Kp.upd K29 rfl), h32, h33, e30, rfl⟩
    · rintro s23 w22 ⟨x7_20, v21, K24, h67, h68, e25, y69⟩
      rw [y69] at C19
      have H := C19
      replace H : _ = some _ := H
      refine thn_n <| W_seq <| W_reg <| L_op (.plain rfl) rfl (ltb rfl) (X_move (v := v21) h67) <| L_op (.plain rfl) rfl (ltb rfl) (X_assign (v := v21) rfl) <| L_op (.plain rfl) rfl (ltb rfl) (X_assign (v := (.int .i64 0)) rfl) <| L_nil <| thn_n <| W_ret <| fin_r ?_
      obtain rfl := Option.some.inj H
      exact fin2o rfl rfl (Ext.trans (Ext.trans e6 e12) e25) h68 ((Ext.trans e6 e12)).size
theorem impl_Hidden.calls {w : World} {a0 : List Rec} {a1 : List Rec} (gv : GV 0 w) {v_a0 : Value} (f_a0 : Rd 5 encRec w v_a0 a0) {v_a1 : Value} (f_a1 : Rd 5 encRec w v_a1 a1) (h0 : a0.length ≤ 1048576) (h1 : a1.length ≤ 1048576) (h2 : ∀ x ∈ a0, x.path.length ≤ 1048576) (h3 : ∀ x ∈ a1, x.path.length ≤ 1048576) :
    Calls Tryd.prog 43 #[v_a0, v_a1] w (Rt (RT 9 1 encS w ((hiddenL a0 a1).1) (.int .i64 ((hiddenL a0 a1).2)))) := by
  obtain ⟨k, h⟩ := impl_Hidden.eq a0 a1 h0 h1 h2 h3
  exact impl_Hidden.walk gv f_a0 f_a1 h
/-! laws.FnExactHidden -/
theorem law_Hidden.walk {w : World} {a0 : List Rec} {a1 : List Rec} (gv : GV 0 w) {v_a0 : Value} (f_a0 : Rd 5 encRec w v_a0 a0) {v_a1 : Value} (f_a1 : Rd 5 encRec w v_a1 a1) {r : Bool} (H : law_Hidden.sh a0 a1 = some r) :
    Calls Tryd.prog 10 #[v_a0, v_a1] w (Rt (RP w (.bool r))) := by
  unfold law_Hidden.sh at H
  refine calls_of_W Tryd.func10 rfl (Nat.le_of_ble_eq_true rfl) Tryd.ntmps10 rfl ?_
  refine W_seq <| W_reg <| L_op (.plain rfl) rfl (ltb rfl) (X_assign (v := (.bool false)) rfl) <| L_nil <| thn_n <| W_seq <| W_reg <| L_op (.plain rfl) rfl (ltb rfl) (X_assign (v := (.int .i64 1048576)) rfl) <| L_nil <| thn_n <| W_seq <| W_reg <| L_op (.plain rfl) rfl (ltb rfl) (X_move (v := v_a0) rfl) <| L_op (.plain rfl) rfl (ltb rfl) (X_move (v := (.int .i64 1048576)) rfl) ?_
  obtain ⟨c1, H⟩ := bif_some H
  obtain ⟨c2, H⟩ := bif_some H
  obtain ⟨c3, H⟩ := bif_some H
  obtain ⟨c4, H⟩ := bif_some H
  refine L_callP (.plain rfl) rfl (ltb rfl) rfl Tryd.call15 (laws_szRecordS.calls (w := w) (a0 := a0) (a1 := 1048576) f_a0 (of_decide_eq_true c1) (of_decide_eq_true c2) (of_decide_eq_true c3) (of_decide_eq_true c4)) rfl <| fun w5 e6 => L_op (.plain rfl) rfl (ltb rfl) (X_assign (v := (.int .i64 (szRecS a0 1048576))) rfl) <| L_nil <| thn_n <| W_seq <| W_seq <| W_reg <| L_op (.plain rfl) rfl (ltb rfl) (X_move (v := (.int .i64 (szRecS a0 1048576))) rfl) <| L_op (.plain rfl) rfl (ltb rfl) (X_lss rfl rfl) <| L_nil <| thn_n ?_
  rcases bif_two H with ⟨q7, H⟩ | ⟨q7, H⟩
  · refine W_true (congrArg Value.bool q7) <| W_seq <| W_reg <| L_op (.plain rfl) rfl (ltb rfl) (X_assign (v := (.bool true)) rfl) <| L_nil <| thn_n <| W_ret <| thn_r <| fin_r ?_
    obtain rfl := Option.some.inj H
    exact fin1 rfl e6
  · refine W_false (congrArg Value.bool q7) <| W_skip <| thn_n <| W_seq <| W_reg <| L_op (.plain rfl) rfl (ltb rfl) (X_move (v := v_a1) rfl) <| L_op (.plain rfl) rfl (ltb rfl) (X_move (v := (.int .i64 (szRecS a0 1048576))) rfl) ?_
    obtain ⟨c8, H⟩ := bif_some H
    obtain ⟨c9, H⟩ := bif_some H
    obtain ⟨c10, H⟩ := bif_some H
    obtain ⟨c11, H⟩ := bif_some H
    refine L_callP (.plain rfl) rfl (ltb rfl) rfl Tryd.call15 (laws_szRecordS.calls (w := w5) (a0 := a1) (a1 := (szRecS a0 1048576)) (Rd.ext f_a1 e6) (of_decide_eq_true c8) (of_decide_eq_true c9) (of_decide_eq_true c10) (of_decide_eq_true c11)) rfl <| fun w12 e13 => L_op (.plain rfl) rfl (ltb rfl) (X_assign (v := (.int .i64 (szRecS a1 (szRecS a0 1048576)))) rfl) <| L_nil <| thn_n <| W_seq <| W_seq <| W_reg <| L_op (.plain rfl) rfl (ltb rfl) (X_move (v := (.int .i64 (szRecS a1 (szRecS a0 1048576)))) rfl) <| L_op (.plain rfl) rfl (ltb rfl) (X_lss rfl rfl) <| L_nil <| thn_n ?_
    rcases bif_two H with ⟨q14, H⟩ | ⟨q14, H⟩
    · refine W_true (congrArg Value.bool q14) <| W_seq <| W_reg <| L_op (.plain rfl) rfl (ltb rfl) (X_assign (v := (.bool true)) rfl) <| L_nil <| thn_n <| W_ret <| thn_r <| fin_r ?_
      obtain rfl := Option.some.inj H
      exact fin1 rfl (Ext.trans e6 e13)
    · refine W_false (congrArg Value.bool q14) <| W_skip <| thn_n <| W_seq <| W_reg <| L_op (.plain rfl) rfl (ltb rfl) (X_move (v := v_a0) rfl) ?_
      obtain ⟨c15, H⟩ := bif_some H
      refine L_callO (.plain rfl) rfl (ltb rfl) rfl Tryd.call17 (laws_toRecordS.calls (w := w12) (a0 := a0) (Rd.ext f_a0 (Ext.trans e6 e13)) (of_decide_eq_true c15)) rfl <| fun v18 w16 e17 o19 => L_op (.plain rfl) rfl (ltb rfl) (X_move (v := v_a1) rfl) ?_
      obtain ⟨c20, H⟩ := bif_some H
      refine L_callO (.plain rfl) rfl (ltb rfl) rfl Tryd.call17 (laws_toRecordS.calls (w := w16) (a0 := a1) (Rd.ext f_a1 (Ext.trans (Ext.trans e6 e13) e17)) (of_decide_eq_true c20)) rfl <| fun v23 w21 e22 o24 => ?_
      obtain ⟨c25, H⟩ := bif_some H
      obtain ⟨c26, H⟩ := bif_some H
      obtain ⟨c27, H⟩ := bif_some H
      obtain ⟨c28, H⟩ := bif_some H
      refine L_callT (.plain rfl) rfl (ltb rfl) rfl Tryd.call42 (spec_Hidden.calls (w := w21) (a0 := a0) (a1 := a1) (Own.rd (Own.ext o19 e22)) (Own.rd o24) (of_decide_eq_true c25) (of_decide_eq_true c26) (of_decide_eq_true c27) (of_decide_eq_true c28)) rfl <| fun v31 w29 e30 o32 => L_op (.plain rfl) rfl (ltb rfl) (X_move (v := (.tuple #[v31, (.int .i64 ((hiddenL a0 a1).2))])) rfl) <| L_op (.plain rfl) rfl (ltb rfl) (X_extract (v := v31) rfl rfl) <| L_op (.plain rfl) rfl (ltb rfl) (X_extract (v := (.int .i64 ((hiddenL a0 a1).2))) rfl rfl) <| L_op (.plain rfl) rfl (ltb rfl) (X_assign (v := v31) rfl) <| L_op (.plain rfl) rfl (ltb rfl) (X_assign (v := (.int .i64 ((hiddenL a0 a1).2))) rfl) <| L_nil <| thn_n <| W_seq <| W_reg <| L_op (.plain rfl) rfl (ltb rfl) (X_move (v := v_a0) rfl) ?_
      obtain ⟨c33, H⟩ := bif_some H
      refine L_callO (.plain rfl) rfl (ltb rfl) rfl Tryd.call17 (laws_toRecordS.calls (w := w29) (a0 := a0) (Rd.ext f_a0 (Ext.trans (Ext.trans (Ext.trans (Ext.trans e6 e13) e17) e22) e30)) (of_decide_eq_true c33)) rfl <| fun v36 w34 e35 o37 => L_op (.plain rfl) rfl (ltb rfl) (X_assign (v := v36) rfl) <| L_nil <| thn_n <| W_seq <| W_reg <| L_op (.plain rfl) rfl (ltb rfl) (X_move (v := v_a1) rfl) ?_
      obtain ⟨c38, H⟩ := bif_some H
      refine L_callO (.plain rfl) rfl (ltb rfl) rfl Tryd.call17 (laws_toRecordS.calls (w := w34) (a0 := a1) (Rd.ext f_a1 (Ext.trans (Ext.trans (Ext.trans (Ext.trans (Ext.trans e6 e13) e17) e22) e30) e35)) (of_decide_eq_true c38)) rfl <| fun v41 w39 e40 o42 => L_op (.plain rfl) rfl (ltb rfl) (X_assign (v := v41) rfl) <| L_nil <| thn_n <| W_seq <| W_reg <| L_op (.plain rfl) rfl (ltb rfl) (X_move (v := v36) rfl) <| L_op (.plain rfl) rfl (ltb rfl) (X_move (v := v41) rfl) ?_
      obtain ⟨c43, H⟩ := bif_some H
      obtain ⟨c44, H⟩ := bif_some H
      obtain ⟨c45, H⟩ := bif_some H
      obtain ⟨c46, H⟩ := bif_some H
      refine L_callT (.plain rfl) rfl (ltb rfl) rfl Tryd.call43 (impl_Hidden.calls (w := w39) (a0 := a0) (a1 := a1) (GV.ext gv (Ext.trans (Ext.trans (Ext.trans (Ext.trans (Ext.trans (Ext.trans e6 e13) e17) e22) e30) e35) e40)) (Own.rd (Own.ext o37 e40)) (Own.rd o42) (of_decide_eq_true c43) (of_decide_eq_true c44) (of_decide_eq_true c45) (of_decide_eq_true c46)) rfl <| fun v49 w47 e48 o50 => L_op (.plain rfl) rfl (ltb rfl) (X_move (v := (.tuple #[v49, (.int .i64 ((hiddenL a0 a1).2))])) rfl) <| L_op (.plain rfl) rfl (ltb rfl) (X_extract (v := v49) rfl rfl) <| L_op (.plain rfl) rfl (ltb rfl) (X_extract (v := (.int .i64 ((hiddenL a0 a1).2))) rfl rfl) <| L_op (.plain rfl) rfl (ltb rfl) (X_assign (v := v49) rfl) <| L_op (.plain rfl) rfl (ltb rfl) (X_assign (v := (.int .i64 ((hiddenL a0 a1).2))) rfl) <| L_nil <| thn_n <| W_seq <| W_seq <| W_reg <| L_op (.plain rfl) rfl (ltb rfl) (X_move (v := v49) rfl) <| L_op (.plain rfl) rfl (ltb rfl) (X_move (v := v31) rfl) ?_
      obtain ⟨c51, H⟩ := bif_some H
      refine L_callP (.plain rfl) rfl (ltb rfl) rfl Tryd.call44 (laws_eqStringS.calls (w := w47) (a0 := (hiddenL a0 a1).1) (a1 := (hiddenL a0 a1).1) (Own.rd o50) (Own.rd (Own.ext o32 (Ext.trans (Ext.trans e35 e40) e48))) (of_decide_eq_true c51)) rfl <| fun w52 e53 => L_op (.plain rfl) rfl (ltb rfl) (X_not rfl) <| L_op (.plain rfl) rfl (ltb rfl) (X_move (v := (.bool (!(decide (((hiddenL a0 a1).1) = ((hiddenL a0 a1).1)))))) rfl) <| L_grp 4 [(50, 54)] 53 (.bool ((!(decide (((hiddenL a0 a1).1) = ((hiddenL a0 a1).1)))) || (!decide (((hiddenL a0 a1).2) = ((hiddenL a0 a1).2))))) ?_ ?_
      · rcases bool_two (!(decide (((hiddenL a0 a1).1) = ((hiddenL a0 a1).1)))) with b53_ | b53_
        · exact L_skip rfl rfl (ltb rfl) (congrArg Value.bool b53_) rfl rfl (ltb rfl) <| L_skip rfl rfl (ltb rfl) (congrArg Value.bool b53_) rfl rfl (ltb rfl) <| L_skip rfl rfl (ltb rfl) (congrArg Value.bool b53_) rfl rfl (ltb rfl) <| L_op (.plain rfl) rfl (ltb rfl) (X_pick (b := true) (v := (.bool true)) (congrArg Value.bool b53_) rfl) <| L_nil <| thn_n ⟨(Kp.upd (Kp.upd (Kp.upd (Kp.upd (Kp.refl _ _) rfl) rfl) rfl) rfl), (or_t b53_), (Ext.refl w52)⟩
        · exact L_op (.guard 4 false 49 rfl rfl (ltb rfl) (congrArg Value.bool b53_)) rfl (ltb rfl) (X_move (v := (.int .i64 ((hiddenL a0 a1).2))) rfl) <| L_op (.guard 4 false 49 rfl rfl (ltb rfl) (congrArg Value.bool b53_)) rfl (ltb rfl) (X_move (v := (.int .i64 ((hiddenL a0 a1).2))) rfl) <| L_op (.guard 4 false 49 rfl rfl (ltb rfl) (congrArg Value.bool b53_)) rfl (ltb rfl) (X_neq rfl rfl) <| L_op (.plain rfl) rfl (ltb rfl) (X_pick (b := false) (v := (.bool (!decide (((hiddenL a0 a1).2) = ((hiddenL a0 a1).2))))) (congrArg Value.bool b53_) rfl) <| L_nil <| thn_n ⟨(Kp.upd (Kp.upd (Kp.upd (Kp.upd (Kp.refl _ _) rfl) rfl) rfl) rfl), (or_f b53_), (Ext.refl w52)⟩
      intro s59 w55 K56 h57 e58
      refine L_nil <| thn_n ?_
      rcases bif_two H with ⟨q60, H⟩ | ⟨q60, H⟩
      · refine W_true (h57.trans (congrArg Value.bool q60)) <| W_seq <| W_reg <| L_op (.plain rfl) rfl (ltb rfl) (X_assign (v := (.bool false)) rfl) <| L_nil <| thn_n <| W_ret <| thn_r <| fin_r ?_
        obtain rfl := Option.some.inj H
        exact fin1 rfl (Ext.trans (Ext.trans (Ext.trans (Ext.trans (Ext.trans (Ext.trans (Ext.trans (Ext.trans (Ext.trans e6 e13) e17) e22) e30) e35) e40) e48) e53) e58)
      · refine W_false (h57.trans (congrArg Value.bool q60)) <| W_skip <| thn_n <| W_seq <| W_seq <| W_reg <| L_op (.plain rfl) rfl (ltb rfl) (X_move (v := v36) (K56 8 rfl)) <| L_op (.plain rfl) rfl (ltb rfl) (X_move (v := v_a0) (K56 0 rfl)) ?_
        obtain ⟨c61, H⟩ := bif_some H
        refine L_callO (.plain rfl) rfl (ltb rfl) rfl Tryd.call17 (laws_toRecordS.calls (w := w55) (a0 := a0) (Rd.ext f_a0 (Ext.trans (Ext.trans (Ext.trans (Ext.trans (Ext.trans (Ext.trans (Ext.trans (Ext.trans (Ext.trans e6 e13) e17) e22) e30) e35) e40) e48) e53) e58)) (of_decide_eq_true c61)) rfl <| fun v64 w62 e63 o65 => ?_
        obtain ⟨c66, H⟩ := bif_some H
        refine L_callP (.plain rfl) rfl (ltb rfl) rfl Tryd.call19 (laws_eqRecordS.calls (w := w62) (a0 := a0) (a1 := a0) (Own.rd (Own.ext o37 (Ext.trans (Ext.trans (Ext.trans (Ext.trans e40 e48) e53) e58) e63))) (Own.rd o65) (of_decide_eq_true c66)) rfl <| fun w67 e68 => L_op (.plain rfl) rfl (ltb rfl) (X_not rfl) <| L_nil <| thn_n ?_
        rcases bif_two H with ⟨q69, H⟩ | ⟨q69, H⟩
        · refine W_true (congrArg Value.bool q69) <| W_seq <| W_reg <| L_op (.plain rfl) rfl (ltb rfl) (X_assign (v := (.bool false)) rfl) <| L_nil <| thn_n <| W_ret <| thn_r <| fin_r ?_
          obtain rfl := Option.some.inj H
          exact fin1 rfl (Ext.trans (Ext.trans (Ext.trans (Ext.trans (Ext.trans (Ext.trans (Ext.trans (Ext.trans (Ext.trans (Ext.trans (Ext.trans e6 e13) e17) e22) e30) e35) e40) e48) e53) e58) e63) e68)
        · refine W_false (congrArg Value.bool q69) <| W_skip <| thn_n <| W_seq <| W_seq <| W_reg <| L_op (.plain rfl) rfl (ltb rfl) (X_move (v := v41) (K56 9 rfl)) <| L_op (.plain rfl) rfl (ltb rfl) (X_move (v := v_a1) (K56 1 rfl)) ?_
          obtain ⟨c70, H⟩ := bif_some H
          refine L_callO (.plain rfl) rfl (ltb rfl) rfl Tryd.call17 (laws_toRecordS.calls (w := w67) (a0 := a1) (Rd.ext f_a1 (Ext.trans (Ext.trans (Ext.trans (Ext.trans (Ext.trans (Ext.trans (Ext.trans (Ext.trans (Ext.trans (Ext.trans (Ext.trans e6 e13) e17) e22) e30) e35) e40) e48) e53) e58) e63) e68)) (of_decide_eq_true c70)) rfl <| fun v73 w71 e72 o74 => ?_
          obtain ⟨c75, H⟩ := bif_some H
          refine L_callP (.plain rfl) rfl (ltb rfl) rfl Tryd.call19 (laws_eqRecordS.calls (w := w71) (a0 := a1) (a1 := a1) (Own.rd (Own.ext o42 (Ext.trans (Ext.trans (Ext.trans (Ext.trans (Ext.trans e48 e53) e58) e63) e68) e72))) (Own.rd o74) (of_decide_eq_true c75)) rfl <| fun w76 e77 => L_op (.plain rfl) rfl (ltb rfl) (X_not rfl) <| L_nil <| thn_n ?_
          rcases bif_two H with ⟨q78, H⟩ | ⟨q78, H⟩
          · refine W_true (congrArg Value.bool q78) <| W_seq <| W_reg <| L_op (.plain rfl) rfl (ltb rfl) (X_assign (v := (.bool false)) rfl) <| L_nil <| thn_n <| W_ret <| thn_r <| fin_r ?_
            obtain rfl := Option.some.inj H
            exact fin1 rfl (Ext.trans (Ext.trans (Ext.trans (Ext.trans (Ext.trans (Ext.trans (Ext.trans (Ext.trans (Ext.trans (Ext.trans (Ext.trans (Ext.trans (Ext.trans e6 e13) e17) e22) e30) e35) e40) e48) e53) e58) e63) e68) e72) e77)
          · refine W_false (congrArg Value.bool q78) <| W_skip <| thn_n <| W_seq <| W_reg <| L_op (.plain rfl) rfl (ltb rfl) (X_assign (v := (.int .i64 1)) rfl) <| L_nil <| thn_n <| W_seq <| W_reg <| L_op (.plain rfl) rfl (ltb rfl) (X_move (v := v36) (K56 8 rfl)) <| L_op (.plain rfl) rfl (ltb rfl) (X_move (v := (.int .i64 1)) rfl) ?_
            obtain ⟨c79, H⟩ := bif_some H
            obtain ⟨c80, H⟩ := bif_some H
            obtain ⟨c81, H⟩ := bif_some H
            refine L_callM (.plain rfl) rfl (ltb rfl) rfl Tryd.call40 (laws_markRecordS.calls (w := w76) (a0 := a0) (a1 := 1) (Own.ext o37 (Ext.trans (Ext.trans (Ext.trans (Ext.trans (Ext.trans (Ext.trans (Ext.trans e40 e48) e53) e58) e63) e68) e72) e77)) (Own.hb o37) (of_decide_eq_true c79) (of_decide_eq_true c80) (of_decide_eq_true c81)) rfl <| fun w82 e83 o84 => L_op (.plain rfl) rfl (ltb rfl) (X_assign (v := (.int .i64 (1 + 5 * (a0.length : Int)))) rfl) <| L_nil <| thn_n <| W_seq <| W_reg <| L_op (.plain rfl) rfl (ltb rfl) (X_move (v := v41) (K56 9 rfl)) <| L_op (.plain rfl) rfl (ltb rfl) (X_move (v := (.int .i64 (1 + 5 * (a0.length : Int)))) rfl) ?_
            obtain ⟨c85, H⟩ := bif_some H
            obtain ⟨c86, H⟩ := bif_some H
            obtain ⟨c87, H⟩ := bif_some H
            refine L_callM (.plain rfl) rfl (ltb rfl) rfl Tryd.call40 (laws_markRecordS.calls (w := w82) (a0 := a1) (a1 := (1 + 5 * (a0.length : Int))) (Own.later (Own.ext o42 (Ext.trans (Ext.trans (Ext.trans (Ext.trans (Ext.trans (Ext.trans e48 e53) e58) e63) e68) e72) e77)) e83 (Ext.refl w34).size) (Own.hb o42) (of_decide_eq_true c85) (of_decide_eq_true c86) (of_decide_eq_true c87)) rfl <| fun w88 e89 o90 => L_op (.plain rfl) rfl (ltb rfl) (X_assign (v := (.int .i64 ((1 + 5 * (a0.length : Int)) + 5 * (a1.length : Int)))) rfl) <| L_nil <| thn_n <| W_seq <| W_seq <| W_reg <| L_op (.plain rfl) rfl (ltb rfl) (X_move (v := (.int .i64 ((1 + 5 * (a0.length : Int)) + 5 * (a1.length : Int)))) rfl) <| L_op (.plain rfl) rfl (ltb rfl) (X_lss rfl rfl) <| L_op (.plain rfl) rfl (ltb rfl) (X_move rfl) ?_
            obtain ⟨z92, x93, H⟩ := bind_some H
            refine L_grpE 5 [(73, 78)] 77 (fun q => q = z92) ?_ ?_
            · rcases bif_two x93 with ⟨b90_, H⟩ | ⟨b90_, H⟩
              · refine L_skip rfl rfl (ltb rfl) (congrArg Value.bool b90_) rfl rfl (ltb rfl) <| L_skip rfl rfl (ltb rfl) (congrArg Value.bool b90_) rfl rfl (ltb rfl) <| L_skip rfl rfl (ltb rfl) (congrArg Value.bool b90_) rfl rfl (ltb rfl) <| L_skip rfl rfl (ltb rfl) (congrArg Value.bool b90_) rfl rfl (ltb rfl) <| L_op (.plain rfl) rfl (ltb rfl) (X_pick (b := true) (v := (.bool true)) (congrArg Value.bool b90_) rfl) ?_
                obtain rfl := Option.some.inj H
                exact L_nil <| thn_n ⟨(Kp.upd (Kp.upd (Kp.upd (Kp.upd (Kp.upd (Kp.refl _ _) rfl) rfl) rfl) rfl) rfl), ⟨_, rfl, rfl⟩, (Ext.refl w88)⟩
              · refine L_op (.guard 2 false 72 rfl rfl (ltb rfl) (congrArg Value.bool b90_)) rfl (ltb rfl) (X_move (v := v49) (K56 10 rfl)) <| L_op (.guard 2 false 72 rfl rfl (ltb rfl) (congrArg Value.bool b90_)) rfl (ltb rfl) (X_move (v := v31) (K56 6 rfl)) ?_
                obtain ⟨c92, H⟩ := bif_some H
                refine L_callP (.guard 2 false 72 rfl rfl (ltb rfl) (congrArg Value.bool b90_)) rfl (ltb rfl) rfl Tryd.call44 (laws_eqStringS.calls (w := w88) (a0 := (hiddenL a0 a1).1) (a1 := (hiddenL a0 a1).1) (Own.rd (Own.later (Own.later (Own.ext o50 (Ext.trans (Ext.trans (Ext.trans (Ext.trans (Ext.trans e53 e58) e63) e68) e72) e77)) e83 e40.size) e89 (Ext.refl w39).size)) (Own.rd (Own.ext o32 (Ext.gr (Ext.gr (Ext.trans (Ext.trans (Ext.trans (Ext.trans (Ext.trans (Ext.trans (Ext.trans (Ext.trans e35 e40) e48) e53) e58) e63) e68) e72) e77) e83 (Ext.refl w29).size) e89 e35.size))) (of_decide_eq_true c92)) rfl <| fun w93 e94 => L_op (.guard 2 false 72 rfl rfl (ltb rfl) (congrArg Value.bool b90_)) rfl (ltb rfl) (X_not rfl) <| L_op (.plain rfl) rfl (ltb rfl) (X_pick (b := false) (v := (.bool (!(decide (((hiddenL a0 a1).1) = ((hiddenL a0 a1).1)))))) (congrArg Value.bool b90_) rfl) ?_
                obtain rfl := Option.some.inj H
                exact L_nil <| thn_n ⟨(Kp.upd (Kp.upd (Kp.upd (Kp.upd (Kp.upd (Kp.refl _ _) rfl) rfl) rfl) rfl) rfl), ⟨_, rfl, rfl⟩, e94⟩
            intro s98 w94 z99 K95 hq h96 e97
            rw [hq] at h96; clear hq
            refine L_op (.plain rfl) rfl (ltb rfl) (X_move (v := (.bool z92)) h96) <| L_grp 4 [(79, 83)] 82 (.bool (z92 || (!decide (((hiddenL a0 a1).2) = ((hiddenL a0 a1).2))))) ?_ ?_
            · rcases bool_two z92 with b99_ | b99_
              · exact L_skip rfl rfl (ltb rfl) (congrArg Value.bool b99_) rfl rfl (ltb rfl) <| L_skip rfl rfl (ltb rfl) (congrArg Value.bool b99_) rfl rfl (ltb rfl) <| L_skip rfl rfl (ltb rfl) (congrArg Value.bool b99_) rfl rfl (ltb rfl) <| L_op (.plain rfl) rfl (ltb rfl) (X_pick (b := true) (v := (.bool true)) (congrArg Value.bool b99_) rfl) <| L_nil <| thn_n ⟨(Kp.upd (Kp.upd (Kp.upd (Kp.upd (Kp.refl _ _) rfl) rfl) rfl) rfl), (or_t b99_), (Ext.refl w94)⟩
              · exact L_op (.guard 8 false 78 rfl rfl (ltb rfl) (congrArg Value.bool b99_)) rfl (ltb rfl) (X_move (v := (.int .i64 ((hiddenL a0 a1).2))) ((K95 11 rfl).trans (K56 11 rfl))) <| L_op (.guard 8 false 78 rfl rfl (ltb rfl) (congrArg Value.bool b99_)) rfl (ltb rfl) (X_move (v := (.int .i64 ((hiddenL a0 a1).2))) ((K95 7 rfl).trans (K56 7 rfl))) <| L_op (.guard 8 false 78 rfl rfl (ltb rfl) (congrArg Value.bool b99_)) rfl (ltb rfl) (X_neq rfl rfl) <| L_op (.plain rfl) rfl (ltb rfl) (X_pick (b := false) (v := (.bool (!decide (((hiddenL a0 a1).2) = ((hiddenL a0 a1).2))))) (congrArg Value.bool b99_) rfl) <| L_nil <| thn_n ⟨(Kp.upd (Kp.upd (Kp.upd (Kp.upd (Kp.refl _ _) rfl) rfl) rfl) rfl), (or_f b99_), (Ext.refl w94)⟩
            intro s105 w101 K102 h103 e104
            refine L_nil <| thn_n ?_
            rcases bif_two H with ⟨q106, H⟩ | ⟨q106, H⟩
            · refine W_true (h103.trans (congrArg Value.bool q106)) <| W_seq <| W_reg <| L_op (.plain rfl) rfl (ltb rfl) (X_assign (v := (.bool false)) rfl) <| L_nil <| thn_n <| W_ret <| thn_r <| fin_r ?_
              obtain rfl := Option.some.inj H
              exact fin1 rfl (Ext.trans (Ext.trans (Ext.trans (Ext.trans (Ext.trans (Ext.trans (Ext.trans e6 e13) e17) e22) e30) (Ext.gr (Ext.gr (Ext.trans (Ext.trans (Ext.trans (Ext.trans (Ext.trans (Ext.trans (Ext.trans (Ext.trans e35 e40) e48) e53) e58) e63) e68) e72) e77) e83 (Ext.refl w29).size) e89 e35.size)) e97) e104)
            · refine W_false (h103.trans (congrArg Value.bool q106)) <| W_skip <| thn_n <| W_seq <| W_reg <| L_op (.plain rfl) rfl (ltb rfl) (X_assign (v := (.int .i64 1)) rfl) <| L_nil <| thn_n <| W_seq <| W_reg <| L_op (.plain rfl) rfl (ltb rfl) (X_move (v := v49) ((K102 10 rfl).trans ((K95 10 rfl).trans (K56 10 rfl)))) <| L_op (.plain rfl) rfl (ltb rfl) (X_move (v := (.int .i64 1)) rfl) ?_
              obtain ⟨c107, H⟩ := bif_some H
              obtain ⟨c108, H⟩ := bif_some H
              obtain ⟨c109, H⟩ := bif_some H
              refine L_callM (.plain rfl) rfl (ltb rfl) rfl Tryd.call45 (laws_markStringS.calls (w := w101) (a0 := (hiddenL a0 a1).1) (a1 := 1) (Own.ext (Own.later (Own.later (Own.ext o50 (Ext.trans (Ext.trans (Ext.trans (Ext.trans (Ext.trans e53 e58) e63) e68) e72) e77)) e83 e40.size) e89 (Ext.refl w39).size) (Ext.trans e97 e104)) (Own.hb o50) (of_decide_eq_true c107) (of_decide_eq_true c108) (of_decide_eq_true c109)) rfl <| fun w110 e111 o112 => L_op (.plain rfl) rfl (ltb rfl) (X_assign (v := (.int .i64 (1 + (((hiddenL a0 a1).1).length : Int)))) rfl) <| L_nil <| thn_n <| W_seq <| W_reg <| L_op (.plain rfl) rfl (ltb rfl) (X_assign (v := (.int .i64 1)) rfl) <| L_nil <| thn_n <| W_seq <| W_reg <| L_op (.plain rfl) rfl (ltb rfl) (X_move (v := v49) ((K102 10 rfl).trans ((K95 10 rfl).trans (K56 10 rfl)))) <| L_op (.plain rfl) rfl (ltb rfl) (X_move (v := (.int .i64 1)) rfl) ?_
              obtain ⟨c113, H⟩ := bif_some H
              obtain ⟨c114, H⟩ := bif_some H
              obtain ⟨c115, H⟩ := bif_some H
              refine L_callP (.plain rfl) rfl (ltb rfl) rfl Tryd.call46 (laws_heldStringS.calls (w := w110) (a0 := (marksS ((hiddenL a0 a1).1).length 1)) (a1 := 1) (Own.rd o112) (of_decide_eq_true c113) (of_decide_eq_true c114) (of_decide_eq_true c115)) rfl <| fun w116 e117 => L_op (.plain rfl) rfl (ltb rfl) (X_assign (v := (.int .i64 (heldS (marksS ((hiddenL a0 a1).1).length 1) 1))) rfl) <| L_nil <| thn_n <| W_seq <| W_seq <| W_reg <| L_op (.plain rfl) rfl (ltb rfl) (X_move (v := (.int .i64 (heldS (marksS ((hiddenL a0 a1).1).length 1) 1))) rfl) <| L_op (.plain rfl) rfl (ltb rfl) (X_lss rfl rfl) <| L_nil <| thn_n ?_
              rcases bif_two H with ⟨q118, H⟩ | ⟨q118, H⟩
              · refine W_true (congrArg Value.bool q118) <| W_seq <| W_reg <| L_op (.plain rfl) rfl (ltb rfl) (X_assign (v := (.bool false)) rfl) <| L_nil <| thn_n <| W_ret <| thn_r <| fin_r ?_
                obtain rfl := Option.some.inj H
                exact fin1 rfl (Ext.trans (Ext.trans (Ext.trans (Ext.trans (Ext.trans (Ext.trans e6 e13) e17) e22) e30) (Ext.gr (Ext.trans (Ext.trans (Ext.gr (Ext.gr (Ext.trans (Ext.trans (Ext.trans (Ext.trans (Ext.trans (Ext.trans (Ext.trans (Ext.trans e35 e40) e48) e53) e58) e63) e68) e72) e77) e83 (Ext.refl w29).size) e89 e35.size) e97) e104) e111 (Ext.trans e35 e40).size)) e117)
              · refine W_false (congrArg Value.bool q118) <| W_skip <| thn_n <| W_seq <| W_seq <| W_reg <| L_op (.plain rfl) rfl (ltb rfl) (X_move (v := (.int .i64 (heldS (marksS ((hiddenL a0 a1).1).length 1) 1))) rfl) <| L_op (.plain rfl) rfl (ltb rfl) (X_move (v := (.int .i64 (1 + (((hiddenL a0 a1).1).length : Int)))) rfl) <| L_op (.plain rfl) rfl (ltb rfl) (X_neq rfl rfl) <| L_nil <| thn_n ?_
                rcases bif_two H with ⟨q119, H⟩ | ⟨q119, H⟩
                · refine W_true (congrArg Value.bool q119) <| W_seq <| W_reg <| L_op (.plain rfl) rfl (ltb rfl) (X_assign (v := (.bool false)) rfl) <| L_nil <| thn_n <| W_ret <| thn_r <| fin_r ?_
                  obtain rfl := Option.some.inj H
                  exact fin1 rfl (Ext.trans (Ext.trans (Ext.trans (Ext.trans (Ext.trans (Ext.trans e6 e13) e17) e22) e30) (Ext.gr (Ext.trans (Ext.trans (Ext.gr (Ext.gr (Ext.trans (Ext.trans (Ext.trans (Ext.trans (Ext.trans (Ext.trans (Ext.trans (Ext.trans e35 e40) e48) e53) e58) e63) e68) e72) e77) e83 (Ext.refl w29).size) e89 e35.size) e97) e104) e111 (Ext.trans e35 e40).size)) e117)
                · refine W_false (congrArg Value.bool q119) <| W_skip <| thn_n <| W_seq <| W_reg <| L_op (.plain rfl) rfl (ltb rfl) (X_move (v := v_a0) ((K102 0 rfl).trans ((K95 0 rfl).trans (K56 0 rfl)))) ?_
                  obtain ⟨c120, H⟩ := bif_some H
                  refine L_callO (.plain rfl) rfl (ltb rfl) rfl Tryd.call17 (laws_toRecordS.calls (w := w116) (a0 := a0) (Rd.ext f_a0 (Ext.trans (Ext.trans (Ext.trans (Ext.trans (Ext.trans (Ext.trans e6 e13) e17) e22) e30) (Ext.gr (Ext.trans (Ext.trans (Ext.gr (Ext.gr (Ext.trans (Ext.trans (Ext.trans (Ext.trans (Ext.trans (Ext.trans (Ext.trans (Ext.trans e35 e40) e48) e53) e58) e63) e68) e72) e77) e83 (Ext.refl w29).size) e89 e35.size) e97) e104) e111 (Ext.trans e35 e40).size)) e117)) (of_decide_eq_true c120)) rfl <| fun v123 w121 e122 o124 => L_op (.plain rfl) rfl (ltb rfl) (X_move (v := v_a1) ((K102 1 rfl).trans ((K95 1 rfl).trans (K56 1 rfl)))) ?_
                  obtain ⟨c125, H⟩ := bif_some H
                  refine L_callO (.plain rfl) rfl (ltb rfl) rfl Tryd.call17 (laws_toRecordS.calls (w := w121) (a0 := a1) (Rd.ext f_a1 (Ext.trans (Ext.trans (Ext.trans (Ext.trans (Ext.trans (Ext.trans (Ext.trans e6 e13) e17) e22) e30) (Ext.gr (Ext.trans (Ext.trans (Ext.gr (Ext.gr (Ext.trans (Ext.trans (Ext.trans (Ext.trans (Ext.trans (Ext.trans (Ext.trans (Ext.trans e35 e40) e48) e53) e58) e63) e68) e72) e77) e83 (Ext.refl w29).size) e89 e35.size) e97) e104) e111 (Ext.trans e35 e40).size)) e117) e122)) (of_decide_eq_true c125)) rfl <| fun v128 w126 e127 o129 => ?_
                  obtain ⟨c130, H⟩ := bif_some H
                  obtain ⟨c131, H⟩ := bif_some H
                  obtain ⟨c132, H⟩ := bif_some H
                  obtain ⟨c133, H⟩ := bif_some H
                  refine L_callT (.plain rfl) rfl (ltb rfl) rfl Tryd.call43 (impl_Hidden.calls (w := w126) (a0 := a0) (a1 := a1) (GV.ext gv (Ext.trans (Ext.trans (Ext.trans (Ext.trans (Ext.trans (Ext.trans (Ext.trans (Ext.trans e6 e13) e17) e22) e30) (Ext.gr (Ext.trans (Ext.trans (Ext.gr (Ext.gr (Ext.trans (Ext.trans (Ext.trans (Ext.trans (Ext.trans (Ext.trans (Ext.trans (Ext.trans e35 e40) e48) e53) e58) e63) e68) e72) e77) e83 (Ext.refl w29).size) e89 e35.size) e97) e104) e111 (Ext.trans e35 e40).size)) e117) e122) e127)) (Own.rd (Own.ext o124 e127)) (Own.rd o129) (of_decide_eq_true c130) (of_decide_eq_true c131) (of_decide_eq_true c132) (of_decide_eq_true c133)) rfl <| fun v136 w134 e135 o137 => L_op (.plain rfl) rfl (ltb rfl) (X_move (v := (.tuple #[v136, (.int .i64 ((hiddenL a0 a1).2))])) rfl) <| L_op (.plain rfl) rfl (ltb rfl) (X_extract (v := v136) rfl rfl) <| L_op (.plain rfl) rfl (ltb rfl) (X_extract (v := (.int .i64 ((hiddenL a0 a1).2))) rfl rfl) <| L_op (.plain rfl) rfl (ltb rfl) (X_assign (v := v136) rfl) <| L_op (.plain rfl) rfl (ltb rfl) (X_assign (v := (.int .i64 ((hiddenL a0 a1).2))) rfl) <| L_nil <| thn_n <| W_seq <| W_seq <| W_reg <| L_op (.plain rfl) rfl (ltb rfl) (X_move (v := v136) rfl) <| L_op (.plain rfl) rfl (ltb rfl) (X_move (v := v31) ((K102 6 rfl).trans ((K95 6 rfl).trans (K56 6 rfl)))) ?_
                  obtain ⟨c138, H⟩ := bif_some H
                  refine L_callP (.plain rfl) rfl (ltb rfl) rfl Tryd.call44 (laws_eqStringS.calls (w := w134) (a0 := (hiddenL a0 a1).1) (a1 := (hiddenL a0 a1).1) (Own.rd o137) (Own.rd (Own.ext o32 (Ext.trans (Ext.trans (Ext.trans (Ext.trans (Ext.gr (Ext.trans (Ext.trans (Ext.gr (Ext.gr (Ext.trans (Ext.trans (Ext.trans (Ext.trans (Ext.trans (Ext.trans (Ext.trans (Ext.trans e35 e40) e48) e53) e58) e63) e68) e72) e77) e83 (Ext.refl w29).size) e89 e35.size) e97) e104) e111 (Ext.trans e35 e40).size) e117) e122) e127) e135))) (of_decide_eq_true c138)) rfl <| fun w139 e140 => L_op (.plain rfl) rfl (ltb rfl) (X_not rfl) <| L_op (.plain rfl) rfl (ltb rfl) (X_move (v := (.bool (!(decide (((hiddenL a0 a1).1) = ((hiddenL a0 a1).1)))))) rfl) <| L_grp 4 [(107, 111)] 110 (.bool ((!(decide (((hiddenL a0 a1).1) = ((hiddenL a0 a1).1)))) || (!decide (((hiddenL a0 a1).2) = ((hiddenL a0 a1).2))))) ?_ ?_
                  · rcases bool_two (!(decide (((hiddenL a0 a1).1) = ((hiddenL a0 a1).1)))) with b140_ | b140_
                    · exact L_skip rfl rfl (ltb rfl) (congrArg Value.bool b140_) rfl rfl (ltb rfl) <| L_skip rfl rfl (ltb rfl) (congrArg Value.bool b140_) rfl rfl (ltb rfl) <| L_skip rfl rfl (ltb rfl) (congrArg Value.bool b140_) rfl rfl (ltb rfl) <| L_op (.plain rfl) rfl (ltb rfl) (X_pick (b := true) (v := (.bool true)) (congrArg Value.bool b140_) rfl) <| L_nil <| thn_n ⟨(Kp.upd (Kp.upd (Kp.upd (Kp.upd (Kp.refl _ _) rfl) rfl) rfl) rfl), (or_t b140_), (Ext.refl w139)⟩
                    · exact L_op (.guard 4 false 106 rfl rfl (ltb rfl) (congrArg Value.bool b140_)) rfl (ltb rfl) (X_move (v := (.int .i64 ((hiddenL a0 a1).2))) rfl) <| L_op (.guard 4 false 106 rfl rfl (ltb rfl) (congrArg Value.bool b140_)) rfl (ltb rfl) (X_move (v := (.int .i64 ((hiddenL a0 a1).2))) ((K102 7 rfl).trans ((K95 7 rfl).trans (K56 7 rfl)))) <| L_op (.guard 4 false 106 rfl rfl (ltb rfl) (congrArg Value.bool b140_)) rfl (ltb rfl) (X_neq rfl rfl) <| L_op (.plain rfl) rfl (ltb rfl) (X_pick (b := false) (v := (.bool (!decide (((hiddenL a0 a1).2) = ((hiddenL a0 a1).2))))) (congrArg Value.bool b140_) rfl) <| L_nil <| thn_n ⟨(Kp.upd (Kp.upd (Kp.upd (Kp.upd (Kp.refl _ _) rfl) rfl) rfl) rfl), (or_f b140_), (Ext.refl w139)⟩
                  intro s146 w142 K143 h144 e145
                  refine L_nil <| thn_n ?_
                  rcases bif_two H with ⟨q147, H⟩ | ⟨q147, H⟩
                  · refine W_true (h144.trans (congrArg Value.bool q147)) <| W_seq <| W_reg <| L_op (.plain rfl) rfl (ltb rfl) (X_assign (v := (.bool false)) rfl) <| L_nil <| thn_n <| W_ret <| thn_r <| fin_r ?_
                    obtain rfl := Option.some.inj H
                    exact fin1 rfl (Ext.trans (Ext.trans (Ext.trans (Ext.trans (Ext.trans (Ext.trans (Ext.trans (Ext.trans (Ext.trans (Ext.trans (Ext.trans e6 e13) e17) e22) e30) (Ext.gr (Ext.trans (Ext.trans (Ext.gr (Ext.gr (Ext.trans (Ext.trans (Ext.trans (Ext.trans (Ext.trans (Ext.trans (Ext.trans (Ext.trans e35 e40) e48) e53) e58) e63) e68) e72) e77) e83 (Ext.refl w29).size) e89 e35.size) e97) e104) e111 (Ext.trans e35 e40).size)) e117) e122) e127) e135) e140) e145)
                  · refine W_false (h144.trans (congrArg Value.bool q147)) <| W_skip <| thn_n <| W_seq <| W_reg <| L_op (.plain rfl) rfl (ltb rfl) (X_assign (v := (.int .i64 1)) rfl) <| L_nil <| thn_n <| W_seq <| W_reg <| L_op (.plain rfl) rfl (ltb rfl) (X_move (v := v49) ((K143 10 rfl).trans ((K102 10 rfl).trans ((K95 10 rfl).trans (K56 10 rfl))))) <| L_op (.plain rfl) rfl (ltb rfl) (X_move (v := (.int .i64 1)) rfl) ?_
                    obtain ⟨c148, H⟩ := bif_some H
                    obtain ⟨c149, H⟩ := bif_some H
                    obtain ⟨c150, H⟩ := bif_some H
                    refine L_callP (.plain rfl) rfl (ltb rfl) rfl Tryd.call46 (laws_heldStringS.calls (w := w142) (a0 := (marksS ((hiddenL a0 a1).1).length 1)) (a1 := 1) (Own.rd (Own.ext o112 (Ext.trans (Ext.trans (Ext.trans (Ext.trans (Ext.trans e117 e122) e127) e135) e140) e145))) (of_decide_eq_true c148) (of_decide_eq_true c149) (of_decide_eq_true c150)) rfl <| fun w151 e152 => L_op (.plain rfl) rfl (ltb rfl) (X_assign (v := (.int .i64 (heldS (marksS ((hiddenL a0 a1).1).length 1) 1))) rfl) <| L_nil <| thn_n <| W_seq <| W_seq <| W_reg <| L_op (.plain rfl) rfl (ltb rfl) (X_move (v := (.int .i64 (heldS (marksS ((hiddenL a0 a1).1).length 1) 1))) rfl) <| L_op (.plain rfl) rfl (ltb rfl) (X_lss rfl rfl) <| L_nil <| thn_n ?_
                    rcases bif_two H with ⟨q153, H⟩ | ⟨q153, H⟩
                    · refine W_true (congrArg Value.bool q153) <| W_seq <| W_reg <| L_op (.plain rfl) rfl (ltb rfl) (X_assign (v := (.bool false)) rfl) <| L_nil <| thn_n <| W_ret <| thn_r <| fin_r ?_
                      obtain rfl := Option.some.inj H
                      exact fin1 rfl (Ext.trans (Ext.trans (Ext.trans (Ext.trans (Ext.trans (Ext.trans (Ext.trans (Ext.trans (Ext.trans (Ext.trans (Ext.trans (Ext.trans e6 e13) e17) e22) e30) (Ext.gr (Ext.trans (Ext.trans (Ext.gr (Ext.gr (Ext.trans (Ext.trans (Ext.trans (Ext.trans (Ext.trans (Ext.trans (Ext.trans (Ext.trans e35 e40) e48) e53) e58) e63) e68) e72) e77) e83 (Ext.refl w29).size) e89 e35.size) e97) e104) e111 (Ext.trans e35 e40).size)) e117) e122) e127) e135) e140) e145) e152)
                    · refine W_false (congrArg Value.bool q153) <| W_skip <| thn_n <| W_seq <| W_seq <| W_reg <| L_op (.plain rfl) rfl (ltb rfl) (X_move (v := (.int .i64 (heldS (marksS ((hiddenL a0 a1).1).length 1) 1))) rfl) <| L_op (.plain rfl) rfl (ltb rfl) (X_move (v := (.int .i64 (1 + (((hiddenL a0 a1).1).length : Int)))) (K143 13 rfl)) <| L_op (.plain rfl) rfl (ltb rfl) (X_neq rfl rfl) <| L_nil <| thn_n ?_
                      rcases bif_two H with ⟨q154, H⟩ | ⟨q154, H⟩
                      · refine W_true (congrArg Value.bool q154) <| W_seq <| W_reg <| L_op (.plain rfl) rfl (ltb rfl) (X_assign (v := (.bool false)) rfl) <| L_nil <| thn_n <| W_ret <| thn_r <| fin_r ?_
                        obtain rfl := Option.some.inj H
                        exact fin1 rfl (Ext.trans (Ext.trans (Ext.trans (Ext.trans (Ext.trans (Ext.trans (Ext.trans (Ext.trans (Ext.trans (Ext.trans (Ext.trans (Ext.trans e6 e13) e17) e22) e30) (Ext.gr (Ext.trans (Ext.trans (Ext.gr (Ext.gr (Ext.trans (Ext.trans (Ext.trans (Ext.trans (Ext.trans (Ext.trans (Ext.trans (Ext.trans e35 e40) e48) e53) e58) e63) e68) e72) e77) e83 (Ext.refl w29).size) e89 e35.size) e97) e104) e111 (Ext.trans e35 e40).size)) e117) e122) e127) e135) e140) e145) e152)
                      · refine W_false (congrArg Value.bool q154) <| W_skip <| thn_n <| W_seq <| W_reg <| L_op (.plain rfl) rfl (ltb rfl) (X_assign (v := (.bool true)) rfl) <| L_nil <| thn_n <| W_ret <| fin_r ?_
                        obtain rfl := Option.some.inj H
                        exact fin1 rfl (Ext.trans (Ext.trans (Ext.trans (Ext.trans (Ext.trans (Ext.trans (Ext.trans (Ext.trans (Ext.trans (Ext.trans (Ext.trans (Ext.trans e6 e13) e17) e22) e30) (Ext.gr (Ext.trans (Ext.trans (Ext.gr (Ext.gr (Ext.trans (Ext.trans (Ext.trans (Ext.trans (Ext.trans (Ext.trans (Ext.trans (Ext.trans e35 e40) e48) e53) e58) e63) e68) e72) e77) e83 (Ext.refl w29).size) e89 e35.size) e97) e104) e111 (Ext.trans e35 e40).size)) e117) e122) e127) e135) e140) e145) e152)
theorem law_Hidden.calls {w : World} {a0 : List Rec} {a1 : List Rec} (gv : GV 0 w) {v_a0 : Value} (f_a0 : Rd 5 encRec w v_a0 a0) {v_a1 : Value} (f_a1 : Rd 5 encRec w v_a1 a1) (h0 : ∀ x ∈ a0, okRec x) (h1 : a0.length ≤ 9223372036854775807) (h2 : ∀ x ∈ a1, okRec x) (h3 : a1.length ≤ 9223372036854775807) :
    Calls Tryd.prog 10 #[v_a0, v_a1] w (Rt (RP w (.bool true))) := law_Hidden.walk gv f_a0 f_a1 (law_Hidden.eq a0 a1 h0 h1 h2 h3)
/-! spec.Canonical -/
theorem spec_Canonical.walk {w : World} {a0 : List Rec} {v_a0 : Value} (f_a0 : Rd 5 encRec w v_a0 a0) {r : List Rec × Int} (H : spec_Canonical.sh a0 = some r) :
    Calls Tryd.prog 49 #[v_a0] w (Rt (RT 74 5 encRec w r.1 (.int .i64 r.2))) := by
  unfold spec_Canonical.sh at H
  refine calls_of_W Tryd.func49 rfl (Nat.le_of_ble_eq_true rfl) Tryd.ntmps49 rfl ?_
  refine W_seq <| W_reg <| L_op (.plain rfl) rfl (ltb rfl) (X_assign (v := (.slice none 0 0)) rfl) <| L_op (.plain rfl) rfl (ltb rfl) (X_assign (v := (.int .i64 0)) rfl) <| L_nil <| thn_n <| W_seq <| W_seq <| W_reg <| L_op (.plain rfl) rfl (ltb rfl) (X_move (v := v_a0) rfl) <| L_op (.plain rfl) rfl (ltb rfl) (X_lenR Tryd.underlying26 rfl f_a0) <| L_op (.plain rfl) rfl (ltb rfl) (X_gtr rfl rfl) <| L_nil <| thn_n ?_
  rcases bif_two H with ⟨q1, H⟩ | ⟨q1, H⟩
  · refine W_true (congrArg Value.bool q1) <| W_seq <| W_reg <| L_lit (.plain rfl) rfl (ltb rfl) rfl Tryd.underlying26 Tryd.sizeOf74 Tryd.zeroValue74 rfl rfl rfl (vs := []) rfl (lit_all rfl) <| fun b2 w3 z4 z5 e6 k7 => L_op (.plain rfl) rfl (ltb rfl) (X_assign (v := (.slice (some ⟨b2, 0, none⟩) 0 0)) rfl) <| L_op (.plain rfl) rfl (ltb rfl) (X_assign (v := (.int .i64 2)) rfl) <| L_nil <| thn_n <| W_ret <| thn_r <| fin_r ?_
    obtain rfl := Option.some.inj H
    exact fin2o rfl rfl e6 (Own.zero (base := w.heap.size)) (Nat.le_refl _)
  · refine W_false (congrArg Value.bool q1) <| W_skip <| thn_n <| W_seq <| W_seq <| W_reg <| L_op (.plain rfl) rfl (ltb rfl) (X_move (v := v_a0) rfl) ?_
    obtain ⟨c8, H⟩ := bif_some H
    obtain ⟨c9, H⟩ := bif_some H
    refine L_callP (.plain rfl) rfl (ltb rfl) rfl Tryd.call57 (spec_l03OK.calls (w := w) (a0 := a0) f_a0 (of_decide_eq_true c8) (of_decide_eq_true c9)) rfl <| fun w10 e11 => L_op (.plain rfl) rfl (ltb rfl) (X_not rfl) <| L_nil <| thn_n ?_
    rcases bif_two H with ⟨q12, H⟩ | ⟨q12, H⟩
    · refine W_true (congrArg Value.bool q12) <| W_seq <| W_reg <| L_lit (.plain rfl) rfl (ltb rfl) rfl Tryd.underlying26 Tryd.sizeOf74 Tryd.zeroValue74 rfl rfl rfl (vs := []) rfl (lit_all rfl) <| fun b13 w14 z15 z16 e17 k18 => L_op (.plain rfl) rfl (ltb rfl) (X_assign (v := (.slice (some ⟨b13, 0, none⟩) 0 0)) rfl) <| L_op (.plain rfl) rfl (ltb rfl) (X_assign (v := (.int .i64 1)) rfl) <| L_nil <| thn_n <| W_ret <| thn_r <| fin_r ?_
      obtain rfl := Option.some.inj H
      exact fin2o rfl rfl (Ext.trans e11 e17) (Own.zero (base := w.heap.size)) (Nat.le_refl _)
    · refine W_false (congrArg Value.bool q12) <| W_skip <| thn_n <| W_seq <| W_reg <| L_op (.plain rfl) rfl (ltb rfl) (X_move (v := v_a0) rfl) ?_
      obtain ⟨c19, H⟩ := bif_some H
      obtain ⟨c20, H⟩ := bif_some H
      refine L_callO (.plain rfl) rfl (ltb rfl) rfl Tryd.call80 (spec_l03Canon.calls (w := w10) (a0 := a0) (Rd.ext f_a0 e11) (of_decide_eq_true c19) (of_decide_eq_true c20)) rfl <| fun v23 w21 e22 o24 => L_op (.plain rfl) rfl (ltb rfl) (X_assign (v := v23) rfl) <| L_op (.plain rfl) rfl (ltb rfl) (X_assign (v := (.int .i64 0)) rfl) <| L_nil <| thn_n <| W_ret <| fin_r ?_
      obtain rfl := Option.some.inj H
      exact fin2o rfl rfl (Ext.trans e11 e22) o24 (e11).size
theorem spec_Canonical.calls {w : World} {a0 : List Rec} {v_a0 : Value} (f_a0 : Rd 5 encRec w v_a0 a0) (h0 : a0.length ≤ 1048576) (h1 : ∀ x ∈ a0, x.path.length ≤ 1048576) :
    Calls Tryd.prog 49 #[v_a0] w (Rt (RT 74 5 encRec w ((canonOf a0).1) (.int .i64 ((canonOf a0).2)))) := spec_Canonical.walk f_a0 (spec_Canonical.eq a0 h0 h1)
/-! impl.Canonical -/
theorem impl_Canonical.walk {w : World} {a0 : List Rec} (gv : GV 0 w) {v_a0 : Value} (f_a0 : Rd 5 encRec w v_a0 a0) {r : List Rec × Int} (H : impl_Canonical.sh a0 = some r) :
    Calls Tryd.prog 50 #[v_a0] w (Rt (RT 74 5 encRec w r.1 (.int .i64 r.2))) := by
  unfold impl_Canonical.sh at H
  refine calls_of_W Tryd.func50 rfl (Nat.le_of_ble_eq_true rfl) Tryd.ntmps50 rfl ?_
  refine W_seq <| W_reg <| L_op (.plain rfl) rfl (ltb rfl) (X_assign (v := (.slice none 0 0)) rfl) <| L_op (.plain rfl) rfl (ltb rfl) (X_assign (v := (.int .i64 0)) rfl) <| L_nil <| thn_n <| W_seq <| W_seq <| W_reg <| L_op (.plain rfl) rfl (ltb rfl) (X_move (v := v_a0) rfl) <| L_callP (.plain rfl) rfl (ltb rfl) rfl Tryd.call63 (impl_isLongListR.calls (w := w) (a0 := a0) f_a0) rfl <| fun w1 e2 => L_op (.plain rfl) rfl (ltb rfl) (X_mkiface Tryd.underlying4 rfl rfl) <| L_op (.plain rfl) rfl (ltb rfl) (X_mkiface Tryd.underlying3 rfl rfl) <| L_op (.plain rfl) rfl (ltb rfl) (X_move (v := v_a0) rfl) ?_
  obtain ⟨c3, H⟩ := bif_some H
  obtain ⟨c4, H⟩ := bif_some H
  refine L_callP (.plain rfl) rfl (ltb rfl) rfl Tryd.call64 (impl_LayerOK.calls (w := w1) (a0 := a0) (GV.ext gv e2) (Rd.ext f_a0 e2) (of_decide_eq_true c3) (of_decide_eq_true c4)) rfl <| fun w5 e6 => L_op (.plain rfl) rfl (ltb rfl) (X_not rfl) <| L_op (.plain rfl) rfl (ltb rfl) (X_mkiface Tryd.underlying4 rfl rfl) <| L_op (.plain rfl) rfl (ltb rfl) (X_mkiface Tryd.underlying3 rfl rfl) <| L_lit (.plain rfl) rfl (ltb rfl) rfl Tryd.underlying99 Tryd.sizeOf20 Tryd.zeroValue20 rfl rfl rfl (vs := [(.iface 4 (.bool (decide (4096 < a0.length)))), (.iface 3 (.int .i64 2)), (.iface 4 (.bool (!(decide ((layerFaultL a0).2 = 0))))), (.iface 3 (.int .i64 1))]) rfl (lit_all rfl) <| fun b7 w8 z9 z10 e11 k12 => ?_
  obtain ⟨c13, H⟩ := bif_some H
  obtain ⟨z16, x17, H⟩ := bind_some H
  replace x17 := Option.some.inj x17
  refine L_callP (.plain rfl) rfl (ltb rfl) rfl Tryd.call61 (impl_first.calls (w := w8) (a0 := ([.inl (decide (4096 < a0.length)), .inr 2, .inl (!(decide ((layerFaultL a0).2 = 0))), .inr 1] : List (Bool ⊕ Int))) (Own.rd (Own.new (xs := [.inl (decide (4096 < a0.length)), .inr 2, .inl (!(decide ((layerFaultL a0).2 = 0))), .inr 1]) (sz := 1) (enc := (encAny 4 3)) (base := w5.heap.size) k12 (Nat.le_of_eq z9) rfl (fun _ _ => by first | rfl | exact encAny_len _ _ _) (Nat.le_of_ble_eq_true rfl))) (of_decide_eq_true c13)) rfl <| fun w14 e15 => L_op (.plain rfl) rfl (ltb rfl) (X_assign (v := (.int .i64 z16)) (congrArg (Value.int .i64) x17)) <| L_nil <| thn_n <| W_seq <| W_reg <| L_op (.plain rfl) rfl (ltb rfl) (X_move (v := (.int .i64 z16)) rfl) <| L_op (.plain rfl) rfl (ltb rfl) (X_neq rfl rfl) <| L_nil <| thn_n ?_
  rcases bif_two H with ⟨q18, H⟩ | ⟨q18, H⟩
  · refine W_true (congrArg Value.bool q18) <| W_seq <| W_reg <| L_op (.plain rfl) rfl (ltb rfl) (X_move (v := (.int .i64 z16)) rfl) <| L_op (.plain rfl) rfl (ltb rfl) (X_assign (v := (.slice none 0 0)) rfl) <| L_op (.plain rfl) rfl (ltb rfl) (X_assign (v := (.int .i64 z16)) rfl) <| L_nil <| thn_n <| W_ret <| thn_r <| fin_r ?_
    obtain rfl := Option.some.inj H
    exact fin2o rfl rfl (Ext.trans (Ext.trans (Ext.trans e2 e6) e11) e15) (Own.zero (base := w.heap.size)) (Nat.le_refl _)
  · refine W_false (congrArg Value.bool q18) <| W_skip <| thn_n <| W_seq <| W_reg <| L_op (.plain rfl) rfl (ltb rfl) (X_move (v := v_a0) rfl) ?_
    obtain ⟨c19, H⟩ := bif_some H
    obtain ⟨c20, H⟩ := bif_some H
    refine L_callO (.plain rfl) rfl (ltb rfl) rfl Tryd.call82 (impl_canonical.calls (w := w14) (a0 := a0) (GV.ext gv (Ext.trans (Ext.trans (Ext.trans e2 e6) e11) e15)) (Rd.ext f_a0 (Ext.trans (Ext.trans (Ext.trans e2 e6) e11) e15)) (of_decide_eq_true c19) (of_decide_eq_true c20)) rfl <| fun v23 w21 e22 o24 => L_op (.plain rfl) rfl (ltb rfl) (X_assign (v := v23) rfl) <| L_op (.plain rfl) rfl (ltb rfl) (X_assign (v := (.int .i64 0)) rfl) <| L_nil <| thn_n <| W_ret <| fin_r ?_
    obtain rfl := Option.some.inj H
    exact fin2o rfl rfl (Ext.trans (Ext.trans (Ext.trans (Ext.trans e2 e6) e11) e15) e22) o24 ((Ext.trans (Ext.trans (Ext.trans e2 e6) e11) e15)).size
theorem impl_Canonical.calls {w : World} {a0 : List Rec} (gv : GV 0 w) {v_a0 : Value} (f_a0 : Rd 5 encRec w v_a0 a0) (h0 : a0.length ≤ 1048576) (h1 : ∀ x ∈ a0, x.path.length ≤ 1048576) :
    Calls Tryd.prog 50 #[v_a0] w (Rt (RT 74 5 encRec w ((canonOf a0).1) (.int .i64 ((canonOf a0).2)))) := impl_Canonical.walk gv f_a0 (impl_Canonical.eq a0 h0 h1)
/-! laws.FnExactCanonical -/
theorem law_Canonical.walk {w : World} {a0 : List Rec} (gv : GV 0 w) {v_a0 : Value} (f_a0 : Rd 5 encRec w v_a0 a0) {r : Bool} (H : law_Canonical.sh a0 = some r) :
    Calls Tryd.prog 12 #[v_a0] w (Rt (RP w (.bool r))) := by
  unfold law_Canonical.sh at H
  refine calls_of_W Tryd.func12 rfl (Nat.le_of_ble_eq_true rfl) Tryd.ntmps12 rfl ?_
  refine W_seq <| W_reg <| L_op (.plain rfl) rfl (ltb rfl) (X_assign (v := (.bool false)) rfl) <| L_nil <| thn_n <| W_seq <| W_reg <| L_op (.plain rfl) rfl (ltb rfl) (X_assign (v := (.int .i64 1048576)) rfl) <| L_nil <| thn_n <| W_seq <| W_reg <| L_op (.plain rfl) rfl (ltb rfl) (X_move (v := v_a0) rfl) <| L_op (.plain rfl) rfl (ltb rfl) (X_move (v := (.int .i64 1048576)) rfl) ?_
  obtain ⟨c1, H⟩ := bif_some H
  obtain ⟨c2, H⟩ := bif_some H
  obtain ⟨c3, H⟩ := bif_some H
  obtain ⟨c4, H⟩ := bif_some H
  refine L_callP (.plain rfl) rfl (ltb rfl) rfl Tryd.call15 (laws_szRecordS.calls (w := w) (a0 := a0) (a1 := 1048576) f_a0 (of_decide_eq_true c1) (of_decide_eq_true c2) (of_decide_eq_true c3) (of_decide_eq_true c4)) rfl <| fun w5 e6 => L_op (.plain rfl) rfl (ltb rfl) (X_assign (v := (.int .i64 (szRecS a0 1048576))) rfl) <| L_nil <| thn_n <| W_seq <| W_seq <| W_reg <| L_op (.plain rfl) rfl (ltb rfl) (X_move (v := (.int .i64 (szRecS a0 1048576))) rfl) <| L_op (.plain rfl) rfl (ltb rfl) (X_lss rfl rfl) <| L_nil <| thn_n ?_
  rcases bif_two H with ⟨q7, H⟩ | ⟨q7, H⟩
  · refine W_true (congrArg Value.bool q7) <| W_seq <| W_reg <| L_op (.plain rfl) rfl (ltb rfl) (X_assign (v := (.bool true)) rfl) <| L_nil <| thn_n <| W_ret <| thn_r <| fin_r ?_
    obtain rfl := Option.some.inj H
    exact fin1 rfl e6
  · refine W_false (congrArg Value.bool q7) <| W_skip <| thn_n <| W_seq <| W_reg <| L_op (.plain rfl) rfl (ltb rfl) (X_move (v := v_a0) rfl) ?_
    obtain ⟨c8, H⟩ := bif_some H
    refine L_callO (.plain rfl) rfl (ltb rfl) rfl Tryd.call17 (laws_toRecordS.calls (w := w5) (a0 := a0) (Rd.ext f_a0 e6) (of_decide_eq_true c8)) rfl <| fun v11 w9 e10 o12 => ?_
    obtain ⟨c13, H⟩ := bif_some H
    obtain ⟨c14, H⟩ := bif_some H
    refine L_callT (.plain rfl) rfl (ltb rfl) rfl Tryd.call49 (spec_Canonical.calls (w := w9) (a0 := a0) (Own.rd o12) (of_decide_eq_true c13) (of_decide_eq_true c14)) rfl <| fun v17 w15 e16 o18 => L_op (.plain rfl) rfl (ltb rfl) (X_move (v := (.tuple #[v17, (.int .i64 ((canonOf a0).2))])) rfl) <| L_op (.plain rfl) rfl (ltb rfl) (X_extract (v := v17) rfl rfl) <| L_op (.plain rfl) rfl (ltb rfl) (X_extract (v := (.int .i64 ((canonOf a0).2))) rfl rfl) <| L_op (.plain rfl) rfl (ltb rfl) (X_assign (v := v17) rfl) <| L_op (.plain rfl) rfl (ltb rfl) (X_assign (v := (.int .i64 ((canonOf a0).2))) rfl) <| L_nil <| thn_n <| W_seq <| W_reg <| L_op (.plain rfl) rfl (ltb rfl) (X_move (v := v_a0) rfl) ?_
    obtain ⟨c19, H⟩ := bif_some H
    refine L_callO (.plain rfl) rfl (ltb rfl) rfl Tryd.call17 (laws_toRecordS.calls (w := w15) (a0 := a0) (Rd.ext f_a0 (Ext.trans (Ext.trans e6 e10) e16)) (of_decide_eq_true c19)) rfl <| fun v22 w20 e21 o23 => L_op (.plain rfl) rfl (ltb rfl) (X_assign (v := v22) rfl) <| L_nil <| thn_n <| W_seq <| W_reg <| L_op (.plain rfl) rfl (ltb rfl) (X_move (v := v22) rfl) ?_
    obtain ⟨c24, H⟩ := bif_some H
    obtain ⟨c25, H⟩ := bif_some H
    refine L_callT (.plain rfl) rfl (ltb rfl) rfl Tryd.call50 (impl_Canonical.calls (w := w20) (a0 := a0) (GV.ext gv (Ext.trans (Ext.trans (Ext.trans e6 e10) e16) e21)) (Own.rd o23) (of_decide_eq_true c24) (of_decide_eq_true c25)) rfl <| fun v28 w26 e27 o29 => L_op (.plain rfl) rfl (ltb rfl) (X_move (v := (.tuple #[v28, (.int .i64 ((canonOf a0).2))])) rfl) <| L_op (.plain rfl) rfl (ltb rfl) (X_extract (v := v28) rfl rfl) <| L_op (.plain rfl) rfl (ltb rfl) (X_extract (v := (.int .i64 ((canonOf a0).2))) rfl rfl) <| L_op (.plain rfl) rfl (ltb rfl) (X_assign (v := v28) rfl) <| L_op (.plain rfl) rfl (ltb rfl) (X_assign (v := (.int .i64 ((canonOf a0).2))) rfl) <| L_nil <| thn_n <| W_seq <| W_seq <| W_reg <| L_op (.plain rfl) rfl (ltb rfl) (X_move (v := v28) rfl) <| L_op (.plain rfl) rfl (ltb rfl) (X_move (v := v17) rfl) ?_
    obtain ⟨c30, H⟩ := bif_some H
    refine L_callP (.plain rfl) rfl (ltb rfl) rfl Tryd.call19 (laws_eqRecordS.calls (w := w26) (a0 := (canonOf a0).1) (a1 := (canonOf a0).1) (Own.rd o29) (Own.rd (Own.ext o18 (Ext.trans e21 e27))) (of_decide_eq_true c30)) rfl <| fun w31 e32 => L_op (.plain rfl) rfl (ltb rfl) (X_not rfl) <| L_op (.plain rfl) rfl (ltb rfl) (X_move (v := (.bool (!(decide (((canonOf a0).1) = ((canonOf a0).1)))))) rfl) <| L_grp 4 [(37, 41)] 40 (.bool ((!(decide (((canonOf a0).1) = ((canonOf a0).1)))) || (!decide (((canonOf a0).2) = ((canonOf a0).2))))) ?_ ?_
    · rcases bool_two (!(decide (((canonOf a0).1) = ((canonOf a0).1)))) with b32_ | b32_
      · exact L_skip rfl rfl (ltb rfl) (congrArg Value.bool b32_) rfl rfl (ltb rfl) <| L_skip rfl rfl (ltb rfl) (congrArg Value.bool b32_) rfl rfl (ltb rfl) <| L_skip rfl rfl (ltb rfl) (congrArg Value.bool b32_) rfl rfl (ltb rfl) <| L_op (.plain rfl) rfl (ltb rfl) (X_pick (b := true) (v := (.bool true)) (congrArg Value.bool b32_) rfl) <| L_nil <| thn_n ⟨(Kp.upd (Kp.upd (Kp.upd (Kp.upd (Kp.refl _ _) rfl) rfl) rfl) rfl), (or_t b32_), (Ext.refl w31)⟩
      · exact L_op (.guard 4 false 36 rfl rfl (ltb rfl) (congrArg Value.bool b32_)) rfl (ltb rfl) (X_move (v := (.int .i64 ((canonOf a0).2))) rfl) <| L_op (.guard 4 false 36 rfl rfl (ltb rfl) (congrArg Value.bool b32_)) rfl (ltb rfl) (X_move (v := (.int .i64 ((canonOf a0).2))) rfl) <| L_op (.guard 4 false 36 rfl rfl (ltb rfl) (congrArg Value.bool b32_)) rfl (ltb rfl) (X_neq rfl rfl) <| L_op (.plain rfl) rfl (ltb rfl) (X_pick (b := false) (v := (.bool (!decide (((canonOf a0).2) = ((canonOf a0).2))))) (congrArg Value.bool b32_) rfl) <| L_nil <| thn_n ⟨(Kp.upd (Kp.upd (Kp.upd (Kp.upd (Kp.refl _ _) rfl) rfl) rfl) rfl), (or_f b32_), (Ext.refl w31)⟩
    intro s38 w34 K35 h36 e37
    refine L_nil <| thn_n ?_
    rcases bif_two H with ⟨q39, H⟩ | ⟨q39, H⟩
    · refine W_true (h36.trans (congrArg Value.bool q39)) <| W_seq <| W_reg <| L_op (.plain rfl) rfl (ltb rfl) (X_assign (v := (.bool false)) rfl) <| L_nil <| thn_n <| W_ret <| thn_r <| fin_r ?_
      obtain rfl := Option.some.inj H
      exact fin1 rfl (Ext.trans (Ext.trans (Ext.trans (Ext.trans (Ext.trans (Ext.trans e6 e10) e16) e21) e27) e32) e37)
    · refine W_false (h36.trans (congrArg Value.bool q39)) <| W_skip <| thn_n <| W_seq <| W_seq <| W_reg <| L_op (.plain rfl) rfl (ltb rfl) (X_move (v := v22) (K35 6 rfl)) <| L_op (.plain rfl) rfl (ltb rfl) (X_move (v := v_a0) (K35 0 rfl)) ?_
      obtain ⟨c40, H⟩ := bif_some H
      refine L_callO (.plain rfl) rfl (ltb rfl) rfl Tryd.call17 (laws_toRecordS.calls (w := w34) (a0 := a0) (Rd.ext f_a0 (Ext.trans (Ext.trans (Ext.trans (Ext.trans (Ext.trans (Ext.trans e6 e10) e16) e21) e27) e32) e37)) (of_decide_eq_true c40)) rfl <| fun v43 w41 e42 o44 => ?_
      obtain ⟨c45, H⟩ := bif_some H
      refine L_callP (.plain rfl) rfl (ltb rfl) rfl Tryd.call19 (laws_eqRecordS.calls (w := w41) (a0 := a0) (a1 := a0) (Own.rd (Own.ext o23 (Ext.trans (Ext.trans (Ext.trans e27 e32) e37) e42))) (Own.rd o44) (of_decide_eq_true c45)) rfl <| fun w46 e47 => L_op (.plain rfl) rfl (ltb rfl) (X_not rfl) <| L_nil <| thn_n ?_
      rcases bif_two H with ⟨q48, H⟩ | ⟨q48, H⟩
      · refine W_true (congrArg Value.bool q48) <| W_seq <| W_reg <| L_op (.plain rfl) rfl (ltb rfl) (X_assign (v := (.bool false)) rfl) <| L_nil <| thn_n <| W_ret <| thn_r <| fin_r ?_
        obtain rfl := Option.some.inj H
        exact fin1 rfl (Ext.trans (Ext.trans (Ext.trans (Ext.trans (Ext.trans (Ext.trans (Ext.trans (Ext.trans e6 e10) e16) e21) e27) e32) e37) e42) e47)
      · refine W_false (congrArg Value.bool q48) <| W_skip <| thn_n <| W_seq <| W_reg <| L_op (.plain rfl) rfl (ltb rfl) (X_assign (v := (.int .i64 1)) rfl) <| L_nil <| thn_n <| W_seq <| W_reg <| L_op (.plain rfl) rfl (ltb rfl) (X_move (v := v22) (K35 6 rfl)) <| L_op (.plain rfl) rfl (ltb rfl) (X_move (v := (.int .i64 1)) rfl) ?_
        obtain ⟨c49, H⟩ := bif_some H
        obtain ⟨c50, H⟩ := bif_some H
        obtain ⟨c51, H⟩ := bif_some H
        refine L_callM (.plain rfl) rfl (ltb rfl) rfl Tryd.call40 (laws_markRecordS.calls (w := w46) (a0 := a0) (a1 := 1) (Own.ext o23 (Ext.trans (Ext.trans (Ext.trans (Ext.trans e27 e32) e37) e42) e47)) (Own.hb o23) (of_decide_eq_true c49) (of_decide_eq_true c50) (of_decide_eq_true c51)) rfl <| fun w52 e53 o54 => L_op (.plain rfl) rfl (ltb rfl) (X_assign (v := (.int .i64 (1 + 5 * (a0.length : Int)))) rfl) <| L_nil <| thn_n <| W_seq <| W_seq <| W_reg <| L_op (.plain rfl) rfl (ltb rfl) (X_move (v := (.int .i64 (1 + 5 * (a0.length : Int)))) rfl) <| L_op (.plain rfl) rfl (ltb rfl) (X_lss rfl rfl) <| L_op (.plain rfl) rfl (ltb rfl) (X_move (v := (.bool (decide ((1 + 5 * (a0.length : Int)) < 0)))) rfl) ?_
        obtain ⟨z56, x57, H⟩ := bind_some H
        refine L_grpE 5 [(52, 57)] 56 (fun q => q = z56) ?_ ?_
        · rcases bif_two x57 with ⟨b54_, H⟩ | ⟨b54_, H⟩
          · refine L_skip rfl rfl (ltb rfl) (congrArg Value.bool b54_) rfl rfl (ltb rfl) <| L_skip rfl rfl (ltb rfl) (congrArg Value.bool b54_) rfl rfl (ltb rfl) <| L_skip rfl rfl (ltb rfl) (congrArg Value.bool b54_) rfl rfl (ltb rfl) <| L_skip rfl rfl (ltb rfl) (congrArg Value.bool b54_) rfl rfl (ltb rfl) <| L_op (.plain rfl) rfl (ltb rfl) (X_pick (b := true) (v := (.bool true)) (congrArg Value.bool b54_) rfl) ?_
            obtain rfl := Option.some.inj H
            exact L_nil <| thn_n ⟨(Kp.upd (Kp.upd (Kp.upd (Kp.upd (Kp.upd (Kp.refl _ _) rfl) rfl) rfl) rfl) rfl), ⟨_, rfl, rfl⟩, (Ext.refl w52)⟩
          · refine L_op (.guard 2 false 51 rfl rfl (ltb rfl) (congrArg Value.bool b54_)) rfl (ltb rfl) (X_move (v := v28) (K35 7 rfl)) <| L_op (.guard 2 false 51 rfl rfl (ltb rfl) (congrArg Value.bool b54_)) rfl (ltb rfl) (X_move (v := v17) (K35 4 rfl)) ?_
            obtain ⟨c56, H⟩ := bif_some H
            refine L_callP (.guard 2 false 51 rfl rfl (ltb rfl) (congrArg Value.bool b54_)) rfl (ltb rfl) rfl Tryd.call19 (laws_eqRecordS.calls (w := w52) (a0 := (canonOf a0).1) (a1 := (canonOf a0).1) (Own.rd (Own.later (Own.ext o29 (Ext.trans (Ext.trans (Ext.trans e32 e37) e42) e47)) e53 (Ext.refl w20).size)) (Own.rd (Own.ext o18 (Ext.gr (Ext.trans (Ext.trans (Ext.trans (Ext.trans (Ext.trans e21 e27) e32) e37) e42) e47) e53 (Ext.refl w15).size))) (of_decide_eq_true c56)) rfl <| fun w57 e58 => L_op (.guard 2 false 51 rfl rfl (ltb rfl) (congrArg Value.bool b54_)) rfl (ltb rfl) (X_not rfl) <| L_op (.plain rfl) rfl (ltb rfl) (X_pick (b := false) (v := (.bool (!(decide (((canonOf a0).1) = ((canonOf a0).1)))))) (congrArg Value.bool b54_) rfl) ?_
            obtain rfl := Option.some.inj H
            exact L_nil <| thn_n ⟨(Kp.upd (Kp.upd (Kp.upd (Kp.upd (Kp.upd (Kp.refl _ _) rfl) rfl) rfl) rfl) rfl), ⟨_, rfl, rfl⟩, e58⟩
        intro s62 w58 z63 K59 hq h60 e61
        rw [hq] at h60; clear hq
        refine L_op (.plain rfl) rfl (ltb rfl) (X_move (v := (.bool z56)) h60) <| L_grp 4 [(58, 62)] 61 (.bool (z56 || (!decide (((canonOf a0).2) = ((canonOf a0).2))))) ?_ ?_
        · rcases bool_two z56 with b63_ | b63_
          · exact L_skip rfl rfl (ltb rfl) (congrArg Value.bool b63_) rfl rfl (ltb rfl) <| L_skip rfl rfl (ltb rfl) (congrArg Value.bool b63_) rfl rfl (ltb rfl) <| L_skip rfl rfl (ltb rfl) (congrArg Value.bool b63_) rfl rfl (ltb rfl) <| L_op (.plain rfl) rfl (ltb rfl) (X_pick (b := true) (v := (.bool true)) (congrArg Value.bool b63_) rfl) <| L_nil <| thn_n ⟨(Kp.upd (Kp.upd (Kp.upd (Kp.upd (Kp.refl _ _) rfl) rfl) rfl) rfl), (or_t b63_), (Ext.refl w58)⟩
          · exact L_op (.guard 8 false 57 rfl rfl (ltb rfl) (congrArg Value.bool b63_)) rfl (ltb rfl) (X_move (v := (.int .i64 ((canonOf a0).2))) ((K59 8 rfl).trans (K35 8 rfl))) <| L_op (.guard 8 false 57 rfl rfl (ltb rfl) (congrArg Value.bool b63_)) rfl (ltb rfl) (X_move (v := (.int .i64 ((canonOf a0).2))) ((K59 5 rfl).trans (K35 5 rfl))) <| L_op (.guard 8 false 57 rfl rfl (ltb rfl) (congrArg Value.bool b63_)) rfl (ltb rfl) (X_neq rfl rfl) <| L_op (.plain rfl) rfl (ltb rfl) (X_pick (b := false) (v := (.bool (!decide (((canonOf a0).2) = ((canonOf a0).2))))) (congrArg Value.bool b63_) rfl) <| L_nil <| thn_n ⟨(Kp.upd (Kp.upd (Kp.upd (Kp.upd (Kp.refl _ _) rfl) rfl) rfl) rfl), (or_f b63_), (Ext.refl w58)⟩
        intro s69 w65 K66 h67 e68
        refine L_nil <| thn_n ?_
        rcases bif_two H with ⟨q70, H⟩ | ⟨q70, H⟩
        · refine W_true (h67.trans (congrArg Value.bool q70)) <| W_seq <| W_reg <| L_op (.plain rfl) rfl (ltb rfl) (X_assign (v := (.bool false)) rfl) <| L_nil <| thn_n <| W_ret <| thn_r <| fin_r ?_
          obtain rfl := Option.some.inj H
          exact fin1 rfl (Ext.trans (Ext.trans (Ext.trans (Ext.trans (Ext.trans e6 e10) e16) (Ext.gr (Ext.trans (Ext.trans (Ext.trans (Ext.trans (Ext.trans e21 e27) e32) e37) e42) e47) e53 (Ext.refl w15).size)) e61) e68)
        · refine W_false (h67.trans (congrArg Value.bool q70)) <| W_skip <| thn_n <| W_seq <| W_reg <| L_op (.plain rfl) rfl (ltb rfl) (X_assign (v := (.int .i64 1)) rfl) <| L_nil <| thn_n <| W_seq <| W_reg <| L_op (.plain rfl) rfl (ltb rfl) (X_move (v := v28) ((K66 7 rfl).trans ((K59 7 rfl).trans (K35 7 rfl)))) <| L_op (.plain rfl) rfl (ltb rfl) (X_move (v := (.int .i64 1)) rfl) ?_
          obtain ⟨c71, H⟩ := bif_some H
          obtain ⟨c72, H⟩ := bif_some H
          obtain ⟨c73, H⟩ := bif_some H
          refine L_callM (.plain rfl) rfl (ltb rfl) rfl Tryd.call40 (laws_markRecordS.calls (w := w65) (a0 := (canonOf a0).1) (a1 := 1) (Own.ext (Own.later (Own.ext o29 (Ext.trans (Ext.trans (Ext.trans e32 e37) e42) e47)) e53 (Ext.refl w20).size) (Ext.trans e61 e68)) (Own.hb o29) (of_decide_eq_true c71) (of_decide_eq_true c72) (of_decide_eq_true c73)) rfl <| fun w74 e75 o76 => L_op (.plain rfl) rfl (ltb rfl) (X_assign (v := (.int .i64 (1 + 5 * (((canonOf a0).1).length : Int)))) rfl) <| L_nil <| thn_n <| W_seq <| W_reg <| L_op (.plain rfl) rfl (ltb rfl) (X_assign (v := (.int .i64 1)) rfl) <| L_nil <| thn_n <| W_seq <| W_reg <| L_op (.plain rfl) rfl (ltb rfl) (X_move (v := v28) ((K66 7 rfl).trans ((K59 7 rfl).trans (K35 7 rfl)))) <| L_op (.plain rfl) rfl (ltb rfl) (X_move (v := (.int .i64 1)) rfl) ?_
          obtain ⟨c77, H⟩ := bif_some H
          obtain ⟨c78, H⟩ := bif_some H
          obtain ⟨c79, H⟩ := bif_some H
          refine L_callP (.plain rfl) rfl (ltb rfl) rfl Tryd.call41 (laws_heldRecordS.calls (w := w74) (a0 := (marksR ((canonOf a0).1).length 1)) (a1 := 1) (Own.rd o76) (of_decide_eq_true c77) (of_decide_eq_true c78) (of_decide_eq_true c79)) rfl <| fun w80 e81 => L_op (.plain rfl) rfl (ltb rfl) (X_assign (v := (.int .i64 (heldR (marksR ((canonOf a0).1).length 1) 1))) rfl) <| L_nil <| thn_n <| W_seq <| W_seq <| W_reg <| L_op (.plain rfl) rfl (ltb rfl) (X_move (v := (.int .i64 (heldR (marksR ((canonOf a0).1).length 1) 1))) rfl) <| L_op (.plain rfl) rfl (ltb rfl) (X_lss rfl rfl) <| L_nil <| thn_n ?_
          rcases bif_two H with ⟨q82, H⟩ | ⟨q82, H⟩
          · refine W_true (congrArg Value.bool q82) <| W_seq <| W_reg <| L_op (.plain rfl) rfl (ltb rfl) (X_assign (v := (.bool false)) rfl) <| L_nil <| thn_n <| W_ret <| thn_r <| fin_r ?_
            obtain rfl := Option.some.inj H
            exact fin1 rfl (Ext.trans (Ext.trans (Ext.trans (Ext.trans e6 e10) e16) (Ext.gr (Ext.trans (Ext.trans (Ext.gr (Ext.trans (Ext.trans (Ext.trans (Ext.trans (Ext.trans e21 e27) e32) e37) e42) e47) e53 (Ext.refl w15).size) e61) e68) e75 e21.size)) e81)
          · refine W_false (congrArg Value.bool q82) <| W_skip <| thn_n <| W_seq <| W_seq <| W_reg <| L_op (.plain rfl) rfl (ltb rfl) (X_move (v := (.int .i64 (heldR (marksR ((canonOf a0).1).length 1) 1))) rfl) <| L_op (.plain rfl) rfl (ltb rfl) (X_move (v := (.int .i64 (1 + 5 * (((canonOf a0).1).length : Int)))) rfl) <| L_op (.plain rfl) rfl (ltb rfl) (X_neq rfl rfl) <| L_nil <| thn_n ?_
            rcases bif_two H with ⟨q83, H⟩ | ⟨q83, H⟩
            · refine W_true (congrArg Value.bool q83) <| W_seq <| W_reg <| L_op (.plain rfl) rfl (ltb rfl) (X_assign (v := (.bool false)) rfl) <| L_nil <| thn_n <| W_ret <| thn_r <| fin_r ?_
              obtain rfl := Option.some.inj H
              exact fin1 rfl (Ext.trans (Ext.trans (Ext.trans (Ext.trans e6 e10) e16) (Ext.gr (Ext.trans (Ext.trans (Ext.gr (Ext.trans (Ext.trans (Ext.trans (Ext.trans (Ext.trans e21 e27) e32) e37) e42) e47) e53 (Ext.refl w15).size) e61) e68) e75 e21.size)) e81)
            · refine W_false (congrArg Value.bool q83) <| W_skip <| thn_n <| W_seq <| W_reg <| L_op (.plain rfl) rfl (ltb rfl) (X_move (v := v_a0) ((K66 0 rfl).trans ((K59 0 rfl).trans (K35 0 rfl)))) ?_
              obtain ⟨c84, H⟩ := bif_some H
              refine L_callO (.plain rfl) rfl (ltb rfl) rfl Tryd.call17 (laws_toRecordS.calls (w := w80) (a0 := a0) (Rd.ext f_a0 (Ext.trans (Ext.trans (Ext.trans (Ext.trans e6 e10) e16) (Ext.gr (Ext.trans (Ext.trans (Ext.gr (Ext.trans (Ext.trans (Ext.trans (Ext.trans (Ext.trans e21 e27) e32) e37) e42) e47) e53 (Ext.refl w15).size) e61) e68) e75 e21.size)) e81)) (of_decide_eq_true c84)) rfl <| fun v87 w85 e86 o88 => ?_
              obtain ⟨c89, H⟩ := bif_some H
              obtain ⟨c90, H⟩ := bif_some H
              refine L_callT (.plain rfl) rfl (ltb rfl) rfl Tryd.call50 (impl_Canonical.calls (w := w85) (a0 := a0) (GV.ext gv (Ext.trans (Ext.trans (Ext.trans (Ext.trans (Ext.trans e6 e10) e16) (Ext.gr (Ext.trans (Ext.trans (Ext.gr (Ext.trans (Ext.trans (Ext.trans (Ext.trans (Ext.trans e21 e27) e32) e37) e42) e47) e53 (Ext.refl w15).size) e61) e68) e75 e21.size)) e81) e86)) (Own.rd o88) (of_decide_eq_true c89) (of_decide_eq_true c90)) rfl <| fun v93 w91 e92 o94 => L_op (.plain rfl) rfl (ltb rfl) (X_move (v := (.tuple #[v93, (.int .i64 ((canonOf a0).2))])) rfl) <| L_op (.plain rfl) rfl (ltb rfl) (X_extract (v := v93) rfl rfl) <| L_op (.plain rfl) rfl (ltb rfl) (X_extract (v := (.int .i64 ((canonOf a0).2))) rfl rfl) <| L_op (.plain rfl) rfl (ltb rfl) (X_assign (v := v93) rfl) <| L_op (.plain rfl) rfl (ltb rfl) (X_assign (v := (.int .i64 ((canonOf a0).2))) rfl) <| L_nil <| thn_n <| W_seq <| W_seq <| W_reg <| L_op (.plain rfl) rfl (ltb rfl) (X_move (v := v93) rfl) <| L_op (.plain rfl) rfl (ltb rfl) (X_move (v := v17) ((K66 4 rfl).trans ((K59 4 rfl).trans (K35 4 rfl)))) ?_
              obtain ⟨c95, H⟩ := bif_some H
              refine L_callP (.plain rfl) rfl (ltb rfl) rfl Tryd.call19 (laws_eqRecordS.calls (w := w91) (a0 := (canonOf a0).1) (a1 := (canonOf a0).1) (Own.rd o94) (Own.rd (Own.ext o18 (Ext.trans (Ext.trans (Ext.trans (Ext.gr (Ext.trans (Ext.trans (Ext.gr (Ext.trans (Ext.trans (Ext.trans (Ext.trans (Ext.trans e21 e27) e32) e37) e42) e47) e53 (Ext.refl w15).size) e61) e68) e75 e21.size) e81) e86) e92))) (of_decide_eq_true c95)) rfl <| fun w96 e97 => L_op (.plain rfl) rfl (ltb rfl) (X_not rfl) <| L_op (.plain rfl) rfl (ltb rfl) (X_move (v := (.bool (!(decide (((canonOf a0).1) = ((canonOf a0).1)))))) rfl) <| L_grp 4 [(84, 88)] 87 (.bool ((!(decide (((canonOf a0).1) = ((canonOf a0).1)))) || (!decide (((canonOf a0).2) = ((canonOf a0).2))))) ?_ ?_
              · rcases bool_two (!(decide (((canonOf a0).1) = ((canonOf a0).1)))) with b97_ | b97_
                · exact L_skip rfl rfl (ltb rfl) (congrArg Value.bool b97_) rfl rfl (ltb rfl) <| L_skip rfl rfl (ltb rfl) (congrArg Value.bool b97_) rfl rfl (ltb rfl) <| L_skip rfl rfl (ltb rfl) (congrArg Value.bool b97_) rfl rfl (ltb rfl) <| L_op (.plain rfl) rfl (ltb rfl) (X_pick (b := true) (v := (.bool true)) (congrArg Value.bool b97_) rfl) <| L_nil <| thn_n ⟨(Kp.upd (Kp.upd (Kp.upd (Kp.upd (Kp.refl _ _) rfl) rfl) rfl) rfl), (or_t b97_), (Ext.refl w96)⟩
                · exact L_op (.guard 4 false 83 rfl rfl (ltb rfl) (congrArg Value.bool b97_)) rfl (ltb rfl) (X_move (v := (.int .i64 ((canonOf a0).2))) rfl) <| L_op (.guard 4 false 83 rfl rfl (ltb rfl) (congrArg Value.bool b97_)) rfl (ltb rfl) (X_move (v := (.int .i64 ((canonOf a0).2))) ((K66 5 rfl).trans ((K59 5 rfl).trans (K35 5 rfl)))) <| L_op (.guard 4 false 83 rfl rfl (ltb rfl) (congrArg Value.bool b97_)) rfl (ltb rfl) (X_neq rfl rfl) <| L_op (.plain rfl) rfl (ltb rfl) (X_pick (b := false) (v := (.bool (!decide (((canonOf a0).2) = ((canonOf a0).2))))) (congrArg Value.bool b97_) rfl) <| L_nil <| thn_n ⟨(Kp.upd (Kp.upd (Kp.upd (Kp.upd (Kp.refl _ _) rfl) rfl) rfl) rfl), (or_f b97_), (Ext.refl w96)⟩
              intro s103 w99 K100 h101 e102
              refine L_nil <| thn_n ?_
              rcases bif_two H with ⟨q104, H⟩ | ⟨q104, H⟩
              · refine W_true (h101.trans (congrArg Value.bool q104)) <| W_seq <| W_reg <| L_op (.plain rfl) rfl (ltb rfl) (X_assign (v := (.bool false)) rfl) <| L_nil <| thn_n <| W_ret <| thn_r <| fin_r ?_
                obtain rfl := Option.some.inj H
                exact fin1 rfl (Ext.trans (Ext.trans (Ext.trans (Ext.trans (Ext.trans (Ext.trans (Ext.trans (Ext.trans e6 e10) e16) (Ext.gr (Ext.trans (Ext.trans (Ext.gr (Ext.trans (Ext.trans (Ext.trans (Ext.trans (Ext.trans e21 e27) e32) e37) e42) e47) e53 (Ext.refl w15).size) e61) e68) e75 e21.size)) e81) e86) e92) e97) e102)
              · refine W_false (h101.trans (congrArg Value.bool q104)) <| W_skip <| thn_n <| W_seq <| W_reg <| L_op (.plain rfl) rfl (ltb rfl) (X_assign (v := (.int .i64 1)) rfl) <| L_nil <| thn_n <| W_seq <| W_reg <| L_op (.plain rfl) rfl (ltb rfl) (X_move (v := v28) ((K100 7 rfl).trans ((K66 7 rfl).trans ((K59 7 rfl).trans (K35 7 rfl))))) <| L_op (.plain rfl) rfl (ltb rfl) (X_move (v := (.int .i64 1)) rfl) ?_
                obtain ⟨c105, H⟩ := bif_some H
                obtain ⟨c106, H⟩ := bif_some H
                obtain ⟨c107, H⟩ := bif_some H
                refine L_callP (.plain rfl) rfl (ltb rfl) rfl Tryd.call41 (laws_heldRecordS.calls (w := w99) (a0 := (marksR ((canonOf a0).1).length 1)) (a1 := 1) (Own.rd (Own.ext o76 (Ext.trans (Ext.trans (Ext.trans (Ext.trans e81 e86) e92) e97) e102))) (of_decide_eq_true c105) (of_decide_eq_true c106) (of_decide_eq_true c107)) rfl <| fun w108 e109 => L_op (.plain rfl) rfl (ltb rfl) (X_assign (v := (.int .i64 (heldR (marksR ((canonOf a0).1).length 1) 1))) rfl) <| L_nil <| thn_n <| W_seq <| W_seq <| W_reg <| L_op (.plain rfl) rfl (ltb rfl) (X_move (v := (.int .i64 (heldR (marksR ((canonOf a0).1).length 1) 1))) rfl) <| L_op (.plain rfl) rfl (ltb rfl) (X_lss rfl rfl) <| L_nil <| thn_n ?_
                rcases bif_two H with ⟨q110, H⟩ | ⟨q110, H⟩
                · refine W_true (congrArg Value.bool q110) <| W_seq <| W_reg <| L_op (.plain rfl) rfl (ltb rfl) (X_assign (v := (.bool false)) rfl) <| L_nil <| thn_n <| W_ret <| thn_r <| fin_r ?_
                  obtain rfl := Option.some.inj H
                  exact fin1 rfl (Ext.trans (Ext.trans (Ext.trans (Ext.trans (Ext.trans (Ext.trans (Ext.trans (Ext.trans (Ext.trans e6 e10) e16) (Ext.gr (Ext.trans (Ext.trans (Ext.gr (Ext.trans (Ext.trans (Ext.trans (Ext.trans (Ext.trans e21 e27) e32) e37) e42) e47) e53 (Ext.refl w15).size) e61) e68) e75 e21.size)) e81) e86) e92) e97) e102) e109)
                · refine W_false (congrArg Value.bool q110) <| W_skip <| thn_n <| W_seq <| W_seq <| W_reg <| L_op (.plain rfl) rfl (ltb rfl) (X_move (v := (.int .i64 (heldR (marksR ((canonOf a0).1).length 1) 1))) rfl) <| L_op (.plain rfl) rfl (ltb rfl) (X_move (v := (.int .i64 (1 + 5 * (((canonOf a0).1).length : Int)))) (K100 10 rfl)) <| L_op (.plain rfl) rfl (ltb rfl) (X_neq rfl rfl) <| L_nil <| thn_n ?_
                  rcases bif_two H with ⟨q111, H⟩ | ⟨q111, H⟩
                  · refine W_true (congrArg Value.bool q111) <| W_seq <| W_reg <| L_op (.plain rfl) rfl (ltb rfl) (X_assign (v := (.bool false)) rfl) <| L_nil <| thn_n <| W_ret <| thn_r <| fin_r ?_
                    obtain rfl := Option.some.inj H
                    exact fin1 rfl (Ext.trans (Ext.trans (Ext.trans (Ext.trans (Ext.trans (Ext.trans (Ext.trans (Ext.trans (Ext.trans e6 e10) e16) (Ext.gr (Ext.trans (Ext.trans (Ext.gr (Ext.trans (Ext.trans (Ext.trans (Ext.trans (Ext.trans e21 e27) e32) e37) e42) e47) e53 (Ext.refl w15).size) e61) e68) e75 e21.size)) e81) e86) e92) e97) e102) e109)
                  · refine W_false (congrArg Value.bool q111) <| W_skip <| thn_n <| W_seq <| W_reg <| L_op (.plain rfl) rfl (ltb rfl) (X_assign (v := (.bool true)) rfl) <| L_nil <| thn_n <| W_ret <| fin_r ?_
                    obtain rfl := Option.some.inj H
                    exact fin1 rfl (Ext.trans (Ext.trans (Ext.trans (Ext.trans (Ext.trans (Ext.trans (Ext.trans (Ext.trans (Ext.trans e6 e10) e16) (Ext.gr (Ext.trans (Ext.trans (Ext.gr (Ext.trans (Ext.trans (Ext.trans (Ext.trans (Ext.trans e21 e27) e32) e37) e42) e47) e53 (Ext.refl w15).size) e61) e68) e75 e21.size)) e81) e86) e92) e97) e102) e109)
theorem law_Canonical.calls {w : World} {a0 : List Rec} (gv : GV 0 w) {v_a0 : Value} (f_a0 : Rd 5 encRec w v_a0 a0) (h0 : ∀ x ∈ a0, okRec x) (h1 : a0.length ≤ 9223372036854775807) :
    Calls Tryd.prog 12 #[v_a0] w (Rt (RP w (.bool true))) := law_Canonical.walk gv f_a0 (law_Canonical.eq a0 h0 h1)
end Go.Proofs.YtilogldgepaeiabDoor
