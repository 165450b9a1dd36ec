/- The walks, by program (wip/tools). -/
import Derived.Test.YthpjkenkbfkdhaaGreatDoorProg
import Derived.Test.YthpjkenkbfkdhaaGreatDoorKJ
import Derived.Test.YthpjkenkbfkdhaaGreatDoorKL
import Derived.Test.YthpjkenkbfkdhaaGreatDoorAWC
set_option linter.unusedVariables false
set_option maxRecDepth 10000
namespace Go.Proofs.YthpjkenkbfkdhaaGreatDoor
open Go.UL Go.RowKit
/-! laws.FnExactApply -/
theorem law_Apply.walk {w : World} {a0 : List Rec} {a1 : List Nd} (gv : GV 0 w) {v_a0 : Value} (f_a0 : Rd 5 encRec w v_a0 a0) {v_a1 : Value} (f_a1 : Rd 4 encNd w v_a1 a1) {r : Bool} (H : law_Apply.sh a0 a1 = some r) :
    Calls Tryz.prog 5 #[v_a0, v_a1] w (Rt (RP w (.bool r))) := by
  unfold law_Apply.sh at H
  refine calls_of_W Tryz.func5 rfl (Nat.le_of_ble_eq_true rfl) Tryz.ntmps5 rfl ?_
  refine W_seq <| W_reg <| L_op (.plain rfl) rfl (ltb rfl) (X_assign (v := (.bool false)) rfl) <| L_nil <| thn_n <| W_seq <| W_reg <| L_op (.plain rfl) rfl (ltb rfl) (X_assign (v := (.int .i64 1048576)) rfl) <| L_nil <| thn_n <| W_seq <| W_reg <| L_op (.plain rfl) rfl (ltb rfl) (X_move (v := v_a0) rfl) <| L_op (.plain rfl) rfl (ltb rfl) (X_move (v := (.int .i64 1048576)) rfl) ?_
  obtain ⟨c1, H⟩ := bif_some H
  obtain ⟨c2, H⟩ := bif_some H
  obtain ⟨c3, H⟩ := bif_some H
  obtain ⟨c4, H⟩ := bif_some H
  refine L_callP (.plain rfl) rfl (ltb rfl) rfl Tryz.call15 (laws_szRecordS.calls (w := w) (a0 := a0) (a1 := 1048576) f_a0 (of_decide_eq_true c1) (of_decide_eq_true c2) (of_decide_eq_true c3) (of_decide_eq_true c4)) rfl <| fun w5 e6 => L_op (.plain rfl) rfl (ltb rfl) (X_assign (v := (.int .i64 (szRecS a0 1048576))) rfl) <| L_nil <| thn_n <| W_seq <| W_seq <| W_reg <| L_op (.plain rfl) rfl (ltb rfl) (X_move (v := (.int .i64 (szRecS a0 1048576))) rfl) <| L_op (.plain rfl) rfl (ltb rfl) (X_lss rfl rfl) <| L_nil <| thn_n ?_
  rcases bif_two H with ⟨q7, H⟩ | ⟨q7, H⟩
  · refine W_true (congrArg Value.bool q7) <| W_seq <| W_reg <| L_op (.plain rfl) rfl (ltb rfl) (X_assign (v := (.bool true)) rfl) <| L_nil <| thn_n <| W_ret <| thn_r <| fin_r ?_
    obtain rfl := Option.some.inj H
    exact fin1 rfl e6
  · refine W_false (congrArg Value.bool q7) <| W_skip <| thn_n <| W_seq <| W_reg <| L_op (.plain rfl) rfl (ltb rfl) (X_move (v := v_a1) rfl) <| L_op (.plain rfl) rfl (ltb rfl) (X_move (v := (.int .i64 (szRecS a0 1048576))) rfl) ?_
    obtain ⟨c8, H⟩ := bif_some H
    obtain ⟨c9, H⟩ := bif_some H
    obtain ⟨c10, H⟩ := bif_some H
    obtain ⟨c11, H⟩ := bif_some H
    refine L_callP (.plain rfl) rfl (ltb rfl) rfl Tryz.call16 (laws_szNodeS.calls (w := w5) (a0 := a1) (a1 := (szRecS a0 1048576)) (Rd.ext f_a1 e6) (of_decide_eq_true c8) (of_decide_eq_true c9) (of_decide_eq_true c10) (of_decide_eq_true c11)) rfl <| fun w12 e13 => L_op (.plain rfl) rfl (ltb rfl) (X_assign (v := (.int .i64 (szNdS a1 (szRecS a0 1048576)))) rfl) <| L_nil <| thn_n <| W_seq <| W_seq <| W_reg <| L_op (.plain rfl) rfl (ltb rfl) (X_move (v := (.int .i64 (szNdS a1 (szRecS a0 1048576)))) rfl) <| L_op (.plain rfl) rfl (ltb rfl) (X_lss rfl rfl) <| L_nil <| thn_n ?_
    rcases bif_two H with ⟨q14, H⟩ | ⟨q14, H⟩
    · refine W_true (congrArg Value.bool q14) <| W_seq <| W_reg <| L_op (.plain rfl) rfl (ltb rfl) (X_assign (v := (.bool true)) rfl) <| L_nil <| thn_n <| W_ret <| thn_r <| fin_r ?_
      obtain rfl := Option.some.inj H
      exact fin1 rfl (Ext.trans e6 e13)
    · refine W_false (congrArg Value.bool q14) <| W_skip <| thn_n <| W_seq <| W_reg <| L_op (.plain rfl) rfl (ltb rfl) (X_move (v := v_a0) rfl) ?_
      obtain ⟨c15, H⟩ := bif_some H
      refine L_callO (.plain rfl) rfl (ltb rfl) rfl Tryz.call18 (laws_toRecordS.calls (w := w12) (a0 := a0) (Rd.ext f_a0 (Ext.trans e6 e13)) (of_decide_eq_true c15)) rfl <| fun v18 w16 e17 o19 => L_op (.plain rfl) rfl (ltb rfl) (X_move (v := v_a1) rfl) ?_
      obtain ⟨c20, H⟩ := bif_some H
      refine L_callO (.plain rfl) rfl (ltb rfl) rfl Tryz.call19 (laws_toNodeS.calls (w := w16) (a0 := a1) (Rd.ext f_a1 (Ext.trans (Ext.trans e6 e13) e17)) (of_decide_eq_true c20)) rfl <| fun v23 w21 e22 o24 => ?_
      obtain ⟨c25, H⟩ := bif_some H
      obtain ⟨c26, H⟩ := bif_some H
      obtain ⟨c27, H⟩ := bif_some H
      obtain ⟨c28, H⟩ := bif_some H
      refine L_callT (.plain rfl) rfl (ltb rfl) rfl Tryz.call31 (spec_Apply.calls (w := w21) (a0 := a0) (a1 := a1) (Ow.rd (Ow.ext o19 e22)) (Ow.rd o24) (of_decide_eq_true c25) (of_decide_eq_true c26) (of_decide_eq_true c27) (of_decide_eq_true c28)) rfl <| fun v31 w29 e30 o32 => L_op (.plain rfl) rfl (ltb rfl) (X_move (v := (.tuple #[v31, (.int .i64 ((applyOf a0 a1).2))])) rfl) <| L_op (.plain rfl) rfl (ltb rfl) (X_extract (v := v31) rfl rfl) <| L_op (.plain rfl) rfl (ltb rfl) (X_extract (v := (.int .i64 ((applyOf a0 a1).2))) rfl rfl) <| L_op (.plain rfl) rfl (ltb rfl) (X_assign (v := v31) rfl) <| L_op (.plain rfl) rfl (ltb rfl) (X_assign (v := (.int .i64 ((applyOf a0 a1).2))) rfl) <| L_nil <| thn_n <| W_seq <| W_reg <| L_op (.plain rfl) rfl (ltb rfl) (X_move (v := v_a0) rfl) ?_
      obtain ⟨c33, H⟩ := bif_some H
      refine L_callO (.plain rfl) rfl (ltb rfl) rfl Tryz.call18 (laws_toRecordS.calls (w := w29) (a0 := a0) (Rd.ext f_a0 (Ext.trans (Ext.trans (Ext.trans (Ext.trans e6 e13) e17) e22) e30)) (of_decide_eq_true c33)) rfl <| fun v36 w34 e35 o37 => L_op (.plain rfl) rfl (ltb rfl) (X_assign (v := v36) rfl) <| L_nil <| thn_n <| W_seq <| W_reg <| L_op (.plain rfl) rfl (ltb rfl) (X_move (v := v_a1) rfl) ?_
      obtain ⟨c38, H⟩ := bif_some H
      refine L_callO (.plain rfl) rfl (ltb rfl) rfl Tryz.call19 (laws_toNodeS.calls (w := w34) (a0 := a1) (Rd.ext f_a1 (Ext.trans (Ext.trans (Ext.trans (Ext.trans (Ext.trans e6 e13) e17) e22) e30) e35)) (of_decide_eq_true c38)) rfl <| fun v41 w39 e40 o42 => L_op (.plain rfl) rfl (ltb rfl) (X_assign (v := v41) rfl) <| L_nil <| thn_n <| W_seq <| W_reg <| L_op (.plain rfl) rfl (ltb rfl) (X_move (v := v36) rfl) <| L_op (.plain rfl) rfl (ltb rfl) (X_move (v := v41) rfl) ?_
      obtain ⟨c43, H⟩ := bif_some H
      obtain ⟨c44, H⟩ := bif_some H
      obtain ⟨c45, H⟩ := bif_some H
      obtain ⟨c46, H⟩ := bif_some H
      refine L_callT (.plain rfl) rfl (ltb rfl) rfl Tryz.call32 (impl_Apply.calls (w := w39) (a0 := a0) (a1 := a1) (GV.ext gv (Ext.trans (Ext.trans (Ext.trans (Ext.trans (Ext.trans (Ext.trans e6 e13) e17) e22) e30) e35) e40)) (Ow.rd (Ow.ext o37 e40)) (Ow.rd o42) (of_decide_eq_true c43) (of_decide_eq_true c44) (of_decide_eq_true c45) (of_decide_eq_true c46)) rfl <| fun v49 w47 e48 o50 => L_op (.plain rfl) rfl (ltb rfl) (X_move (v := (.tuple #[v49, (.int .i64 ((applyOf a0 a1).2))])) rfl) <| L_op (.plain rfl) rfl (ltb rfl) (X_extract (v := v49) rfl rfl) <| L_op (.plain rfl) rfl (ltb rfl) (X_extract (v := (.int .i64 ((applyOf a0 a1).2))) rfl rfl) <| L_op (.plain rfl) rfl (ltb rfl) (X_assign (v := v49) rfl) <| L_op (.plain rfl) rfl (ltb rfl) (X_assign (v := (.int .i64 ((applyOf a0 a1).2))) rfl) <| L_nil <| thn_n <| W_seq <| W_seq <| W_reg <| L_op (.plain rfl) rfl (ltb rfl) (X_move (v := v49) rfl) <| L_op (.plain rfl) rfl (ltb rfl) (X_move (v := v31) rfl) ?_
      obtain ⟨c51, H⟩ := bif_some H
      refine L_callP (.plain rfl) rfl (ltb rfl) rfl Tryz.call22 (laws_eqNodeS.calls (w := w47) (a0 := (applyOf a0 a1).1) (a1 := (applyOf a0 a1).1) (Ow.rd o50) (Ow.rd (Ow.ext o32 (Ext.trans (Ext.trans e35 e40) e48))) (of_decide_eq_true c51)) rfl <| fun w52 e53 => L_op (.plain rfl) rfl (ltb rfl) (X_not rfl) <| L_op (.plain rfl) rfl (ltb rfl) (X_move (v := (.bool (!(decide (((applyOf a0 a1).1) = ((applyOf a0 a1).1)))))) rfl) <| L_grp 4 [(50, 54)] 53 (.bool ((!(decide (((applyOf a0 a1).1) = ((applyOf a0 a1).1)))) || (!decide (((applyOf a0 a1).2) = ((applyOf a0 a1).2))))) ?_ ?_
      · rcases bool_two (!(decide (((applyOf a0 a1).1) = ((applyOf a0 a1).1)))) with b53_ | b53_
        · exact L_skip rfl rfl (ltb rfl) (congrArg Value.bool b53_) rfl rfl (ltb rfl) <| L_skip rfl rfl (ltb rfl) (congrArg Value.bool b53_) rfl rfl (ltb rfl) <| L_skip rfl rfl (ltb rfl) (congrArg Value.bool b53_) rfl rfl (ltb rfl) <| L_op (.plain rfl) rfl (ltb rfl) (X_pick (b := true) (v := (.bool true)) (congrArg Value.bool b53_) rfl) <| L_nil <| thn_n ⟨(Kp.upd (Kp.upd (Kp.upd (Kp.upd (Kp.refl _ _) rfl) rfl) rfl) rfl), (or_t b53_), (Ext.refl w52)⟩
        · exact L_op (.guard 4 false 49 rfl rfl (ltb rfl) (congrArg Value.bool b53_)) rfl (ltb rfl) (X_move (v := (.int .i64 ((applyOf a0 a1).2))) rfl) <| L_op (.guard 4 false 49 rfl rfl (ltb rfl) (congrArg Value.bool b53_)) rfl (ltb rfl) (X_move (v := (.int .i64 ((applyOf a0 a1).2))) rfl) <| L_op (.guard 4 false 49 rfl rfl (ltb rfl) (congrArg Value.bool b53_)) rfl (ltb rfl) (X_neq rfl rfl) <| L_op (.plain rfl) rfl (ltb rfl) (X_pick (b := false) (v := (.bool (!decide (((applyOf a0 a1).2) = ((applyOf a0 a1).2))))) (congrArg Value.bool b53_) rfl) <| L_nil <| thn_n ⟨(Kp.upd (Kp.upd (Kp.upd (Kp.upd (Kp.refl _ _) rfl) rfl) rfl) rfl), (or_f b53_), (Ext.refl w52)⟩
      intro s59 w55 K56 h57 e58
      refine L_nil <| thn_n ?_
      rcases bif_two H with ⟨q60, H⟩ | ⟨q60, H⟩
      · refine W_true (h57.trans (congrArg Value.bool q60)) <| W_seq <| W_reg <| L_op (.plain rfl) rfl (ltb rfl) (X_assign (v := (.bool false)) rfl) <| L_nil <| thn_n <| W_ret <| thn_r <| fin_r ?_
        obtain rfl := Option.some.inj H
        exact fin1 rfl (Ext.trans (Ext.trans (Ext.trans (Ext.trans (Ext.trans (Ext.trans (Ext.trans (Ext.trans (Ext.trans e6 e13) e17) e22) e30) e35) e40) e48) e53) e58)
      · refine W_false (h57.trans (congrArg Value.bool q60)) <| W_skip <| thn_n <| W_seq <| W_seq <| W_reg <| L_op (.plain rfl) rfl (ltb rfl) (X_move (v := v36) (K56 8 rfl)) <| L_op (.plain rfl) rfl (ltb rfl) (X_move (v := v_a0) (K56 0 rfl)) ?_
        obtain ⟨c61, H⟩ := bif_some H
        refine L_callO (.plain rfl) rfl (ltb rfl) rfl Tryz.call18 (laws_toRecordS.calls (w := w55) (a0 := a0) (Rd.ext f_a0 (Ext.trans (Ext.trans (Ext.trans (Ext.trans (Ext.trans (Ext.trans (Ext.trans (Ext.trans (Ext.trans e6 e13) e17) e22) e30) e35) e40) e48) e53) e58)) (of_decide_eq_true c61)) rfl <| fun v64 w62 e63 o65 => ?_
        obtain ⟨c66, H⟩ := bif_some H
        refine L_callP (.plain rfl) rfl (ltb rfl) rfl Tryz.call21 (laws_eqRecordS.calls (w := w62) (a0 := a0) (a1 := a0) (Ow.rd (Ow.ext o37 (Ext.trans (Ext.trans (Ext.trans (Ext.trans e40 e48) e53) e58) e63))) (Ow.rd o65) (of_decide_eq_true c66)) rfl <| fun w67 e68 => L_op (.plain rfl) rfl (ltb rfl) (X_not rfl) <| L_nil <| thn_n ?_
        rcases bif_two H with ⟨q69, H⟩ | ⟨q69, H⟩
        · refine W_true (congrArg Value.bool q69) <| W_seq <| W_reg <| L_op (.plain rfl) rfl (ltb rfl) (X_assign (v := (.bool false)) rfl) <| L_nil <| thn_n <| W_ret <| thn_r <| fin_r ?_
          obtain rfl := Option.some.inj H
          exact fin1 rfl (Ext.trans (Ext.trans (Ext.trans (Ext.trans (Ext.trans (Ext.trans (Ext.trans (Ext.trans (Ext.trans (Ext.trans (Ext.trans e6 e13) e17) e22) e30) e35) e40) e48) e53) e58) e63) e68)
        · refine W_false (congrArg Value.bool q69) <| W_skip <| thn_n <| W_seq <| W_seq <| W_reg <| L_op (.plain rfl) rfl (ltb rfl) (X_move (v := v41) (K56 9 rfl)) <| L_op (.plain rfl) rfl (ltb rfl) (X_move (v := v_a1) (K56 1 rfl)) ?_
          obtain ⟨c70, H⟩ := bif_some H
          refine L_callO (.plain rfl) rfl (ltb rfl) rfl Tryz.call19 (laws_toNodeS.calls (w := w67) (a0 := a1) (Rd.ext f_a1 (Ext.trans (Ext.trans (Ext.trans (Ext.trans (Ext.trans (Ext.trans (Ext.trans (Ext.trans (Ext.trans (Ext.trans (Ext.trans e6 e13) e17) e22) e30) e35) e40) e48) e53) e58) e63) e68)) (of_decide_eq_true c70)) rfl <| fun v73 w71 e72 o74 => ?_
          obtain ⟨c75, H⟩ := bif_some H
          refine L_callP (.plain rfl) rfl (ltb rfl) rfl Tryz.call22 (laws_eqNodeS.calls (w := w71) (a0 := a1) (a1 := a1) (Ow.rd (Ow.ext o42 (Ext.trans (Ext.trans (Ext.trans (Ext.trans (Ext.trans e48 e53) e58) e63) e68) e72))) (Ow.rd o74) (of_decide_eq_true c75)) rfl <| fun w76 e77 => L_op (.plain rfl) rfl (ltb rfl) (X_not rfl) <| L_nil <| thn_n ?_
          rcases bif_two H with ⟨q78, H⟩ | ⟨q78, H⟩
          · refine W_true (congrArg Value.bool q78) <| W_seq <| W_reg <| L_op (.plain rfl) rfl (ltb rfl) (X_assign (v := (.bool false)) rfl) <| L_nil <| thn_n <| W_ret <| thn_r <| fin_r ?_
            obtain rfl := Option.some.inj H
            exact fin1 rfl (Ext.trans (Ext.trans (Ext.trans (Ext.trans (Ext.trans (Ext.trans (Ext.trans (Ext.trans (Ext.trans (Ext.trans (Ext.trans (Ext.trans (Ext.trans e6 e13) e17) e22) e30) e35) e40) e48) e53) e58) e63) e68) e72) e77)
          · refine W_false (congrArg Value.bool q78) <| W_skip <| thn_n <| W_seq <| W_reg <| L_op (.plain rfl) rfl (ltb rfl) (X_assign (v := (.int .i64 1)) rfl) <| L_nil <| thn_n <| W_seq <| W_reg <| L_op (.plain rfl) rfl (ltb rfl) (X_move (v := v36) (K56 8 rfl)) <| L_op (.plain rfl) rfl (ltb rfl) (X_move (v := (.int .i64 1)) rfl) ?_
            obtain ⟨c79, H⟩ := bif_some H
            obtain ⟨c80, H⟩ := bif_some H
            obtain ⟨c81, H⟩ := bif_some H
            refine L_callM (.plain rfl) rfl (ltb rfl) rfl Tryz.call33 (laws_markRecordS.calls (w := w76) (a0 := a0) (a1 := 1) (Ow.ext o37 (Ext.trans (Ext.trans (Ext.trans (Ext.trans (Ext.trans (Ext.trans (Ext.trans e40 e48) e53) e58) e63) e68) e72) e77)) (Ow.hb o37) (of_decide_eq_true c79) (of_decide_eq_true c80) (of_decide_eq_true c81)) rfl <| fun w82 e83 o84 => L_op (.plain rfl) rfl (ltb rfl) (X_assign (v := (.int .i64 (1 + 5 * (a0.length : Int)))) rfl) <| L_nil <| thn_n <| W_seq <| W_reg <| L_op (.plain rfl) rfl (ltb rfl) (X_move (v := v41) (K56 9 rfl)) <| L_op (.plain rfl) rfl (ltb rfl) (X_move (v := (.int .i64 (1 + 5 * (a0.length : Int)))) rfl) ?_
            obtain ⟨c85, H⟩ := bif_some H
            obtain ⟨c86, H⟩ := bif_some H
            obtain ⟨c87, H⟩ := bif_some H
            refine L_callM (.plain rfl) rfl (ltb rfl) rfl Tryz.call29 (laws_markNodeS.calls (w := w82) (a0 := a1) (a1 := (1 + 5 * (a0.length : Int))) (Ow.later (Ow.ext o42 (Ext.trans (Ext.trans (Ext.trans (Ext.trans (Ext.trans (Ext.trans e48 e53) e58) e63) e68) e72) e77)) e83 (Ext.refl w34).size) (Ow.hb o42) (of_decide_eq_true c85) (of_decide_eq_true c86) (of_decide_eq_true c87)) rfl <| fun w88 e89 o90 => L_op (.plain rfl) rfl (ltb rfl) (X_assign (v := (.int .i64 ((1 + 5 * (a0.length : Int)) + 4 * (a1.length : Int)))) rfl) <| L_nil <| thn_n <| W_seq <| W_seq <| W_reg <| L_op (.plain rfl) rfl (ltb rfl) (X_move (v := (.int .i64 ((1 + 5 * (a0.length : Int)) + 4 * (a1.length : Int)))) rfl) <| L_op (.plain rfl) rfl (ltb rfl) (X_lss rfl rfl) <| L_op (.plain rfl) rfl (ltb rfl) (X_move rfl) ?_
            obtain ⟨z92, x93, H⟩ := bind_some H
            refine L_grpE 5 [(73, 78)] 77 (fun q => q = z92) ?_ ?_
            · rcases bif_two x93 with ⟨b90_, H⟩ | ⟨b90_, H⟩
              · refine L_skip rfl rfl (ltb rfl) (congrArg Value.bool b90_) rfl rfl (ltb rfl) <| L_skip rfl rfl (ltb rfl) (congrArg Value.bool b90_) rfl rfl (ltb rfl) <| L_skip rfl rfl (ltb rfl) (congrArg Value.bool b90_) rfl rfl (ltb rfl) <| L_skip rfl rfl (ltb rfl) (congrArg Value.bool b90_) rfl rfl (ltb rfl) <| L_op (.plain rfl) rfl (ltb rfl) (X_pick (b := true) (v := (.bool true)) (congrArg Value.bool b90_) rfl) ?_
                obtain rfl := Option.some.inj H
                exact L_nil <| thn_n ⟨(Kp.upd (Kp.upd (Kp.upd (Kp.upd (Kp.upd (Kp.refl _ _) rfl) rfl) rfl) rfl) rfl), ⟨_, rfl, rfl⟩, (Ext.refl w88)⟩
              · refine L_op (.guard 2 false 72 rfl rfl (ltb rfl) (congrArg Value.bool b90_)) rfl (ltb rfl) (X_move (v := v49) (K56 10 rfl)) <| L_op (.guard 2 false 72 rfl rfl (ltb rfl) (congrArg Value.bool b90_)) rfl (ltb rfl) (X_move (v := v31) (K56 6 rfl)) ?_
                obtain ⟨c92, H⟩ := bif_some H
                refine L_callP (.guard 2 false 72 rfl rfl (ltb rfl) (congrArg Value.bool b90_)) rfl (ltb rfl) rfl Tryz.call22 (laws_eqNodeS.calls (w := w88) (a0 := (applyOf a0 a1).1) (a1 := (applyOf a0 a1).1) (Ow.rd (Ow.later (Ow.later (Ow.ext o50 (Ext.trans (Ext.trans (Ext.trans (Ext.trans (Ext.trans e53 e58) e63) e68) e72) e77)) e83 e40.size) e89 (Ext.refl w39).size)) (Ow.rd (Ow.ext o32 (Ext.gr (Ext.gr (Ext.trans (Ext.trans (Ext.trans (Ext.trans (Ext.trans (Ext.trans (Ext.trans (Ext.trans e35 e40) e48) e53) e58) e63) e68) e72) e77) e83 (Ext.refl w29).size) e89 e35.size))) (of_decide_eq_true c92)) rfl <| fun w93 e94 => L_op (.guard 2 false 72 rfl rfl (ltb rfl) (congrArg Value.bool b90_)) rfl (ltb rfl) (X_not rfl) <| L_op (.plain rfl) rfl (ltb rfl) (X_pick (b := false) (v := (.bool (!(decide (((applyOf a0 a1).1) = ((applyOf a0 a1).1)))))) (congrArg Value.bool b90_) rfl) ?_
                obtain rfl := Option.some.inj H
                exact L_nil <| thn_n ⟨(Kp.upd (Kp.upd (Kp.upd (Kp.upd (Kp.upd (Kp.refl _ _) rfl) rfl) rfl) rfl) rfl), ⟨_, rfl, rfl⟩, e94⟩
            intro s98 w94 z99 K95 hq h96 e97
            rw [hq] at h96; clear hq
            refine L_op (.plain rfl) rfl (ltb rfl) (X_move (v := (.bool z92)) h96) <| L_grp 4 [(79, 83)] 82 (.bool (z92 || (!decide (((applyOf a0 a1).2) = ((applyOf a0 a1).2))))) ?_ ?_
            · rcases bool_two z92 with b99_ | b99_
              · exact L_skip rfl rfl (ltb rfl) (congrArg Value.bool b99_) rfl rfl (ltb rfl) <| L_skip rfl rfl (ltb rfl) (congrArg Value.bool b99_) rfl rfl (ltb rfl) <| L_skip rfl rfl (ltb rfl) (congrArg Value.bool b99_) rfl rfl (ltb rfl) <| L_op (.plain rfl) rfl (ltb rfl) (X_pick (b := true) (v := (.bool true)) (congrArg Value.bool b99_) rfl) <| L_nil <| thn_n ⟨(Kp.upd (Kp.upd (Kp.upd (Kp.upd (Kp.refl _ _) rfl) rfl) rfl) rfl), (or_t b99_), (Ext.refl w94)⟩
              · exact L_op (.guard 8 false 78 rfl rfl (ltb rfl) (congrArg Value.bool b99_)) rfl (ltb rfl) (X_move (v := (.int .i64 ((applyOf a0 a1).2))) ((K95 11 rfl).trans (K56 11 rfl))) <| L_op (.guard 8 false 78 rfl rfl (ltb rfl) (congrArg Value.bool b99_)) rfl (ltb rfl) (X_move (v := (.int .i64 ((applyOf a0 a1).2))) ((K95 7 rfl).trans (K56 7 rfl))) <| L_op (.guard 8 false 78 rfl rfl (ltb rfl) (congrArg Value.bool b99_)) rfl (ltb rfl) (X_neq rfl rfl) <| L_op (.plain rfl) rfl (ltb rfl) (X_pick (b := false) (v := (.bool (!decide (((applyOf a0 a1).2) = ((applyOf a0 a1).2))))) (congrArg Value.bool b99_) rfl) <| L_nil <| thn_n ⟨(Kp.upd (Kp.upd (Kp.upd (Kp.upd (Kp.refl _ _) rfl) rfl) rfl) rfl), (or_f b99_), (Ext.refl w94)⟩
            intro s105 w101 K102 h103 e104
            refine L_nil <| thn_n ?_
            rcases bif_two H with ⟨q106, H⟩ | ⟨q106, H⟩
            · refine W_true (h103.trans (congrArg Value.bool q106)) <| W_seq <| W_reg <| L_op (.plain rfl) rfl (ltb rfl) (X_assign (v := (.bool false)) rfl) <| L_nil <| thn_n <| W_ret <| thn_r <| fin_r ?_
              obtain rfl := Option.some.inj H
              exact fin1 rfl (Ext.trans (Ext.trans (Ext.trans (Ext.trans (Ext.trans (Ext.trans (Ext.trans e6 e13) e17) e22) e30) (Ext.gr (Ext.gr (Ext.trans (Ext.trans (Ext.trans (Ext.trans (Ext.trans (Ext.trans (Ext.trans (Ext.trans e35 e40) e48) e53) e58) e63) e68) e72) e77) e83 (Ext.refl w29).size) e89 e35.size)) e97) e104)
            · refine W_false (h103.trans (congrArg Value.bool q106)) <| W_skip <| thn_n <| W_seq <| W_reg <| L_op (.plain rfl) rfl (ltb rfl) (X_assign (v := (.int .i64 1)) rfl) <| L_nil <| thn_n <| W_seq <| W_reg <| L_op (.plain rfl) rfl (ltb rfl) (X_move (v := v49) ((K102 10 rfl).trans ((K95 10 rfl).trans (K56 10 rfl)))) <| L_op (.plain rfl) rfl (ltb rfl) (X_move (v := (.int .i64 1)) rfl) ?_
              obtain ⟨c107, H⟩ := bif_some H
              obtain ⟨c108, H⟩ := bif_some H
              obtain ⟨c109, H⟩ := bif_some H
              refine L_callM (.plain rfl) rfl (ltb rfl) rfl Tryz.call29 (laws_markNodeS.calls (w := w101) (a0 := (applyOf a0 a1).1) (a1 := 1) (Ow.ext (Ow.later (Ow.later (Ow.ext o50 (Ext.trans (Ext.trans (Ext.trans (Ext.trans (Ext.trans e53 e58) e63) e68) e72) e77)) e83 e40.size) e89 (Ext.refl w39).size) (Ext.trans e97 e104)) (Ow.hb o50) (of_decide_eq_true c107) (of_decide_eq_true c108) (of_decide_eq_true c109)) rfl <| fun w110 e111 o112 => L_op (.plain rfl) rfl (ltb rfl) (X_assign (v := (.int .i64 (1 + 4 * (((applyOf a0 a1).1).length : Int)))) rfl) <| L_nil <| thn_n <| W_seq <| W_reg <| L_op (.plain rfl) rfl (ltb rfl) (X_assign (v := (.int .i64 1)) rfl) <| L_nil <| thn_n <| W_seq <| W_reg <| L_op (.plain rfl) rfl (ltb rfl) (X_move (v := v49) ((K102 10 rfl).trans ((K95 10 rfl).trans (K56 10 rfl)))) <| L_op (.plain rfl) rfl (ltb rfl) (X_move (v := (.int .i64 1)) rfl) ?_
              obtain ⟨c113, H⟩ := bif_some H
              obtain ⟨c114, H⟩ := bif_some H
              obtain ⟨c115, H⟩ := bif_some H
              refine L_callP (.plain rfl) rfl (ltb rfl) rfl Tryz.call30 (laws_heldNodeS.calls (w := w110) (a0 := (marksN ((applyOf a0 a1).1).length 1)) (a1 := 1) (Ow.rd o112) (of_decide_eq_true c113) (of_decide_eq_true c114) (of_decide_eq_true c115)) rfl <| fun w116 e117 => L_op (.plain rfl) rfl (ltb rfl) (X_assign (v := (.int .i64 (heldN (marksN ((applyOf a0 a1).1).length 1) 1))) rfl) <| L_nil <| thn_n <| W_seq <| W_seq <| W_reg <| L_op (.plain rfl) rfl (ltb rfl) (X_move (v := (.int .i64 (heldN (marksN ((applyOf a0 a1).1).length 1) 1))) rfl) <| L_op (.plain rfl) rfl (ltb rfl) (X_lss rfl rfl) <| L_nil <| thn_n ?_
              rcases bif_two H with ⟨q118, H⟩ | ⟨q118, H⟩
              · refine W_true (congrArg Value.bool q118) <| W_seq <| W_reg <| L_op (.plain rfl) rfl (ltb rfl) (X_assign (v := (.bool false)) rfl) <| L_nil <| thn_n <| W_ret <| thn_r <| fin_r ?_
                obtain rfl := Option.some.inj H
                exact fin1 rfl (Ext.trans (Ext.trans (Ext.trans (Ext.trans (Ext.trans (Ext.trans e6 e13) e17) e22) e30) (Ext.gr (Ext.trans (Ext.trans (Ext.gr (Ext.gr (Ext.trans (Ext.trans (Ext.trans (Ext.trans (Ext.trans (Ext.trans (Ext.trans (Ext.trans e35 e40) e48) e53) e58) e63) e68) e72) e77) e83 (Ext.refl w29).size) e89 e35.size) e97) e104) e111 (Ext.trans e35 e40).size)) e117)
              · refine W_false (congrArg Value.bool q118) <| W_skip <| thn_n <| W_seq <| W_seq <| W_reg <| L_op (.plain rfl) rfl (ltb rfl) (X_move (v := (.int .i64 (heldN (marksN ((applyOf a0 a1).1).length 1) 1))) rfl) <| L_op (.plain rfl) rfl (ltb rfl) (X_move (v := (.int .i64 (1 + 4 * (((applyOf a0 a1).1).length : Int)))) rfl) <| L_op (.plain rfl) rfl (ltb rfl) (X_neq rfl rfl) <| L_nil <| thn_n ?_
                rcases bif_two H with ⟨q119, H⟩ | ⟨q119, H⟩
                · refine W_true (congrArg Value.bool q119) <| W_seq <| W_reg <| L_op (.plain rfl) rfl (ltb rfl) (X_assign (v := (.bool false)) rfl) <| L_nil <| thn_n <| W_ret <| thn_r <| fin_r ?_
                  obtain rfl := Option.some.inj H
                  exact fin1 rfl (Ext.trans (Ext.trans (Ext.trans (Ext.trans (Ext.trans (Ext.trans e6 e13) e17) e22) e30) (Ext.gr (Ext.trans (Ext.trans (Ext.gr (Ext.gr (Ext.trans (Ext.trans (Ext.trans (Ext.trans (Ext.trans (Ext.trans (Ext.trans (Ext.trans e35 e40) e48) e53) e58) e63) e68) e72) e77) e83 (Ext.refl w29).size) e89 e35.size) e97) e104) e111 (Ext.trans e35 e40).size)) e117)
                · refine W_false (congrArg Value.bool q119) <| W_skip <| thn_n <| W_seq <| W_reg <| L_op (.plain rfl) rfl (ltb rfl) (X_move (v := v_a0) ((K102 0 rfl).trans ((K95 0 rfl).trans (K56 0 rfl)))) ?_
                  obtain ⟨c120, H⟩ := bif_some H
                  refine L_callO (.plain rfl) rfl (ltb rfl) rfl Tryz.call18 (laws_toRecordS.calls (w := w116) (a0 := a0) (Rd.ext f_a0 (Ext.trans (Ext.trans (Ext.trans (Ext.trans (Ext.trans (Ext.trans e6 e13) e17) e22) e30) (Ext.gr (Ext.trans (Ext.trans (Ext.gr (Ext.gr (Ext.trans (Ext.trans (Ext.trans (Ext.trans (Ext.trans (Ext.trans (Ext.trans (Ext.trans e35 e40) e48) e53) e58) e63) e68) e72) e77) e83 (Ext.refl w29).size) e89 e35.size) e97) e104) e111 (Ext.trans e35 e40).size)) e117)) (of_decide_eq_true c120)) rfl <| fun v123 w121 e122 o124 => L_op (.plain rfl) rfl (ltb rfl) (X_move (v := v_a1) ((K102 1 rfl).trans ((K95 1 rfl).trans (K56 1 rfl)))) ?_
                  obtain ⟨c125, H⟩ := bif_some H
                  refine L_callO (.plain rfl) rfl (ltb rfl) rfl Tryz.call19 (laws_toNodeS.calls (w := w121) (a0 := a1) (Rd.ext f_a1 (Ext.trans (Ext.trans (Ext.trans (Ext.trans (Ext.trans (Ext.trans (Ext.trans e6 e13) e17) e22) e30) (Ext.gr (Ext.trans (Ext.trans (Ext.gr (Ext.gr (Ext.trans (Ext.trans (Ext.trans (Ext.trans (Ext.trans (Ext.trans (Ext.trans (Ext.trans e35 e40) e48) e53) e58) e63) e68) e72) e77) e83 (Ext.refl w29).size) e89 e35.size) e97) e104) e111 (Ext.trans e35 e40).size)) e117) e122)) (of_decide_eq_true c125)) rfl <| fun v128 w126 e127 o129 => ?_
                  obtain ⟨c130, H⟩ := bif_some H
                  obtain ⟨c131, H⟩ := bif_some H
                  obtain ⟨c132, H⟩ := bif_some H
                  obtain ⟨c133, H⟩ := bif_some H
                  refine L_callT (.plain rfl) rfl (ltb rfl) rfl Tryz.call32 (impl_Apply.calls (w := w126) (a0 := a0) (a1 := a1) (GV.ext gv (Ext.trans (Ext.trans (Ext.trans (Ext.trans (Ext.trans (Ext.trans (Ext.trans (Ext.trans e6 e13) e17) e22) e30) (Ext.gr (Ext.trans (Ext.trans (Ext.gr (Ext.gr (Ext.trans (Ext.trans (Ext.trans (Ext.trans (Ext.trans (Ext.trans (Ext.trans (Ext.trans e35 e40) e48) e53) e58) e63) e68) e72) e77) e83 (Ext.refl w29).size) e89 e35.size) e97) e104) e111 (Ext.trans e35 e40).size)) e117) e122) e127)) (Ow.rd (Ow.ext o124 e127)) (Ow.rd o129) (of_decide_eq_true c130) (of_decide_eq_true c131) (of_decide_eq_true c132) (of_decide_eq_true c133)) rfl <| fun v136 w134 e135 o137 => L_op (.plain rfl) rfl (ltb rfl) (X_move (v := (.tuple #[v136, (.int .i64 ((applyOf a0 a1).2))])) rfl) <| L_op (.plain rfl) rfl (ltb rfl) (X_extract (v := v136) rfl rfl) <| L_op (.plain rfl) rfl (ltb rfl) (X_extract (v := (.int .i64 ((applyOf a0 a1).2))) rfl rfl) <| L_op (.plain rfl) rfl (ltb rfl) (X_assign (v := v136) rfl) <| L_op (.plain rfl) rfl (ltb rfl) (X_assign (v := (.int .i64 ((applyOf a0 a1).2))) rfl) <| L_nil <| thn_n <| W_seq <| W_seq <| W_reg <| L_op (.plain rfl) rfl (ltb rfl) (X_move (v := v136) rfl) <| L_op (.plain rfl) rfl (ltb rfl) (X_move (v := v31) ((K102 6 rfl).trans ((K95 6 rfl).trans (K56 6 rfl)))) ?_
                  obtain ⟨c138, H⟩ := bif_some H
                  refine L_callP (.plain rfl) rfl (ltb rfl) rfl Tryz.call22 (laws_eqNodeS.calls (w := w134) (a0 := (applyOf a0 a1).1) (a1 := (applyOf a0 a1).1) (Ow.rd o137) (Ow.rd (Ow.ext o32 (Ext.trans (Ext.trans (Ext.trans (Ext.trans (Ext.gr (Ext.trans (Ext.trans (Ext.gr (Ext.gr (Ext.trans (Ext.trans (Ext.trans (Ext.trans (Ext.trans (Ext.trans (Ext.trans (Ext.trans e35 e40) e48) e53) e58) e63) e68) e72) e77) e83 (Ext.refl w29).size) e89 e35.size) e97) e104) e111 (Ext.trans e35 e40).size) e117) e122) e127) e135))) (of_decide_eq_true c138)) rfl <| fun w139 e140 => L_op (.plain rfl) rfl (ltb rfl) (X_not rfl) <| L_op (.plain rfl) rfl (ltb rfl) (X_move (v := (.bool (!(decide (((applyOf a0 a1).1) = ((applyOf a0 a1).1)))))) rfl) <| L_grp 4 [(107, 111)] 110 (.bool ((!(decide (((applyOf a0 a1).1) = ((applyOf a0 a1).1)))) || (!decide (((applyOf a0 a1).2) = ((applyOf a0 a1).2))))) ?_ ?_
                  · rcases bool_two (!(decide (((applyOf a0 a1).1) = ((applyOf a0 a1).1)))) with b140_ | b140_
                    · exact L_skip rfl rfl (ltb rfl) (congrArg Value.bool b140_) rfl rfl (ltb rfl) <| L_skip rfl rfl (ltb rfl) (congrArg Value.bool b140_) rfl rfl (ltb rfl) <| L_skip rfl rfl (ltb rfl) (congrArg Value.bool b140_) rfl rfl (ltb rfl) <| L_op (.plain rfl) rfl (ltb rfl) (X_pick (b := true) (v := (.bool true)) (congrArg Value.bool b140_) rfl) <| L_nil <| thn_n ⟨(Kp.upd (Kp.upd (Kp.upd (Kp.upd (Kp.refl _ _) rfl) rfl) rfl) rfl), (or_t b140_), (Ext.refl w139)⟩
                    · exact L_op (.guard 4 false 106 rfl rfl (ltb rfl) (congrArg Value.bool b140_)) rfl (ltb rfl) (X_move (v := (.int .i64 ((applyOf a0 a1).2))) rfl) <| L_op (.guard 4 false 106 rfl rfl (ltb rfl) (congrArg Value.bool b140_)) rfl (ltb rfl) (X_move (v := (.int .i64 ((applyOf a0 a1).2))) ((K102 7 rfl).trans ((K95 7 rfl).trans (K56 7 rfl)))) <| L_op (.guard 4 false 106 rfl rfl (ltb rfl) (congrArg Value.bool b140_)) rfl (ltb rfl) (X_neq rfl rfl) <| L_op (.plain rfl) rfl (ltb rfl) (X_pick (b := false) (v := (.bool (!decide (((applyOf a0 a1).2) = ((applyOf a0 a1).2))))) (congrArg Value.bool b140_) rfl) <| L_nil <| thn_n ⟨(Kp.upd (Kp.upd (Kp.upd (Kp.upd (Kp.refl _ _) rfl) rfl) rfl) rfl), (or_f b140_), (Ext.refl w139)⟩
                  intro s146 w142 K143 h144 e145
                  refine L_nil <| thn_n ?_
                  rcases bif_two H with ⟨q147, H⟩ | ⟨q147, H⟩
                  · refine W_true (h144.trans (congrArg Value.bool q147)) <| W_seq <| W_reg <| L_op (.plain rfl) rfl (ltb rfl) (X_assign (v := (.bool false)) rfl) <| L_nil <| thn_n <| W_ret <| thn_r <| fin_r ?_
                    obtain rfl := Option.some.inj H
                    exact fin1 rfl (Ext.trans (Ext.trans (Ext.trans (Ext.trans (Ext.trans (Ext.trans (Ext.trans (Ext.trans (Ext.trans (Ext.trans (Ext.trans e6 e13) e17) e22) e30) (Ext.gr (Ext.trans (Ext.trans (Ext.gr (Ext.gr (Ext.trans (Ext.trans (Ext.trans (Ext.trans (Ext.trans (Ext.trans (Ext.trans (Ext.trans e35 e40) e48) e53) e58) e63) e68) e72) e77) e83 (Ext.refl w29).size) e89 e35.size) e97) e104) e111 (Ext.trans e35 e40).size)) e117) e122) e127) e135) e140) e145)
                  · refine W_false (h144.trans (congrArg Value.bool q147)) <| W_skip <| thn_n <| W_seq <| W_reg <| L_op (.plain rfl) rfl (ltb rfl) (X_assign (v := (.int .i64 1)) rfl) <| L_nil <| thn_n <| W_seq <| W_reg <| L_op (.plain rfl) rfl (ltb rfl) (X_move (v := v49) ((K143 10 rfl).trans ((K102 10 rfl).trans ((K95 10 rfl).trans (K56 10 rfl))))) <| L_op (.plain rfl) rfl (ltb rfl) (X_move (v := (.int .i64 1)) rfl) ?_
                    obtain ⟨c148, H⟩ := bif_some H
                    obtain ⟨c149, H⟩ := bif_some H
                    obtain ⟨c150, H⟩ := bif_some H
                    refine L_callP (.plain rfl) rfl (ltb rfl) rfl Tryz.call30 (laws_heldNodeS.calls (w := w142) (a0 := (marksN ((applyOf a0 a1).1).length 1)) (a1 := 1) (Ow.rd (Ow.ext o112 (Ext.trans (Ext.trans (Ext.trans (Ext.trans (Ext.trans e117 e122) e127) e135) e140) e145))) (of_decide_eq_true c148) (of_decide_eq_true c149) (of_decide_eq_true c150)) rfl <| fun w151 e152 => L_op (.plain rfl) rfl (ltb rfl) (X_assign (v := (.int .i64 (heldN (marksN ((applyOf a0 a1).1).length 1) 1))) rfl) <| L_nil <| thn_n <| W_seq <| W_seq <| W_reg <| L_op (.plain rfl) rfl (ltb rfl) (X_move (v := (.int .i64 (heldN (marksN ((applyOf a0 a1).1).length 1) 1))) rfl) <| L_op (.plain rfl) rfl (ltb rfl) (X_lss rfl rfl) <| L_nil <| thn_n ?_
                    rcases bif_two H with ⟨q153, H⟩ | ⟨q153, H⟩
                    · refine W_true (congrArg Value.bool q153) <| W_seq <| W_reg <| L_op (.plain rfl) rfl (ltb rfl) (X_assign (v := (.bool false)) rfl) <| L_nil <| thn_n <| W_ret <| thn_r <| fin_r ?_
                      obtain rfl := Option.some.inj H
                      exact fin1 rfl (Ext.trans (Ext.trans (Ext.trans (Ext.trans (Ext.trans (Ext.trans (Ext.trans (Ext.trans (Ext.trans (Ext.trans (Ext.trans (Ext.trans e6 e13) e17) e22) e30) (Ext.gr (Ext.trans (Ext.trans (Ext.gr (Ext.gr (Ext.trans (Ext.trans (Ext.trans (Ext.trans (Ext.trans (Ext.trans (Ext.trans (Ext.trans e35 e40) e48) e53) e58) e63) e68) e72) e77) e83 (Ext.refl w29).size) e89 e35.size) e97) e104) e111 (Ext.trans e35 e40).size)) e117) e122) e127) e135) e140) e145) e152)
                    · refine W_false (congrArg Value.bool q153) <| W_skip <| thn_n <| W_seq <| W_seq <| W_reg <| L_op (.plain rfl) rfl (ltb rfl) (X_move (v := (.int .i64 (heldN (marksN ((applyOf a0 a1).1).length 1) 1))) rfl) <| L_op (.plain rfl) rfl (ltb rfl) (X_move (v := (.int .i64 (1 + 4 * (((applyOf a0 a1).1).length : Int)))) (K143 13 rfl)) <| L_op (.plain rfl) rfl (ltb rfl) (X_neq rfl rfl) <| L_nil <| thn_n ?_
                      rcases bif_two H with ⟨q154, H⟩ | ⟨q154, H⟩
                      · refine W_true (congrArg Value.bool q154) <| W_seq <| W_reg <| L_op (.plain rfl) rfl (ltb rfl) (X_assign (v := (.bool false)) rfl) <| L_nil <| thn_n <| W_ret <| thn_r <| fin_r ?_
                        obtain rfl := Option.some.inj H
                        exact fin1 rfl (Ext.trans (Ext.trans (Ext.trans (Ext.trans (Ext.trans (Ext.trans (Ext.trans (Ext.trans (Ext.trans (Ext.trans (Ext.trans (Ext.trans e6 e13) e17) e22) e30) (Ext.gr (Ext.trans (Ext.trans (Ext.gr (Ext.gr (Ext.trans (Ext.trans (Ext.trans (Ext.trans (Ext.trans (Ext.trans (Ext.trans (Ext.trans e35 e40) e48) e53) e58) e63) e68) e72) e77) e83 (Ext.refl w29).size) e89 e35.size) e97) e104) e111 (Ext.trans e35 e40).size)) e117) e122) e127) e135) e140) e145) e152)
                      · refine W_false (congrArg Value.bool q154) <| W_skip <| thn_n <| W_seq <| W_reg <| L_op (.plain rfl) rfl (ltb rfl) (X_assign (v := (.bool true)) rfl) <| L_nil <| thn_n <| W_ret <| fin_r ?_
                        obtain rfl := Option.some.inj H
                        exact fin1 rfl (Ext.trans (Ext.trans (Ext.trans (Ext.trans (Ext.trans (Ext.trans (Ext.trans (Ext.trans (Ext.trans (Ext.trans (Ext.trans (Ext.trans e6 e13) e17) e22) e30) (Ext.gr (Ext.trans (Ext.trans (Ext.gr (Ext.gr (Ext.trans (Ext.trans (Ext.trans (Ext.trans (Ext.trans (Ext.trans (Ext.trans (Ext.trans e35 e40) e48) e53) e58) e63) e68) e72) e77) e83 (Ext.refl w29).size) e89 e35.size) e97) e104) e111 (Ext.trans e35 e40).size)) e117) e122) e127) e135) e140) e145) e152)
theorem law_Apply.calls {w : World} {a0 : List Rec} {a1 : List Nd} (gv : GV 0 w) {v_a0 : Value} (f_a0 : Rd 5 encRec w v_a0 a0) {v_a1 : Value} (f_a1 : Rd 4 encNd w v_a1 a1) (h0 : ∀ x ∈ a0, okRec x) (h1 : a0.length ≤ 9223372036854775807) (h2 : ∀ x ∈ a1, okNd x) (h3 : a1.length ≤ 9223372036854775807) :
    Calls Tryz.prog 5 #[v_a0, v_a1] w (Rt (RP w (.bool true))) := law_Apply.walk gv f_a0 f_a1 (law_Apply.eq a0 a1 h0 h1 h2 h3)
end Go.Proofs.YthpjkenkbfkdhaaGreatDoor
