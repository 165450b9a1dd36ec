/- The walks, by program (wip/tools). -/
import Derived.Test.YtilogldgepaeiacDoorProg
import Derived.Test.YtilogldgepaeiacDoorKI
import Derived.Test.YtilogldgepaeiacDoorAWB
set_option linter.unusedVariables false
set_option maxRecDepth 10000
namespace Go.Proofs.YtilogldgepaeiacDoor
open Go.UL Go.RowKit
/-! laws.FnExactWinnerAt -/
theorem law_WinnerAt.walk {w : World} {a0 : List (List Rec)} {a1 : List UInt8} (gv : GV 0 w) {v_a0 : Value} (f_a0 : Rd2 5 encRec w v_a0 a0) {r : Bool} (H : law_WinnerAt.sh a0 a1 = some r) :
    Calls Tryd.prog 3 #[v_a0, S a1] w (Rt (RP w (.bool r))) := by
  unfold law_WinnerAt.sh at H
  refine calls_of_W Tryd.func3 rfl (Nat.le_of_ble_eq_true rfl) Tryd.ntmps3 rfl ?_
  refine W_seq <| W_reg <| L_op (.plain rfl) rfl (ltb rfl) (X_assign (v := (.bool false)) rfl) <| L_nil <| thn_n <| W_seq <| W_seq <| W_reg <| L_op (.plain rfl) rfl (ltb rfl) (X_move (v := (S a1)) rfl) <| L_op (.plain rfl) rfl (ltb rfl) (X_lenS Tryd.underlying9 rfl) <| L_op (.plain rfl) rfl (ltb rfl) (X_gtr rfl rfl) <| L_nil <| thn_n ?_
  rcases bif_two H with ⟨q1, H⟩ | ⟨q1, H⟩
  · refine W_true (congrArg Value.bool q1) <| W_seq <| W_reg <| L_op (.plain rfl) rfl (ltb rfl) (X_assign (v := (.bool true)) rfl) <| L_nil <| thn_n <| W_ret <| thn_r <| fin_r ?_
    obtain rfl := Option.some.inj H
    exact fin1 rfl (Ext.refl w)
  · refine W_false (congrArg Value.bool q1) <| W_skip <| thn_n <| W_seq <| W_reg <| L_op (.plain rfl) rfl (ltb rfl) (X_assign (v := (.int .i64 1048576)) rfl) <| L_nil <| thn_n <| W_seq <| W_reg <| L_op (.plain rfl) rfl (ltb rfl) (X_move (v := v_a0) rfl) <| L_op (.plain rfl) rfl (ltb rfl) (X_move (v := (.int .i64 1048576)) rfl) ?_
    obtain ⟨c2, H⟩ := bif_some H
    obtain ⟨c3, H⟩ := bif_some H
    obtain ⟨c4, H⟩ := bif_some H
    obtain ⟨c5, H⟩ := bif_some H
    obtain ⟨c6, H⟩ := bif_some H
    refine L_callP (.plain rfl) rfl (ltb rfl) rfl Tryd.call6 (laws_szRecordSS.calls (w := w) (a0 := a0) (a1 := 1048576) f_a0 (of_decide_eq_true c2) (of_decide_eq_true c3) (of_decide_eq_true c4) (of_decide_eq_true c5) (of_decide_eq_true c6)) rfl <| fun w7 e8 => L_op (.plain rfl) rfl (ltb rfl) (X_assign (v := (.int .i64 (szRecSS a0 1048576))) rfl) <| L_nil <| thn_n <| W_seq <| W_seq <| W_reg <| L_op (.plain rfl) rfl (ltb rfl) (X_move (v := (.int .i64 (szRecSS a0 1048576))) rfl) <| L_op (.plain rfl) rfl (ltb rfl) (X_lss rfl rfl) <| L_nil <| thn_n ?_
    rcases bif_two H with ⟨q9, H⟩ | ⟨q9, H⟩
    · refine W_true (congrArg Value.bool q9) <| W_seq <| W_reg <| L_op (.plain rfl) rfl (ltb rfl) (X_assign (v := (.bool true)) rfl) <| L_nil <| thn_n <| W_ret <| thn_r <| fin_r ?_
      obtain rfl := Option.some.inj H
      exact fin1 rfl e8
    · refine W_false (congrArg Value.bool q9) <| W_skip <| thn_n <| W_seq <| W_reg <| L_op (.plain rfl) rfl (ltb rfl) (X_move (v := v_a0) rfl) ?_
      obtain ⟨c10, H⟩ := bif_some H
      obtain ⟨c11, H⟩ := bif_some H
      refine L_callOS (.plain rfl) rfl (ltb rfl) rfl Tryd.call8 (laws_toRecordSS.calls (w := w7) (a0 := a0) (Rd2.ext f_a0 e8) (of_decide_eq_true c10) (of_decide_eq_true c11)) rfl <| fun v14 w12 e13 o15 => L_op (.plain rfl) rfl (ltb rfl) (X_move (v := (S a1)) rfl) ?_
      obtain ⟨c16, H⟩ := bif_some H
      obtain ⟨c17, H⟩ := bif_some H
      obtain ⟨c18, H⟩ := bif_some H
      refine L_callP (.plain rfl) rfl (ltb rfl) rfl Tryd.call7 (spec_WinnerAt.calls (w := w12) (a0 := a0) (a1 := a1) (Own2.rd o15) (of_decide_eq_true c16) (of_decide_eq_true c17) (of_decide_eq_true c18)) rfl <| fun w19 e20 => L_op (.plain rfl) rfl (ltb rfl) (X_move rfl) <| L_op (.plain rfl) rfl (ltb rfl) (X_extract (v := (.agg (encRec ((winnerAt a0 a1).1)).toArray)) rfl rfl) <| L_op (.plain rfl) rfl (ltb rfl) (X_extract (v := (.int .i64 ((winnerAt a0 a1).2.1))) rfl rfl) <| L_op (.plain rfl) rfl (ltb rfl) (X_extract (v := (.int .i64 ((winnerAt a0 a1).2.2))) rfl rfl) <| L_alloc (.plain rfl) rfl (ltb rfl) rfl Tryd.zeroValue25 <| fun b21 w22 z23 z24 e25 k26 => L_storeA (.plain rfl) rfl rfl Tryd.sizeOf25 rfl rfl rfl rfl rfl k26 <| fun w27 h28 k29 => L_op (.plain rfl) rfl (ltb rfl) (X_assign (v := (.int .i64 ((winnerAt a0 a1).2.1))) rfl) <| L_op (.plain rfl) rfl (ltb rfl) (X_assign (v := (.int .i64 ((winnerAt a0 a1).2.2))) rfl) <| L_nil <| thn_n <| W_seq <| W_reg <| L_op (.plain rfl) rfl (ltb rfl) (X_move (v := v_a0) rfl) ?_
      obtain ⟨c30, H⟩ := bif_some H
      obtain ⟨c31, H⟩ := bif_some H
      refine L_callOS (.plain rfl) rfl (ltb rfl) rfl Tryd.call8 (laws_toRecordSS.calls (w := w27) (a0 := a0) (Rd2.ext f_a0 (Ext.trans (Ext.trans (Ext.trans e8 e13) e20) (Below.trans e25 (Wr.below h28 (Nat.le_of_eq z23))))) (of_decide_eq_true c30) (of_decide_eq_true c31)) rfl <| fun v34 w32 e33 o35 => L_op (.plain rfl) rfl (ltb rfl) (X_assign (v := v34) rfl) <| L_nil <| thn_n <| W_seq <| W_reg <| L_op (.plain rfl) rfl (ltb rfl) (X_move (v := v34) rfl) <| L_op (.plain rfl) rfl (ltb rfl) (X_move (v := (S a1)) rfl) ?_
      obtain ⟨c36, H⟩ := bif_some H
      obtain ⟨c37, H⟩ := bif_some H
      obtain ⟨c38, H⟩ := bif_some H
      refine L_callP (.plain rfl) rfl (ltb rfl) rfl Tryd.call9 (impl_WinnerAt.calls (w := w32) (a0 := a0) (a1 := a1) (GV.ext gv (Ext.trans (Ext.trans (Ext.trans (Ext.trans e8 e13) e20) (Below.trans e25 (Wr.below h28 (Nat.le_of_eq z23)))) e33)) (Own2.rd o35) (of_decide_eq_true c36) (of_decide_eq_true c37) (of_decide_eq_true c38)) rfl <| fun w39 e40 => L_op (.plain rfl) rfl (ltb rfl) (X_move rfl) <| L_op (.plain rfl) rfl (ltb rfl) (X_extract (v := (.agg (encRec ((winnerAt a0 a1).1)).toArray)) rfl rfl) <| L_op (.plain rfl) rfl (ltb rfl) (X_extract (v := (.int .i64 ((winnerAt a0 a1).2.1))) rfl rfl) <| L_op (.plain rfl) rfl (ltb rfl) (X_extract (v := (.int .i64 ((winnerAt a0 a1).2.2))) rfl rfl) <| L_alloc (.plain rfl) rfl (ltb rfl) rfl Tryd.zeroValue25 <| fun b41 w42 z43 z44 e45 k46 => L_storeA (.plain rfl) rfl rfl Tryd.sizeOf25 rfl rfl rfl rfl rfl k46 <| fun w47 h48 k49 => L_op (.plain rfl) rfl (ltb rfl) (X_assign (v := (.int .i64 ((winnerAt a0 a1).2.1))) rfl) <| L_op (.plain rfl) rfl (ltb rfl) (X_assign (v := (.int .i64 ((winnerAt a0 a1).2.2))) rfl) <| L_nil <| thn_n <| W_seq <| W_seq <| W_reg <| L_op (.plain rfl) rfl (ltb rfl) (X_loadS Tryd.isAgg25 Tryd.sizeOf25 rfl rfl (Blk.at0 k49)) <| L_op (.plain rfl) rfl (ltb rfl) (X_loadS Tryd.isAgg25 Tryd.sizeOf25 rfl rfl (Blk.at0 (Blk.ext k29 (Ext.trans (Ext.trans e33 e40) (Below.trans e45 (Wr.below h48 (Nat.le_of_eq z43))))))) <| L_callP (.plain rfl) rfl (ltb rfl) rfl Tryd.call10 (laws_eqRecord.calls (w := w47) (a0 := ((winnerAt a0 a1).1)) (a1 := ((winnerAt a0 a1).1))) rfl <| fun w50 e51 => L_op (.plain rfl) rfl (ltb rfl) (X_not rfl) <| L_op (.plain rfl) rfl (ltb rfl) (X_move (v := (.bool (!(decide (((winnerAt a0 a1).1) = ((winnerAt a0 a1).1)))))) rfl) <| L_grp 4 [(43, 47)] 46 (.bool ((!(decide (((winnerAt a0 a1).1) = ((winnerAt a0 a1).1)))) || (!decide (((winnerAt a0 a1).2.1) = ((winnerAt a0 a1).2.1))))) ?_ ?_
      · rcases bool_two (!(decide (((winnerAt a0 a1).1) = ((winnerAt a0 a1).1)))) with b51_ | b51_
        · exact L_skip rfl rfl (ltb rfl) (congrArg Value.bool b51_) rfl rfl (ltb rfl) <| L_skip rfl rfl (ltb rfl) (congrArg Value.bool b51_) rfl rfl (ltb rfl) <| L_skip rfl rfl (ltb rfl) (congrArg Value.bool b51_) rfl rfl (ltb rfl) <| L_op (.plain rfl) rfl (ltb rfl) (X_pick (b := true) (v := (.bool true)) (congrArg Value.bool b51_) rfl) <| L_nil <| thn_n ⟨(Kp.upd (Kp.upd (Kp.upd (Kp.upd (Kp.refl _ _) rfl) rfl) rfl) rfl), (or_t b51_), (Ext.refl w50)⟩
        · exact L_op (.guard 4 false 42 rfl rfl (ltb rfl) (congrArg Value.bool b51_)) rfl (ltb rfl) (X_move (v := (.int .i64 ((winnerAt a0 a1).2.1))) rfl) <| L_op (.guard 4 false 42 rfl rfl (ltb rfl) (congrArg Value.bool b51_)) rfl (ltb rfl) (X_move (v := (.int .i64 ((winnerAt a0 a1).2.1))) rfl) <| L_op (.guard 4 false 42 rfl rfl (ltb rfl) (congrArg Value.bool b51_)) rfl (ltb rfl) (X_neq rfl rfl) <| L_op (.plain rfl) rfl (ltb rfl) (X_pick (b := false) (v := (.bool (!decide (((winnerAt a0 a1).2.1) = ((winnerAt a0 a1).2.1))))) (congrArg Value.bool b51_) rfl) <| L_nil <| thn_n ⟨(Kp.upd (Kp.upd (Kp.upd (Kp.upd (Kp.refl _ _) rfl) rfl) rfl) rfl), (or_f b51_), (Ext.refl w50)⟩
      intro s57 w53 K54 h55 e56
      refine L_op (.plain rfl) rfl (ltb rfl) (X_move h55) <| L_grp 4 [(48, 52)] 51 (.bool (((!(decide (((winnerAt a0 a1).1) = ((winnerAt a0 a1).1)))) || (!decide (((winnerAt a0 a1).2.1) = ((winnerAt a0 a1).2.1)))) || (!decide (((winnerAt a0 a1).2.2) = ((winnerAt a0 a1).2.2))))) ?_ ?_
      · rcases bool_two ((!(decide (((winnerAt a0 a1).1) = ((winnerAt a0 a1).1)))) || (!decide (((winnerAt a0 a1).2.1) = ((winnerAt a0 a1).2.1)))) with b57_ | b57_
        · exact L_skip rfl rfl (ltb rfl) (congrArg Value.bool b57_) rfl rfl (ltb rfl) <| L_skip rfl rfl (ltb rfl) (congrArg Value.bool b57_) rfl rfl (ltb rfl) <| L_skip rfl rfl (ltb rfl) (congrArg Value.bool b57_) rfl rfl (ltb rfl) <| L_op (.plain rfl) rfl (ltb rfl) (X_pick (b := true) (v := (.bool true)) (congrArg Value.bool b57_) rfl) <| L_nil <| thn_n ⟨(Kp.upd (Kp.upd (Kp.upd (Kp.upd (Kp.refl _ _) rfl) rfl) rfl) rfl), (or_t b57_), (Ext.refl w53)⟩
        · exact L_op (.guard 9 false 47 rfl rfl (ltb rfl) (congrArg Value.bool b57_)) rfl (ltb rfl) (X_move (v := (.int .i64 ((winnerAt a0 a1).2.2))) (K54 12 rfl)) <| L_op (.guard 9 false 47 rfl rfl (ltb rfl) (congrArg Value.bool b57_)) rfl (ltb rfl) (X_move (v := (.int .i64 ((winnerAt a0 a1).2.2))) (K54 8 rfl)) <| L_op (.guard 9 false 47 rfl rfl (ltb rfl) (congrArg Value.bool b57_)) rfl (ltb rfl) (X_neq rfl rfl) <| L_op (.plain rfl) rfl (ltb rfl) (X_pick (b := false) (v := (.bool (!decide (((winnerAt a0 a1).2.2) = ((winnerAt a0 a1).2.2))))) (congrArg Value.bool b57_) rfl) <| L_nil <| thn_n ⟨(Kp.upd (Kp.upd (Kp.upd (Kp.upd (Kp.refl _ _) rfl) rfl) rfl) rfl), (or_f b57_), (Ext.refl w53)⟩
      intro s63 w59 K60 h61 e62
      refine L_nil <| thn_n ?_
      rcases bif_two H with ⟨q64, H⟩ | ⟨q64, H⟩
      · refine W_true (h61.trans (congrArg Value.bool q64)) <| W_seq <| W_reg <| L_op (.plain rfl) rfl (ltb rfl) (X_assign (v := (.bool false)) rfl) <| L_nil <| thn_n <| W_ret <| thn_r <| fin_r ?_
        obtain rfl := Option.some.inj H
        exact fin1 rfl (Ext.trans (Ext.trans (Ext.trans (Ext.trans (Ext.trans (Ext.trans (Ext.trans (Ext.trans (Ext.trans e8 e13) e20) (Below.trans e25 (Wr.below h28 (Nat.le_of_eq z23)))) e33) e40) (Below.trans e45 (Wr.below h48 (Nat.le_of_eq z43)))) e51) e56) e62)
      · refine W_false (h61.trans (congrArg Value.bool q64)) <| W_skip <| thn_n <| W_seq <| W_seq <| W_reg <| L_op (.plain rfl) rfl (ltb rfl) (X_move (v := v34) ((K60 9 rfl).trans (K54 9 rfl))) <| L_op (.plain rfl) rfl (ltb rfl) (X_move (v := v_a0) ((K60 0 rfl).trans (K54 0 rfl))) ?_
        obtain ⟨c65, H⟩ := bif_some H
        obtain ⟨c66, H⟩ := bif_some H
        refine L_callOS (.plain rfl) rfl (ltb rfl) rfl Tryd.call8 (laws_toRecordSS.calls (w := w59) (a0 := a0) (Rd2.ext f_a0 (Ext.trans (Ext.trans (Ext.trans (Ext.trans (Ext.trans (Ext.trans (Ext.trans (Ext.trans (Ext.trans e8 e13) e20) (Below.trans e25 (Wr.below h28 (Nat.le_of_eq z23)))) e33) e40) (Below.trans e45 (Wr.below h48 (Nat.le_of_eq z43)))) e51) e56) e62)) (of_decide_eq_true c65) (of_decide_eq_true c66)) rfl <| fun v69 w67 e68 o70 => ?_
        obtain ⟨c71, H⟩ := bif_some H
        obtain ⟨c72, H⟩ := bif_some H
        refine L_callP (.plain rfl) rfl (ltb rfl) rfl Tryd.call11 (laws_eqRecordSS.calls (w := w67) (a0 := a0) (a1 := a0) (Own2.rd (Own2.ext o35 (Ext.trans (Ext.trans (Ext.trans (Ext.trans (Ext.trans e40 (Below.trans e45 (Wr.below h48 (Nat.le_of_eq z43)))) e51) e56) e62) e68))) (Own2.rd o70) (of_decide_eq_true c71) (of_decide_eq_true c72)) rfl <| fun w73 e74 => L_op (.plain rfl) rfl (ltb rfl) (X_not rfl) <| L_nil <| thn_n ?_
        rcases bif_two H with ⟨q75, H⟩ | ⟨q75, H⟩
        · refine W_true (congrArg Value.bool q75) <| W_seq <| W_reg <| L_op (.plain rfl) rfl (ltb rfl) (X_assign (v := (.bool false)) rfl) <| L_nil <| thn_n <| W_ret <| thn_r <| fin_r ?_
          obtain rfl := Option.some.inj H
          exact fin1 rfl (Ext.trans (Ext.trans (Ext.trans (Ext.trans (Ext.trans (Ext.trans (Ext.trans (Ext.trans (Ext.trans (Ext.trans (Ext.trans e8 e13) e20) (Below.trans e25 (Wr.below h28 (Nat.le_of_eq z23)))) e33) e40) (Below.trans e45 (Wr.below h48 (Nat.le_of_eq z43)))) e51) e56) e62) e68) e74)
        · refine W_false (congrArg Value.bool q75) <| W_skip <| thn_n <| W_seq <| W_reg <| L_op (.plain rfl) rfl (ltb rfl) (X_assign (v := (.bool true)) rfl) <| L_nil <| thn_n <| W_ret <| fin_r ?_
          obtain rfl := Option.some.inj H
          exact fin1 rfl (Ext.trans (Ext.trans (Ext.trans (Ext.trans (Ext.trans (Ext.trans (Ext.trans (Ext.trans (Ext.trans (Ext.trans (Ext.trans e8 e13) e20) (Below.trans e25 (Wr.below h28 (Nat.le_of_eq z23)))) e33) e40) (Below.trans e45 (Wr.below h48 (Nat.le_of_eq z43)))) e51) e56) e62) e68) e74)
theorem law_WinnerAt.calls {w : World} {a0 : List (List Rec)} {a1 : List UInt8} (gv : GV 0 w) {v_a0 : Value} (f_a0 : Rd2 5 encRec w v_a0 a0) (h0 : ∀ l ∈ a0, ∀ x ∈ l, okRec x) (h1 : a0.length ≤ 9223372036854775807) (h2 : ∀ l ∈ a0, l.length ≤ 9223372036854775807) :
    Calls Tryd.prog 3 #[v_a0, S a1] w (Rt (RP w (.bool true))) := law_WinnerAt.walk gv f_a0 (law_WinnerAt.eq a0 a1 h0 h1 h2)
end Go.Proofs.YtilogldgepaeiacDoor
