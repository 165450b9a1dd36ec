/- The walks, by program (wip/tools). -/
import Derived.Test.YteinfnffodejkaaProg
import Derived.Test.YteinfnffodejkaaP1
set_option linter.unusedVariables false
set_option maxRecDepth 10000
namespace Go.Proofs.Yteinfnffodejkaa
open Go.UL Go.RowKit
theorem El.t27 : ElemI Try.prog 27 9 1 16 (.string ⟨#[]⟩) := ElemI.mk' Try.underlying27 (by kernel_rfl) rfl rfl rfl
/-! impl.within -/
theorem impl_within.walk {w : World} {a0 : Int} {a1 : Int} {a2 : Int} {r : Bool} (H : impl_within.sh a0 a1 a2 = some r) :
    Calls Try.prog 16 #[.int .i64 a0, .int .i64 a1, .int .i64 a2] w (Rt (RP w (.bool r))) := by
  unfold impl_within.sh at H
  refine calls_of_W Try.func16 rfl (Nat.le_of_ble_eq_true rfl) Try.ntmps16 rfl ?_
  refine W_seq <| W_reg <| L_op (.plain rfl) rfl (ltb rfl) (X_assign (v := (.bool false)) rfl) <| L_nil <| thn_n <| W_seq <| W_reg <| L_op (.plain rfl) rfl (ltb rfl) (X_move (v := (.int .i64 a1)) rfl) <| L_op (.plain rfl) rfl (ltb rfl) (X_move (v := (.int .i64 a0)) rfl) <| L_op (.plain rfl) rfl (ltb rfl) (X_leq rfl rfl) <| L_op (.plain rfl) rfl (ltb rfl) (X_move (v := (.bool (decide (a1 ≤ a0)))) rfl) <| L_grp 4 [(11, 15)] 14 (.bool ((decide (a1 ≤ a0)) && (decide (a0 ≤ a2)))) ?_ ?_
  · rcases bool_two (decide (a1 ≤ a0)) with b0_ | b0_
    · exact L_op (.guard 3 true 10 rfl rfl (ltb rfl) (congrArg Value.bool b0_)) rfl (ltb rfl) (X_move (v := (.int .i64 a0)) rfl) <| L_op (.guard 3 true 10 rfl rfl (ltb rfl) (congrArg Value.bool b0_)) rfl (ltb rfl) (X_move (v := (.int .i64 a2)) rfl) <| L_op (.guard 3 true 10 rfl rfl (ltb rfl) (congrArg Value.bool b0_)) rfl (ltb rfl) (X_leq rfl rfl) <| L_op (.plain rfl) rfl (ltb rfl) (X_pick (b := true) (v := (.bool (decide (a0 ≤ a2)))) (congrArg Value.bool b0_) rfl) <| L_nil <| thn_n ⟨(Kp.upd (Kp.upd (Kp.upd (Kp.upd (Kp.refl _ _) rfl) rfl) rfl) rfl), (and_t b0_), (Ext.refl w)⟩
    · exact L_skip rfl rfl (ltb rfl) (congrArg Value.bool b0_) rfl rfl (ltb rfl) <| L_skip rfl rfl (ltb rfl) (congrArg Value.bool b0_) rfl rfl (ltb rfl) <| L_skip rfl rfl (ltb rfl) (congrArg Value.bool b0_) rfl rfl (ltb rfl) <| L_op (.plain rfl) rfl (ltb rfl) (X_pick (b := false) (v := (.bool false)) (congrArg Value.bool b0_) rfl) <| L_nil <| thn_n ⟨(Kp.upd (Kp.upd (Kp.upd (Kp.upd (Kp.refl _ _) rfl) rfl) rfl) rfl), (and_f b0_), (Ext.refl w)⟩
  intro s6 w2 K3 h4 e5
  refine L_op (.plain rfl) rfl (ltb rfl) (X_assign (v := (.bool ((decide (a1 ≤ a0)) && (decide (a0 ≤ a2))))) h4) <| L_nil <| thn_n <| W_ret <| fin_r ?_
  obtain rfl := Option.some.inj H
  exact fin1 rfl e5
theorem impl_within.calls {w : World} {a0 : Int} {a1 : Int} {a2 : Int} :
    Calls Try.prog 16 #[.int .i64 a0, .int .i64 a1, .int .i64 a2] w (Rt (RP w (.bool (within a0 a1 a2)))) := impl_within.walk (impl_within.eq a0 a1 a2)
/-! spec.l01In -/
theorem spec_l01In.walk {w : World} {a0 : Int} {a1 : Int} {a2 : Int} {r : Bool} (H : spec_l01In.sh a0 a1 a2 = some r) :
    Calls Try.prog 21 #[.int .i64 a0, .int .i64 a1, .int .i64 a2] w (Rt (RP w (.bool r))) := by
  unfold spec_l01In.sh at H
  refine calls_of_W Try.func21 rfl (Nat.le_of_ble_eq_true rfl) Try.ntmps21 rfl ?_
  refine W_seq <| W_reg <| L_op (.plain rfl) rfl (ltb rfl) (X_assign (v := (.bool false)) rfl) <| L_nil <| thn_n <| W_seq <| W_reg <| L_op (.plain rfl) rfl (ltb rfl) (X_move (v := (.int .i64 a0)) rfl) <| L_op (.plain rfl) rfl (ltb rfl) (X_move (v := (.int .i64 a1)) rfl) <| L_op (.plain rfl) rfl (ltb rfl) (X_geq rfl rfl) <| L_op (.plain rfl) rfl (ltb rfl) (X_move (v := (.bool (decide (a1 ≤ a0)))) rfl) <| L_grp 4 [(11, 15)] 14 (.bool ((decide (a1 ≤ a0)) && (decide (a0 ≤ a2)))) ?_ ?_
  · rcases bool_two (decide (a1 ≤ a0)) with b0_ | b0_
    · exact L_op (.guard 3 true 10 rfl rfl (ltb rfl) (congrArg Value.bool b0_)) rfl (ltb rfl) (X_move (v := (.int .i64 a0)) rfl) <| L_op (.guard 3 true 10 rfl rfl (ltb rfl) (congrArg Value.bool b0_)) rfl (ltb rfl) (X_move (v := (.int .i64 a2)) rfl) <| L_op (.guard 3 true 10 rfl rfl (ltb rfl) (congrArg Value.bool b0_)) rfl (ltb rfl) (X_leq rfl rfl) <| L_op (.plain rfl) rfl (ltb rfl) (X_pick (b := true) (v := (.bool (decide (a0 ≤ a2)))) (congrArg Value.bool b0_) rfl) <| L_nil <| thn_n ⟨(Kp.upd (Kp.upd (Kp.upd (Kp.upd (Kp.refl _ _) rfl) rfl) rfl) rfl), (and_t b0_), (Ext.refl w)⟩
    · exact L_skip rfl rfl (ltb rfl) (congrArg Value.bool b0_) rfl rfl (ltb rfl) <| L_skip rfl rfl (ltb rfl) (congrArg Value.bool b0_) rfl rfl (ltb rfl) <| L_skip rfl rfl (ltb rfl) (congrArg Value.bool b0_) rfl rfl (ltb rfl) <| L_op (.plain rfl) rfl (ltb rfl) (X_pick (b := false) (v := (.bool false)) (congrArg Value.bool b0_) rfl) <| L_nil <| thn_n ⟨(Kp.upd (Kp.upd (Kp.upd (Kp.upd (Kp.refl _ _) rfl) rfl) rfl) rfl), (and_f b0_), (Ext.refl w)⟩
  intro s6 w2 K3 h4 e5
  refine L_op (.plain rfl) rfl (ltb rfl) (X_assign (v := (.bool ((decide (a1 ≤ a0)) && (decide (a0 ≤ a2))))) h4) <| L_nil <| thn_n <| W_ret <| fin_r ?_
  obtain rfl := Option.some.inj H
  exact fin1 rfl e5
theorem spec_l01In.calls {w : World} {a0 : Int} {a1 : Int} {a2 : Int} :
    Calls Try.prog 21 #[.int .i64 a0, .int .i64 a1, .int .i64 a2] w (Rt (RP w (.bool (within a0 a1 a2)))) := spec_l01In.walk (spec_l01In.eq a0 a1 a2)
/-! spec.l00Letter -/
theorem spec_l00Letter.walk {w : World} {a0 : Int} {r : Bool} (H : spec_l00Letter.sh a0 = some r) :
    Calls Try.prog 22 #[.int .u8 a0] w (Rt (RP w (.bool r))) := by
  unfold spec_l00Letter.sh at H
  refine calls_of_W Try.func22 rfl (Nat.le_of_ble_eq_true rfl) Try.ntmps22 rfl ?_
  refine W_seq <| W_reg <| L_op (.plain rfl) rfl (ltb rfl) (X_assign (v := (.bool false)) rfl) <| L_nil <| thn_n <| W_seq <| W_reg <| L_op (.plain rfl) rfl (ltb rfl) (X_move (v := (.int .u8 a0)) rfl) <| L_op (.plain rfl) rfl (ltb rfl) (X_geq rfl rfl) <| L_op (.plain rfl) rfl (ltb rfl) (X_move (v := (.bool (decide (97 ≤ a0)))) rfl) <| L_grp 3 [(6, 9)] 8 (.bool ((decide (97 ≤ a0)) && (decide (a0 ≤ 122)))) ?_ ?_
  · rcases bool_two (decide (97 ≤ a0)) with b0_ | b0_
    · exact L_op (.guard 2 true 5 rfl rfl (ltb rfl) (congrArg Value.bool b0_)) rfl (ltb rfl) (X_move (v := (.int .u8 a0)) rfl) <| L_op (.guard 2 true 5 rfl rfl (ltb rfl) (congrArg Value.bool b0_)) rfl (ltb rfl) (X_leq rfl rfl) <| L_op (.plain rfl) rfl (ltb rfl) (X_pick (b := true) (v := (.bool (decide (a0 ≤ 122)))) (congrArg Value.bool b0_) rfl) <| L_nil <| thn_n ⟨(Kp.upd (Kp.upd (Kp.upd (Kp.refl _ _) rfl) rfl) rfl), (and_t b0_), (Ext.refl w)⟩
    · exact L_skip rfl rfl (ltb rfl) (congrArg Value.bool b0_) rfl rfl (ltb rfl) <| L_skip rfl rfl (ltb rfl) (congrArg Value.bool b0_) rfl rfl (ltb rfl) <| L_op (.plain rfl) rfl (ltb rfl) (X_pick (b := false) (v := (.bool false)) (congrArg Value.bool b0_) rfl) <| L_nil <| thn_n ⟨(Kp.upd (Kp.upd (Kp.upd (Kp.refl _ _) rfl) rfl) rfl), (and_f b0_), (Ext.refl w)⟩
  intro s6 w2 K3 h4 e5
  refine L_op (.plain rfl) rfl (ltb rfl) (X_move (v := (.bool ((decide (97 ≤ a0)) && (decide (a0 ≤ 122))))) h4) <| L_grp 7 [(10, 17)] 16 (.bool (((decide (97 ≤ a0)) && (decide (a0 ≤ 122))) || ((decide (65 ≤ a0)) && (decide (a0 ≤ 90))))) ?_ ?_
  · rcases bool_two ((decide (97 ≤ a0)) && (decide (a0 ≤ 122))) with b6_ | b6_
    · exact L_skip rfl rfl (ltb rfl) (congrArg Value.bool b6_) rfl rfl (ltb rfl) <| L_skip rfl rfl (ltb rfl) (congrArg Value.bool b6_) rfl rfl (ltb rfl) <| L_skip rfl rfl (ltb rfl) (congrArg Value.bool b6_) rfl rfl (ltb rfl) <| L_skipU rfl rfl (ltb rfl) rfl rfl (ltb rfl) <| L_skipU rfl rfl (ltb rfl) rfl rfl (ltb rfl) <| L_skip rfl rfl (ltb rfl) (congrArg Value.bool b6_) rfl rfl (ltb rfl) <| L_op (.plain rfl) rfl (ltb rfl) (X_pick (b := true) (v := (.bool true)) (congrArg Value.bool b6_) rfl) <| L_nil <| thn_n ⟨(Kp.upd (Kp.upd (Kp.upd (Kp.upd (Kp.upd (Kp.upd (Kp.upd (Kp.refl _ _) rfl) rfl) rfl) rfl) rfl) rfl) rfl), (or_t b6_), (Ext.refl w2)⟩
    · refine L_op (.guard 6 false 9 rfl rfl (ltb rfl) (congrArg Value.bool b6_)) rfl (ltb rfl) (X_move (v := (.int .u8 a0)) (K3 0 rfl)) <| L_op (.guard 6 false 9 rfl rfl (ltb rfl) (congrArg Value.bool b6_)) rfl (ltb rfl) (X_geq rfl rfl) <| L_op (.guard 6 false 9 rfl rfl (ltb rfl) (congrArg Value.bool b6_)) rfl (ltb rfl) (X_move (v := (.bool (decide (65 ≤ a0)))) rfl) <| L_grp 3 [(13, 16)] 15 (.bool ((decide (65 ≤ a0)) && (decide (a0 ≤ 90)))) ?_ ?_
      · rcases bool_two (decide (65 ≤ a0)) with b7_ | b7_
        · exact L_op (.guard 9 true 12 rfl rfl (ltb rfl) (congrArg Value.bool b7_)) rfl (ltb rfl) (X_move (v := (.int .u8 a0)) (K3 0 rfl)) <| L_op (.guard 9 true 12 rfl rfl (ltb rfl) (congrArg Value.bool b7_)) rfl (ltb rfl) (X_leq rfl rfl) <| L_op (.guard 6 false 9 rfl rfl (ltb rfl) (congrArg Value.bool b6_)) rfl (ltb rfl) (X_pick (b := true) (v := (.bool (decide (a0 ≤ 90)))) (congrArg Value.bool b7_) rfl) <| L_nil <| thn_n ⟨(Kp.upd (Kp.upd (Kp.upd (Kp.refl _ _) rfl) rfl) rfl), (and_t b7_), (Ext.refl w2)⟩
        · exact L_skip rfl rfl (ltb rfl) (congrArg Value.bool b7_) rfl rfl (ltb rfl) <| L_skip rfl rfl (ltb rfl) (congrArg Value.bool b7_) rfl rfl (ltb rfl) <| L_op (.guard 6 false 9 rfl rfl (ltb rfl) (congrArg Value.bool b6_)) rfl (ltb rfl) (X_pick (b := false) (v := (.bool false)) (congrArg Value.bool b7_) rfl) <| L_nil <| thn_n ⟨(Kp.upd (Kp.upd (Kp.upd (Kp.refl _ _) rfl) rfl) rfl), (and_f b7_), (Ext.refl w2)⟩
      intro s13 w9 K10 h11 e12
      exact L_op (.plain rfl) rfl (ltb rfl) (X_pick (b := false) (v := (.bool ((decide (65 ≤ a0)) && (decide (a0 ≤ 90))))) ((K10 9 rfl).trans (congrArg Value.bool b6_)) h11) <| L_nil <| thn_n ⟨(Kp.upd (Kp.cut (Kp.upd (Kp.upd (Kp.upd (Kp.refl _ _) rfl) rfl) rfl) K10 rfl) rfl), (or_f b6_), e12⟩
  intro s14 w8 K9 h10 e11
  refine L_op (.plain rfl) rfl (ltb rfl) (X_move h10) <| L_grp 3 [(18, 21)] 20 (.bool ((((decide (97 ≤ a0)) && (decide (a0 ≤ 122))) || ((decide (65 ≤ a0)) && (decide (a0 ≤ 90)))) || (decide (a0 = 95)))) ?_ ?_
  · rcases bool_two (((decide (97 ≤ a0)) && (decide (a0 ≤ 122))) || ((decide (65 ≤ a0)) && (decide (a0 ≤ 90)))) with b14_ | b14_
    · exact L_skip rfl rfl (ltb rfl) (congrArg Value.bool b14_) rfl rfl (ltb rfl) <| L_skip rfl rfl (ltb rfl) (congrArg Value.bool b14_) rfl rfl (ltb rfl) <| L_op (.plain rfl) rfl (ltb rfl) (X_pick (b := true) (v := (.bool true)) (congrArg Value.bool b14_) rfl) <| L_nil <| thn_n ⟨(Kp.upd (Kp.upd (Kp.upd (Kp.refl _ _) rfl) rfl) rfl), (or_t b14_), (Ext.refl w8)⟩
    · exact L_op (.guard 14 false 17 rfl rfl (ltb rfl) (congrArg Value.bool b14_)) rfl (ltb rfl) (X_move (v := (.int .u8 a0)) ((K9 0 rfl).trans (K3 0 rfl))) <| L_op (.guard 14 false 17 rfl rfl (ltb rfl) (congrArg Value.bool b14_)) rfl (ltb rfl) (X_eql rfl rfl) <| L_op (.plain rfl) rfl (ltb rfl) (X_pick (b := false) (v := (.bool (decide (a0 = 95)))) (congrArg Value.bool b14_) rfl) <| L_nil <| thn_n ⟨(Kp.upd (Kp.upd (Kp.upd (Kp.refl _ _) rfl) rfl) rfl), (or_f b14_), (Ext.refl w8)⟩
  intro s20 w16 K17 h18 e19
  refine L_op (.plain rfl) rfl (ltb rfl) (X_assign h18) <| L_nil <| thn_n <| W_ret <| fin_r ?_
  obtain rfl := Option.some.inj H
  exact fin1 rfl (Ext.trans (Ext.trans e5 e11) e19)
theorem spec_l00Letter.calls {w : World} {a0 : Int} :
    Calls Try.prog 22 #[.int .u8 a0] w (Rt (RP w (.bool (letter a0)))) := spec_l00Letter.walk (spec_l00Letter.eq a0)
/-! spec.l00Digit -/
theorem spec_l00Digit.walk {w : World} {a0 : Int} {r : Bool} (H : spec_l00Digit.sh a0 = some r) :
    Calls Try.prog 23 #[.int .u8 a0] w (Rt (RP w (.bool r))) := by
  unfold spec_l00Digit.sh at H
  refine calls_of_W Try.func23 rfl (Nat.le_of_ble_eq_true rfl) Try.ntmps23 rfl ?_
  refine W_seq <| W_reg <| L_op (.plain rfl) rfl (ltb rfl) (X_assign (v := (.bool false)) rfl) <| L_nil <| thn_n <| W_seq <| W_reg <| L_op (.plain rfl) rfl (ltb rfl) (X_move (v := (.int .u8 a0)) rfl) <| L_op (.plain rfl) rfl (ltb rfl) (X_geq rfl rfl) <| L_op (.plain rfl) rfl (ltb rfl) (X_move (v := (.bool (decide (48 ≤ a0)))) rfl) <| L_grp 3 [(6, 9)] 8 (.bool ((decide (48 ≤ a0)) && (decide (a0 ≤ 57)))) ?_ ?_
  · rcases bool_two (decide (48 ≤ a0)) with b0_ | b0_
    · exact L_op (.guard 2 true 5 rfl rfl (ltb rfl) (congrArg Value.bool b0_)) rfl (ltb rfl) (X_move (v := (.int .u8 a0)) rfl) <| L_op (.guard 2 true 5 rfl rfl (ltb rfl) (congrArg Value.bool b0_)) rfl (ltb rfl) (X_leq rfl rfl) <| L_op (.plain rfl) rfl (ltb rfl) (X_pick (b := true) (v := (.bool (decide (a0 ≤ 57)))) (congrArg Value.bool b0_) rfl) <| L_nil <| thn_n ⟨(Kp.upd (Kp.upd (Kp.upd (Kp.refl _ _) rfl) rfl) rfl), (and_t b0_), (Ext.refl w)⟩
    · exact L_skip rfl rfl (ltb rfl) (congrArg Value.bool b0_) rfl rfl (ltb rfl) <| L_skip rfl rfl (ltb rfl) (congrArg Value.bool b0_) rfl rfl (ltb rfl) <| L_op (.plain rfl) rfl (ltb rfl) (X_pick (b := false) (v := (.bool false)) (congrArg Value.bool b0_) rfl) <| L_nil <| thn_n ⟨(Kp.upd (Kp.upd (Kp.upd (Kp.refl _ _) rfl) rfl) rfl), (and_f b0_), (Ext.refl w)⟩
  intro s6 w2 K3 h4 e5
  refine L_op (.plain rfl) rfl (ltb rfl) (X_assign (v := (.bool ((decide (48 ≤ a0)) && (decide (a0 ≤ 57))))) h4) <| L_nil <| thn_n <| W_ret <| fin_r ?_
  obtain rfl := Option.some.inj H
  exact fin1 rfl e5
theorem spec_l00Digit.calls {w : World} {a0 : Int} :
    Calls Try.prog 23 #[.int .u8 a0] w (Rt (RP w (.bool (digit a0)))) := spec_l00Digit.walk (spec_l00Digit.eq a0)
/-! spec.l00Word -/
theorem spec_l00Word.walk {k : Nat} {w : World} {a0 : List UInt8} {r : Bool} (H : spec_l00Word.sh k a0 = some r) :
    Calls Try.prog 20 #[S a0] w (Rt (RP w (.bool r))) := by
  unfold spec_l00Word.sh at H
  refine calls_of_W Try.func20 rfl (Nat.le_of_ble_eq_true rfl) Try.ntmps20 rfl ?_
  refine W_seq <| W_reg <| L_op (.plain rfl) rfl (ltb rfl) (X_assign (v := (.bool false)) rfl) <| L_nil <| thn_n <| W_seq <| W_seq <| W_reg <| L_op (.plain rfl) rfl (ltb rfl) (X_move (v := (S a0)) rfl) <| L_op (.plain rfl) rfl (ltb rfl) (X_lenS Try.underlying9 rfl) <| L_op (.plain rfl) rfl (ltb rfl) (X_lss rfl rfl) <| L_op (.plain rfl) rfl (ltb rfl) (X_move (v := (.bool (decide ((a0.length : Int) < 1)))) rfl) <| L_grp 4 [(8, 12)] 11 (.bool ((decide ((a0.length : Int) < 1)) || (decide (12 < (a0.length : Int))))) ?_ ?_
  · rcases bool_two (decide ((a0.length : Int) < 1)) with b0_ | b0_
    · exact L_skip rfl rfl (ltb rfl) (congrArg Value.bool b0_) rfl rfl (ltb rfl) <| L_skip rfl rfl (ltb rfl) (congrArg Value.bool b0_) rfl rfl (ltb rfl) <| L_skip rfl rfl (ltb rfl) (congrArg Value.bool b0_) rfl rfl (ltb rfl) <| L_op (.plain rfl) rfl (ltb rfl) (X_pick (b := true) (v := (.bool true)) (congrArg Value.bool b0_) rfl) <| L_nil <| thn_n ⟨(Kp.upd (Kp.upd (Kp.upd (Kp.upd (Kp.refl _ _) rfl) rfl) rfl) rfl), (or_t b0_), (Ext.refl w)⟩
    · exact L_op (.guard 3 false 7 rfl rfl (ltb rfl) (congrArg Value.bool b0_)) rfl (ltb rfl) (X_move (v := (S a0)) rfl) <| L_op (.guard 3 false 7 rfl rfl (ltb rfl) (congrArg Value.bool b0_)) rfl (ltb rfl) (X_lenS Try.underlying9 rfl) <| L_op (.guard 3 false 7 rfl rfl (ltb rfl) (congrArg Value.bool b0_)) rfl (ltb rfl) (X_gtr rfl rfl) <| L_op (.plain rfl) rfl (ltb rfl) (X_pick (b := false) (v := (.bool (decide (12 < (a0.length : Int))))) (congrArg Value.bool b0_) rfl) <| L_nil <| thn_n ⟨(Kp.upd (Kp.upd (Kp.upd (Kp.upd (Kp.refl _ _) rfl) rfl) rfl) rfl), (or_f b0_), (Ext.refl w)⟩
  intro s6 w2 K3 h4 e5
  refine L_op (.plain rfl) rfl (ltb rfl) (X_move h4) ?_
  obtain ⟨z8, x9, H⟩ := bind_some H
  refine L_grpE 5 [(13, 18)] 17 (fun q => q = z8) ?_ ?_
  · rcases bif_two x9 with ⟨b6_, H⟩ | ⟨b6_, H⟩
    · refine L_skip rfl rfl (ltb rfl) (congrArg Value.bool b6_) rfl rfl (ltb rfl) <| L_skip rfl rfl (ltb rfl) (congrArg Value.bool b6_) rfl rfl (ltb rfl) <| L_skip rfl rfl (ltb rfl) (congrArg Value.bool b6_) rfl rfl (ltb rfl) <| L_skip rfl rfl (ltb rfl) (congrArg Value.bool b6_) rfl rfl (ltb rfl) <| L_op (.plain rfl) rfl (ltb rfl) (X_pick (b := true) (v := (.bool true)) (congrArg Value.bool b6_) rfl) ?_
      obtain rfl := Option.some.inj H
      exact L_nil <| thn_n ⟨(Kp.upd (Kp.upd (Kp.upd (Kp.upd (Kp.upd (Kp.refl _ _) rfl) rfl) rfl) rfl) rfl), ⟨_, rfl, rfl⟩, (Ext.refl w2)⟩
    · refine L_op (.guard 8 false 12 rfl rfl (ltb rfl) (congrArg Value.bool b6_)) rfl (ltb rfl) (X_move (v := (S a0)) (K3 0 rfl)) ?_
      obtain ⟨c8, H⟩ := bif_some H
      refine L_op (.guard 8 false 12 rfl rfl (ltb rfl) (congrArg Value.bool b6_)) rfl (ltb rfl) (X_indexS Try.underlying9 rfl rfl (inR_lo c8) (inR_hi c8)) <| L_callP (.guard 8 false 12 rfl rfl (ltb rfl) (congrArg Value.bool b6_)) rfl (ltb rfl) rfl Try.call22 (spec_l00Letter.calls (w := w2) (a0 := (byt a0 0))) rfl <| fun w9 e10 => L_op (.guard 8 false 12 rfl rfl (ltb rfl) (congrArg Value.bool b6_)) rfl (ltb rfl) (X_not rfl) <| L_op (.plain rfl) rfl (ltb rfl) (X_pick (b := false) (v := (.bool (!(letter (byt a0 0))))) (congrArg Value.bool b6_) rfl) ?_
      obtain rfl := Option.some.inj H
      exact L_nil <| thn_n ⟨(Kp.upd (Kp.upd (Kp.upd (Kp.upd (Kp.upd (Kp.refl _ _) rfl) rfl) rfl) rfl) rfl), ⟨_, rfl, rfl⟩, e10⟩
  intro s14 w10 z15 K11 hq h12 e13
  rw [hq] at h12; clear hq
  refine L_nil <| thn_n ?_
  rcases bif_two H with ⟨q16, H⟩ | ⟨q16, H⟩
  · refine W_true (h12.trans (congrArg Value.bool q16)) <| W_seq <| W_reg <| L_op (.plain rfl) rfl (ltb rfl) (X_assign (v := (.bool false)) rfl) <| L_nil <| thn_n <| W_ret <| thn_r <| fin_r ?_
    obtain rfl := Option.some.inj H
    exact fin1 rfl (Ext.trans e5 e13)
  · refine W_false (h12.trans (congrArg Value.bool q16)) <| W_skip <| thn_n <| W_seq <| W_seq <| W_reg <| L_op (.plain rfl) rfl (ltb rfl) (X_assign (v := (.int .i64 1)) rfl) <| L_nil <| thn_n ?_
    obtain ⟨z18, L19, C20⟩ := bind_some H
    clear H
    refine  W_cutQ (fun s0 s9 w9 => Kp [(2, 4), (18, 36)] s0 s9 ∧ Ext w10 w9 ∧ z18 = .inr ()) ?_ ?_
    · refine W_block <| W_loopI (fun s0 kk s9 w9 => ∃ (x3_17 : Int), Kp [(2, 4), (18, 36)] s0 s9 ∧ s9 3 = .int .i64 x3_17 ∧ Ext w10 w9 ∧ loopF (spec_l00Word.b1 a0) kk x3_17 = some z18) k ⟨1, (Kp.refl _ _), rfl, (Ext.refl w10), L19⟩ ?_
      rintro k25 s26 w27 ⟨x3_17, K28, h31, e29, L30⟩
      cases k25 with
      | zero => exact absurd L30 (by simp [loopF])
      | succ k25 =>
        obtain ⟨t32, H, S33⟩ := loopF_succ L30
        clear L30
        unfold spec_l00Word.b1 at H
        refine W_seq <| W_seq <| W_reg <| L_op (.plain rfl) rfl (ltb rfl) (X_move (v := (.int .i64 x3_17)) h31) <| L_op (.plain rfl) rfl (ltb rfl) (X_move (v := (S a0)) ((K28 0 rfl).trans ((K11 0 rfl).trans (K3 0 rfl)))) <| L_op (.plain rfl) rfl (ltb rfl) (X_lenS Try.underlying9 rfl) <| L_op (.plain rfl) rfl (ltb rfl) (X_lss rfl rfl) <| L_nil <| thn_n ?_
        rcases bif_two H with ⟨q34, H⟩ | ⟨q34, H⟩
        · refine W_true (congrArg Value.bool q34) <| W_skip <| thn_n <| W_seq <| W_block <| W_seq <| W_reg <| L_op (.plain rfl) rfl (ltb rfl) (X_move (v := (S a0)) ((K28 0 rfl).trans ((K11 0 rfl).trans (K3 0 rfl)))) <| L_op (.plain rfl) rfl (ltb rfl) (X_move (v := (.int .i64 x3_17)) h31) ?_
          obtain ⟨c35, H⟩ := bif_some H
          refine L_op (.plain rfl) rfl (ltb rfl) (X_indexS Try.underlying9 rfl rfl (inR_lo c35) (inR_hi c35)) <| L_callP (.plain rfl) rfl (ltb rfl) rfl Try.call22 (spec_l00Letter.calls (w := w27) (a0 := (byt a0 x3_17))) rfl <| fun w36 e37 => L_op (.plain rfl) rfl (ltb rfl) (X_not rfl) <| L_op (.plain rfl) rfl (ltb rfl) (X_move (v := (.bool (!(letter (byt a0 x3_17))))) rfl) ?_
          obtain ⟨z39, x40, H⟩ := bind_some H
          refine L_grpE 6 [(30, 36)] 35 (fun q => q = z39) ?_ ?_
          · rcases bif_two x40 with ⟨b37_, H⟩ | ⟨b37_, H⟩
            · refine L_op (.guard 5 true 29 rfl rfl (ltb rfl) (congrArg Value.bool b37_)) rfl (ltb rfl) (X_move (v := (S a0)) ((K28 0 rfl).trans ((K11 0 rfl).trans (K3 0 rfl)))) <| L_op (.guard 5 true 29 rfl rfl (ltb rfl) (congrArg Value.bool b37_)) rfl (ltb rfl) (X_move (v := (.int .i64 x3_17)) h31) ?_
              obtain ⟨c39, H⟩ := bif_some H
              refine L_op (.guard 5 true 29 rfl rfl (ltb rfl) (congrArg Value.bool b37_)) rfl (ltb rfl) (X_indexS Try.underlying9 rfl rfl (inR_lo c39) (inR_hi c39)) <| L_callP (.guard 5 true 29 rfl rfl (ltb rfl) (congrArg Value.bool b37_)) rfl (ltb rfl) rfl Try.call23 (spec_l00Digit.calls (w := w36) (a0 := (byt a0 x3_17))) rfl <| fun w40 e41 => L_op (.guard 5 true 29 rfl rfl (ltb rfl) (congrArg Value.bool b37_)) rfl (ltb rfl) (X_not rfl) <| L_op (.plain rfl) rfl (ltb rfl) (X_pick (b := true) (v := (.bool (!(digit (byt a0 x3_17))))) (congrArg Value.bool b37_) rfl) ?_
              obtain rfl := Option.some.inj H
              exact L_nil <| thn_n ⟨(Kp.upd (Kp.upd (Kp.upd (Kp.upd (Kp.upd (Kp.upd (Kp.refl _ _) rfl) rfl) rfl) rfl) rfl) rfl), ⟨_, rfl, rfl⟩, e41⟩
            · refine L_skip rfl rfl (ltb rfl) (congrArg Value.bool b37_) rfl rfl (ltb rfl) <| L_skip rfl rfl (ltb rfl) (congrArg Value.bool b37_) rfl rfl (ltb rfl) <| L_skip rfl rfl (ltb rfl) (congrArg Value.bool b37_) rfl rfl (ltb rfl) <| L_skip rfl rfl (ltb rfl) (congrArg Value.bool b37_) rfl rfl (ltb rfl) <| L_skip rfl rfl (ltb rfl) (congrArg Value.bool b37_) rfl rfl (ltb rfl) <| L_op (.plain rfl) rfl (ltb rfl) (X_pick (b := false) (v := (.bool false)) (congrArg Value.bool b37_) rfl) ?_
              obtain rfl := Option.some.inj H
              exact L_nil <| thn_n ⟨(Kp.upd (Kp.upd (Kp.upd (Kp.upd (Kp.upd (Kp.upd (Kp.refl _ _) rfl) rfl) rfl) rfl) rfl) rfl), ⟨_, rfl, rfl⟩, (Ext.refl w36)⟩
          intro s45 w41 z46 K42 hq h43 e44
          rw [hq] at h43; clear hq
          refine L_nil <| thn_n ?_
          rcases bif_two H with ⟨q47, H⟩ | ⟨q47, H⟩
          · refine W_true (h43.trans (congrArg Value.bool q47)) <| W_seq <| W_reg <| L_op (.plain rfl) rfl (ltb rfl) (X_assign (v := (.bool false)) rfl) <| L_nil <| thn_n <| W_ret <| blk_r <| thn_r <| thn_r <| blk_r <| thn_r <| thn_r <| fin_r ?_
            obtain rfl := Option.some.inj H
            obtain rfl := Option.some.inj S33
            have H := C20
            obtain rfl := Option.some.inj H
            exact fin1 rfl (Ext.trans (Ext.trans (Ext.trans (Ext.trans e5 e13) e29) e37) e44)
          · refine W_false (h43.trans (congrArg Value.bool q47)) <| W_skip <| blk_n <| thn_n <| W_reg <| L_op (.plain rfl) rfl (ltb rfl) (X_move (v := (.int .i64 x3_17)) ((K42 3 rfl).trans h31)) <| L_op (.plain rfl) rfl (ltb rfl) (X_add rfl rfl) <| L_op (.plain rfl) rfl (ltb rfl) (X_assign (v := (.int .i64 (IntKind.wrap .i64 (x3_17 + 1)))) rfl) <| L_nil <| thn_n ?_
            obtain rfl := Option.some.inj H
            exact ⟨_, Nat.lt_succ_self _, IntKind.wrap .i64 (x3_17 + 1), (Kp.upd (Kp.upd (Kp.upd (Kp.cut (Kp.upd (Kp.upd (Kp.upd (Kp.upd (Kp.upd (Kp.upd (Kp.upd (Kp.upd (Kp.upd (Kp.upd K28 rfl) rfl) rfl) rfl) rfl) rfl) rfl) rfl) rfl) rfl) K42 rfl) rfl) rfl) rfl), rfl, (Ext.trans (Ext.trans e29 e37) e44), S33⟩
        · refine W_false (congrArg Value.bool q34) <| W_exit <| thn_x <| thn_x <| blk_x <| thn_n ?_
          obtain rfl := Option.some.inj H
          obtain rfl := Option.some.inj S33
          exact ⟨(Kp.upd (Kp.upd (Kp.upd (Kp.upd K28 rfl) rfl) rfl) rfl), e29, rfl⟩
    · rintro s22 w21 ⟨K23, e24, y48⟩
      rw [y48] at C20
      have H := C20
      replace H : _ = some _ := H
      refine thn_n <| W_seq <| W_reg <| L_op (.plain rfl) rfl (ltb rfl) (X_assign (v := (.bool true)) rfl) <| L_nil <| thn_n <| W_ret <| fin_r ?_
      obtain rfl := Option.some.inj H
      exact fin1 rfl (Ext.trans (Ext.trans e5 e13) e24)
theorem spec_l00Word.calls {w : World} {a0 : List UInt8} (h0 : a0.length ≤ 4611686018427387904) :
    Calls Try.prog 20 #[S a0] w (Rt (RP w (.bool (nameOK a0)))) := by
  obtain ⟨k, h⟩ := spec_l00Word.eq a0 h0
  exact spec_l00Word.walk h
/-! spec.NameOK -/
theorem spec_NameOK.walk {w : World} {a0 : List UInt8} {r : Bool} (H : spec_NameOK.sh a0 = some r) :
    Calls Try.prog 14 #[S a0] w (Rt (RP w (.bool r))) := by
  unfold spec_NameOK.sh at H
  refine calls_of_W Try.func14 rfl (Nat.le_of_ble_eq_true rfl) Try.ntmps14 rfl ?_
  refine W_seq <| W_reg <| L_op (.plain rfl) rfl (ltb rfl) (X_assign (v := (.bool false)) rfl) <| L_nil <| thn_n <| W_seq <| W_reg <| L_op (.plain rfl) rfl (ltb rfl) (X_move (v := (S a0)) rfl) ?_
  obtain ⟨c1, H⟩ := bif_some H
  refine L_callP (.plain rfl) rfl (ltb rfl) rfl Try.call20 (spec_l00Word.calls (w := w) (a0 := a0) (of_decide_eq_true c1)) rfl <| fun w2 e3 => L_op (.plain rfl) rfl (ltb rfl) (X_assign (v := (.bool (nameOK a0))) rfl) <| L_nil <| thn_n <| W_ret <| fin_r ?_
  obtain rfl := Option.some.inj H
  exact fin1 rfl e3
theorem spec_NameOK.calls {w : World} {a0 : List UInt8} (h0 : a0.length ≤ 4611686018427387904) :
    Calls Try.prog 14 #[S a0] w (Rt (RP w (.bool (nameOK a0)))) := spec_NameOK.walk (spec_NameOK.eq a0 h0)
/-! impl.NameOK -/
theorem impl_NameOK.walk {k : Nat} {w : World} {a0 : List UInt8} {r : Bool} (H : impl_NameOK.sh k a0 = some r) :
    Calls Try.prog 15 #[S a0] w (Rt (RP w (.bool r))) := by
  unfold impl_NameOK.sh at H
  refine calls_of_W Try.func15 rfl (Nat.le_of_ble_eq_true rfl) Try.ntmps15 rfl ?_
  refine W_seq <| W_reg <| L_op (.plain rfl) rfl (ltb rfl) (X_assign (v := (.bool false)) rfl) <| L_nil <| thn_n <| W_seq <| W_seq <| W_reg <| L_op (.plain rfl) rfl (ltb rfl) (X_move (v := (S a0)) rfl) <| L_op (.plain rfl) rfl (ltb rfl) (X_lenS Try.underlying9 rfl) <| L_op (.plain rfl) rfl (ltb rfl) (X_move (v := (.int .i64 0)) rfl) <| L_nil <| thn_n ?_
  obtain ⟨z2, L3, C4⟩ := bind_some H
  clear H
  refine  W_cutQ (fun s0 s9 w9 => Kp [(2, 6), (8, 47)] s0 s9 ∧ Ext w w9 ∧ z2 = .inr ()) ?_ ?_
  · refine W_block <| W_loopI (fun s0 kk s9 w9 => ∃ (x8_1 : Int), Kp [(2, 6), (8, 47)] s0 s9 ∧ s9 8 = .int .i64 x8_1 ∧ Ext w w9 ∧ loopF (impl_NameOK.b1 a0) kk x8_1 = some z2) k ⟨0, (Kp.refl _ _), rfl, (Ext.refl w), L3⟩ ?_
    rintro k9 s10 w11 ⟨x8_1, K12, h15, e13, L14⟩
    cases k9 with
    | zero => exact absurd L14 (by simp [loopF])
    | succ k9 =>
      obtain ⟨t16, H, S17⟩ := loopF_succ L14
      clear L14
      unfold impl_NameOK.b1 at H
      refine W_seq <| W_reg <| L_op (.plain rfl) rfl (ltb rfl) (X_lss h15 (K12 7 rfl)) <| L_nil <| thn_n <| W_seq ?_
      rcases bif_two H with ⟨q18, H⟩ | ⟨q18, H⟩
      · refine W_true (congrArg Value.bool q18) <| W_skip <| thn_n <| W_seq <| W_block <| W_seq <| W_reg <| L_op (.plain rfl) rfl (ltb rfl) (X_move (v := (.int .i64 x8_1)) h15) <| L_op (.plain rfl) rfl (ltb rfl) (X_assign (v := (.int .i64 x8_1)) rfl) <| L_nil <| thn_n <| W_seq <| W_reg <| L_op (.plain rfl) rfl (ltb rfl) (X_move (v := (S a0)) (K12 0 rfl)) <| L_op (.plain rfl) rfl (ltb rfl) (X_move (v := (.int .i64 x8_1)) rfl) ?_
        obtain ⟨c19, H⟩ := bif_some H
        refine L_op (.plain rfl) rfl (ltb rfl) (X_indexS Try.underlying9 rfl rfl (inR_lo c19) (inR_hi c19)) <| L_op (.plain rfl) rfl (ltb rfl) (X_assign (v := (.int .u8 (byt a0 x8_1))) rfl) <| L_nil <| thn_n <| W_seq <| W_reg <| L_op (.plain rfl) rfl (ltb rfl) (X_move (v := (.int .u8 (byt a0 x8_1))) rfl) <| L_op (.plain rfl) rfl (ltb rfl) (X_geq rfl rfl) <| L_op (.plain rfl) rfl (ltb rfl) (X_move (v := (.bool (decide (97 ≤ (byt a0 x8_1))))) rfl) <| L_grp 3 [(17, 20)] 19 (.bool ((decide (97 ≤ (byt a0 x8_1))) && (decide ((byt a0 x8_1) ≤ 122)))) ?_ ?_
        · rcases bool_two (decide (97 ≤ (byt a0 x8_1))) with b19_ | b19_
          · exact L_op (.guard 2 true 16 rfl rfl (ltb rfl) (congrArg Value.bool b19_)) rfl (ltb rfl) (X_move (v := (.int .u8 (byt a0 x8_1))) rfl) <| L_op (.guard 2 true 16 rfl rfl (ltb rfl) (congrArg Value.bool b19_)) rfl (ltb rfl) (X_leq rfl rfl) <| L_op (.plain rfl) rfl (ltb rfl) (X_pick (b := true) (v := (.bool (decide ((byt a0 x8_1) ≤ 122)))) (congrArg Value.bool b19_) rfl) <| L_nil <| thn_n ⟨(Kp.upd (Kp.upd (Kp.upd (Kp.refl _ _) rfl) rfl) rfl), (and_t b19_), (Ext.refl w11)⟩
          · exact L_skip rfl rfl (ltb rfl) (congrArg Value.bool b19_) rfl rfl (ltb rfl) <| L_skip rfl rfl (ltb rfl) (congrArg Value.bool b19_) rfl rfl (ltb rfl) <| L_op (.plain rfl) rfl (ltb rfl) (X_pick (b := false) (v := (.bool false)) (congrArg Value.bool b19_) rfl) <| L_nil <| thn_n ⟨(Kp.upd (Kp.upd (Kp.upd (Kp.refl _ _) rfl) rfl) rfl), (and_f b19_), (Ext.refl w11)⟩
        intro s25 w21 K22 h23 e24
        refine L_op (.plain rfl) rfl (ltb rfl) (X_move h23) <| L_grp 7 [(21, 28)] 27 (.bool (((decide (97 ≤ (byt a0 x8_1))) && (decide ((byt a0 x8_1) ≤ 122))) || ((decide (65 ≤ (byt a0 x8_1))) && (decide ((byt a0 x8_1) ≤ 90))))) ?_ ?_
        · rcases bool_two ((decide (97 ≤ (byt a0 x8_1))) && (decide ((byt a0 x8_1) ≤ 122))) with b25_ | b25_
          · exact L_skip rfl rfl (ltb rfl) (congrArg Value.bool b25_) rfl rfl (ltb rfl) <| L_skip rfl rfl (ltb rfl) (congrArg Value.bool b25_) rfl rfl (ltb rfl) <| L_skip rfl rfl (ltb rfl) (congrArg Value.bool b25_) rfl rfl (ltb rfl) <| L_skipU rfl rfl (ltb rfl) rfl rfl (ltb rfl) <| L_skipU rfl rfl (ltb rfl) rfl rfl (ltb rfl) <| L_skip rfl rfl (ltb rfl) (congrArg Value.bool b25_) rfl rfl (ltb rfl) <| L_op (.plain rfl) rfl (ltb rfl) (X_pick (b := true) (v := (.bool true)) (congrArg Value.bool b25_) rfl) <| L_nil <| thn_n ⟨(Kp.upd (Kp.upd (Kp.upd (Kp.upd (Kp.upd (Kp.upd (Kp.upd (Kp.refl _ _) rfl) rfl) rfl) rfl) rfl) rfl) rfl), (or_t b25_), (Ext.refl w21)⟩
          · refine L_op (.guard 6 false 20 rfl rfl (ltb rfl) (congrArg Value.bool b25_)) rfl (ltb rfl) (X_move (v := (.int .u8 (byt a0 x8_1))) (K22 4 rfl)) <| L_op (.guard 6 false 20 rfl rfl (ltb rfl) (congrArg Value.bool b25_)) rfl (ltb rfl) (X_geq rfl rfl) <| L_op (.guard 6 false 20 rfl rfl (ltb rfl) (congrArg Value.bool b25_)) rfl (ltb rfl) (X_move (v := (.bool (decide (65 ≤ (byt a0 x8_1))))) rfl) <| L_grp 3 [(24, 27)] 26 (.bool ((decide (65 ≤ (byt a0 x8_1))) && (decide ((byt a0 x8_1) ≤ 90)))) ?_ ?_
            · rcases bool_two (decide (65 ≤ (byt a0 x8_1))) with b26_ | b26_
              · exact L_op (.guard 9 true 23 rfl rfl (ltb rfl) (congrArg Value.bool b26_)) rfl (ltb rfl) (X_move (v := (.int .u8 (byt a0 x8_1))) (K22 4 rfl)) <| L_op (.guard 9 true 23 rfl rfl (ltb rfl) (congrArg Value.bool b26_)) rfl (ltb rfl) (X_leq rfl rfl) <| L_op (.guard 6 false 20 rfl rfl (ltb rfl) (congrArg Value.bool b25_)) rfl (ltb rfl) (X_pick (b := true) (v := (.bool (decide ((byt a0 x8_1) ≤ 90)))) (congrArg Value.bool b26_) rfl) <| L_nil <| thn_n ⟨(Kp.upd (Kp.upd (Kp.upd (Kp.refl _ _) rfl) rfl) rfl), (and_t b26_), (Ext.refl w21)⟩
              · exact L_skip rfl rfl (ltb rfl) (congrArg Value.bool b26_) rfl rfl (ltb rfl) <| L_skip rfl rfl (ltb rfl) (congrArg Value.bool b26_) rfl rfl (ltb rfl) <| L_op (.guard 6 false 20 rfl rfl (ltb rfl) (congrArg Value.bool b25_)) rfl (ltb rfl) (X_pick (b := false) (v := (.bool false)) (congrArg Value.bool b26_) rfl) <| L_nil <| thn_n ⟨(Kp.upd (Kp.upd (Kp.upd (Kp.refl _ _) rfl) rfl) rfl), (and_f b26_), (Ext.refl w21)⟩
            intro s32 w28 K29 h30 e31
            exact L_op (.plain rfl) rfl (ltb rfl) (X_pick (b := false) (v := (.bool ((decide (65 ≤ (byt a0 x8_1))) && (decide ((byt a0 x8_1) ≤ 90))))) ((K29 20 rfl).trans (congrArg Value.bool b25_)) h30) <| L_nil <| thn_n ⟨(Kp.upd (Kp.cut (Kp.upd (Kp.upd (Kp.upd (Kp.refl _ _) rfl) rfl) rfl) K29 rfl) rfl), (or_f b25_), e31⟩
        intro s33 w27 K28 h29 e30
        refine L_op (.plain rfl) rfl (ltb rfl) (X_move h29) <| L_grp 3 [(29, 32)] 31 (.bool ((((decide (97 ≤ (byt a0 x8_1))) && (decide ((byt a0 x8_1) ≤ 122))) || ((decide (65 ≤ (byt a0 x8_1))) && (decide ((byt a0 x8_1) ≤ 90)))) || (decide ((byt a0 x8_1) = 95)))) ?_ ?_
        · rcases bool_two (((decide (97 ≤ (byt a0 x8_1))) && (decide ((byt a0 x8_1) ≤ 122))) || ((decide (65 ≤ (byt a0 x8_1))) && (decide ((byt a0 x8_1) ≤ 90)))) with b33_ | b33_
          · exact L_skip rfl rfl (ltb rfl) (congrArg Value.bool b33_) rfl rfl (ltb rfl) <| L_skip rfl rfl (ltb rfl) (congrArg Value.bool b33_) rfl rfl (ltb rfl) <| L_op (.plain rfl) rfl (ltb rfl) (X_pick (b := true) (v := (.bool true)) (congrArg Value.bool b33_) rfl) <| L_nil <| thn_n ⟨(Kp.upd (Kp.upd (Kp.upd (Kp.refl _ _) rfl) rfl) rfl), (or_t b33_), (Ext.refl w27)⟩
          · exact L_op (.guard 14 false 28 rfl rfl (ltb rfl) (congrArg Value.bool b33_)) rfl (ltb rfl) (X_move (v := (.int .u8 (byt a0 x8_1))) ((K28 4 rfl).trans (K22 4 rfl))) <| L_op (.guard 14 false 28 rfl rfl (ltb rfl) (congrArg Value.bool b33_)) rfl (ltb rfl) (X_eql rfl rfl) <| L_op (.plain rfl) rfl (ltb rfl) (X_pick (b := false) (v := (.bool (decide ((byt a0 x8_1) = 95)))) (congrArg Value.bool b33_) rfl) <| L_nil <| thn_n ⟨(Kp.upd (Kp.upd (Kp.upd (Kp.refl _ _) rfl) rfl) rfl), (or_f b33_), (Ext.refl w27)⟩
        intro s39 w35 K36 h37 e38
        refine L_op (.plain rfl) rfl (ltb rfl) (X_assign h37) <| L_nil <| thn_n <| W_seq <| W_reg <| L_op (.plain rfl) rfl (ltb rfl) (X_move rfl) <| L_op (.plain rfl) rfl (ltb rfl) (X_not rfl) <| L_op (.plain rfl) rfl (ltb rfl) (X_move rfl) <| L_grp 11 [(35, 46)] 45 (.bool ((!((((decide (97 ≤ (byt a0 x8_1))) && (decide ((byt a0 x8_1) ≤ 122))) || ((decide (65 ≤ (byt a0 x8_1))) && (decide ((byt a0 x8_1) ≤ 90)))) || (decide ((byt a0 x8_1) = 95)))) && (((decide (x8_1 = 0)) || (decide ((byt a0 x8_1) < 48))) || (decide (57 < (byt a0 x8_1)))))) ?_ ?_
        · rcases bool_two (!((((decide (97 ≤ (byt a0 x8_1))) && (decide ((byt a0 x8_1) ≤ 122))) || ((decide (65 ≤ (byt a0 x8_1))) && (decide ((byt a0 x8_1) ≤ 90)))) || (decide ((byt a0 x8_1) = 95)))) with b39_ | b39_
          · refine L_op (.guard 2 true 34 rfl rfl (ltb rfl) (congrArg Value.bool b39_)) rfl (ltb rfl) (X_move (v := (.int .i64 x8_1)) ((K36 3 rfl).trans ((K28 3 rfl).trans (K22 3 rfl)))) <| L_op (.guard 2 true 34 rfl rfl (ltb rfl) (congrArg Value.bool b39_)) rfl (ltb rfl) (X_eql rfl rfl) <| L_op (.guard 2 true 34 rfl rfl (ltb rfl) (congrArg Value.bool b39_)) rfl (ltb rfl) (X_move (v := (.bool (decide (x8_1 = 0)))) rfl) <| L_grp 3 [(38, 41)] 40 (.bool ((decide (x8_1 = 0)) || (decide ((byt a0 x8_1) < 48)))) ?_ ?_
            · rcases bool_two (decide (x8_1 = 0)) with b40_ | b40_
              · exact L_skip rfl rfl (ltb rfl) (congrArg Value.bool b40_) rfl rfl (ltb rfl) <| L_skip rfl rfl (ltb rfl) (congrArg Value.bool b40_) rfl rfl (ltb rfl) <| L_op (.guard 2 true 34 rfl rfl (ltb rfl) (congrArg Value.bool b39_)) rfl (ltb rfl) (X_pick (b := true) (v := (.bool true)) (congrArg Value.bool b40_) rfl) <| L_nil <| thn_n ⟨(Kp.upd (Kp.upd (Kp.upd (Kp.refl _ _) rfl) rfl) rfl), (or_t b40_), (Ext.refl w35)⟩
              · exact L_op (.guard 5 false 37 rfl rfl (ltb rfl) (congrArg Value.bool b40_)) rfl (ltb rfl) (X_move (v := (.int .u8 (byt a0 x8_1))) ((K36 4 rfl).trans ((K28 4 rfl).trans (K22 4 rfl)))) <| L_op (.guard 5 false 37 rfl rfl (ltb rfl) (congrArg Value.bool b40_)) rfl (ltb rfl) (X_lss rfl rfl) <| L_op (.guard 2 true 34 rfl rfl (ltb rfl) (congrArg Value.bool b39_)) rfl (ltb rfl) (X_pick (b := false) (v := (.bool (decide ((byt a0 x8_1) < 48)))) (congrArg Value.bool b40_) rfl) <| L_nil <| thn_n ⟨(Kp.upd (Kp.upd (Kp.upd (Kp.refl _ _) rfl) rfl) rfl), (or_f b40_), (Ext.refl w35)⟩
            intro s46 w42 K43 h44 e45
            refine L_op (.guard 2 true 34 rfl rfl (ltb rfl) ((K43 34 rfl).trans (congrArg Value.bool b39_))) rfl (ltb rfl) (X_move (v := (.bool ((decide (x8_1 = 0)) || (decide ((byt a0 x8_1) < 48))))) h44) <| L_grp 3 [(42, 45)] 44 (.bool (((decide (x8_1 = 0)) || (decide ((byt a0 x8_1) < 48))) || (decide (57 < (byt a0 x8_1))))) ?_ ?_
            · rcases bool_two ((decide (x8_1 = 0)) || (decide ((byt a0 x8_1) < 48))) with b46_ | b46_
              · exact L_skip rfl rfl (ltb rfl) (congrArg Value.bool b46_) rfl rfl (ltb rfl) <| L_skip rfl rfl (ltb rfl) (congrArg Value.bool b46_) rfl rfl (ltb rfl) <| L_op (.guard 2 true 34 rfl rfl (ltb rfl) ((K43 34 rfl).trans (congrArg Value.bool b39_))) rfl (ltb rfl) (X_pick (b := true) (v := (.bool true)) (congrArg Value.bool b46_) rfl) <| L_nil <| thn_n ⟨(Kp.upd (Kp.upd (Kp.upd (Kp.refl _ _) rfl) rfl) rfl), (or_t b46_), (Ext.refl w42)⟩
              · exact L_op (.guard 9 false 41 rfl rfl (ltb rfl) (congrArg Value.bool b46_)) rfl (ltb rfl) (X_move (v := (.int .u8 (byt a0 x8_1))) ((K43 4 rfl).trans ((K36 4 rfl).trans ((K28 4 rfl).trans (K22 4 rfl))))) <| L_op (.guard 9 false 41 rfl rfl (ltb rfl) (congrArg Value.bool b46_)) rfl (ltb rfl) (X_gtr rfl rfl) <| L_op (.guard 2 true 34 rfl rfl (ltb rfl) ((K43 34 rfl).trans (congrArg Value.bool b39_))) rfl (ltb rfl) (X_pick (b := false) (v := (.bool (decide (57 < (byt a0 x8_1))))) (congrArg Value.bool b46_) rfl) <| L_nil <| thn_n ⟨(Kp.upd (Kp.upd (Kp.upd (Kp.refl _ _) rfl) rfl) rfl), (or_f b46_), (Ext.refl w42)⟩
            intro s52 w48 K49 h50 e51
            exact L_op (.plain rfl) rfl (ltb rfl) (X_pick (b := true) (v := (.bool (((decide (x8_1 = 0)) || (decide ((byt a0 x8_1) < 48))) || (decide (57 < (byt a0 x8_1)))))) (((K49 34 rfl).trans (K43 34 rfl)).trans (congrArg Value.bool b39_)) h50) <| L_nil <| thn_n ⟨(Kp.upd (Kp.cut (Kp.upd (Kp.cut (Kp.upd (Kp.upd (Kp.upd (Kp.refl _ _) rfl) rfl) rfl) K43 rfl) rfl) K49 rfl) rfl), (and_t b39_), (Ext.trans e45 e51)⟩
          · exact L_skip rfl rfl (ltb rfl) (congrArg Value.bool b39_) rfl rfl (ltb rfl) <| L_skip rfl rfl (ltb rfl) (congrArg Value.bool b39_) rfl rfl (ltb rfl) <| L_skip rfl rfl (ltb rfl) (congrArg Value.bool b39_) rfl rfl (ltb rfl) <| L_skipU rfl rfl (ltb rfl) rfl rfl (ltb rfl) <| L_skipU rfl rfl (ltb rfl) rfl rfl (ltb rfl) <| L_skip rfl rfl (ltb rfl) (congrArg Value.bool b39_) rfl rfl (ltb rfl) <| L_skip rfl rfl (ltb rfl) (congrArg Value.bool b39_) rfl rfl (ltb rfl) <| L_skipU rfl rfl (ltb rfl) rfl rfl (ltb rfl) <| L_skipU rfl rfl (ltb rfl) rfl rfl (ltb rfl) <| L_skip rfl rfl (ltb rfl) (congrArg Value.bool b39_) rfl rfl (ltb rfl) <| L_op (.plain rfl) rfl (ltb rfl) (X_pick (b := false) (v := (.bool false)) (congrArg Value.bool b39_) rfl) <| L_nil <| thn_n ⟨(Kp.upd (Kp.upd (Kp.upd (Kp.upd (Kp.upd (Kp.upd (Kp.upd (Kp.upd (Kp.upd (Kp.upd (Kp.upd (Kp.refl _ _) rfl) rfl) rfl) rfl) rfl) rfl) rfl) rfl) rfl) rfl) rfl), (and_f b39_), (Ext.refl w35)⟩
        intro s53 w41 K42 h43 e44
        refine L_nil <| thn_n ?_
        rcases bif_two H with ⟨q54, H⟩ | ⟨q54, H⟩
        · refine W_true (h43.trans (congrArg Value.bool q54)) <| W_seq <| W_reg <| L_op (.plain rfl) rfl (ltb rfl) (X_assign (v := (.bool false)) rfl) <| L_nil <| thn_n <| W_ret <| blk_r <| thn_r <| thn_r <| blk_r <| thn_r <| thn_r <| fin_r ?_
          obtain rfl := Option.some.inj H
          obtain rfl := Option.some.inj S17
          have H := C4
          obtain rfl := Option.some.inj H
          exact fin1 rfl (Ext.trans (Ext.trans (Ext.trans (Ext.trans e13 e24) e30) e38) e44)
        · refine W_false (h43.trans (congrArg Value.bool q54)) <| W_skip <| blk_n <| thn_n <| W_reg <| L_op (.plain rfl) rfl (ltb rfl) (X_add ((K42 8 rfl).trans ((K36 8 rfl).trans ((K28 8 rfl).trans ((K22 8 rfl).trans h15)))) rfl) <| L_op (.plain rfl) rfl (ltb rfl) (X_move (v := (.int .i64 (IntKind.wrap .i64 (x8_1 + 1)))) rfl) <| L_nil <| thn_n ?_
          obtain rfl := Option.some.inj H
          exact ⟨_, Nat.lt_succ_self _, IntKind.wrap .i64 (x8_1 + 1), (Kp.upd (Kp.upd (Kp.cut (Kp.upd (Kp.upd (Kp.upd (Kp.upd (Kp.cut (Kp.upd (Kp.cut (Kp.upd (Kp.cut (Kp.upd (Kp.upd (Kp.upd (Kp.upd (Kp.upd (Kp.upd (Kp.upd (Kp.upd (Kp.upd (Kp.upd K12 rfl) rfl) rfl) rfl) rfl) rfl) rfl) rfl) rfl) rfl) K22 rfl) rfl) K28 rfl) rfl) K36 rfl) rfl) rfl) rfl) rfl) K42 rfl) rfl) rfl), rfl, (Ext.trans (Ext.trans (Ext.trans (Ext.trans e13 e24) e30) e38) e44), S17⟩
      · refine W_false (congrArg Value.bool q18) <| W_exit <| thn_x <| thn_x <| blk_x <| thn_n ?_
        obtain rfl := Option.some.inj H
        obtain rfl := Option.some.inj S17
        exact ⟨(Kp.upd K12 rfl), e13, rfl⟩
  · rintro s6 w5 ⟨K7, e8, y55⟩
    rw [y55] at C4
    have H := C4
    replace H : _ = some _ := H
    refine thn_n <| W_seq <| W_reg <| L_op (.plain rfl) rfl (ltb rfl) (X_move (v := (S a0)) (K7 0 rfl)) <| L_op (.plain rfl) rfl (ltb rfl) (X_lenS Try.underlying9 rfl) <| L_callP (.plain rfl) rfl (ltb rfl) rfl Try.call16 (impl_within.calls (w := w5) (a0 := (a0.length : Int)) (a1 := 1) (a2 := 12)) rfl <| fun w56 e57 => L_op (.plain rfl) rfl (ltb rfl) (X_assign (v := (.bool (within (a0.length : Int) 1 12))) rfl) <| L_nil <| thn_n <| W_ret <| fin_r ?_
    obtain rfl := Option.some.inj H
    exact fin1 rfl (Ext.trans e8 e57)
theorem impl_NameOK.calls {w : World} {a0 : List UInt8} (h0 : a0.length ≤ 4611686018427387904) :
    Calls Try.prog 15 #[S a0] w (Rt (RP w (.bool (nameOK a0)))) := by
  obtain ⟨k, h⟩ := impl_NameOK.eq a0 h0
  exact impl_NameOK.walk h
/-! impl.codeWords -/
theorem impl_codeWords.walk {w : World}  {r : List (List UInt8)} (H : impl_codeWords.sh = some r) :
    Calls Try.prog 17 #[] w (Rt (RO 9 1 encS w r)) := by
  unfold impl_codeWords.sh at H
  refine calls_of_W Try.func17 rfl (Nat.le_of_ble_eq_true rfl) Try.ntmps17 rfl ?_
  refine W_seq <| W_reg <| L_op (.plain rfl) rfl (ltb rfl) (X_assign (v := (.slice none 0 0)) rfl) <| L_nil <| thn_n <| W_seq <| W_reg <| L_lit (.plain rfl) rfl (ltb rfl) rfl Try.underlying27 Try.sizeOf9 Try.zeroValue9 rfl rfl rfl (vs := [(S ([111, 107] : List UInt8)), (S ([98, 97, 100] : List UInt8)), (S ([108, 111, 110, 103] : List UInt8)), (S ([102, 111, 114, 109] : List UInt8)), (S ([114, 97, 110, 103, 101] : List UInt8)), (S ([110, 111, 110, 101] : List UInt8)), (S ([109, 97, 110, 121] : List UInt8)), (S ([102, 117, 108, 108] : List UInt8)), (S ([115, 105, 122, 101] : List UInt8)), (S ([107, 105, 110, 100] : List UInt8)), (S ([110, 97, 109, 101] : List UInt8)), (S ([111, 114, 100, 101, 114] : List UInt8)), (S ([111, 114, 112, 104, 97, 110] : List UInt8)), (S ([110, 111, 116, 100, 105, 114] : List UInt8)), (S ([105, 115, 100, 105, 114] : List UInt8)), (S ([115, 117, 109] : List UInt8)), (S ([102, 97, 117, 108, 116] : List UInt8)), (S ([115, 116, 97, 116, 101] : List UInt8)), (S ([115, 97, 109, 101] : List UInt8))]) rfl (lit_all rfl) <| fun b1 w2 z3 z4 e5 k6 => L_op (.plain rfl) rfl (ltb rfl) (X_assign (v := (.slice (some ⟨b1, 0, none⟩) 19 19)) rfl) <| L_nil <| thn_n <| W_ret <| fin_r ?_
  obtain rfl := Option.some.inj H
  exact fin1o rfl e5 (Own.new (xs := impl_codeWords.lit1) (sz := 1) (enc := encS) (base := w.heap.size) k6 (Nat.le_of_eq z3) rfl (fun _ _ => rfl) (Nat.le_of_ble_eq_true rfl)) ((Ext.refl w)).size
theorem impl_codeWords.calls {w : World}  :
    Calls Try.prog 17 #[] w (Rt (RO 9 1 encS w codeWords)) := impl_codeWords.walk (impl_codeWords.eq)
/-! spec.CodeWord -/
theorem spec_CodeWord.walk {w : World} {a0 : Int} {r : List UInt8} (H : spec_CodeWord.sh a0 = some r) :
    Calls Try.prog 8 #[.int .i64 a0] w (Rt (RP w (S r))) := by
  unfold spec_CodeWord.sh at H
  refine calls_of_W Try.func8 rfl (Nat.le_of_ble_eq_true rfl) Try.ntmps8 rfl ?_
  refine W_seq <| W_reg <| L_op (.plain rfl) rfl (ltb rfl) (X_assign (v := (S ([] : List UInt8))) rfl) <| L_nil <| thn_n <| W_seq <| W_reg <| L_lit (.plain rfl) rfl (ltb rfl) rfl Try.underlying27 Try.sizeOf9 Try.zeroValue9 rfl rfl rfl (vs := [(S ([111, 107] : List UInt8)), (S ([98, 97, 100] : List UInt8)), (S ([108, 111, 110, 103] : List UInt8)), (S ([102, 111, 114, 109] : List UInt8)), (S ([114, 97, 110, 103, 101] : List UInt8)), (S ([110, 111, 110, 101] : List UInt8)), (S ([109, 97, 110, 121] : List UInt8)), (S ([102, 117, 108, 108] : List UInt8)), (S ([115, 105, 122, 101] : List UInt8)), (S ([107, 105, 110, 100] : List UInt8)), (S ([110, 97, 109, 101] : List UInt8)), (S ([111, 114, 100, 101, 114] : List UInt8)), (S ([111, 114, 112, 104, 97, 110] : List UInt8)), (S ([110, 111, 116, 100, 105, 114] : List UInt8)), (S ([105, 115, 100, 105, 114] : List UInt8)), (S ([115, 117, 109] : List UInt8)), (S ([102, 97, 117, 108, 116] : List UInt8)), (S ([115, 116, 97, 116, 101] : List UInt8)), (S ([115, 97, 109, 101] : List UInt8))]) rfl (lit_all rfl) <| fun b1 w2 z3 z4 e5 k6 => L_op (.plain rfl) rfl (ltb rfl) (X_assign (v := (.slice (some ⟨b1, 0, none⟩) 19 19)) rfl) <| L_nil <| thn_n <| W_seq <| W_seq <| W_reg <| L_op (.plain rfl) rfl (ltb rfl) (X_move (v := (.int .i64 a0)) rfl) <| L_op (.plain rfl) rfl (ltb rfl) (X_lss rfl rfl) <| L_op (.plain rfl) rfl (ltb rfl) (X_move (v := (.bool (decide (a0 < 0)))) rfl) <| L_grp 5 [(8, 13)] 12 (.bool ((decide (a0 < 0)) || (decide ((spec_CodeWord.lit1.length : Int) ≤ a0)))) ?_ ?_
  · rcases bool_two (decide (a0 < 0)) with b6_ | b6_
    · exact L_skip rfl rfl (ltb rfl) (congrArg Value.bool b6_) rfl rfl (ltb rfl) <| L_skip rfl rfl (ltb rfl) (congrArg Value.bool b6_) rfl rfl (ltb rfl) <| L_skip rfl rfl (ltb rfl) (congrArg Value.bool b6_) rfl rfl (ltb rfl) <| L_skip rfl rfl (ltb rfl) (congrArg Value.bool b6_) rfl rfl (ltb rfl) <| L_op (.plain rfl) rfl (ltb rfl) (X_pick (b := true) (v := (.bool true)) (congrArg Value.bool b6_) rfl) <| L_nil <| thn_n ⟨(Kp.upd (Kp.upd (Kp.upd (Kp.upd (Kp.upd (Kp.refl _ _) rfl) rfl) rfl) rfl) rfl), (or_t b6_), (Ext.refl w2)⟩
    · exact L_op (.guard 2 false 7 rfl rfl (ltb rfl) (congrArg Value.bool b6_)) rfl (ltb rfl) (X_move (v := (.int .i64 a0)) rfl) <| L_op (.guard 2 false 7 rfl rfl (ltb rfl) (congrArg Value.bool b6_)) rfl (ltb rfl) (X_move (v := (.slice (some ⟨b1, 0, none⟩) 19 19)) rfl) <| L_op (.guard 2 false 7 rfl rfl (ltb rfl) (congrArg Value.bool b6_)) rfl (ltb rfl) (X_lenR Try.underlying27 rfl (Own.rd (Own.new (xs := spec_CodeWord.lit1) (sz := 1) (enc := encS) (base := w.heap.size) k6 (Nat.le_of_eq z3) rfl (fun _ _ => rfl) (Nat.le_of_ble_eq_true rfl)))) <| L_op (.guard 2 false 7 rfl rfl (ltb rfl) (congrArg Value.bool b6_)) rfl (ltb rfl) (X_geq rfl rfl) <| L_op (.plain rfl) rfl (ltb rfl) (X_pick (b := false) (v := (.bool (decide ((spec_CodeWord.lit1.length : Int) ≤ a0)))) (congrArg Value.bool b6_) rfl) <| L_nil <| thn_n ⟨(Kp.upd (Kp.upd (Kp.upd (Kp.upd (Kp.upd (Kp.refl _ _) rfl) rfl) rfl) rfl) rfl), (or_f b6_), (Ext.refl w2)⟩
  intro s12 w8 K9 h10 e11
  refine L_nil <| thn_n ?_
  rcases bif_two H with ⟨q13, H⟩ | ⟨q13, H⟩
  · refine W_true (h10.trans (congrArg Value.bool q13)) <| W_seq <| W_reg <| L_op (.plain rfl) rfl (ltb rfl) (X_assign (v := (S ([] : List UInt8))) rfl) <| L_nil <| thn_n <| W_ret <| thn_r <| fin_r ?_
    obtain rfl := Option.some.inj H
    exact fin1 rfl (Ext.trans e5 e11)
  · refine W_false (h10.trans (congrArg Value.bool q13)) <| W_skip <| thn_n <| W_seq <| W_reg <| L_op (.plain rfl) rfl (ltb rfl) (X_move (v := (.slice (some ⟨b1, 0, none⟩) 19 19)) (K9 3 rfl)) <| L_op (.plain rfl) rfl (ltb rfl) (X_move (v := (.int .i64 a0)) (K9 0 rfl)) ?_
    obtain ⟨c14, H⟩ := bif_some H
    refine L_idx (.plain rfl) rfl (ltb rfl) rfl Try.underlying27 Try.sizeOf9 rfl (Own.rd (Own.ext (Own.new (xs := spec_CodeWord.lit1) (sz := 1) (enc := encS) (base := w.heap.size) k6 (Nat.le_of_eq z3) rfl (fun _ _ => rfl) (Nat.le_of_ble_eq_true rfl)) e11)) rfl c14 <| fun p15 h16 => L_op (.plain rfl) rfl (ltb rfl) (X_loadAt Try.isAgg9 rfl h16 rfl) <| L_op (.plain rfl) rfl (ltb rfl) (X_assign (v := (S (gt spec_CodeWord.lit1 a0))) rfl) <| L_nil <| thn_n <| W_ret <| fin_r ?_
    obtain rfl := Option.some.inj H
    exact fin1 rfl (Ext.trans e5 e11)
theorem spec_CodeWord.calls {w : World} {a0 : Int} :
    Calls Try.prog 8 #[.int .i64 a0] w (Rt (RP w (S (codeWord a0)))) := spec_CodeWord.walk (spec_CodeWord.eq a0)
/-! impl.CodeWord -/
theorem impl_CodeWord.walk {w : World} {a0 : Int} {r : List UInt8} (H : impl_CodeWord.sh a0 = some r) :
    Calls Try.prog 9 #[.int .i64 a0] w (Rt (RP w (S r))) := by
  unfold impl_CodeWord.sh at H
  refine calls_of_W Try.func9 rfl (Nat.le_of_ble_eq_true rfl) Try.ntmps9 rfl ?_
  refine W_seq <| W_reg <| L_op (.plain rfl) rfl (ltb rfl) (X_assign (v := (S ([] : List UInt8))) rfl) <| L_nil <| thn_n <| W_seq <| W_seq <| W_reg <| L_op (.plain rfl) rfl (ltb rfl) (X_move (v := (.int .i64 a0)) rfl) <| L_callP (.plain rfl) rfl (ltb rfl) rfl Try.call16 (impl_within.calls (w := w) (a0 := a0) (a1 := 0) (a2 := 18)) rfl <| fun w1 e2 => L_op (.plain rfl) rfl (ltb rfl) (X_not rfl) <| L_nil <| thn_n ?_
  rcases bif_two H with ⟨q3, H⟩ | ⟨q3, H⟩
  · refine W_true (congrArg Value.bool q3) <| W_seq <| W_reg <| L_op (.plain rfl) rfl (ltb rfl) (X_assign (v := (S ([] : List UInt8))) rfl) <| L_nil <| thn_n <| W_ret <| thn_r <| fin_r ?_
    obtain rfl := Option.some.inj H
    exact fin1 rfl e2
  · refine W_false (congrArg Value.bool q3) <| W_skip <| thn_n <| W_seq <| W_reg <| L_callO (.plain rfl) rfl (ltb rfl) rfl Try.call17 (impl_codeWords.calls (w := w1)) rfl <| fun v6 w4 e5 o7 => L_op (.plain rfl) rfl (ltb rfl) (X_move (v := (.int .i64 a0)) rfl) ?_
    obtain ⟨c8, H⟩ := bif_some H
    refine L_idx (.plain rfl) rfl (ltb rfl) rfl Try.underlying27 Try.sizeOf9 rfl (Own.rd o7) rfl c8 <| fun p9 h10 => L_op (.plain rfl) rfl (ltb rfl) (X_loadAt Try.isAgg9 rfl h10 rfl) <| L_op (.plain rfl) rfl (ltb rfl) (X_assign (v := (S (gt codeWords a0))) rfl) <| L_nil <| thn_n <| W_ret <| fin_r ?_
    obtain rfl := Option.some.inj H
    exact fin1 rfl (Ext.trans e2 e5)
theorem impl_CodeWord.calls {w : World} {a0 : Int} :
    Calls Try.prog 9 #[.int .i64 a0] w (Rt (RP w (S (codeWord a0)))) := impl_CodeWord.walk (impl_CodeWord.eq a0)
/-! slices.Index(()string,string) -/
theorem slices_IndexS.walk {k : Nat} {w : World} {a0 : List (List UInt8)} {a1 : List UInt8} {v_a0 : Value} (f_a0 : Rd 1 encS w v_a0 a0) {r : Int} (H : slices_IndexS.sh k a0 a1 = some r) :
    Calls Try.prog 18 #[v_a0, S a1] w (Rt (RP w (.int .i64 r))) := by
  unfold slices_IndexS.sh at H
  refine calls_of_W Try.func18 rfl (Nat.le_of_ble_eq_true rfl) Try.ntmps18 rfl ?_
  refine W_seq <| W_reg <| L_op (.plain rfl) rfl (ltb rfl) (X_assign (v := (.int .i64 0)) rfl) <| L_nil <| thn_n <| W_seq <| W_seq <| W_reg <| L_op (.plain rfl) rfl (ltb rfl) (X_move (v := v_a0) rfl) <| L_op (.plain rfl) rfl (ltb rfl) (X_lenR Try.underlying27 rfl f_a0) <| L_op (.plain rfl) rfl (ltb rfl) (X_move (v := (.int .i64 0)) rfl) <| L_nil <| thn_n ?_
  obtain ⟨z2, L3, C4⟩ := bind_some H
  clear H
  refine  W_cutQ (fun s0 s9 w9 => Kp [(4, 6), (8, 19)] s0 s9 ∧ Ext w w9 ∧ z2 = .inr ()) ?_ ?_
  · refine W_block <| W_loopI (fun s0 kk s9 w9 => ∃ (x8_1 : Int), Kp [(4, 6), (8, 19)] s0 s9 ∧ s9 8 = .int .i64 x8_1 ∧ Ext w w9 ∧ loopF (slices_IndexS.b1 a0 a1) kk x8_1 = some z2) k ⟨0, (Kp.refl _ _), rfl, (Ext.refl w), L3⟩ ?_
    rintro k9 s10 w11 ⟨x8_1, K12, h15, e13, L14⟩
    cases k9 with
    | zero => exact absurd L14 (by simp [loopF])
    | succ k9 =>
      obtain ⟨t16, H, S17⟩ := loopF_succ L14
      clear L14
      unfold slices_IndexS.b1 at H
      refine W_seq <| W_reg <| L_op (.plain rfl) rfl (ltb rfl) (X_lss h15 (K12 7 rfl)) <| L_nil <| thn_n <| W_seq ?_
      rcases bif_two H with ⟨q18, H⟩ | ⟨q18, H⟩
      · refine W_true (congrArg Value.bool q18) <| W_skip <| thn_n <| W_seq <| W_block <| W_seq <| W_reg <| L_op (.plain rfl) rfl (ltb rfl) (X_move (v := (.int .i64 x8_1)) h15) <| L_op (.plain rfl) rfl (ltb rfl) (X_assign (v := (.int .i64 x8_1)) rfl) <| L_nil <| thn_n <| W_seq <| W_reg <| L_op (.plain rfl) rfl (ltb rfl) (X_move (v := (S a1)) (K12 1 rfl)) <| L_op (.plain rfl) rfl (ltb rfl) (X_move (v := v_a0) (K12 0 rfl)) <| L_op (.plain rfl) rfl (ltb rfl) (X_move (v := (.int .i64 x8_1)) rfl) ?_
        obtain ⟨c19, H⟩ := bif_some H
        refine L_idx (.plain rfl) rfl (ltb rfl) rfl Try.underlying27 Try.sizeOf9 rfl (Rd.ext f_a0 e13) rfl c19 <| fun p20 h21 => L_op (.plain rfl) rfl (ltb rfl) (X_loadAt Try.isAgg9 rfl h21 rfl) <| L_op (.plain rfl) rfl (ltb rfl) (X_seq rfl rfl) <| L_nil <| thn_n ?_
        rcases bif_two H with ⟨q22, H⟩ | ⟨q22, H⟩
        · refine W_true (congrArg Value.bool q22) <| W_seq <| W_reg <| L_op (.plain rfl) rfl (ltb rfl) (X_move (v := (.int .i64 x8_1)) rfl) <| L_op (.plain rfl) rfl (ltb rfl) (X_assign (v := (.int .i64 x8_1)) rfl) <| L_nil <| thn_n <| W_ret <| blk_r <| thn_r <| thn_r <| blk_r <| thn_r <| thn_r <| fin_r ?_
          obtain rfl := Option.some.inj H
          obtain rfl := Option.some.inj S17
          have H := C4
          obtain rfl := Option.some.inj H
          exact fin1 rfl e13
        · refine W_false (congrArg Value.bool q22) <| W_skip <| blk_n <| thn_n <| W_reg <| L_op (.plain rfl) rfl (ltb rfl) (X_add h15 rfl) <| L_op (.plain rfl) rfl (ltb rfl) (X_move (v := (.int .i64 (IntKind.wrap .i64 (x8_1 + 1)))) rfl) <| L_nil <| thn_n ?_
          obtain rfl := Option.some.inj H
          exact ⟨_, Nat.lt_succ_self _, IntKind.wrap .i64 (x8_1 + 1), (Kp.upd (Kp.upd (Kp.upd (Kp.upd (Kp.upd (Kp.upd (Kp.upd (Kp.upd (Kp.upd (Kp.upd (Kp.upd K12 rfl) rfl) rfl) rfl) rfl) rfl) rfl) rfl) rfl) rfl) rfl), rfl, e13, S17⟩
      · refine W_false (congrArg Value.bool q18) <| W_exit <| thn_x <| thn_x <| blk_x <| thn_n ?_
        obtain rfl := Option.some.inj H
        obtain rfl := Option.some.inj S17
        exact ⟨(Kp.upd K12 rfl), e13, rfl⟩
  · rintro s6 w5 ⟨K7, e8, y23⟩
    rw [y23] at C4
    have H := C4
    replace H : _ = some _ := H
    refine thn_n <| W_seq <| W_reg <| L_op (.plain rfl) rfl (ltb rfl) (X_assign (v := (.int .i64 (-1))) rfl) <| L_nil <| thn_n <| W_ret <| fin_r ?_
    obtain rfl := Option.some.inj H
    exact fin1 rfl e8
theorem slices_IndexS.calls {w : World} {a0 : List (List UInt8)} {a1 : List UInt8} {v_a0 : Value} (f_a0 : Rd 1 encS w v_a0 a0) (h0 : a0.length ≤ 4611686018427387904) :
    Calls Try.prog 18 #[v_a0, S a1] w (Rt (RP w (.int .i64 (indexOf a0 a1)))) := by
  obtain ⟨k, h⟩ := slices_IndexS.eq a0 a1 h0
  exact slices_IndexS.walk f_a0 h
/-! spec.CodeOf -/
theorem spec_CodeOf.walk {k : Nat} {w : World} {a0 : List UInt8} {r : Int} (H : spec_CodeOf.sh k a0 = some r) :
    Calls Try.prog 10 #[S a0] w (Rt (RP w (.int .i64 r))) := by
  unfold spec_CodeOf.sh at H
  refine calls_of_W Try.func10 rfl (Nat.le_of_ble_eq_true rfl) Try.ntmps10 rfl ?_
  refine W_seq <| W_reg <| L_op (.plain rfl) rfl (ltb rfl) (X_assign (v := (.int .i64 0)) rfl) <| L_nil <| thn_n <| W_seq <| W_seq <| W_reg <| L_op (.plain rfl) rfl (ltb rfl) (X_assign (v := (.int .i64 0)) rfl) <| L_nil <| thn_n ?_
  obtain ⟨z2, L3, C4⟩ := bind_some H
  clear H
  refine  W_cutQ (fun s0 s9 w9 => Kp [(2, 13)] s0 s9 ∧ Ext w w9 ∧ z2 = .inr ()) ?_ ?_
  · refine W_block <| W_loopI (fun s0 kk s9 w9 => ∃ (x3_1 : Int), Kp [(2, 13)] s0 s9 ∧ s9 3 = .int .i64 x3_1 ∧ Ext w w9 ∧ loopF (spec_CodeOf.b1 a0) kk x3_1 = some z2) k ⟨0, (Kp.refl _ _), rfl, (Ext.refl w), L3⟩ ?_
    rintro k9 s10 w11 ⟨x3_1, K12, h15, e13, L14⟩
    cases k9 with
    | zero => exact absurd L14 (by simp [loopF])
    | succ k9 =>
      obtain ⟨t16, H, S17⟩ := loopF_succ L14
      clear L14
      unfold spec_CodeOf.b1 at H
      refine W_seq <| W_seq <| W_reg <| L_op (.plain rfl) rfl (ltb rfl) (X_move (v := (.int .i64 x3_1)) h15) <| L_op (.plain rfl) rfl (ltb rfl) (X_leq rfl rfl) <| L_nil <| thn_n ?_
      rcases bif_two H with ⟨q18, H⟩ | ⟨q18, H⟩
      · refine W_true (congrArg Value.bool q18) <| W_skip <| thn_n <| W_seq <| W_block <| W_seq <| W_reg <| L_op (.plain rfl) rfl (ltb rfl) (X_move (v := (.int .i64 x3_1)) h15) <| L_callP (.plain rfl) rfl (ltb rfl) rfl Try.call8 (spec_CodeWord.calls (w := w11) (a0 := x3_1)) rfl <| fun w19 e20 => L_op (.plain rfl) rfl (ltb rfl) (X_move (v := (S a0)) (K12 0 rfl)) <| L_op (.plain rfl) rfl (ltb rfl) (X_seq rfl rfl) <| L_nil <| thn_n ?_
        rcases bif_two H with ⟨q21, H⟩ | ⟨q21, H⟩
        · refine W_true (congrArg Value.bool q21) <| W_seq <| W_reg <| L_op (.plain rfl) rfl (ltb rfl) (X_move (v := (.int .i64 x3_1)) h15) <| L_op (.plain rfl) rfl (ltb rfl) (X_assign (v := (.int .i64 x3_1)) rfl) <| L_nil <| thn_n <| W_ret <| blk_r <| thn_r <| thn_r <| blk_r <| thn_r <| thn_r <| fin_r ?_
          obtain rfl := Option.some.inj H
          obtain rfl := Option.some.inj S17
          have H := C4
          obtain rfl := Option.some.inj H
          exact fin1 rfl (Ext.trans e13 e20)
        · refine W_false (congrArg Value.bool q21) <| W_skip <| blk_n <| thn_n <| W_reg <| L_op (.plain rfl) rfl (ltb rfl) (X_move (v := (.int .i64 x3_1)) h15) <| L_op (.plain rfl) rfl (ltb rfl) (X_add rfl rfl) <| L_op (.plain rfl) rfl (ltb rfl) (X_assign (v := (.int .i64 (IntKind.wrap .i64 (x3_1 + 1)))) rfl) <| L_nil <| thn_n ?_
          obtain rfl := Option.some.inj H
          exact ⟨_, Nat.lt_succ_self _, IntKind.wrap .i64 (x3_1 + 1), (Kp.upd (Kp.upd (Kp.upd (Kp.upd (Kp.upd (Kp.upd (Kp.upd (Kp.upd (Kp.upd K12 rfl) rfl) rfl) rfl) rfl) rfl) rfl) rfl) rfl), rfl, (Ext.trans e13 e20), S17⟩
      · refine W_false (congrArg Value.bool q18) <| W_exit <| thn_x <| thn_x <| blk_x <| thn_n ?_
        obtain rfl := Option.some.inj H
        obtain rfl := Option.some.inj S17
        exact ⟨(Kp.upd (Kp.upd K12 rfl) rfl), e13, rfl⟩
  · rintro s6 w5 ⟨K7, e8, y22⟩
    rw [y22] at C4
    have H := C4
    replace H : _ = some _ := H
    refine thn_n <| W_seq <| W_reg <| L_op (.plain rfl) rfl (ltb rfl) (X_assign (v := (.int .i64 (-1))) rfl) <| L_nil <| thn_n <| W_ret <| fin_r ?_
    obtain rfl := Option.some.inj H
    exact fin1 rfl e8
theorem spec_CodeOf.calls {w : World} {a0 : List UInt8} :
    Calls Try.prog 10 #[S a0] w (Rt (RP w (.int .i64 (codeOf a0)))) := by
  obtain ⟨k, h⟩ := spec_CodeOf.eq a0
  exact spec_CodeOf.walk h
/-! impl.CodeOf -/
theorem impl_CodeOf.walk {w : World} {a0 : List UInt8} {r : Int} (H : impl_CodeOf.sh a0 = some r) :
    Calls Try.prog 11 #[S a0] w (Rt (RP w (.int .i64 r))) := by
  unfold impl_CodeOf.sh at H
  refine calls_of_W Try.func11 rfl (Nat.le_of_ble_eq_true rfl) Try.ntmps11 rfl ?_
  refine W_seq <| W_reg <| L_op (.plain rfl) rfl (ltb rfl) (X_assign (v := (.int .i64 0)) rfl) <| L_nil <| thn_n <| W_seq <| W_reg <| L_callO (.plain rfl) rfl (ltb rfl) rfl Try.call17 (impl_codeWords.calls (w := w)) rfl <| fun v3 w1 e2 o4 => L_op (.plain rfl) rfl (ltb rfl) (X_move (v := (S a0)) rfl) ?_
  obtain ⟨c5, H⟩ := bif_some H
  refine L_callP (.plain rfl) rfl (ltb rfl) rfl Try.call18 (slices_IndexS.calls (w := w1) (a0 := codeWords) (a1 := a0) (Own.rd o4) (of_decide_eq_true c5)) rfl <| fun w6 e7 => L_op (.plain rfl) rfl (ltb rfl) (X_assign (v := (.int .i64 (indexOf codeWords a0))) rfl) <| L_nil <| thn_n <| W_ret <| fin_r ?_
  obtain rfl := Option.some.inj H
  exact fin1 rfl (Ext.trans e2 e7)
theorem impl_CodeOf.calls {w : World} {a0 : List UInt8} :
    Calls Try.prog 11 #[S a0] w (Rt (RP w (.int .i64 (codeOf a0)))) := impl_CodeOf.walk (impl_CodeOf.eq a0)
/-! spec.l01Part -/
theorem spec_l01Part.walk {k : Nat} {w : World} {a0 : List UInt8} {r : Bool} (H : spec_l01Part.sh k a0 = some r) :
    Calls Try.prog 19 #[S a0] w (Rt (RP w (.bool r))) := by
  unfold spec_l01Part.sh at H
  refine calls_of_W Try.func19 rfl (Nat.le_of_ble_eq_true rfl) Try.ntmps19 rfl ?_
  refine W_seq <| W_reg <| L_op (.plain rfl) rfl (ltb rfl) (X_assign (v := (.bool false)) rfl) <| L_nil <| thn_n <| W_seq <| W_seq <| W_reg <| L_op (.plain rfl) rfl (ltb rfl) (X_move (v := (S a0)) rfl) <| L_op (.plain rfl) rfl (ltb rfl) (X_lenS Try.underlying9 rfl) <| L_callP (.plain rfl) rfl (ltb rfl) rfl Try.call21 (spec_l01In.calls (w := w) (a0 := (a0.length : Int)) (a1 := 1) (a2 := 8)) rfl <| fun w1 e2 => L_op (.plain rfl) rfl (ltb rfl) (X_not rfl) <| L_op (.plain rfl) rfl (ltb rfl) (X_move (v := (.bool (!(within (a0.length : Int) 1 8)))) rfl) <| L_grp 3 [(9, 12)] 11 (.bool ((!(within (a0.length : Int) 1 8)) || (decide (a0 = ([46] : List UInt8))))) ?_ ?_
  · rcases bool_two (!(within (a0.length : Int) 1 8)) with b2_ | b2_
    · exact L_skip rfl rfl (ltb rfl) (congrArg Value.bool b2_) rfl rfl (ltb rfl) <| L_skip rfl rfl (ltb rfl) (congrArg Value.bool b2_) rfl rfl (ltb rfl) <| L_op (.plain rfl) rfl (ltb rfl) (X_pick (b := true) (v := (.bool true)) (congrArg Value.bool b2_) rfl) <| L_nil <| thn_n ⟨(Kp.upd (Kp.upd (Kp.upd (Kp.refl _ _) rfl) rfl) rfl), (or_t b2_), (Ext.refl w1)⟩
    · exact L_op (.guard 4 false 8 rfl rfl (ltb rfl) (congrArg Value.bool b2_)) rfl (ltb rfl) (X_move (v := (S a0)) rfl) <| L_op (.guard 4 false 8 rfl rfl (ltb rfl) (congrArg Value.bool b2_)) rfl (ltb rfl) (X_seq rfl rfl) <| L_op (.plain rfl) rfl (ltb rfl) (X_pick (b := false) (v := (.bool (decide (a0 = ([46] : List UInt8))))) (congrArg Value.bool b2_) rfl) <| L_nil <| thn_n ⟨(Kp.upd (Kp.upd (Kp.upd (Kp.refl _ _) rfl) rfl) rfl), (or_f b2_), (Ext.refl w1)⟩
  intro s8 w4 K5 h6 e7
  refine L_op (.plain rfl) rfl (ltb rfl) (X_move h6) <| L_grp 3 [(13, 16)] 15 (.bool (((!(within (a0.length : Int) 1 8)) || (decide (a0 = ([46] : List UInt8)))) || (decide (a0 = ([46, 46] : List UInt8))))) ?_ ?_
  · rcases bool_two ((!(within (a0.length : Int) 1 8)) || (decide (a0 = ([46] : List UInt8)))) with b8_ | b8_
    · exact L_skip rfl rfl (ltb rfl) (congrArg Value.bool b8_) rfl rfl (ltb rfl) <| L_skip rfl rfl (ltb rfl) (congrArg Value.bool b8_) rfl rfl (ltb rfl) <| L_op (.plain rfl) rfl (ltb rfl) (X_pick (b := true) (v := (.bool true)) (congrArg Value.bool b8_) rfl) <| L_nil <| thn_n ⟨(Kp.upd (Kp.upd (Kp.upd (Kp.refl _ _) rfl) rfl) rfl), (or_t b8_), (Ext.refl w4)⟩
    · exact L_op (.guard 8 false 12 rfl rfl (ltb rfl) (congrArg Value.bool b8_)) rfl (ltb rfl) (X_move (v := (S a0)) (K5 0 rfl)) <| L_op (.guard 8 false 12 rfl rfl (ltb rfl) (congrArg Value.bool b8_)) rfl (ltb rfl) (X_seq rfl rfl) <| L_op (.plain rfl) rfl (ltb rfl) (X_pick (b := false) (v := (.bool (decide (a0 = ([46, 46] : List UInt8))))) (congrArg Value.bool b8_) rfl) <| L_nil <| thn_n ⟨(Kp.upd (Kp.upd (Kp.upd (Kp.refl _ _) rfl) rfl) rfl), (or_f b8_), (Ext.refl w4)⟩
  intro s14 w10 K11 h12 e13
  refine L_nil <| thn_n ?_
  rcases bif_two H with ⟨q15, H⟩ | ⟨q15, H⟩
  · refine W_true (h12.trans (congrArg Value.bool q15)) <| W_seq <| W_reg <| L_op (.plain rfl) rfl (ltb rfl) (X_assign (v := (.bool false)) rfl) <| L_nil <| thn_n <| W_ret <| thn_r <| fin_r ?_
    obtain rfl := Option.some.inj H
    exact fin1 rfl (Ext.trans (Ext.trans e2 e7) e13)
  · refine W_false (h12.trans (congrArg Value.bool q15)) <| W_skip <| thn_n <| W_seq <| W_seq <| W_reg <| L_op (.plain rfl) rfl (ltb rfl) (X_assign (v := (.int .i64 0)) rfl) <| L_nil <| thn_n ?_
    obtain ⟨z17, L18, C19⟩ := bind_some H
    clear H
    refine  W_cutQ (fun s0 s9 w9 => Kp [(2, 4), (16, 38)] s0 s9 ∧ Ext w10 w9 ∧ z17 = .inr ()) ?_ ?_
    · refine W_block <| W_loopI (fun s0 kk s9 w9 => ∃ (x3_16 : Int), Kp [(2, 4), (16, 38)] s0 s9 ∧ s9 3 = .int .i64 x3_16 ∧ Ext w10 w9 ∧ loopF (spec_l01Part.b1 a0) kk x3_16 = some z17) k ⟨0, (Kp.refl _ _), rfl, (Ext.refl w10), L18⟩ ?_
      rintro k24 s25 w26 ⟨x3_16, K27, h30, e28, L29⟩
      cases k24 with
      | zero => exact absurd L29 (by simp [loopF])
      | succ k24 =>
        obtain ⟨t31, H, S32⟩ := loopF_succ L29
        clear L29
        unfold spec_l01Part.b1 at H
        refine W_seq <| W_seq <| W_reg <| L_op (.plain rfl) rfl (ltb rfl) (X_move (v := (.int .i64 x3_16)) h30) <| L_op (.plain rfl) rfl (ltb rfl) (X_move (v := (S a0)) ((K27 0 rfl).trans ((K11 0 rfl).trans (K5 0 rfl)))) <| L_op (.plain rfl) rfl (ltb rfl) (X_lenS Try.underlying9 rfl) <| L_op (.plain rfl) rfl (ltb rfl) (X_lss rfl rfl) <| L_nil <| thn_n ?_
        rcases bif_two H with ⟨q33, H⟩ | ⟨q33, H⟩
        · refine W_true (congrArg Value.bool q33) <| W_skip <| thn_n <| W_seq <| W_block <| W_seq <| W_reg <| L_op (.plain rfl) rfl (ltb rfl) (X_move (v := (S a0)) ((K27 0 rfl).trans ((K11 0 rfl).trans (K5 0 rfl)))) <| L_op (.plain rfl) rfl (ltb rfl) (X_move (v := (.int .i64 x3_16)) h30) ?_
          obtain ⟨c34, H⟩ := bif_some H
          refine L_op (.plain rfl) rfl (ltb rfl) (X_indexS Try.underlying9 rfl rfl (inR_lo c34) (inR_hi c34)) <| L_op (.plain rfl) rfl (ltb rfl) (X_lss rfl rfl) <| L_op (.plain rfl) rfl (ltb rfl) (X_move (v := (.bool (decide ((byt a0 x3_16) < 33)))) rfl) ?_
          obtain ⟨z36, x37, H⟩ := bind_some H
          refine L_grpE 5 [(27, 32)] 31 (fun q => q = z36) ?_ ?_
          · rcases bif_two x37 with ⟨b34_, H⟩ | ⟨b34_, H⟩
            · refine L_skip rfl rfl (ltb rfl) (congrArg Value.bool b34_) rfl rfl (ltb rfl) <| L_skip rfl rfl (ltb rfl) (congrArg Value.bool b34_) rfl rfl (ltb rfl) <| L_skip rfl rfl (ltb rfl) (congrArg Value.bool b34_) rfl rfl (ltb rfl) <| L_skip rfl rfl (ltb rfl) (congrArg Value.bool b34_) rfl rfl (ltb rfl) <| L_op (.plain rfl) rfl (ltb rfl) (X_pick (b := true) (v := (.bool true)) (congrArg Value.bool b34_) rfl) ?_
              obtain rfl := Option.some.inj H
              exact L_nil <| thn_n ⟨(Kp.upd (Kp.upd (Kp.upd (Kp.upd (Kp.upd (Kp.refl _ _) rfl) rfl) rfl) rfl) rfl), ⟨_, rfl, rfl⟩, (Ext.refl w26)⟩
            · refine L_op (.guard 4 false 26 rfl rfl (ltb rfl) (congrArg Value.bool b34_)) rfl (ltb rfl) (X_move (v := (S a0)) ((K27 0 rfl).trans ((K11 0 rfl).trans (K5 0 rfl)))) <| L_op (.guard 4 false 26 rfl rfl (ltb rfl) (congrArg Value.bool b34_)) rfl (ltb rfl) (X_move (v := (.int .i64 x3_16)) h30) ?_
              obtain ⟨c36, H⟩ := bif_some H
              refine L_op (.guard 4 false 26 rfl rfl (ltb rfl) (congrArg Value.bool b34_)) rfl (ltb rfl) (X_indexS Try.underlying9 rfl rfl (inR_lo c36) (inR_hi c36)) <| L_op (.guard 4 false 26 rfl rfl (ltb rfl) (congrArg Value.bool b34_)) rfl (ltb rfl) (X_gtr rfl rfl) <| L_op (.plain rfl) rfl (ltb rfl) (X_pick (b := false) (v := (.bool (decide (126 < (byt a0 x3_16))))) (congrArg Value.bool b34_) rfl) ?_
              obtain rfl := Option.some.inj H
              exact L_nil <| thn_n ⟨(Kp.upd (Kp.upd (Kp.upd (Kp.upd (Kp.upd (Kp.refl _ _) rfl) rfl) rfl) rfl) rfl), ⟨_, rfl, rfl⟩, (Ext.refl w26)⟩
          intro s42 w38 z43 K39 hq h40 e41
          rw [hq] at h40; clear hq
          refine L_op (.plain rfl) rfl (ltb rfl) (X_move (v := (.bool z36)) h40) ?_
          obtain ⟨z45, x46, H⟩ := bind_some H
          refine L_grpE 5 [(33, 38)] 37 (fun q => q = z45) ?_ ?_
          · rcases bif_two x46 with ⟨b43_, H⟩ | ⟨b43_, H⟩
            · refine L_skip rfl rfl (ltb rfl) (congrArg Value.bool b43_) rfl rfl (ltb rfl) <| L_skip rfl rfl (ltb rfl) (congrArg Value.bool b43_) rfl rfl (ltb rfl) <| L_skip rfl rfl (ltb rfl) (congrArg Value.bool b43_) rfl rfl (ltb rfl) <| L_skip rfl rfl (ltb rfl) (congrArg Value.bool b43_) rfl rfl (ltb rfl) <| L_op (.plain rfl) rfl (ltb rfl) (X_pick (b := true) (v := (.bool true)) (congrArg Value.bool b43_) rfl) ?_
              obtain rfl := Option.some.inj H
              exact L_nil <| thn_n ⟨(Kp.upd (Kp.upd (Kp.upd (Kp.upd (Kp.upd (Kp.refl _ _) rfl) rfl) rfl) rfl) rfl), ⟨_, rfl, rfl⟩, (Ext.refl w38)⟩
            · refine L_op (.guard 10 false 32 rfl rfl (ltb rfl) (congrArg Value.bool b43_)) rfl (ltb rfl) (X_move (v := (S a0)) ((K39 0 rfl).trans ((K27 0 rfl).trans ((K11 0 rfl).trans (K5 0 rfl))))) <| L_op (.guard 10 false 32 rfl rfl (ltb rfl) (congrArg Value.bool b43_)) rfl (ltb rfl) (X_move (v := (.int .i64 x3_16)) ((K39 3 rfl).trans h30)) ?_
              obtain ⟨c45, H⟩ := bif_some H
              refine L_op (.guard 10 false 32 rfl rfl (ltb rfl) (congrArg Value.bool b43_)) rfl (ltb rfl) (X_indexS Try.underlying9 rfl rfl (inR_lo c45) (inR_hi c45)) <| L_op (.guard 10 false 32 rfl rfl (ltb rfl) (congrArg Value.bool b43_)) rfl (ltb rfl) (X_eql rfl rfl) <| L_op (.plain rfl) rfl (ltb rfl) (X_pick (b := false) (v := (.bool (decide ((byt a0 x3_16) = 47)))) (congrArg Value.bool b43_) rfl) ?_
              obtain rfl := Option.some.inj H
              exact L_nil <| thn_n ⟨(Kp.upd (Kp.upd (Kp.upd (Kp.upd (Kp.upd (Kp.refl _ _) rfl) rfl) rfl) rfl) rfl), ⟨_, rfl, rfl⟩, (Ext.refl w38)⟩
          intro s51 w47 z52 K48 hq h49 e50
          rw [hq] at h49; clear hq
          refine L_nil <| thn_n ?_
          rcases bif_two H with ⟨q53, H⟩ | ⟨q53, H⟩
          · refine W_true (h49.trans (congrArg Value.bool q53)) <| W_seq <| W_reg <| L_op (.plain rfl) rfl (ltb rfl) (X_assign (v := (.bool false)) rfl) <| L_nil <| thn_n <| W_ret <| blk_r <| thn_r <| thn_r <| blk_r <| thn_r <| thn_r <| fin_r ?_
            obtain rfl := Option.some.inj H
            obtain rfl := Option.some.inj S32
            have H := C19
            obtain rfl := Option.some.inj H
            exact fin1 rfl (Ext.trans (Ext.trans (Ext.trans (Ext.trans (Ext.trans e2 e7) e13) e28) e41) e50)
          · refine W_false (h49.trans (congrArg Value.bool q53)) <| W_skip <| blk_n <| thn_n <| W_reg <| L_op (.plain rfl) rfl (ltb rfl) (X_move (v := (.int .i64 x3_16)) ((K48 3 rfl).trans ((K39 3 rfl).trans h30))) <| L_op (.plain rfl) rfl (ltb rfl) (X_add rfl rfl) <| L_op (.plain rfl) rfl (ltb rfl) (X_assign (v := (.int .i64 (IntKind.wrap .i64 (x3_16 + 1)))) rfl) <| L_nil <| thn_n ?_
            obtain rfl := Option.some.inj H
            exact ⟨_, Nat.lt_succ_self _, IntKind.wrap .i64 (x3_16 + 1), (Kp.upd (Kp.upd (Kp.upd (Kp.cut (Kp.upd (Kp.cut (Kp.upd (Kp.upd (Kp.upd (Kp.upd (Kp.upd (Kp.upd (Kp.upd (Kp.upd (Kp.upd K27 rfl) rfl) rfl) rfl) rfl) rfl) rfl) rfl) rfl) K39 rfl) rfl) K48 rfl) rfl) rfl) rfl), rfl, (Ext.trans (Ext.trans e28 e41) e50), S32⟩
        · refine W_false (congrArg Value.bool q33) <| W_exit <| thn_x <| thn_x <| blk_x <| thn_n ?_
          obtain rfl := Option.some.inj H
          obtain rfl := Option.some.inj S32
          exact ⟨(Kp.upd (Kp.upd (Kp.upd (Kp.upd K27 rfl) rfl) rfl) rfl), e28, rfl⟩
    · rintro s21 w20 ⟨K22, e23, y54⟩
      rw [y54] at C19
      have H := C19
      replace H : _ = some _ := H
      refine thn_n <| W_seq <| W_reg <| L_op (.plain rfl) rfl (ltb rfl) (X_assign (v := (.bool true)) rfl) <| L_nil <| thn_n <| W_ret <| fin_r ?_
      obtain rfl := Option.some.inj H
      exact fin1 rfl (Ext.trans (Ext.trans (Ext.trans e2 e7) e13) e23)
theorem spec_l01Part.calls {w : World} {a0 : List UInt8} :
    Calls Try.prog 19 #[S a0] w (Rt (RP w (.bool (partOK a0)))) := by
  obtain ⟨k, h⟩ := spec_l01Part.eq a0
  exact spec_l01Part.walk h
/-! spec.PartOK -/
theorem spec_PartOK.walk {w : World} {a0 : List UInt8} {r : Bool} (H : spec_PartOK.sh a0 = some r) :
    Calls Try.prog 12 #[S a0] w (Rt (RP w (.bool r))) := by
  unfold spec_PartOK.sh at H
  refine calls_of_W Try.func12 rfl (Nat.le_of_ble_eq_true rfl) Try.ntmps12 rfl ?_
  refine W_seq <| W_reg <| L_op (.plain rfl) rfl (ltb rfl) (X_assign (v := (.bool false)) rfl) <| L_nil <| thn_n <| W_seq <| W_seq <| W_reg <| L_op (.plain rfl) rfl (ltb rfl) (X_move (v := (S a0)) rfl) <| L_op (.plain rfl) rfl (ltb rfl) (X_lenS Try.underlying9 rfl) <| L_op (.plain rfl) rfl (ltb rfl) (X_gtr rfl rfl) <| L_nil <| thn_n ?_
  rcases bif_two H with ⟨q1, H⟩ | ⟨q1, H⟩
  · refine W_true (congrArg Value.bool q1) <| W_seq <| W_reg <| L_op (.plain rfl) rfl (ltb rfl) (X_assign (v := (.bool false)) rfl) <| L_nil <| thn_n <| W_ret <| thn_r <| fin_r ?_
    obtain rfl := Option.some.inj H
    exact fin1 rfl (Ext.refl w)
  · refine W_false (congrArg Value.bool q1) <| W_skip <| thn_n <| W_seq <| W_reg <| L_op (.plain rfl) rfl (ltb rfl) (X_move (v := (S a0)) rfl) <| L_callP (.plain rfl) rfl (ltb rfl) rfl Try.call19 (spec_l01Part.calls (w := w) (a0 := a0)) rfl <| fun w2 e3 => L_op (.plain rfl) rfl (ltb rfl) (X_assign (v := (.bool (partOK a0))) rfl) <| L_nil <| thn_n <| W_ret <| fin_r ?_
    obtain rfl := Option.some.inj H
    exact fin1 rfl e3
theorem spec_PartOK.calls {w : World} {a0 : List UInt8} :
    Calls Try.prog 12 #[S a0] w (Rt (RP w (.bool (partOK a0)))) := spec_PartOK.walk (spec_PartOK.eq a0)
/-! impl.PartOK -/
theorem impl_PartOK.walk {k : Nat} {w : World} {a0 : List UInt8} {r : Bool} (H : impl_PartOK.sh k a0 = some r) :
    Calls Try.prog 13 #[S a0] w (Rt (RP w (.bool r))) := by
  unfold impl_PartOK.sh at H
  refine calls_of_W Try.func13 rfl (Nat.le_of_ble_eq_true rfl) Try.ntmps13 rfl ?_
  refine W_seq <| W_reg <| L_op (.plain rfl) rfl (ltb rfl) (X_assign (v := (.bool false)) rfl) <| L_nil <| thn_n <| W_seq <| W_seq <| W_reg <| L_op (.plain rfl) rfl (ltb rfl) (X_move (v := (S a0)) rfl) <| L_op (.plain rfl) rfl (ltb rfl) (X_lenS Try.underlying9 rfl) <| L_op (.plain rfl) rfl (ltb rfl) (X_move (v := (.int .i64 0)) rfl) <| L_nil <| thn_n ?_
  obtain ⟨z2, L3, C4⟩ := bind_some H
  clear H
  refine  W_cutQ (fun s0 s9 w9 => Kp [(2, 4), (6, 22)] s0 s9 ∧ Ext w w9 ∧ z2 = .inr ()) ?_ ?_
  · refine W_block <| W_loopI (fun s0 kk s9 w9 => ∃ (x6_1 : Int), Kp [(2, 4), (6, 22)] s0 s9 ∧ s9 6 = .int .i64 x6_1 ∧ Ext w w9 ∧ loopF (impl_PartOK.b1 a0) kk x6_1 = some z2) k ⟨0, (Kp.refl _ _), rfl, (Ext.refl w), L3⟩ ?_
    rintro k9 s10 w11 ⟨x6_1, K12, h15, e13, L14⟩
    cases k9 with
    | zero => exact absurd L14 (by simp [loopF])
    | succ k9 =>
      obtain ⟨t16, H, S17⟩ := loopF_succ L14
      clear L14
      unfold impl_PartOK.b1 at H
      refine W_seq <| W_reg <| L_op (.plain rfl) rfl (ltb rfl) (X_lss h15 (K12 5 rfl)) <| L_nil <| thn_n <| W_seq ?_
      rcases bif_two H with ⟨q18, H⟩ | ⟨q18, H⟩
      · refine W_true (congrArg Value.bool q18) <| W_skip <| thn_n <| W_seq <| W_block <| W_seq <| W_reg <| L_op (.plain rfl) rfl (ltb rfl) (X_move (v := (.int .i64 x6_1)) h15) <| L_op (.plain rfl) rfl (ltb rfl) (X_assign (v := (.int .i64 x6_1)) rfl) <| L_nil <| thn_n <| W_seq <| W_reg <| L_op (.plain rfl) rfl (ltb rfl) (X_move (v := (S a0)) (K12 0 rfl)) <| L_op (.plain rfl) rfl (ltb rfl) (X_move (v := (.int .i64 x6_1)) rfl) ?_
        obtain ⟨c19, H⟩ := bif_some H
        refine L_op (.plain rfl) rfl (ltb rfl) (X_indexS Try.underlying9 rfl rfl (inR_lo c19) (inR_hi c19)) <| L_op (.plain rfl) rfl (ltb rfl) (X_convInt Try.underlying5 Try.underlying3 rfl) <| L_callP (.plain rfl) rfl (ltb rfl) rfl Try.call16 (impl_within.calls (w := w11) (a0 := IntKind.wrap .i64 (byt a0 x6_1)) (a1 := 33) (a2 := 126)) rfl <| fun w20 e21 => L_op (.plain rfl) rfl (ltb rfl) (X_not rfl) <| L_op (.plain rfl) rfl (ltb rfl) (X_move (v := (.bool (!(within (IntKind.wrap .i64 (byt a0 x6_1)) 33 126)))) rfl) ?_
        obtain ⟨z23, x24, H⟩ := bind_some H
        refine L_grpE 5 [(16, 21)] 20 (fun q => q = z23) ?_ ?_
        · rcases bif_two x24 with ⟨b21_, H⟩ | ⟨b21_, H⟩
          · refine L_skip rfl rfl (ltb rfl) (congrArg Value.bool b21_) rfl rfl (ltb rfl) <| L_skip rfl rfl (ltb rfl) (congrArg Value.bool b21_) rfl rfl (ltb rfl) <| L_skip rfl rfl (ltb rfl) (congrArg Value.bool b21_) rfl rfl (ltb rfl) <| L_skip rfl rfl (ltb rfl) (congrArg Value.bool b21_) rfl rfl (ltb rfl) <| L_op (.plain rfl) rfl (ltb rfl) (X_pick (b := true) (v := (.bool true)) (congrArg Value.bool b21_) rfl) ?_
            obtain rfl := Option.some.inj H
            exact L_nil <| thn_n ⟨(Kp.upd (Kp.upd (Kp.upd (Kp.upd (Kp.upd (Kp.refl _ _) rfl) rfl) rfl) rfl) rfl), ⟨_, rfl, rfl⟩, (Ext.refl w20)⟩
          · refine L_op (.guard 6 false 15 rfl rfl (ltb rfl) (congrArg Value.bool b21_)) rfl (ltb rfl) (X_move (v := (S a0)) (K12 0 rfl)) <| L_op (.guard 6 false 15 rfl rfl (ltb rfl) (congrArg Value.bool b21_)) rfl (ltb rfl) (X_move (v := (.int .i64 x6_1)) rfl) ?_
            obtain ⟨c23, H⟩ := bif_some H
            refine L_op (.guard 6 false 15 rfl rfl (ltb rfl) (congrArg Value.bool b21_)) rfl (ltb rfl) (X_indexS Try.underlying9 rfl rfl (inR_lo c23) (inR_hi c23)) <| L_op (.guard 6 false 15 rfl rfl (ltb rfl) (congrArg Value.bool b21_)) rfl (ltb rfl) (X_eql rfl rfl) <| L_op (.plain rfl) rfl (ltb rfl) (X_pick (b := false) (v := (.bool (decide ((byt a0 x6_1) = 47)))) (congrArg Value.bool b21_) rfl) ?_
            obtain rfl := Option.some.inj H
            exact L_nil <| thn_n ⟨(Kp.upd (Kp.upd (Kp.upd (Kp.upd (Kp.upd (Kp.refl _ _) rfl) rfl) rfl) rfl) rfl), ⟨_, rfl, rfl⟩, (Ext.refl w20)⟩
        intro s29 w25 z30 K26 hq h27 e28
        rw [hq] at h27; clear hq
        refine L_nil <| thn_n ?_
        rcases bif_two H with ⟨q31, H⟩ | ⟨q31, H⟩
        · refine W_true (h27.trans (congrArg Value.bool q31)) <| W_seq <| W_reg <| L_op (.plain rfl) rfl (ltb rfl) (X_assign (v := (.bool false)) rfl) <| L_nil <| thn_n <| W_ret <| blk_r <| thn_r <| thn_r <| blk_r <| thn_r <| thn_r <| fin_r ?_
          obtain rfl := Option.some.inj H
          obtain rfl := Option.some.inj S17
          have H := C4
          obtain rfl := Option.some.inj H
          exact fin1 rfl (Ext.trans (Ext.trans e13 e21) e28)
        · refine W_false (h27.trans (congrArg Value.bool q31)) <| W_skip <| blk_n <| thn_n <| W_reg <| L_op (.plain rfl) rfl (ltb rfl) (X_add ((K26 6 rfl).trans h15) rfl) <| L_op (.plain rfl) rfl (ltb rfl) (X_move (v := (.int .i64 (IntKind.wrap .i64 (x6_1 + 1)))) rfl) <| L_nil <| thn_n ?_
          obtain rfl := Option.some.inj H
          exact ⟨_, Nat.lt_succ_self _, IntKind.wrap .i64 (x6_1 + 1), (Kp.upd (Kp.upd (Kp.cut (Kp.upd (Kp.upd (Kp.upd (Kp.upd (Kp.upd (Kp.upd (Kp.upd (Kp.upd (Kp.upd (Kp.upd K12 rfl) rfl) rfl) rfl) rfl) rfl) rfl) rfl) rfl) rfl) K26 rfl) rfl) rfl), rfl, (Ext.trans (Ext.trans e13 e21) e28), S17⟩
      · refine W_false (congrArg Value.bool q18) <| W_exit <| thn_x <| thn_x <| blk_x <| thn_n ?_
        obtain rfl := Option.some.inj H
        obtain rfl := Option.some.inj S17
        exact ⟨(Kp.upd K12 rfl), e13, rfl⟩
  · rintro s6 w5 ⟨K7, e8, y32⟩
    rw [y32] at C4
    have H := C4
    replace H : _ = some _ := H
    refine thn_n <| W_seq <| W_reg <| L_op (.plain rfl) rfl (ltb rfl) (X_move (v := (S a0)) (K7 0 rfl)) <| L_op (.plain rfl) rfl (ltb rfl) (X_lenS Try.underlying9 rfl) <| L_callP (.plain rfl) rfl (ltb rfl) rfl Try.call16 (impl_within.calls (w := w5) (a0 := (a0.length : Int)) (a1 := 1) (a2 := 8)) rfl <| fun w33 e34 => L_op (.plain rfl) rfl (ltb rfl) (X_move (v := (.bool (within (a0.length : Int) 1 8))) rfl) <| L_grp 3 [(26, 29)] 28 (.bool ((within (a0.length : Int) 1 8) && (!decide (a0 = ([46] : List UInt8))))) ?_ ?_
    · rcases bool_two (within (a0.length : Int) 1 8) with b34_ | b34_
      · exact L_op (.guard 3 true 25 rfl rfl (ltb rfl) (congrArg Value.bool b34_)) rfl (ltb rfl) (X_move (v := (S a0)) (K7 0 rfl)) <| L_op (.guard 3 true 25 rfl rfl (ltb rfl) (congrArg Value.bool b34_)) rfl (ltb rfl) (X_sne rfl rfl) <| L_op (.plain rfl) rfl (ltb rfl) (X_pick (b := true) (v := (.bool (!decide (a0 = ([46] : List UInt8))))) (congrArg Value.bool b34_) rfl) <| L_nil <| thn_n ⟨(Kp.upd (Kp.upd (Kp.upd (Kp.refl _ _) rfl) rfl) rfl), (and_t b34_), (Ext.refl w33)⟩
      · exact L_skip rfl rfl (ltb rfl) (congrArg Value.bool b34_) rfl rfl (ltb rfl) <| L_skip rfl rfl (ltb rfl) (congrArg Value.bool b34_) rfl rfl (ltb rfl) <| L_op (.plain rfl) rfl (ltb rfl) (X_pick (b := false) (v := (.bool false)) (congrArg Value.bool b34_) rfl) <| L_nil <| thn_n ⟨(Kp.upd (Kp.upd (Kp.upd (Kp.refl _ _) rfl) rfl) rfl), (and_f b34_), (Ext.refl w33)⟩
    intro s40 w36 K37 h38 e39
    refine L_op (.plain rfl) rfl (ltb rfl) (X_move h38) <| L_grp 3 [(30, 33)] 32 (.bool (((within (a0.length : Int) 1 8) && (!decide (a0 = ([46] : List UInt8)))) && (!decide (a0 = ([46, 46] : List UInt8))))) ?_ ?_
    · rcases bool_two ((within (a0.length : Int) 1 8) && (!decide (a0 = ([46] : List UInt8)))) with b40_ | b40_
      · exact L_op (.guard 7 true 29 rfl rfl (ltb rfl) (congrArg Value.bool b40_)) rfl (ltb rfl) (X_move (v := (S a0)) ((K37 0 rfl).trans (K7 0 rfl))) <| L_op (.guard 7 true 29 rfl rfl (ltb rfl) (congrArg Value.bool b40_)) rfl (ltb rfl) (X_sne rfl rfl) <| L_op (.plain rfl) rfl (ltb rfl) (X_pick (b := true) (v := (.bool (!decide (a0 = ([46, 46] : List UInt8))))) (congrArg Value.bool b40_) rfl) <| L_nil <| thn_n ⟨(Kp.upd (Kp.upd (Kp.upd (Kp.refl _ _) rfl) rfl) rfl), (and_t b40_), (Ext.refl w36)⟩
      · exact L_skip rfl rfl (ltb rfl) (congrArg Value.bool b40_) rfl rfl (ltb rfl) <| L_skip rfl rfl (ltb rfl) (congrArg Value.bool b40_) rfl rfl (ltb rfl) <| L_op (.plain rfl) rfl (ltb rfl) (X_pick (b := false) (v := (.bool false)) (congrArg Value.bool b40_) rfl) <| L_nil <| thn_n ⟨(Kp.upd (Kp.upd (Kp.upd (Kp.refl _ _) rfl) rfl) rfl), (and_f b40_), (Ext.refl w36)⟩
    intro s46 w42 K43 h44 e45
    refine L_op (.plain rfl) rfl (ltb rfl) (X_assign h44) <| L_nil <| thn_n <| W_ret <| fin_r ?_
    obtain rfl := Option.some.inj H
    exact fin1 rfl (Ext.trans (Ext.trans (Ext.trans e8 e34) e39) e45)
theorem impl_PartOK.calls {w : World} {a0 : List UInt8} (h0 : a0.length ≤ 4611686018427387904) :
    Calls Try.prog 13 #[S a0] w (Rt (RP w (.bool (partOK a0)))) := by
  obtain ⟨k, h⟩ := impl_PartOK.eq a0 h0
  exact impl_PartOK.walk h
/-! laws.FnExactConstants -/
theorem law_Constants.walk {w : World}  {r : Bool} (H : law_Constants.sh = some r) :
    Calls Try.prog 3 #[] w (Rt (RP w (.bool r))) := by
  unfold law_Constants.sh at H
  refine calls_of_W Try.func3 rfl (Nat.le_of_ble_eq_true rfl) Try.ntmps3 rfl ?_
  refine W_seq <| W_reg <| L_op (.plain rfl) rfl (ltb rfl) (X_assign (v := (.bool false)) rfl) <| L_nil <| thn_n <| W_seq <| W_false rfl <| W_skip <| thn_n <| W_seq <| W_false rfl <| W_skip <| thn_n <| W_seq <| W_false rfl <| W_skip <| thn_n <| W_seq <| W_false rfl <| W_skip <| thn_n <| W_seq <| W_false rfl <| W_skip <| thn_n <| W_seq <| W_false rfl <| W_skip <| thn_n <| W_seq <| W_false rfl <| W_skip <| thn_n <| W_seq <| W_false rfl <| W_skip <| thn_n <| W_seq <| W_false rfl <| W_skip <| thn_n <| W_seq <| W_false rfl <| W_skip <| thn_n <| W_seq <| W_false rfl <| W_skip <| thn_n <| W_seq <| W_false rfl <| W_skip <| thn_n <| W_seq <| W_false rfl <| W_skip <| thn_n <| W_seq <| W_false rfl <| W_skip <| thn_n <| W_seq <| W_false rfl <| W_skip <| thn_n <| W_seq <| W_false rfl <| W_skip <| thn_n <| W_seq <| W_false rfl <| W_skip <| thn_n <| W_seq <| W_false rfl <| W_skip <| thn_n <| W_seq <| W_false rfl <| W_skip <| thn_n <| W_seq <| W_false rfl <| W_skip <| thn_n <| W_seq <| W_false rfl <| W_skip <| thn_n <| W_seq <| W_false rfl <| W_skip <| thn_n <| W_seq <| W_false rfl <| W_skip <| thn_n <| W_seq <| W_false rfl <| W_skip <| thn_n <| W_seq <| W_false rfl <| W_skip <| thn_n <| W_seq <| W_false rfl <| W_skip <| thn_n <| W_seq <| W_false rfl <| W_skip <| thn_n <| W_seq <| W_false rfl <| W_skip <| thn_n <| W_seq <| W_false rfl <| W_skip <| thn_n <| W_seq <| W_false rfl <| W_skip <| thn_n <| W_seq <| W_false rfl <| W_skip <| thn_n <| W_seq <| W_false rfl <| W_skip <| thn_n <| W_seq <| W_false rfl <| W_skip <| thn_n <| W_seq <| W_false rfl <| W_skip <| thn_n <| W_seq <| W_false rfl <| W_skip <| thn_n <| W_seq <| W_false rfl <| W_skip <| thn_n <| W_seq <| W_false rfl <| W_skip <| thn_n <| W_seq <| W_false rfl <| W_skip <| thn_n <| W_seq <| W_false rfl <| W_skip <| thn_n <| W_seq <| W_false rfl <| W_skip <| thn_n <| W_seq <| W_false rfl <| W_skip <| thn_n <| W_seq <| W_false rfl <| W_skip <| thn_n <| W_seq <| W_false rfl <| W_skip <| thn_n <| W_seq <| W_false rfl <| W_skip <| thn_n <| W_seq <| W_reg <| L_op (.plain rfl) rfl (ltb rfl) (X_assign (v := (.bool true)) rfl) <| L_nil <| thn_n <| W_ret <| fin_r ?_
  obtain rfl := Option.some.inj H
  exact fin1 rfl (Ext.refl w)
theorem law_Constants.calls {w : World}  :
    Calls Try.prog 3 #[] w (Rt (RP w (.bool true))) := law_Constants.walk (law_Constants.eq)
/-! laws.FnExactCodeWord -/
theorem law_CodeWord.walk {w : World} {a0 : Int} {r : Bool} (H : law_CodeWord.sh a0 = some r) :
    Calls Try.prog 4 #[.int .i64 a0] w (Rt (RP w (.bool r))) := by
  unfold law_CodeWord.sh at H
  refine calls_of_W Try.func4 rfl (Nat.le_of_ble_eq_true rfl) Try.ntmps4 rfl ?_
  refine W_seq <| W_reg <| L_op (.plain rfl) rfl (ltb rfl) (X_assign (v := (.bool false)) rfl) <| L_nil <| thn_n <| W_seq <| W_reg <| L_op (.plain rfl) rfl (ltb rfl) (X_move (v := (.int .i64 a0)) rfl) <| L_callP (.plain rfl) rfl (ltb rfl) rfl Try.call8 (spec_CodeWord.calls (w := w) (a0 := a0)) rfl <| fun w1 e2 => L_op (.plain rfl) rfl (ltb rfl) (X_assign (v := (S (codeWord a0))) rfl) <| L_nil <| thn_n <| W_seq <| W_reg <| L_op (.plain rfl) rfl (ltb rfl) (X_move (v := (.int .i64 a0)) rfl) <| L_callP (.plain rfl) rfl (ltb rfl) rfl Try.call9 (impl_CodeWord.calls (w := w1) (a0 := a0)) rfl <| fun w3 e4 => L_op (.plain rfl) rfl (ltb rfl) (X_assign (v := (S (codeWord a0))) rfl) <| L_nil <| thn_n <| W_seq <| W_seq <| W_reg <| L_op (.plain rfl) rfl (ltb rfl) (X_move (v := (S (codeWord a0))) rfl) <| L_op (.plain rfl) rfl (ltb rfl) (X_move (v := (S (codeWord a0))) rfl) <| L_op (.plain rfl) rfl (ltb rfl) (X_sne rfl rfl) <| L_nil <| thn_n ?_
  rcases bif_two H with ⟨q5, H⟩ | ⟨q5, H⟩
  · refine W_true (congrArg Value.bool q5) <| W_seq <| W_reg <| L_op (.plain rfl) rfl (ltb rfl) (X_assign (v := (.bool false)) rfl) <| L_nil <| thn_n <| W_ret <| thn_r <| fin_r ?_
    obtain rfl := Option.some.inj H
    exact fin1 rfl (Ext.trans e2 e4)
  · refine W_false (congrArg Value.bool q5) <| W_skip <| thn_n <| W_seq <| W_reg <| L_op (.plain rfl) rfl (ltb rfl) (X_assign (v := (.bool true)) rfl) <| L_nil <| thn_n <| W_ret <| fin_r ?_
    obtain rfl := Option.some.inj H
    exact fin1 rfl (Ext.trans e2 e4)
theorem law_CodeWord.calls {w : World} {a0 : Int} :
    Calls Try.prog 4 #[.int .i64 a0] w (Rt (RP w (.bool true))) := law_CodeWord.walk (law_CodeWord.eq a0)
/-! laws.FnExactCodeOf -/
theorem law_CodeOf.walk {w : World} {a0 : List UInt8} {r : Bool} (H : law_CodeOf.sh a0 = some r) :
    Calls Try.prog 5 #[S a0] w (Rt (RP w (.bool r))) := by
  unfold law_CodeOf.sh at H
  refine calls_of_W Try.func5 rfl (Nat.le_of_ble_eq_true rfl) Try.ntmps5 rfl ?_
  refine W_seq <| W_reg <| L_op (.plain rfl) rfl (ltb rfl) (X_assign (v := (.bool false)) rfl) <| L_nil <| thn_n <| W_seq <| W_seq <| W_reg <| L_op (.plain rfl) rfl (ltb rfl) (X_move (v := (S a0)) rfl) <| L_op (.plain rfl) rfl (ltb rfl) (X_lenS Try.underlying9 rfl) <| L_op (.plain rfl) rfl (ltb rfl) (X_gtr rfl rfl) <| L_nil <| thn_n ?_
  rcases bif_two H with ⟨q1, H⟩ | ⟨q1, H⟩
  · refine W_true (congrArg Value.bool q1) <| W_seq <| W_reg <| L_op (.plain rfl) rfl (ltb rfl) (X_assign (v := (.bool true)) rfl) <| L_nil <| thn_n <| W_ret <| thn_r <| fin_r ?_
    obtain rfl := Option.some.inj H
    exact fin1 rfl (Ext.refl w)
  · refine W_false (congrArg Value.bool q1) <| W_skip <| thn_n <| W_seq <| W_reg <| L_op (.plain rfl) rfl (ltb rfl) (X_move (v := (S a0)) rfl) <| L_callP (.plain rfl) rfl (ltb rfl) rfl Try.call10 (spec_CodeOf.calls (w := w) (a0 := a0)) rfl <| fun w2 e3 => L_op (.plain rfl) rfl (ltb rfl) (X_assign (v := (.int .i64 (codeOf a0))) rfl) <| L_nil <| thn_n <| W_seq <| W_reg <| L_op (.plain rfl) rfl (ltb rfl) (X_move (v := (S a0)) rfl) <| L_callP (.plain rfl) rfl (ltb rfl) rfl Try.call11 (impl_CodeOf.calls (w := w2) (a0 := a0)) rfl <| fun w4 e5 => L_op (.plain rfl) rfl (ltb rfl) (X_assign (v := (.int .i64 (codeOf a0))) rfl) <| L_nil <| thn_n <| W_seq <| W_seq <| W_reg <| L_op (.plain rfl) rfl (ltb rfl) (X_move (v := (.int .i64 (codeOf a0))) rfl) <| L_op (.plain rfl) rfl (ltb rfl) (X_move (v := (.int .i64 (codeOf a0))) rfl) <| L_op (.plain rfl) rfl (ltb rfl) (X_neq rfl rfl) <| L_nil <| thn_n ?_
    rcases bif_two H with ⟨q6, H⟩ | ⟨q6, H⟩
    · refine W_true (congrArg Value.bool q6) <| W_seq <| W_reg <| L_op (.plain rfl) rfl (ltb rfl) (X_assign (v := (.bool false)) rfl) <| L_nil <| thn_n <| W_ret <| thn_r <| fin_r ?_
      obtain rfl := Option.some.inj H
      exact fin1 rfl (Ext.trans e3 e5)
    · refine W_false (congrArg Value.bool q6) <| W_skip <| thn_n <| W_seq <| W_reg <| L_op (.plain rfl) rfl (ltb rfl) (X_assign (v := (.bool true)) rfl) <| L_nil <| thn_n <| W_ret <| fin_r ?_
      obtain rfl := Option.some.inj H
      exact fin1 rfl (Ext.trans e3 e5)
theorem law_CodeOf.calls {w : World} {a0 : List UInt8} :
    Calls Try.prog 5 #[S a0] w (Rt (RP w (.bool true))) := law_CodeOf.walk (law_CodeOf.eq a0)
/-! laws.FnExactPartOK -/
theorem law_PartOK.walk {w : World} {a0 : List UInt8} {r : Bool} (H : law_PartOK.sh a0 = some r) :
    Calls Try.prog 6 #[S a0] w (Rt (RP w (.bool r))) := by
  unfold law_PartOK.sh at H
  refine calls_of_W Try.func6 rfl (Nat.le_of_ble_eq_true rfl) Try.ntmps6 rfl ?_
  refine W_seq <| W_reg <| L_op (.plain rfl) rfl (ltb rfl) (X_assign (v := (.bool false)) rfl) <| L_nil <| thn_n <| W_seq <| W_seq <| W_reg <| L_op (.plain rfl) rfl (ltb rfl) (X_move (v := (S a0)) rfl) <| L_op (.plain rfl) rfl (ltb rfl) (X_lenS Try.underlying9 rfl) <| L_op (.plain rfl) rfl (ltb rfl) (X_gtr rfl rfl) <| L_nil <| thn_n ?_
  rcases bif_two H with ⟨q1, H⟩ | ⟨q1, H⟩
  · refine W_true (congrArg Value.bool q1) <| W_seq <| W_reg <| L_op (.plain rfl) rfl (ltb rfl) (X_assign (v := (.bool true)) rfl) <| L_nil <| thn_n <| W_ret <| thn_r <| fin_r ?_
    obtain rfl := Option.some.inj H
    exact fin1 rfl (Ext.refl w)
  · refine W_false (congrArg Value.bool q1) <| W_skip <| thn_n <| W_seq <| W_reg <| L_op (.plain rfl) rfl (ltb rfl) (X_move (v := (S a0)) rfl) <| L_callP (.plain rfl) rfl (ltb rfl) rfl Try.call12 (spec_PartOK.calls (w := w) (a0 := a0)) rfl <| fun w2 e3 => L_op (.plain rfl) rfl (ltb rfl) (X_assign (v := (.bool (partOK a0))) rfl) <| L_nil <| thn_n <| W_seq <| W_reg <| L_op (.plain rfl) rfl (ltb rfl) (X_move (v := (S a0)) rfl) ?_
    obtain ⟨c4, H⟩ := bif_some H
    refine L_callP (.plain rfl) rfl (ltb rfl) rfl Try.call13 (impl_PartOK.calls (w := w2) (a0 := a0) (of_decide_eq_true c4)) rfl <| fun w5 e6 => L_op (.plain rfl) rfl (ltb rfl) (X_assign (v := (.bool (partOK a0))) rfl) <| L_nil <| thn_n <| W_seq <| W_seq <| W_reg <| L_op (.plain rfl) rfl (ltb rfl) (X_move (v := (.bool (partOK a0))) rfl) <| L_op (.plain rfl) rfl (ltb rfl) (X_move (v := (.bool (partOK a0))) rfl) <| L_op (.plain rfl) rfl (ltb rfl) (X_bne Try.underlying4 rfl rfl) <| L_nil <| thn_n ?_
    rcases bif_two H with ⟨q7, H⟩ | ⟨q7, H⟩
    · refine W_true (congrArg Value.bool q7) <| W_seq <| W_reg <| L_op (.plain rfl) rfl (ltb rfl) (X_assign (v := (.bool false)) rfl) <| L_nil <| thn_n <| W_ret <| thn_r <| fin_r ?_
      obtain rfl := Option.some.inj H
      exact fin1 rfl (Ext.trans e3 e6)
    · refine W_false (congrArg Value.bool q7) <| W_skip <| thn_n <| W_seq <| W_reg <| L_op (.plain rfl) rfl (ltb rfl) (X_assign (v := (.bool true)) rfl) <| L_nil <| thn_n <| W_ret <| fin_r ?_
      obtain rfl := Option.some.inj H
      exact fin1 rfl (Ext.trans e3 e6)
theorem law_PartOK.calls {w : World} {a0 : List UInt8} :
    Calls Try.prog 6 #[S a0] w (Rt (RP w (.bool true))) := law_PartOK.walk (law_PartOK.eq a0)
/-! laws.FnExactNameOK -/
theorem law_NameOK.walk {w : World} {a0 : List UInt8} {r : Bool} (H : law_NameOK.sh a0 = some r) :
    Calls Try.prog 7 #[S a0] w (Rt (RP w (.bool r))) := by
  unfold law_NameOK.sh at H
  refine calls_of_W Try.func7 rfl (Nat.le_of_ble_eq_true rfl) Try.ntmps7 rfl ?_
  refine W_seq <| W_reg <| L_op (.plain rfl) rfl (ltb rfl) (X_assign (v := (.bool false)) rfl) <| L_nil <| thn_n <| W_seq <| W_seq <| W_reg <| L_op (.plain rfl) rfl (ltb rfl) (X_move (v := (S a0)) rfl) <| L_op (.plain rfl) rfl (ltb rfl) (X_lenS Try.underlying9 rfl) <| L_op (.plain rfl) rfl (ltb rfl) (X_gtr rfl rfl) <| L_nil <| thn_n ?_
  rcases bif_two H with ⟨q1, H⟩ | ⟨q1, H⟩
  · refine W_true (congrArg Value.bool q1) <| W_seq <| W_reg <| L_op (.plain rfl) rfl (ltb rfl) (X_assign (v := (.bool true)) rfl) <| L_nil <| thn_n <| W_ret <| thn_r <| fin_r ?_
    obtain rfl := Option.some.inj H
    exact fin1 rfl (Ext.refl w)
  · refine W_false (congrArg Value.bool q1) <| W_skip <| thn_n <| W_seq <| W_reg <| L_op (.plain rfl) rfl (ltb rfl) (X_move (v := (S a0)) rfl) ?_
    obtain ⟨c2, H⟩ := bif_some H
    refine L_callP (.plain rfl) rfl (ltb rfl) rfl Try.call14 (spec_NameOK.calls (w := w) (a0 := a0) (of_decide_eq_true c2)) rfl <| fun w3 e4 => L_op (.plain rfl) rfl (ltb rfl) (X_assign (v := (.bool (nameOK a0))) rfl) <| L_nil <| thn_n <| W_seq <| W_reg <| L_op (.plain rfl) rfl (ltb rfl) (X_move (v := (S a0)) rfl) ?_
    obtain ⟨c5, H⟩ := bif_some H
    refine L_callP (.plain rfl) rfl (ltb rfl) rfl Try.call15 (impl_NameOK.calls (w := w3) (a0 := a0) (of_decide_eq_true c5)) rfl <| fun w6 e7 => L_op (.plain rfl) rfl (ltb rfl) (X_assign (v := (.bool (nameOK a0))) rfl) <| L_nil <| thn_n <| W_seq <| W_seq <| W_reg <| L_op (.plain rfl) rfl (ltb rfl) (X_move (v := (.bool (nameOK a0))) rfl) <| L_op (.plain rfl) rfl (ltb rfl) (X_move (v := (.bool (nameOK a0))) rfl) <| L_op (.plain rfl) rfl (ltb rfl) (X_bne Try.underlying4 rfl rfl) <| L_nil <| thn_n ?_
    rcases bif_two H with ⟨q8, H⟩ | ⟨q8, H⟩
    · refine W_true (congrArg Value.bool q8) <| W_seq <| W_reg <| L_op (.plain rfl) rfl (ltb rfl) (X_assign (v := (.bool false)) rfl) <| L_nil <| thn_n <| W_ret <| thn_r <| fin_r ?_
      obtain rfl := Option.some.inj H
      exact fin1 rfl (Ext.trans e4 e7)
    · refine W_false (congrArg Value.bool q8) <| W_skip <| thn_n <| W_seq <| W_reg <| L_op (.plain rfl) rfl (ltb rfl) (X_assign (v := (.bool true)) rfl) <| L_nil <| thn_n <| W_ret <| fin_r ?_
      obtain rfl := Option.some.inj H
      exact fin1 rfl (Ext.trans e4 e7)
theorem law_NameOK.calls {w : World} {a0 : List UInt8} :
    Calls Try.prog 7 #[S a0] w (Rt (RP w (.bool true))) := law_NameOK.walk (law_NameOK.eq a0)
end Go.Proofs.Yteinfnffodejkaa
