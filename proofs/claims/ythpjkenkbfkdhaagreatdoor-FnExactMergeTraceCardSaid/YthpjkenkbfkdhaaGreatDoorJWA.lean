/- The walks, by program (wip/tools). -/
import Derived.Test.YthpjkenkbfkdhaaGreatDoorProg
import Derived.Test.YthpjkenkbfkdhaaGreatDoorKI
import Derived.Test.YthpjkenkbfkdhaaGreatDoorJSrt
import Derived.Test.YthpjkenkbfkdhaaGreatDoorJH
set_option linter.unusedVariables false
set_option maxRecDepth 10000
namespace Go.Proofs.YthpjkenkbfkdhaaGreatDoor
open Go.UL Go.RowKit
theorem El.t22 : ElemI Tryz.prog 22 71 5 56 (.agg #[.int .i64 0, .string ⟨#[]⟩, .string ⟨#[]⟩, .int .i64 0, .bool false]) := ElemI.mk' Tryz.underlying22 (by kernel_rfl) rfl rfl rfl
theorem El.t23 : ElemI Tryz.prog 23 74 4 48 (.agg #[.int .i64 0, .string ⟨#[]⟩, .string ⟨#[]⟩, .int .i64 0]) := ElemI.mk' Tryz.underlying23 (by kernel_rfl) rfl rfl rfl
theorem El.t28 : ElemI Tryz.prog 28 78 5 56 (.agg #[.int .i64 0, .string ⟨#[]⟩, .string ⟨#[]⟩, .int .i64 0, .bool false]) := ElemI.mk' Tryz.underlying28 (by kernel_rfl) rfl rfl rfl
theorem El.t30 : ElemI Tryz.prog 30 80 4 48 (.agg #[.int .i64 0, .string ⟨#[]⟩, .string ⟨#[]⟩, .int .i64 0]) := ElemI.mk' Tryz.underlying30 (by kernel_rfl) rfl rfl rfl
theorem El.t35 : ElemI Tryz.prog 35 22 1 24 (.slice none 0 0) := ElemI.mk' Tryz.underlying35 (by kernel_rfl) rfl rfl rfl
theorem El.t39 : ElemI Tryz.prog 39 28 1 24 (.slice none 0 0) := ElemI.mk' Tryz.underlying39 (by kernel_rfl) rfl rfl rfl
theorem El.t49 : ElemI Tryz.prog 49 9 1 16 (.string ⟨#[]⟩) := ElemI.mk' Tryz.underlying49 (by kernel_rfl) rfl rfl rfl
theorem El.t60 : ElemI Tryz.prog 60 101 2 24 (.agg #[.string ⟨#[]⟩, .int .i64 0]) := ElemI.mk' Tryz.underlying60 (by kernel_rfl) rfl rfl rfl
theorem El.t119 : ElemI Tryz.prog 119 20 1 16 (.nilIface) := ElemI.mk' Tryz.underlying119 (by kernel_rfl) rfl rfl rfl
theorem El.t128 : ElemI Tryz.prog 128 5 1 1 (.int .u8 0) := ElemI.mk' Tryz.underlying128 (by kernel_rfl) rfl rfl rfl
theorem El.t175 : ElemI Tryz.prog 175 39 1 24 (.slice none 0 0) := ElemI.mk' Tryz.underlying175 (by kernel_rfl) rfl rfl rfl
theorem Eqg.t71 : Tryz.prog.eqGuardType Tryz.prog.depth 71 = false := by kernel_rfl
theorem Eqs.t71 (a b : Rec) (w : World) : (Op.equal 71 (.agg (encRec a).toArray) (.agg (encRec b).toArray)).run Tryz.prog w = .ok (decide (a = b)) w := run_eqRec (d := 9998) (ti := 3) (ts := 9) (tb := 4) Tryz.underlying71 rfl Tryz.underlying3 Tryz.underlying9 Tryz.underlying4 Tryz.isAgg3 Tryz.isAgg9 Tryz.isAgg4 (by kernel_rfl)
theorem Eqg.t74 : Tryz.prog.eqGuardType Tryz.prog.depth 74 = false := by kernel_rfl
theorem Eqs.t74 (a b : Nd) (w : World) : (Op.equal 74 (.agg (encNd a).toArray) (.agg (encNd b).toArray)).run Tryz.prog w = .ok (decide (a = b)) w := run_eqNd (d := 9998) (ti := 3) (ts := 9) Tryz.underlying74 rfl Tryz.underlying3 Tryz.underlying9 Tryz.isAgg3 Tryz.isAgg9 (by kernel_rfl)
theorem Eqg.t78 : Tryz.prog.eqGuardType Tryz.prog.depth 78 = false := by kernel_rfl
theorem Eqs.t78 (a b : Rec) (w : World) : (Op.equal 78 (.agg (encRec a).toArray) (.agg (encRec b).toArray)).run Tryz.prog w = .ok (decide (a = b)) w := run_eqRec (d := 9998) (ti := 3) (ts := 9) (tb := 4) Tryz.underlying78 rfl Tryz.underlying3 Tryz.underlying9 Tryz.underlying4 Tryz.isAgg3 Tryz.isAgg9 Tryz.isAgg4 (by kernel_rfl)
theorem Eqg.t80 : Tryz.prog.eqGuardType Tryz.prog.depth 80 = false := by kernel_rfl
theorem Eqs.t80 (a b : Nd) (w : World) : (Op.equal 80 (.agg (encNd a).toArray) (.agg (encNd b).toArray)).run Tryz.prog w = .ok (decide (a = b)) w := run_eqNd (d := 9998) (ti := 3) (ts := 9) Tryz.underlying80 rfl Tryz.underlying3 Tryz.underlying9 Tryz.isAgg3 Tryz.isAgg9 (by kernel_rfl)
/-! impl.within -/
theorem impl_within.walk {w : World} {a0 : Int} {a1 : Int} {a2 : Int} {r : Bool} (H : impl_within.sh a0 a1 a2 = some r) :
    Calls Tryz.prog 148 #[.int .i64 a0, .int .i64 a1, .int .i64 a2] w (Rt (RP w (.bool r))) := by
  unfold impl_within.sh at H
  refine calls_of_W Tryz.func148 rfl (Nat.le_of_ble_eq_true rfl) Tryz.ntmps148 rfl ?_
  refine W_seq <| W_reg <| L_op (.plain rfl) rfl (ltb rfl) (X_assign (v := (.bool false)) rfl) <| L_nil <| thn_n <| W_seq <| W_reg <| L_op (.plain rfl) rfl (ltb rfl) (X_move (v := (.int .i64 a1)) rfl) <| L_op (.plain rfl) rfl (ltb rfl) (X_move (v := (.int .i64 a0)) rfl) <| L_op (.plain rfl) rfl (ltb rfl) (X_leq rfl rfl) <| L_op (.plain rfl) rfl (ltb rfl) (X_move (v := (.bool (decide (a1 ≤ a0)))) rfl) <| L_grp 4 [(11, 15)] 14 (.bool ((decide (a1 ≤ a0)) && (decide (a0 ≤ a2)))) ?_ ?_
  · rcases bool_two (decide (a1 ≤ a0)) with b0_ | b0_
    · exact L_op (.guard 3 true 10 rfl rfl (ltb rfl) (congrArg Value.bool b0_)) rfl (ltb rfl) (X_move (v := (.int .i64 a0)) rfl) <| L_op (.guard 3 true 10 rfl rfl (ltb rfl) (congrArg Value.bool b0_)) rfl (ltb rfl) (X_move (v := (.int .i64 a2)) rfl) <| L_op (.guard 3 true 10 rfl rfl (ltb rfl) (congrArg Value.bool b0_)) rfl (ltb rfl) (X_leq rfl rfl) <| L_op (.plain rfl) rfl (ltb rfl) (X_pick (b := true) (v := (.bool (decide (a0 ≤ a2)))) (congrArg Value.bool b0_) rfl) <| L_nil <| thn_n ⟨(Kp.upd (Kp.upd (Kp.upd (Kp.upd (Kp.refl _ _) rfl) rfl) rfl) rfl), (and_t b0_), (Ext.refl w)⟩
    · exact L_skip rfl rfl (ltb rfl) (congrArg Value.bool b0_) rfl rfl (ltb rfl) <| L_skip rfl rfl (ltb rfl) (congrArg Value.bool b0_) rfl rfl (ltb rfl) <| L_skip rfl rfl (ltb rfl) (congrArg Value.bool b0_) rfl rfl (ltb rfl) <| L_op (.plain rfl) rfl (ltb rfl) (X_pick (b := false) (v := (.bool false)) (congrArg Value.bool b0_) rfl) <| L_nil <| thn_n ⟨(Kp.upd (Kp.upd (Kp.upd (Kp.upd (Kp.refl _ _) rfl) rfl) rfl) rfl), (and_f b0_), (Ext.refl w)⟩
  intro s6 w2 K3 h4 e5
  refine L_op (.plain rfl) rfl (ltb rfl) (X_assign (v := (.bool ((decide (a1 ≤ a0)) && (decide (a0 ≤ a2))))) h4) <| L_nil <| thn_n <| W_ret <| fin_r ?_
  obtain rfl := Option.some.inj H
  exact fin1 rfl e5
theorem impl_within.calls {w : World} {a0 : Int} {a1 : Int} {a2 : Int} :
    Calls Tryz.prog 148 #[.int .i64 a0, .int .i64 a1, .int .i64 a2] w (Rt (RP w (.bool (within a0 a1 a2)))) := impl_within.walk (impl_within.eq a0 a1 a2)
/-! spec.l01In -/
theorem spec_l01In.walk {w : World} {a0 : Int} {a1 : Int} {a2 : Int} {r : Bool} (H : spec_l01In.sh a0 a1 a2 = some r) :
    Calls Tryz.prog 100 #[.int .i64 a0, .int .i64 a1, .int .i64 a2] w (Rt (RP w (.bool r))) := by
  unfold spec_l01In.sh at H
  refine calls_of_W Tryz.func100 rfl (Nat.le_of_ble_eq_true rfl) Tryz.ntmps100 rfl ?_
  refine W_seq <| W_reg <| L_op (.plain rfl) rfl (ltb rfl) (X_assign (v := (.bool false)) rfl) <| L_nil <| thn_n <| W_seq <| W_reg <| L_op (.plain rfl) rfl (ltb rfl) (X_move (v := (.int .i64 a0)) rfl) <| L_op (.plain rfl) rfl (ltb rfl) (X_move (v := (.int .i64 a1)) rfl) <| L_op (.plain rfl) rfl (ltb rfl) (X_geq rfl rfl) <| L_op (.plain rfl) rfl (ltb rfl) (X_move (v := (.bool (decide (a1 ≤ a0)))) rfl) <| L_grp 4 [(11, 15)] 14 (.bool ((decide (a1 ≤ a0)) && (decide (a0 ≤ a2)))) ?_ ?_
  · rcases bool_two (decide (a1 ≤ a0)) with b0_ | b0_
    · exact L_op (.guard 3 true 10 rfl rfl (ltb rfl) (congrArg Value.bool b0_)) rfl (ltb rfl) (X_move (v := (.int .i64 a0)) rfl) <| L_op (.guard 3 true 10 rfl rfl (ltb rfl) (congrArg Value.bool b0_)) rfl (ltb rfl) (X_move (v := (.int .i64 a2)) rfl) <| L_op (.guard 3 true 10 rfl rfl (ltb rfl) (congrArg Value.bool b0_)) rfl (ltb rfl) (X_leq rfl rfl) <| L_op (.plain rfl) rfl (ltb rfl) (X_pick (b := true) (v := (.bool (decide (a0 ≤ a2)))) (congrArg Value.bool b0_) rfl) <| L_nil <| thn_n ⟨(Kp.upd (Kp.upd (Kp.upd (Kp.upd (Kp.refl _ _) rfl) rfl) rfl) rfl), (and_t b0_), (Ext.refl w)⟩
    · exact L_skip rfl rfl (ltb rfl) (congrArg Value.bool b0_) rfl rfl (ltb rfl) <| L_skip rfl rfl (ltb rfl) (congrArg Value.bool b0_) rfl rfl (ltb rfl) <| L_skip rfl rfl (ltb rfl) (congrArg Value.bool b0_) rfl rfl (ltb rfl) <| L_op (.plain rfl) rfl (ltb rfl) (X_pick (b := false) (v := (.bool false)) (congrArg Value.bool b0_) rfl) <| L_nil <| thn_n ⟨(Kp.upd (Kp.upd (Kp.upd (Kp.upd (Kp.refl _ _) rfl) rfl) rfl) rfl), (and_f b0_), (Ext.refl w)⟩
  intro s6 w2 K3 h4 e5
  refine L_op (.plain rfl) rfl (ltb rfl) (X_assign (v := (.bool ((decide (a1 ≤ a0)) && (decide (a0 ≤ a2))))) h4) <| L_nil <| thn_n <| W_ret <| fin_r ?_
  obtain rfl := Option.some.inj H
  exact fin1 rfl e5
theorem spec_l01In.calls {w : World} {a0 : Int} {a1 : Int} {a2 : Int} :
    Calls Tryz.prog 100 #[.int .i64 a0, .int .i64 a1, .int .i64 a2] w (Rt (RP w (.bool (within a0 a1 a2)))) := spec_l01In.walk (spec_l01In.eq a0 a1 a2)
/-! spec.l01Part -/
theorem spec_l01Part.walk {k : Nat} {w : World} {a0 : List UInt8} {r : Bool} (H : spec_l01Part.sh k a0 = some r) :
    Calls Tryz.prog 236 #[S a0] w (Rt (RP w (.bool r))) := by
  unfold spec_l01Part.sh at H
  refine calls_of_W Tryz.func236 rfl (Nat.le_of_ble_eq_true rfl) Tryz.ntmps236 rfl ?_
  refine W_seq <| W_reg <| L_op (.plain rfl) rfl (ltb rfl) (X_assign (v := (.bool false)) rfl) <| L_nil <| thn_n <| W_seq <| W_seq <| W_reg <| L_op (.plain rfl) rfl (ltb rfl) (X_move (v := (S a0)) rfl) <| L_op (.plain rfl) rfl (ltb rfl) (X_lenS Tryz.underlying9 rfl) <| L_callP (.plain rfl) rfl (ltb rfl) rfl Tryz.call100 (spec_l01In.calls (w := w) (a0 := (a0.length : Int)) (a1 := 1) (a2 := 8)) rfl <| fun w1 e2 => L_op (.plain rfl) rfl (ltb rfl) (X_not rfl) <| L_op (.plain rfl) rfl (ltb rfl) (X_move (v := (.bool (!(within (a0.length : Int) 1 8)))) rfl) <| L_grp 3 [(9, 12)] 11 (.bool ((!(within (a0.length : Int) 1 8)) || (decide (a0 = ([46] : List UInt8))))) ?_ ?_
  · rcases bool_two (!(within (a0.length : Int) 1 8)) with b2_ | b2_
    · exact L_skip rfl rfl (ltb rfl) (congrArg Value.bool b2_) rfl rfl (ltb rfl) <| L_skip rfl rfl (ltb rfl) (congrArg Value.bool b2_) rfl rfl (ltb rfl) <| L_op (.plain rfl) rfl (ltb rfl) (X_pick (b := true) (v := (.bool true)) (congrArg Value.bool b2_) rfl) <| L_nil <| thn_n ⟨(Kp.upd (Kp.upd (Kp.upd (Kp.refl _ _) rfl) rfl) rfl), (or_t b2_), (Ext.refl w1)⟩
    · exact L_op (.guard 4 false 8 rfl rfl (ltb rfl) (congrArg Value.bool b2_)) rfl (ltb rfl) (X_move (v := (S a0)) rfl) <| L_op (.guard 4 false 8 rfl rfl (ltb rfl) (congrArg Value.bool b2_)) rfl (ltb rfl) (X_seq rfl rfl) <| L_op (.plain rfl) rfl (ltb rfl) (X_pick (b := false) (v := (.bool (decide (a0 = ([46] : List UInt8))))) (congrArg Value.bool b2_) rfl) <| L_nil <| thn_n ⟨(Kp.upd (Kp.upd (Kp.upd (Kp.refl _ _) rfl) rfl) rfl), (or_f b2_), (Ext.refl w1)⟩
  intro s8 w4 K5 h6 e7
  refine L_op (.plain rfl) rfl (ltb rfl) (X_move h6) <| L_grp 3 [(13, 16)] 15 (.bool (((!(within (a0.length : Int) 1 8)) || (decide (a0 = ([46] : List UInt8)))) || (decide (a0 = ([46, 46] : List UInt8))))) ?_ ?_
  · rcases bool_two ((!(within (a0.length : Int) 1 8)) || (decide (a0 = ([46] : List UInt8)))) with b8_ | b8_
    · exact L_skip rfl rfl (ltb rfl) (congrArg Value.bool b8_) rfl rfl (ltb rfl) <| L_skip rfl rfl (ltb rfl) (congrArg Value.bool b8_) rfl rfl (ltb rfl) <| L_op (.plain rfl) rfl (ltb rfl) (X_pick (b := true) (v := (.bool true)) (congrArg Value.bool b8_) rfl) <| L_nil <| thn_n ⟨(Kp.upd (Kp.upd (Kp.upd (Kp.refl _ _) rfl) rfl) rfl), (or_t b8_), (Ext.refl w4)⟩
    · exact L_op (.guard 8 false 12 rfl rfl (ltb rfl) (congrArg Value.bool b8_)) rfl (ltb rfl) (X_move (v := (S a0)) (K5 0 rfl)) <| L_op (.guard 8 false 12 rfl rfl (ltb rfl) (congrArg Value.bool b8_)) rfl (ltb rfl) (X_seq rfl rfl) <| L_op (.plain rfl) rfl (ltb rfl) (X_pick (b := false) (v := (.bool (decide (a0 = ([46, 46] : List UInt8))))) (congrArg Value.bool b8_) rfl) <| L_nil <| thn_n ⟨(Kp.upd (Kp.upd (Kp.upd (Kp.refl _ _) rfl) rfl) rfl), (or_f b8_), (Ext.refl w4)⟩
  intro s14 w10 K11 h12 e13
  refine L_nil <| thn_n ?_
  rcases bif_two H with ⟨q15, H⟩ | ⟨q15, H⟩
  · refine W_true (h12.trans (congrArg Value.bool q15)) <| W_seq <| W_reg <| L_op (.plain rfl) rfl (ltb rfl) (X_assign (v := (.bool false)) rfl) <| L_nil <| thn_n <| W_ret <| thn_r <| fin_r ?_
    obtain rfl := Option.some.inj H
    exact fin1 rfl (Ext.trans (Ext.trans e2 e7) e13)
  · refine W_false (h12.trans (congrArg Value.bool q15)) <| W_skip <| thn_n <| W_seq <| W_seq <| W_reg <| L_op (.plain rfl) rfl (ltb rfl) (X_assign (v := (.int .i64 0)) rfl) <| L_nil <| thn_n ?_
    obtain ⟨z17, L18, C19⟩ := bind_some H
    clear H
    refine  W_cutQ (fun s0 sQ wQ => Kp [(2, 4), (16, 38)] s0 sQ ∧ Ext w10 wQ ∧ z17 = .inr ()) ?_ ?_
    · refine W_block <| W_loopI (fun s0 kk sQ wQ => ∃ (x3_16 : Int), Kp [(2, 4), (16, 38)] s0 sQ ∧ sQ 3 = .int .i64 x3_16 ∧ Ext w10 wQ ∧ loopF (spec_l01Part.b1 a0) kk x3_16 = some z17) k ⟨0, (Kp.refl _ _), rfl, (Ext.refl w10), L18⟩ ?_
      rintro k24 s25 w26 ⟨x3_16, K27, h30, e28, L29⟩
      cases k24 with
      | zero => exact absurd L29 (by simp [loopF])
      | succ k24 =>
        obtain ⟨t31, H, S32⟩ := loopF_succ L29
        clear L29
        unfold spec_l01Part.b1 at H
        refine W_seq <| W_seq <| W_reg <| L_op (.plain rfl) rfl (ltb rfl) (X_move (v := (.int .i64 x3_16)) h30) <| L_op (.plain rfl) rfl (ltb rfl) (X_move (v := (S a0)) ((K27 0 rfl).trans ((K11 0 rfl).trans (K5 0 rfl)))) <| L_op (.plain rfl) rfl (ltb rfl) (X_lenS Tryz.underlying9 rfl) <| L_op (.plain rfl) rfl (ltb rfl) (X_lss rfl rfl) <| L_nil <| thn_n ?_
        rcases bif_two H with ⟨q33, H⟩ | ⟨q33, H⟩
        · refine W_true (congrArg Value.bool q33) <| W_skip <| thn_n <| W_seq <| W_block <| W_seq <| W_reg <| L_op (.plain rfl) rfl (ltb rfl) (X_move (v := (S a0)) ((K27 0 rfl).trans ((K11 0 rfl).trans (K5 0 rfl)))) <| L_op (.plain rfl) rfl (ltb rfl) (X_move (v := (.int .i64 x3_16)) h30) ?_
          obtain ⟨c34, H⟩ := bif_some H
          refine L_op (.plain rfl) rfl (ltb rfl) (X_indexS Tryz.underlying9 rfl rfl (inR_lo c34) (inR_hi c34)) <| L_op (.plain rfl) rfl (ltb rfl) (X_lss rfl rfl) <| L_op (.plain rfl) rfl (ltb rfl) (X_move (v := (.bool (decide ((byt a0 x3_16) < 33)))) rfl) ?_
          obtain ⟨z36, x37, H⟩ := bind_some H
          refine L_grpE 5 [(27, 32)] 31 (fun q => q = z36) ?_ ?_
          · rcases bif_two x37 with ⟨b34_, H⟩ | ⟨b34_, H⟩
            · refine L_skip rfl rfl (ltb rfl) (congrArg Value.bool b34_) rfl rfl (ltb rfl) <| L_skip rfl rfl (ltb rfl) (congrArg Value.bool b34_) rfl rfl (ltb rfl) <| L_skip rfl rfl (ltb rfl) (congrArg Value.bool b34_) rfl rfl (ltb rfl) <| L_skip rfl rfl (ltb rfl) (congrArg Value.bool b34_) rfl rfl (ltb rfl) <| L_op (.plain rfl) rfl (ltb rfl) (X_pick (b := true) (v := (.bool true)) (congrArg Value.bool b34_) rfl) ?_
              obtain rfl := Option.some.inj H
              exact L_nil <| thn_n ⟨(Kp.upd (Kp.upd (Kp.upd (Kp.upd (Kp.upd (Kp.refl _ _) rfl) rfl) rfl) rfl) rfl), ⟨_, rfl, rfl⟩, (Ext.refl w26)⟩
            · refine L_op (.guard 4 false 26 rfl rfl (ltb rfl) (congrArg Value.bool b34_)) rfl (ltb rfl) (X_move (v := (S a0)) ((K27 0 rfl).trans ((K11 0 rfl).trans (K5 0 rfl)))) <| L_op (.guard 4 false 26 rfl rfl (ltb rfl) (congrArg Value.bool b34_)) rfl (ltb rfl) (X_move (v := (.int .i64 x3_16)) h30) ?_
              obtain ⟨c36, H⟩ := bif_some H
              refine L_op (.guard 4 false 26 rfl rfl (ltb rfl) (congrArg Value.bool b34_)) rfl (ltb rfl) (X_indexS Tryz.underlying9 rfl rfl (inR_lo c36) (inR_hi c36)) <| L_op (.guard 4 false 26 rfl rfl (ltb rfl) (congrArg Value.bool b34_)) rfl (ltb rfl) (X_gtr rfl rfl) <| L_op (.plain rfl) rfl (ltb rfl) (X_pick (b := false) (v := (.bool (decide (126 < (byt a0 x3_16))))) (congrArg Value.bool b34_) rfl) ?_
              obtain rfl := Option.some.inj H
              exact L_nil <| thn_n ⟨(Kp.upd (Kp.upd (Kp.upd (Kp.upd (Kp.upd (Kp.refl _ _) rfl) rfl) rfl) rfl) rfl), ⟨_, rfl, rfl⟩, (Ext.refl w26)⟩
          intro s42 w38 z43 K39 hq h40 e41
          rw [hq] at h40; clear hq
          refine L_op (.plain rfl) rfl (ltb rfl) (X_move (v := (.bool z36)) h40) ?_
          obtain ⟨z45, x46, H⟩ := bind_some H
          refine L_grpE 5 [(33, 38)] 37 (fun q => q = z45) ?_ ?_
          · rcases bif_two x46 with ⟨b43_, H⟩ | ⟨b43_, H⟩
            · refine L_skip rfl rfl (ltb rfl) (congrArg Value.bool b43_) rfl rfl (ltb rfl) <| L_skip rfl rfl (ltb rfl) (congrArg Value.bool b43_) rfl rfl (ltb rfl) <| L_skip rfl rfl (ltb rfl) (congrArg Value.bool b43_) rfl rfl (ltb rfl) <| L_skip rfl rfl (ltb rfl) (congrArg Value.bool b43_) rfl rfl (ltb rfl) <| L_op (.plain rfl) rfl (ltb rfl) (X_pick (b := true) (v := (.bool true)) (congrArg Value.bool b43_) rfl) ?_
              obtain rfl := Option.some.inj H
              exact L_nil <| thn_n ⟨(Kp.upd (Kp.upd (Kp.upd (Kp.upd (Kp.upd (Kp.refl _ _) rfl) rfl) rfl) rfl) rfl), ⟨_, rfl, rfl⟩, (Ext.refl w38)⟩
            · refine L_op (.guard 10 false 32 rfl rfl (ltb rfl) (congrArg Value.bool b43_)) rfl (ltb rfl) (X_move (v := (S a0)) ((K39 0 rfl).trans ((K27 0 rfl).trans ((K11 0 rfl).trans (K5 0 rfl))))) <| L_op (.guard 10 false 32 rfl rfl (ltb rfl) (congrArg Value.bool b43_)) rfl (ltb rfl) (X_move (v := (.int .i64 x3_16)) ((K39 3 rfl).trans h30)) ?_
              obtain ⟨c45, H⟩ := bif_some H
              refine L_op (.guard 10 false 32 rfl rfl (ltb rfl) (congrArg Value.bool b43_)) rfl (ltb rfl) (X_indexS Tryz.underlying9 rfl rfl (inR_lo c45) (inR_hi c45)) <| L_op (.guard 10 false 32 rfl rfl (ltb rfl) (congrArg Value.bool b43_)) rfl (ltb rfl) (X_eql rfl rfl) <| L_op (.plain rfl) rfl (ltb rfl) (X_pick (b := false) (v := (.bool (decide ((byt a0 x3_16) = 47)))) (congrArg Value.bool b43_) rfl) ?_
              obtain rfl := Option.some.inj H
              exact L_nil <| thn_n ⟨(Kp.upd (Kp.upd (Kp.upd (Kp.upd (Kp.upd (Kp.refl _ _) rfl) rfl) rfl) rfl) rfl), ⟨_, rfl, rfl⟩, (Ext.refl w38)⟩
          intro s51 w47 z52 K48 hq h49 e50
          rw [hq] at h49; clear hq
          refine L_nil <| thn_n ?_
          rcases bif_two H with ⟨q53, H⟩ | ⟨q53, H⟩
          · refine W_true (h49.trans (congrArg Value.bool q53)) <| W_seq <| W_reg <| L_op (.plain rfl) rfl (ltb rfl) (X_assign (v := (.bool false)) rfl) <| L_nil <| thn_n <| W_ret <| blk_r <| thn_r <| thn_r <| blk_r <| thn_r <| thn_r <| fin_r ?_
            obtain rfl := Option.some.inj H
            obtain rfl := Option.some.inj S32
            have H := C19
            obtain rfl := Option.some.inj H
            exact fin1 rfl (Ext.trans (Ext.trans (Ext.trans (Ext.trans (Ext.trans e2 e7) e13) e28) e41) e50)
          · refine W_false (h49.trans (congrArg Value.bool q53)) <| W_skip <| blk_n <| thn_n <| W_reg <| L_op (.plain rfl) rfl (ltb rfl) (X_move (v := (.int .i64 x3_16)) ((K48 3 rfl).trans ((K39 3 rfl).trans h30))) <| L_op (.plain rfl) rfl (ltb rfl) (X_add rfl rfl) <| L_op (.plain rfl) rfl (ltb rfl) (X_assign (v := (.int .i64 (IntKind.wrap .i64 (x3_16 + 1)))) rfl) <| L_nil <| thn_n ?_
            obtain rfl := Option.some.inj H
            exact ⟨_, Nat.lt_succ_self _, IntKind.wrap .i64 (x3_16 + 1), (Kp.upd (Kp.upd (Kp.upd (Kp.cut (Kp.upd (Kp.cut (Kp.upd (Kp.upd (Kp.upd (Kp.upd (Kp.upd (Kp.upd (Kp.upd (Kp.upd (Kp.upd K27 rfl) rfl) rfl) rfl) rfl) rfl) rfl) rfl) rfl) K39 rfl) rfl) K48 rfl) rfl) rfl) rfl), rfl, (Ext.trans (Ext.trans e28 e41) e50), S32⟩
        · refine W_false (congrArg Value.bool q33) <| W_exit <| thn_x <| thn_x <| blk_x <| thn_n ?_
          obtain rfl := Option.some.inj H
          obtain rfl := Option.some.inj S32
          exact ⟨(Kp.upd (Kp.upd (Kp.upd (Kp.upd K27 rfl) rfl) rfl) rfl), e28, rfl⟩
    · rintro s21 w20 ⟨K22, e23, y54⟩
      rw [y54] at C19
      have H := C19
      replace H : _ = some _ := H
      refine thn_n <| W_seq <| W_reg <| L_op (.plain rfl) rfl (ltb rfl) (X_assign (v := (.bool true)) rfl) <| L_nil <| thn_n <| W_ret <| fin_r ?_
      obtain rfl := Option.some.inj H
      exact fin1 rfl (Ext.trans (Ext.trans (Ext.trans e2 e7) e13) e23)
theorem spec_l01Part.calls {w : World} {a0 : List UInt8} :
    Calls Tryz.prog 236 #[S a0] w (Rt (RP w (.bool (partOK a0)))) := by
  obtain ⟨k, h⟩ := spec_l01Part.eq a0
  exact spec_l01Part.walk h
/-! impl.PartOK -/
theorem impl_PartOK.walk {k : Nat} {w : World} {a0 : List UInt8} {r : Bool} (H : impl_PartOK.sh k a0 = some r) :
    Calls Tryz.prog 202 #[S a0] w (Rt (RP w (.bool r))) := by
  unfold impl_PartOK.sh at H
  refine calls_of_W Tryz.func202 rfl (Nat.le_of_ble_eq_true rfl) Tryz.ntmps202 rfl ?_
  refine W_seq <| W_reg <| L_op (.plain rfl) rfl (ltb rfl) (X_assign (v := (.bool false)) rfl) <| L_nil <| thn_n <| W_seq <| W_seq <| W_reg <| L_op (.plain rfl) rfl (ltb rfl) (X_move (v := (S a0)) rfl) <| L_op (.plain rfl) rfl (ltb rfl) (X_lenS Tryz.underlying9 rfl) <| L_op (.plain rfl) rfl (ltb rfl) (X_move (v := (.int .i64 0)) rfl) <| L_nil <| thn_n ?_
  obtain ⟨z2, L3, C4⟩ := bind_some H
  clear H
  refine  W_cutQ (fun s0 sQ wQ => Kp [(2, 4), (6, 22)] s0 sQ ∧ Ext w wQ ∧ z2 = .inr ()) ?_ ?_
  · refine W_block <| W_loopI (fun s0 kk sQ wQ => ∃ (x6_1 : Int), Kp [(2, 4), (6, 22)] s0 sQ ∧ sQ 6 = .int .i64 x6_1 ∧ Ext w wQ ∧ loopF (impl_PartOK.b1 a0) kk x6_1 = some z2) k ⟨0, (Kp.refl _ _), rfl, (Ext.refl w), L3⟩ ?_
    rintro k9 s10 w11 ⟨x6_1, K12, h15, e13, L14⟩
    cases k9 with
    | zero => exact absurd L14 (by simp [loopF])
    | succ k9 =>
      obtain ⟨t16, H, S17⟩ := loopF_succ L14
      clear L14
      unfold impl_PartOK.b1 at H
      refine W_seq <| W_reg <| L_op (.plain rfl) rfl (ltb rfl) (X_lss h15 (K12 5 rfl)) <| L_nil <| thn_n <| W_seq ?_
      rcases bif_two H with ⟨q18, H⟩ | ⟨q18, H⟩
      · refine W_true (congrArg Value.bool q18) <| W_skip <| thn_n <| W_seq <| W_block <| W_seq <| W_reg <| L_op (.plain rfl) rfl (ltb rfl) (X_move (v := (.int .i64 x6_1)) h15) <| L_op (.plain rfl) rfl (ltb rfl) (X_assign (v := (.int .i64 x6_1)) rfl) <| L_nil <| thn_n <| W_seq <| W_reg <| L_op (.plain rfl) rfl (ltb rfl) (X_move (v := (S a0)) (K12 0 rfl)) <| L_op (.plain rfl) rfl (ltb rfl) (X_move (v := (.int .i64 x6_1)) rfl) ?_
        obtain ⟨c19, H⟩ := bif_some H
        refine L_op (.plain rfl) rfl (ltb rfl) (X_indexS Tryz.underlying9 rfl rfl (inR_lo c19) (inR_hi c19)) <| L_op (.plain rfl) rfl (ltb rfl) (X_convInt Tryz.underlying5 Tryz.underlying3 rfl) <| L_callP (.plain rfl) rfl (ltb rfl) rfl Tryz.call148 (impl_within.calls (w := w11) (a0 := IntKind.wrap .i64 (byt a0 x6_1)) (a1 := 33) (a2 := 126)) rfl <| fun w20 e21 => L_op (.plain rfl) rfl (ltb rfl) (X_not rfl) <| L_op (.plain rfl) rfl (ltb rfl) (X_move (v := (.bool (!(within (IntKind.wrap .i64 (byt a0 x6_1)) 33 126)))) rfl) ?_
        obtain ⟨z23, x24, H⟩ := bind_some H
        refine L_grpE 5 [(16, 21)] 20 (fun q => q = z23) ?_ ?_
        · rcases bif_two x24 with ⟨b21_, H⟩ | ⟨b21_, H⟩
          · refine L_skip rfl rfl (ltb rfl) (congrArg Value.bool b21_) rfl rfl (ltb rfl) <| L_skip rfl rfl (ltb rfl) (congrArg Value.bool b21_) rfl rfl (ltb rfl) <| L_skip rfl rfl (ltb rfl) (congrArg Value.bool b21_) rfl rfl (ltb rfl) <| L_skip rfl rfl (ltb rfl) (congrArg Value.bool b21_) rfl rfl (ltb rfl) <| L_op (.plain rfl) rfl (ltb rfl) (X_pick (b := true) (v := (.bool true)) (congrArg Value.bool b21_) rfl) ?_
            obtain rfl := Option.some.inj H
            exact L_nil <| thn_n ⟨(Kp.upd (Kp.upd (Kp.upd (Kp.upd (Kp.upd (Kp.refl _ _) rfl) rfl) rfl) rfl) rfl), ⟨_, rfl, rfl⟩, (Ext.refl w20)⟩
          · refine L_op (.guard 6 false 15 rfl rfl (ltb rfl) (congrArg Value.bool b21_)) rfl (ltb rfl) (X_move (v := (S a0)) (K12 0 rfl)) <| L_op (.guard 6 false 15 rfl rfl (ltb rfl) (congrArg Value.bool b21_)) rfl (ltb rfl) (X_move (v := (.int .i64 x6_1)) rfl) ?_
            obtain ⟨c23, H⟩ := bif_some H
            refine L_op (.guard 6 false 15 rfl rfl (ltb rfl) (congrArg Value.bool b21_)) rfl (ltb rfl) (X_indexS Tryz.underlying9 rfl rfl (inR_lo c23) (inR_hi c23)) <| L_op (.guard 6 false 15 rfl rfl (ltb rfl) (congrArg Value.bool b21_)) rfl (ltb rfl) (X_eql rfl rfl) <| L_op (.plain rfl) rfl (ltb rfl) (X_pick (b := false) (v := (.bool (decide ((byt a0 x6_1) = 47)))) (congrArg Value.bool b21_) rfl) ?_
            obtain rfl := Option.some.inj H
            exact L_nil <| thn_n ⟨(Kp.upd (Kp.upd (Kp.upd (Kp.upd (Kp.upd (Kp.refl _ _) rfl) rfl) rfl) rfl) rfl), ⟨_, rfl, rfl⟩, (Ext.refl w20)⟩
        intro s29 w25 z30 K26 hq h27 e28
        rw [hq] at h27; clear hq
        refine L_nil <| thn_n ?_
        rcases bif_two H with ⟨q31, H⟩ | ⟨q31, H⟩
        · refine W_true (h27.trans (congrArg Value.bool q31)) <| W_seq <| W_reg <| L_op (.plain rfl) rfl (ltb rfl) (X_assign (v := (.bool false)) rfl) <| L_nil <| thn_n <| W_ret <| blk_r <| thn_r <| thn_r <| blk_r <| thn_r <| thn_r <| fin_r ?_
          obtain rfl := Option.some.inj H
          obtain rfl := Option.some.inj S17
          have H := C4
          obtain rfl := Option.some.inj H
          exact fin1 rfl (Ext.trans (Ext.trans e13 e21) e28)
        · refine W_false (h27.trans (congrArg Value.bool q31)) <| W_skip <| blk_n <| thn_n <| W_reg <| L_op (.plain rfl) rfl (ltb rfl) (X_add ((K26 6 rfl).trans h15) rfl) <| L_op (.plain rfl) rfl (ltb rfl) (X_move (v := (.int .i64 (IntKind.wrap .i64 (x6_1 + 1)))) rfl) <| L_nil <| thn_n ?_
          obtain rfl := Option.some.inj H
          exact ⟨_, Nat.lt_succ_self _, IntKind.wrap .i64 (x6_1 + 1), (Kp.upd (Kp.upd (Kp.cut (Kp.upd (Kp.upd (Kp.upd (Kp.upd (Kp.upd (Kp.upd (Kp.upd (Kp.upd (Kp.upd (Kp.upd K12 rfl) rfl) rfl) rfl) rfl) rfl) rfl) rfl) rfl) rfl) K26 rfl) rfl) rfl), rfl, (Ext.trans (Ext.trans e13 e21) e28), S17⟩
      · refine W_false (congrArg Value.bool q18) <| W_exit <| thn_x <| thn_x <| blk_x <| thn_n ?_
        obtain rfl := Option.some.inj H
        obtain rfl := Option.some.inj S17
        exact ⟨(Kp.upd K12 rfl), e13, rfl⟩
  · rintro s6 w5 ⟨K7, e8, y32⟩
    rw [y32] at C4
    have H := C4
    replace H : _ = some _ := H
    refine thn_n <| W_seq <| W_reg <| L_op (.plain rfl) rfl (ltb rfl) (X_move (v := (S a0)) (K7 0 rfl)) <| L_op (.plain rfl) rfl (ltb rfl) (X_lenS Tryz.underlying9 rfl) <| L_callP (.plain rfl) rfl (ltb rfl) rfl Tryz.call148 (impl_within.calls (w := w5) (a0 := (a0.length : Int)) (a1 := 1) (a2 := 8)) rfl <| fun w33 e34 => L_op (.plain rfl) rfl (ltb rfl) (X_move (v := (.bool (within (a0.length : Int) 1 8))) rfl) <| L_grp 3 [(26, 29)] 28 (.bool ((within (a0.length : Int) 1 8) && (!decide (a0 = ([46] : List UInt8))))) ?_ ?_
    · rcases bool_two (within (a0.length : Int) 1 8) with b34_ | b34_
      · exact L_op (.guard 3 true 25 rfl rfl (ltb rfl) (congrArg Value.bool b34_)) rfl (ltb rfl) (X_move (v := (S a0)) (K7 0 rfl)) <| L_op (.guard 3 true 25 rfl rfl (ltb rfl) (congrArg Value.bool b34_)) rfl (ltb rfl) (X_sne rfl rfl) <| L_op (.plain rfl) rfl (ltb rfl) (X_pick (b := true) (v := (.bool (!decide (a0 = ([46] : List UInt8))))) (congrArg Value.bool b34_) rfl) <| L_nil <| thn_n ⟨(Kp.upd (Kp.upd (Kp.upd (Kp.refl _ _) rfl) rfl) rfl), (and_t b34_), (Ext.refl w33)⟩
      · exact L_skip rfl rfl (ltb rfl) (congrArg Value.bool b34_) rfl rfl (ltb rfl) <| L_skip rfl rfl (ltb rfl) (congrArg Value.bool b34_) rfl rfl (ltb rfl) <| L_op (.plain rfl) rfl (ltb rfl) (X_pick (b := false) (v := (.bool false)) (congrArg Value.bool b34_) rfl) <| L_nil <| thn_n ⟨(Kp.upd (Kp.upd (Kp.upd (Kp.refl _ _) rfl) rfl) rfl), (and_f b34_), (Ext.refl w33)⟩
    intro s40 w36 K37 h38 e39
    refine L_op (.plain rfl) rfl (ltb rfl) (X_move h38) <| L_grp 3 [(30, 33)] 32 (.bool (((within (a0.length : Int) 1 8) && (!decide (a0 = ([46] : List UInt8)))) && (!decide (a0 = ([46, 46] : List UInt8))))) ?_ ?_
    · rcases bool_two ((within (a0.length : Int) 1 8) && (!decide (a0 = ([46] : List UInt8)))) with b40_ | b40_
      · exact L_op (.guard 7 true 29 rfl rfl (ltb rfl) (congrArg Value.bool b40_)) rfl (ltb rfl) (X_move (v := (S a0)) ((K37 0 rfl).trans (K7 0 rfl))) <| L_op (.guard 7 true 29 rfl rfl (ltb rfl) (congrArg Value.bool b40_)) rfl (ltb rfl) (X_sne rfl rfl) <| L_op (.plain rfl) rfl (ltb rfl) (X_pick (b := true) (v := (.bool (!decide (a0 = ([46, 46] : List UInt8))))) (congrArg Value.bool b40_) rfl) <| L_nil <| thn_n ⟨(Kp.upd (Kp.upd (Kp.upd (Kp.refl _ _) rfl) rfl) rfl), (and_t b40_), (Ext.refl w36)⟩
      · exact L_skip rfl rfl (ltb rfl) (congrArg Value.bool b40_) rfl rfl (ltb rfl) <| L_skip rfl rfl (ltb rfl) (congrArg Value.bool b40_) rfl rfl (ltb rfl) <| L_op (.plain rfl) rfl (ltb rfl) (X_pick (b := false) (v := (.bool false)) (congrArg Value.bool b40_) rfl) <| L_nil <| thn_n ⟨(Kp.upd (Kp.upd (Kp.upd (Kp.refl _ _) rfl) rfl) rfl), (and_f b40_), (Ext.refl w36)⟩
    intro s46 w42 K43 h44 e45
    refine L_op (.plain rfl) rfl (ltb rfl) (X_assign h44) <| L_nil <| thn_n <| W_ret <| fin_r ?_
    obtain rfl := Option.some.inj H
    exact fin1 rfl (Ext.trans (Ext.trans (Ext.trans e8 e34) e39) e45)
theorem impl_PartOK.calls {w : World} {a0 : List UInt8} (h0 : a0.length ≤ 4611686018427387904) :
    Calls Tryz.prog 202 #[S a0] w (Rt (RP w (.bool (partOK a0)))) := by
  obtain ⟨k, h⟩ := impl_PartOK.eq a0 h0
  exact impl_PartOK.walk h
/-! spec.l00Cut -/
theorem spec_l00Cut.walk {k : Nat} {w : World} {a0 : List UInt8} {a1 : Int} {r : List (List UInt8)} (H : spec_l00Cut.sh k a0 a1 = some r) :
    Calls Tryz.prog 161 #[S a0, .int .u8 a1] w (Rt (RO 9 1 encS w r)) := by
  unfold spec_l00Cut.sh at H
  refine calls_of_W Tryz.func161 rfl (Nat.le_of_ble_eq_true rfl) Tryz.ntmps161 rfl ?_
  refine W_seq <| W_reg <| L_op (.plain rfl) rfl (ltb rfl) (X_assign (v := (.slice none 0 0)) rfl) <| L_nil <| thn_n <| W_seq <| W_reg <| L_lit (.plain rfl) rfl (ltb rfl) rfl Tryz.underlying49 Tryz.sizeOf9 Tryz.zeroValue9 rfl rfl rfl (vs := []) rfl (lit_all rfl) <| fun b1 w2 z3 z4 e5 k6 => L_op (.plain rfl) rfl (ltb rfl) (X_assign (v := (.slice (some ⟨b1, 0, none⟩) 0 0)) rfl) <| L_nil <| thn_n <| W_seq <| W_reg <| L_op (.plain rfl) rfl (ltb rfl) (X_assign (v := (.int .i64 0)) rfl) <| L_nil <| thn_n <| W_seq <| W_seq <| W_reg <| L_op (.plain rfl) rfl (ltb rfl) (X_assign (v := (.int .i64 0)) rfl) <| L_nil <| thn_n ?_
  obtain ⟨z11, L12, C13⟩ := bind_some H
  clear H
  refine  W_cutQ (fun s0 sQ wQ => ∃ (x5_14 : List (List UInt8)) (v15 : Value) (x6_16 : Int), Kp [(5, 8), (9, 29)] s0 sQ ∧ sQ 5 = v15 ∧ Ow 9 1 encS w2.heap.size wQ v15 x5_14 ∧ sQ 6 = .int .i64 x6_16 ∧ Ext w2 wQ ∧ z11 = .inr (x5_14, x6_16)) ?_ ?_
  · refine W_block <| W_loopI (fun s0 kk sQ wQ => ∃ (x5_7 : List (List UInt8)) (v8 : Value) (x6_9 : Int) (x7_10 : Int), Kp [(5, 8), (9, 29)] s0 sQ ∧ sQ 5 = v8 ∧ Ow 9 1 encS w2.heap.size wQ v8 x5_7 ∧ sQ 6 = .int .i64 x6_9 ∧ sQ 7 = .int .i64 x7_10 ∧ Ext w2 wQ ∧ loopF (spec_l00Cut.b1 a0 a1) kk (x5_7, x6_9, x7_10) = some z11) k ⟨([] : List (List UInt8)), (.slice (some ⟨b1, 0, none⟩) 0 0), 0, 0, (Kp.refl _ _), rfl, (Ow.zero), rfl, rfl, (Ext.refl w2), L12⟩ ?_
    rintro k21 s22 w23 ⟨x5_7, v8, x6_9, x7_10, K24, h27, h28, h29, h30, e25, L26⟩
    cases k21 with
    | zero => exact absurd L26 (by simp [loopF])
    | succ k21 =>
      obtain ⟨t31, H, S32⟩ := loopF_succ L26
      clear L26
      unfold spec_l00Cut.b1 at H
      refine W_seq <| W_seq <| W_reg <| L_op (.plain rfl) rfl (ltb rfl) (X_move (v := (.int .i64 x7_10)) h30) <| L_op (.plain rfl) rfl (ltb rfl) (X_move (v := (S a0)) (K24 0 rfl)) <| L_op (.plain rfl) rfl (ltb rfl) (X_lenS Tryz.underlying9 rfl) <| L_op (.plain rfl) rfl (ltb rfl) (X_lss rfl rfl) <| L_nil <| thn_n ?_
      rcases bif_two H with ⟨q33, H⟩ | ⟨q33, H⟩
      · refine W_true (congrArg Value.bool q33) <| W_skip <| thn_n <| W_seq <| W_block <| W_seq <| W_reg <| L_op (.plain rfl) rfl (ltb rfl) (X_move (v := (S a0)) (K24 0 rfl)) <| L_op (.plain rfl) rfl (ltb rfl) (X_move (v := (.int .i64 x7_10)) h30) ?_
        obtain ⟨c34, H⟩ := bif_some H
        refine L_op (.plain rfl) rfl (ltb rfl) (X_indexS Tryz.underlying9 rfl rfl (inR_lo c34) (inR_hi c34)) <| L_op (.plain rfl) rfl (ltb rfl) (X_move (v := (.int .u8 a1)) (K24 1 rfl)) <| L_op (.plain rfl) rfl (ltb rfl) (X_eql rfl rfl) <| L_nil <| thn_n ?_
        rcases bif_two H with ⟨q35, H⟩ | ⟨q35, H⟩
        · refine W_true (congrArg Value.bool q35) <| W_seq <| W_reg <| L_op (.plain rfl) rfl (ltb rfl) (X_move (v := v8) h27) <| L_op (.plain rfl) rfl (ltb rfl) (X_move (v := (S a0)) (K24 0 rfl)) <| L_op (.plain rfl) rfl (ltb rfl) (X_move (v := (.int .i64 x6_9)) h29) <| L_op (.plain rfl) rfl (ltb rfl) (X_move (v := (.int .i64 x7_10)) h30) ?_
          obtain ⟨c36, H⟩ := bif_some H
          refine L_op (.plain rfl) rfl (ltb rfl) (X_sliceS Tryz.underlying9 rfl (l := x6_9) (h := x7_10) ⟨_, rfl⟩ ⟨_, rfl⟩ (inS_1 c36) (inS_2 c36) (inS_3 c36)) <| L_lit (.plain rfl) rfl (ltb rfl) rfl Tryz.underlying49 Tryz.sizeOf9 Tryz.zeroValue9 rfl rfl rfl (vs := [(S (sub a0 x6_9 x7_10))]) rfl (lit_all rfl) <| fun b37 w38 z39 z40 e41 k42 => ?_
          obtain ⟨c43, H⟩ := bif_some H
          refine L_append (enc := encS) (.plain rfl) rfl (ltb rfl) rfl El.t49 rfl rfl (Ow.ext h28 e41) (Ow.rd (Ow.new (xs := [sub a0 x6_9 x7_10]) (sz := 1) (enc := encS) (base := w23.heap.size) k42 (Nat.le_of_eq z39) rfl (fun _ _ => by rfl) (Nat.le_of_ble_eq_true rfl))) (ones_S _) (of_decide_eq_true c43) ((Ext.trans e25 e41)).size <| fun v44 w45 o46 z47 g48 => L_op (.plain rfl) rfl (ltb rfl) (X_assign (v := v44) rfl) <| L_nil <| thn_n <| W_reg <| L_op (.plain rfl) rfl (ltb rfl) (X_move (v := (.int .i64 x7_10)) h30) <| L_op (.plain rfl) rfl (ltb rfl) (X_add rfl rfl) <| L_op (.plain rfl) rfl (ltb rfl) (X_assign (v := (.int .i64 (IntKind.wrap .i64 (x7_10 + 1)))) rfl) <| L_nil <| blk_n <| thn_n <| W_reg <| L_op (.plain rfl) rfl (ltb rfl) (X_move (v := (.int .i64 x7_10)) h30) <| L_op (.plain rfl) rfl (ltb rfl) (X_add rfl rfl) <| L_op (.plain rfl) rfl (ltb rfl) (X_assign (v := (.int .i64 (IntKind.wrap .i64 (x7_10 + 1)))) rfl) <| L_nil <| thn_n ?_
          obtain rfl := Option.some.inj H
          exact ⟨_, Nat.lt_succ_self _, x5_7 ++ ([sub a0 x6_9 x7_10] : List (List UInt8)), v44, IntKind.wrap .i64 (x7_10 + 1), IntKind.wrap .i64 (x7_10 + 1), (Kp.upd (Kp.upd (Kp.upd (Kp.upd (Kp.upd (Kp.upd (Kp.upd (Kp.upd (Kp.upd (Kp.upd (Kp.upd (Kp.upd (Kp.upd (Kp.upd (Kp.upd (Kp.upd (Kp.upd (Kp.upd (Kp.upd (Kp.upd (Kp.upd (Kp.upd (Kp.upd K24 rfl) rfl) rfl) rfl) rfl) rfl) rfl) rfl) rfl) rfl) rfl) rfl) rfl) rfl) rfl) rfl) rfl) rfl) rfl) rfl) rfl) rfl) rfl), rfl, o46, rfl, rfl, (g48 _ (Ext.trans e25 e41)), S32⟩
        · refine W_false (congrArg Value.bool q35) <| W_skip <| blk_n <| thn_n <| W_reg <| L_op (.plain rfl) rfl (ltb rfl) (X_move (v := (.int .i64 x7_10)) h30) <| L_op (.plain rfl) rfl (ltb rfl) (X_add rfl rfl) <| L_op (.plain rfl) rfl (ltb rfl) (X_assign (v := (.int .i64 (IntKind.wrap .i64 (x7_10 + 1)))) rfl) <| L_nil <| thn_n ?_
          obtain rfl := Option.some.inj H
          exact ⟨_, Nat.lt_succ_self _, x5_7, v8, x6_9, IntKind.wrap .i64 (x7_10 + 1), (Kp.upd (Kp.upd (Kp.upd (Kp.upd (Kp.upd (Kp.upd (Kp.upd (Kp.upd (Kp.upd (Kp.upd (Kp.upd (Kp.upd K24 rfl) rfl) rfl) rfl) rfl) rfl) rfl) rfl) rfl) rfl) rfl) rfl), h27, h28, h29, rfl, e25, S32⟩
      · refine W_false (congrArg Value.bool q33) <| W_exit <| thn_x <| thn_x <| blk_x <| thn_n ?_
        obtain rfl := Option.some.inj H
        obtain rfl := Option.some.inj S32
        exact ⟨x5_7, v8, x6_9, (Kp.upd (Kp.upd (Kp.upd (Kp.upd K24 rfl) rfl) rfl) rfl), h27, h28, h29, e25, rfl⟩
  · rintro s18 w17 ⟨x5_14, v15, x6_16, K19, h49, h50, h51, e20, y52⟩
    rw [y52] at C13
    have H := C13
    replace H : _ = some _ := H
    refine thn_n <| W_seq <| W_reg <| L_op (.plain rfl) rfl (ltb rfl) (X_move (v := v15) h49) <| L_op (.plain rfl) rfl (ltb rfl) (X_move (v := (S a0)) (K19 0 rfl)) <| L_op (.plain rfl) rfl (ltb rfl) (X_move (v := (.int .i64 x6_16)) h51) ?_
    obtain ⟨c53, H⟩ := bif_some H
    refine L_op (.plain rfl) rfl (ltb rfl) (X_sliceS Tryz.underlying9 rfl (l := x6_16) (h := (a0.length : Int)) ⟨_, rfl⟩ rfl (inS_1 c53) (inS_2 c53) (inS_3 c53)) <| L_lit (.plain rfl) rfl (ltb rfl) rfl Tryz.underlying49 Tryz.sizeOf9 Tryz.zeroValue9 rfl rfl rfl (vs := [(S (sub a0 x6_16 (a0.length : Int)))]) rfl (lit_all rfl) <| fun b54 w55 z56 z57 e58 k59 => ?_
    obtain ⟨c60, H⟩ := bif_some H
    refine L_append (enc := encS) (.plain rfl) rfl (ltb rfl) rfl El.t49 rfl rfl (Ow.ext h50 e58) (Ow.rd (Ow.new (xs := [sub a0 x6_16 (a0.length : Int)]) (sz := 1) (enc := encS) (base := w17.heap.size) k59 (Nat.le_of_eq z56) rfl (fun _ _ => by rfl) (Nat.le_of_ble_eq_true rfl))) (ones_S _) (of_decide_eq_true c60) ((Ext.trans e20 e58)).size <| fun v61 w62 o63 z64 g65 => L_op (.plain rfl) rfl (ltb rfl) (X_assign (v := v61) rfl) <| L_nil <| thn_n <| W_ret <| fin_r ?_
    obtain rfl := Option.some.inj H
    exact fin1o rfl (Ext.trans e5 (g65 _ (Ext.trans e20 e58))) o63 (e5).size
theorem spec_l00Cut.calls {w : World} {a0 : List UInt8} {a1 : Int} (h0 : a0.length ≤ 1048576) :
    Calls Tryz.prog 161 #[S a0, .int .u8 a1] w (Rt (RO 9 1 encS w (cut a1 a0))) := by
  obtain ⟨k, h⟩ := spec_l00Cut.eq a0 a1 h0
  exact spec_l00Cut.walk h
/-! impl.parts -/
theorem impl_parts.walk {w : World} {a0 : List UInt8} (gv : GV 0 w) {r : List (List UInt8)} (H : impl_parts.sh a0 = some r) :
    Calls Tryz.prog 155 #[S a0] w (Rt (RO 9 1 encS w r)) := by
  unfold impl_parts.sh at H
  refine calls_of_W Tryz.func155 rfl (Nat.le_of_ble_eq_true rfl) Tryz.ntmps155 rfl ?_
  refine W_seq <| W_reg <| L_op (.plain rfl) rfl (ltb rfl) (X_assign (v := (.slice none 0 0)) rfl) <| L_nil <| thn_n <| W_seq <| W_reg <| L_op (.plain rfl) rfl (ltb rfl) (X_move (v := (S a0)) rfl) ?_
  obtain ⟨c1, H⟩ := bif_some H
  obtain ⟨c2, H⟩ := bif_some H
  refine L_callO (.plain rfl) rfl (ltb rfl) rfl Tryz.call194 (strings_Split.calls (w := w) (a0 := a0) (a1 := ([47] : List UInt8)) gv (of_decide_eq_true c1) (of_decide_eq_true c2)) rfl <| fun v5 w3 e4 o6 => L_op (.plain rfl) rfl (ltb rfl) (X_assign (v := v5) rfl) <| L_nil <| thn_n <| W_ret <| fin_r ?_
  obtain rfl := Option.some.inj H
  exact fin1o rfl e4 o6 ((Ext.refl w)).size
theorem impl_parts.calls {w : World} {a0 : List UInt8} (gv : GV 0 w) (h0 : a0.length ≤ 1048576) :
    Calls Tryz.prog 155 #[S a0] w (Rt (RO 9 1 encS w (cut 47 a0))) := impl_parts.walk gv (impl_parts.eq a0 h0)
/-! impl.all(string)$1 -/
theorem impl_allS_1.walk {w : World} {a0 : List UInt8} {a1 : List UInt8 → Option Bool} {v_a1 : Value} (f_a1 : ∀ (x0 : List UInt8) (r : Bool), a1 x0 = some r → FnAt Tryz.prog w v_a1 [(S x0)] (.bool r)) (g_a1 : v_a1.cells = #[v_a1]) {b_a1 : Nat} (k_a1 : Blk w b_a1 #[v_a1] 159) {r : Bool} (H : impl_allS_1.sh a0 a1 = some r) :
    Calls Tryz.prog 237 #[S a0, .pointer (some ⟨b_a1, 0, none⟩)] w (Rt (RP w (.bool r))) := by
  unfold impl_allS_1.sh at H
  refine calls_of_W Tryz.func237 rfl (Nat.le_of_ble_eq_true rfl) Tryz.ntmps237 rfl ?_
  refine W_seq <| W_reg <| L_op (.plain rfl) rfl (ltb rfl) (X_assign (v := (.bool false)) rfl) <| L_nil <| thn_n <| W_seq <| W_reg <| L_op (.plain rfl) rfl (ltb rfl) (X_loadB Tryz.isAgg159 k_a1 rfl rfl) <| L_op (.plain rfl) rfl (ltb rfl) (X_move (v := (S a0)) rfl) ?_
  obtain ⟨z1, x2, H⟩ := bind_some H
  refine L_callF (.plain rfl) rfl (ltb rfl) rfl rfl (FnAt.ext (f_a1 _ _ x2) (Ext.refl w)) rfl <| fun w3 e4 => L_op (.plain rfl) rfl (ltb rfl) (X_not rfl) <| L_op (.plain rfl) rfl (ltb rfl) (X_assign (v := (.bool (!z1))) rfl) <| L_nil <| thn_n <| W_ret <| fin_r ?_
  obtain rfl := Option.some.inj H
  exact fin1 rfl e4
theorem impl_allS_1.calls {w : World} {a0 : List UInt8} {a1 : List UInt8 → Option Bool} {r : Bool} {v_a1 : Value} (f_a1 : ∀ (x0 : List UInt8) (r : Bool), a1 x0 = some r → FnAt Tryz.prog w v_a1 [(S x0)] (.bool r)) (g_a1 : v_a1.cells = #[v_a1]) {b_a1 : Nat} (k_a1 : Blk w b_a1 #[v_a1] 159) (H : ((a1 a0).map (!·)) = some r) :
    Calls Tryz.prog 237 #[S a0, .pointer (some ⟨b_a1, 0, none⟩)] w (Rt (RP w (.bool r))) := impl_allS_1.walk f_a1 g_a1 k_a1 (impl_allS_1.eq a0 a1 H)
/-! slices.IndexFunc(()string,string) -/
theorem slices_IndexFuncS.walk {k : Nat} {w : World} {a0 : List (List UInt8)} {a1 : List UInt8 → Option Bool} {v_a0 : Value} (f_a0 : Rd 1 encS w v_a0 a0) {v_a1 : Value} (f_a1 : ∀ (x0 : List UInt8) (r : Bool), a1 x0 = some r → FnAt Tryz.prog w v_a1 [(S x0)] (.bool r)) (g_a1 : v_a1.cells = #[v_a1]) {r : Int} (H : slices_IndexFuncS.sh k a0 a1 = some r) :
    Calls Tryz.prog 247 #[v_a0, v_a1] w (Rt (RP w (.int .i64 r))) := by
  unfold slices_IndexFuncS.sh at H
  refine calls_of_W Tryz.func247 rfl (Nat.le_of_ble_eq_true rfl) Tryz.ntmps247 rfl ?_
  refine W_seq <| W_reg <| L_op (.plain rfl) rfl (ltb rfl) (X_assign (v := (.int .i64 0)) rfl) <| L_nil <| thn_n <| W_seq <| W_seq <| W_reg <| L_op (.plain rfl) rfl (ltb rfl) (X_move (v := v_a0) rfl) <| L_op (.plain rfl) rfl (ltb rfl) (X_lenR Tryz.underlying49 rfl f_a0) <| L_op (.plain rfl) rfl (ltb rfl) (X_move (v := (.int .i64 0)) rfl) <| L_nil <| thn_n ?_
  obtain ⟨z2, L3, C4⟩ := bind_some H
  clear H
  refine  W_cutQ (fun s0 sQ wQ => Kp [(4, 6), (8, 19)] s0 sQ ∧ Ext w wQ ∧ z2 = .inr ()) ?_ ?_
  · refine W_block <| W_loopI (fun s0 kk sQ wQ => ∃ (x8_1 : Int), Kp [(4, 6), (8, 19)] s0 sQ ∧ sQ 8 = .int .i64 x8_1 ∧ Ext w wQ ∧ loopF (slices_IndexFuncS.b1 a0 a1) kk x8_1 = some z2) k ⟨0, (Kp.refl _ _), rfl, (Ext.refl w), L3⟩ ?_
    rintro k9 s10 w11 ⟨x8_1, K12, h15, e13, L14⟩
    cases k9 with
    | zero => exact absurd L14 (by simp [loopF])
    | succ k9 =>
      obtain ⟨t16, H, S17⟩ := loopF_succ L14
      clear L14
      unfold slices_IndexFuncS.b1 at H
      refine W_seq <| W_reg <| L_op (.plain rfl) rfl (ltb rfl) (X_lss h15 (K12 7 rfl)) <| L_nil <| thn_n <| W_seq ?_
      rcases bif_two H with ⟨q18, H⟩ | ⟨q18, H⟩
      · refine W_true (congrArg Value.bool q18) <| W_skip <| thn_n <| W_seq <| W_block <| W_seq <| W_reg <| L_op (.plain rfl) rfl (ltb rfl) (X_move (v := (.int .i64 x8_1)) h15) <| L_op (.plain rfl) rfl (ltb rfl) (X_assign (v := (.int .i64 x8_1)) rfl) <| L_nil <| thn_n <| W_seq <| W_reg <| L_op (.plain rfl) rfl (ltb rfl) (X_move (v := v_a1) (K12 1 rfl)) <| L_op (.plain rfl) rfl (ltb rfl) (X_move (v := v_a0) (K12 0 rfl)) <| L_op (.plain rfl) rfl (ltb rfl) (X_move (v := (.int .i64 x8_1)) rfl) ?_
        obtain ⟨c19, H⟩ := bif_some H
        refine L_idx (.plain rfl) rfl (ltb rfl) rfl Tryz.underlying49 Tryz.sizeOf9 rfl (Rd.ext f_a0 e13) rfl c19 <| fun p20 h21 => L_op (.plain rfl) rfl (ltb rfl) (X_loadAt Tryz.isAgg9 rfl h21 rfl) ?_
        obtain ⟨z22, x23, H⟩ := bind_some H
        refine L_callF (.plain rfl) rfl (ltb rfl) rfl rfl (FnAt.ext (f_a1 _ _ x23) e13) rfl <| fun w24 e25 => L_nil <| thn_n ?_
        rcases bif_two H with ⟨q26, H⟩ | ⟨q26, H⟩
        · refine W_true (congrArg Value.bool q26) <| W_seq <| W_reg <| L_op (.plain rfl) rfl (ltb rfl) (X_move (v := (.int .i64 x8_1)) rfl) <| L_op (.plain rfl) rfl (ltb rfl) (X_assign (v := (.int .i64 x8_1)) rfl) <| L_nil <| thn_n <| W_ret <| blk_r <| thn_r <| thn_r <| blk_r <| thn_r <| thn_r <| fin_r ?_
          obtain rfl := Option.some.inj H
          obtain rfl := Option.some.inj S17
          have H := C4
          obtain rfl := Option.some.inj H
          exact fin1 rfl (Ext.trans e13 e25)
        · refine W_false (congrArg Value.bool q26) <| W_skip <| blk_n <| thn_n <| W_reg <| L_op (.plain rfl) rfl (ltb rfl) (X_add h15 rfl) <| L_op (.plain rfl) rfl (ltb rfl) (X_move (v := (.int .i64 (IntKind.wrap .i64 (x8_1 + 1)))) rfl) <| L_nil <| thn_n ?_
          obtain rfl := Option.some.inj H
          exact ⟨_, Nat.lt_succ_self _, IntKind.wrap .i64 (x8_1 + 1), (Kp.upd (Kp.upd (Kp.upd (Kp.upd (Kp.upd (Kp.upd (Kp.upd (Kp.upd (Kp.upd (Kp.upd (Kp.upd K12 rfl) rfl) rfl) rfl) rfl) rfl) rfl) rfl) rfl) rfl) rfl), rfl, (Ext.trans e13 e25), S17⟩
      · refine W_false (congrArg Value.bool q18) <| W_exit <| thn_x <| thn_x <| blk_x <| thn_n ?_
        obtain rfl := Option.some.inj H
        obtain rfl := Option.some.inj S17
        exact ⟨(Kp.upd K12 rfl), e13, rfl⟩
  · rintro s6 w5 ⟨K7, e8, y27⟩
    rw [y27] at C4
    have H := C4
    replace H : _ = some _ := H
    refine thn_n <| W_seq <| W_reg <| L_op (.plain rfl) rfl (ltb rfl) (X_assign (v := (.int .i64 (-1))) rfl) <| L_nil <| thn_n <| W_ret <| fin_r ?_
    obtain rfl := Option.some.inj H
    exact fin1 rfl e8
theorem slices_IndexFuncS.calls {w : World} {a0 : List (List UInt8)} {a1 : List UInt8 → Option Bool} {r : Int} {v_a0 : Value} (f_a0 : Rd 1 encS w v_a0 a0) {v_a1 : Value} (f_a1 : ∀ (x0 : List UInt8) (r : Bool), a1 x0 = some r → FnAt Tryz.prog w v_a1 [(S x0)] (.bool r)) (g_a1 : v_a1.cells = #[v_a1]) (h0 : a0.length ≤ 4611686018427387904) (H : (idxO a1 a0) = some r) :
    Calls Tryz.prog 247 #[v_a0, v_a1] w (Rt (RP w (.int .i64 r))) := by
  obtain ⟨k, h⟩ := slices_IndexFuncS.eq a0 a1 h0 H
  exact slices_IndexFuncS.walk f_a0 f_a1 g_a1 h
/-! slices.ContainsFunc(()string,string) -/
theorem slices_ContainsFuncS.walk {w : World} {a0 : List (List UInt8)} {a1 : List UInt8 → Option Bool} {v_a0 : Value} (f_a0 : Rd 1 encS w v_a0 a0) {v_a1 : Value} (f_a1 : ∀ (x0 : List UInt8) (r : Bool), a1 x0 = some r → FnAt Tryz.prog w v_a1 [(S x0)] (.bool r)) (g_a1 : v_a1.cells = #[v_a1]) {r : Bool} (H : slices_ContainsFuncS.sh a0 a1 = some r) :
    Calls Tryz.prog 220 #[v_a0, v_a1] w (Rt (RP w (.bool r))) := by
  unfold slices_ContainsFuncS.sh at H
  refine calls_of_W Tryz.func220 rfl (Nat.le_of_ble_eq_true rfl) Tryz.ntmps220 rfl ?_
  refine W_seq <| W_reg <| L_op (.plain rfl) rfl (ltb rfl) (X_assign (v := (.bool false)) rfl) <| L_nil <| thn_n <| W_seq <| W_reg <| L_op (.plain rfl) rfl (ltb rfl) (X_move (v := v_a0) rfl) <| L_op (.plain rfl) rfl (ltb rfl) (X_move (v := v_a1) rfl) ?_
  obtain ⟨c1, H⟩ := bif_some H
  obtain ⟨z2, x3, H⟩ := bind_some H
  refine L_callP (.plain rfl) rfl (ltb rfl) rfl Tryz.call247 (slices_IndexFuncS.calls (w := w) (a0 := a0) (a1 := a1) f_a0 (fun x0 r h => FnAt.ext (f_a1 x0 r h) (Ext.refl w)) g_a1 (of_decide_eq_true c1) x3) rfl <| fun w4 e5 => L_op (.plain rfl) rfl (ltb rfl) (X_geq rfl rfl) <| L_op (.plain rfl) rfl (ltb rfl) (X_assign (v := (.bool (decide (0 ≤ z2)))) rfl) <| L_nil <| thn_n <| W_ret <| fin_r ?_
  obtain rfl := Option.some.inj H
  exact fin1 rfl e5
theorem slices_ContainsFuncS.calls {w : World} {a0 : List (List UInt8)} {a1 : List UInt8 → Option Bool} {r : Bool} {v_a0 : Value} (f_a0 : Rd 1 encS w v_a0 a0) {v_a1 : Value} (f_a1 : ∀ (x0 : List UInt8) (r : Bool), a1 x0 = some r → FnAt Tryz.prog w v_a1 [(S x0)] (.bool r)) (g_a1 : v_a1.cells = #[v_a1]) (h0 : a0.length ≤ 4611686018427387904) (H : (anyO a1 a0) = some r) :
    Calls Tryz.prog 220 #[v_a0, v_a1] w (Rt (RP w (.bool r))) := slices_ContainsFuncS.walk f_a0 f_a1 g_a1 (slices_ContainsFuncS.eq a0 a1 h0 H)
/-! impl.all(string) -/
theorem impl_allS.walk {w : World} {a0 : List (List UInt8)} {a1 : List UInt8 → Option Bool} {v_a0 : Value} (f_a0 : Rd 1 encS w v_a0 a0) {v_a1 : Value} (f_a1 : ∀ (x0 : List UInt8) (r : Bool), a1 x0 = some r → FnAt Tryz.prog w v_a1 [(S x0)] (.bool r)) (g_a1 : v_a1.cells = #[v_a1]) {r : Bool} (H : impl_allS.sh a0 a1 = some r) :
    Calls Tryz.prog 201 #[v_a0, v_a1] w (Rt (RP w (.bool r))) := by
  unfold impl_allS.sh at H
  refine calls_of_W Tryz.func201 rfl (Nat.le_of_ble_eq_true rfl) Tryz.ntmps201 rfl ?_
  refine W_seq <| W_reg <| L_box (.plain rfl) rfl (ltb rfl) rfl rfl <| fun b1 w2 z3 z4 e5 k6 => L_op (.plain rfl) rfl (ltb rfl) (X_assign (v := (.bool false)) rfl) <| L_nil <| thn_n <| W_seq <| W_reg <| L_op (.plain rfl) rfl (ltb rfl) (X_move (v := v_a0) rfl) <| L_op (.plain rfl) rfl (ltb rfl) (X_makeFunc (vs := #[]) (us := #[.pointer (some ⟨b1, 0, none⟩)]) rfl rfl) ?_
  obtain ⟨c11, H⟩ := bif_some H
  obtain ⟨z12, x13, H⟩ := bind_some H
  refine L_callP (.plain rfl) rfl (ltb rfl) rfl Tryz.call220 (slices_ContainsFuncS.calls (w := w2) (a0 := a0) (a1 := (fun (x0_ : List UInt8) => ((a1 x0_).map (!·)))) (Rd.ext f_a0 e5) (fun x0_ r h => by exact FnAt.mk Tryz.call237 (by rfl) fun w9 k10 => impl_allS_1.calls (w := w9) (a0 := x0_) (a1 := a1) (fun x0 r h => FnAt.ext (f_a1 x0 r h) (Ext.trans e5 k10)) g_a1 (Blk.ext (Blk.cs k6 g_a1) k10) h) rfl (of_decide_eq_true c11) x13) rfl <| fun w14 e15 => L_op (.plain rfl) rfl (ltb rfl) (X_not rfl) <| L_op (.plain rfl) rfl (ltb rfl) (X_assign (v := (.bool (!z12))) rfl) <| L_nil <| thn_n <| W_ret <| fin_r ?_
  obtain rfl := Option.some.inj H
  exact fin1 rfl (Ext.trans e5 e15)
theorem impl_allS.calls {w : World} {a0 : List (List UInt8)} {a1 : List UInt8 → Option Bool} {r : Bool} {v_a0 : Value} (f_a0 : Rd 1 encS w v_a0 a0) {v_a1 : Value} (f_a1 : ∀ (x0 : List UInt8) (r : Bool), a1 x0 = some r → FnAt Tryz.prog w v_a1 [(S x0)] (.bool r)) (g_a1 : v_a1.cells = #[v_a1]) (h0 : a0.length ≤ 4611686018427387904) (H : (allO a1 a0) = some r) :
    Calls Tryz.prog 201 #[v_a0, v_a1] w (Rt (RP w (.bool r))) := impl_allS.walk f_a0 f_a1 g_a1 (impl_allS.eq a0 a1 h0 H)
/-! impl.PathOK -/
theorem impl_PathOK.walk {w : World} {a0 : List UInt8} (gv : GV 0 w) {r : Bool} (H : impl_PathOK.sh a0 = some r) :
    Calls Tryz.prog 167 #[S a0] w (Rt (RP w (.bool r))) := by
  unfold impl_PathOK.sh at H
  refine calls_of_W Tryz.func167 rfl (Nat.le_of_ble_eq_true rfl) Tryz.ntmps167 rfl ?_
  refine W_seq <| W_reg <| L_op (.plain rfl) rfl (ltb rfl) (X_assign (v := (.bool false)) rfl) <| L_nil <| thn_n <| W_seq <| W_reg <| L_op (.plain rfl) rfl (ltb rfl) (X_move (v := (S a0)) rfl) <| L_op (.plain rfl) rfl (ltb rfl) (X_lenS Tryz.underlying9 rfl) <| L_op (.plain rfl) rfl (ltb rfl) (X_lss rfl rfl) <| L_op (.plain rfl) rfl (ltb rfl) (X_move (v := (.bool (decide ((a0.length : Int) < 36)))) rfl) ?_
  obtain ⟨z2, x3, H⟩ := bind_some H
  refine L_grpE 5 [(7, 12)] 11 (fun q => q = z2) ?_ ?_
  · rcases bif_two x3 with ⟨b0_, H⟩ | ⟨b0_, H⟩
    · refine L_op (.guard 3 true 6 rfl rfl (ltb rfl) (congrArg Value.bool b0_)) rfl (ltb rfl) (X_move (v := (S a0)) rfl) ?_
      obtain ⟨c2, H⟩ := bif_some H
      refine L_callO (.guard 3 true 6 rfl rfl (ltb rfl) (congrArg Value.bool b0_)) rfl (ltb rfl) rfl Tryz.call155 (impl_parts.calls (w := w) (a0 := a0) gv (of_decide_eq_true c2)) rfl <| fun v5 w3 e4 o6 => L_op (.guard 3 true 6 rfl rfl (ltb rfl) (congrArg Value.bool b0_)) rfl (ltb rfl) (X_lenR Tryz.underlying49 rfl (Ow.rd o6)) <| L_op (.guard 3 true 6 rfl rfl (ltb rfl) (congrArg Value.bool b0_)) rfl (ltb rfl) (X_leq rfl rfl) <| L_op (.plain rfl) rfl (ltb rfl) (X_pick (b := true) (v := (.bool (decide (((cut 47 a0).length : Int) ≤ 4)))) (congrArg Value.bool b0_) rfl) ?_
      obtain rfl := Option.some.inj H
      exact L_nil <| thn_n ⟨(Kp.upd (Kp.upd (Kp.upd (Kp.upd (Kp.upd (Kp.refl _ _) rfl) rfl) rfl) rfl) rfl), ⟨_, rfl, rfl⟩, e4⟩
    · refine L_skip rfl rfl (ltb rfl) (congrArg Value.bool b0_) rfl rfl (ltb rfl) <| L_skip rfl rfl (ltb rfl) (congrArg Value.bool b0_) rfl rfl (ltb rfl) <| L_skip rfl rfl (ltb rfl) (congrArg Value.bool b0_) rfl rfl (ltb rfl) <| L_skip rfl rfl (ltb rfl) (congrArg Value.bool b0_) rfl rfl (ltb rfl) <| L_op (.plain rfl) rfl (ltb rfl) (X_pick (b := false) (v := (.bool false)) (congrArg Value.bool b0_) rfl) ?_
      obtain rfl := Option.some.inj H
      exact L_nil <| thn_n ⟨(Kp.upd (Kp.upd (Kp.upd (Kp.upd (Kp.upd (Kp.refl _ _) rfl) rfl) rfl) rfl) rfl), ⟨_, rfl, rfl⟩, (Ext.refl w)⟩
  intro s8 w4 z9 K5 hq h6 e7
  rw [hq] at h6; clear hq
  refine L_op (.plain rfl) rfl (ltb rfl) (X_move (v := (.bool z2)) h6) ?_
  obtain ⟨z11, x12, H⟩ := bind_some H
  refine L_grpE 4 [(13, 17)] 16 (fun q => q = z11) ?_ ?_
  · rcases bif_two x12 with ⟨b9_, H⟩ | ⟨b9_, H⟩
    · refine L_op (.guard 9 true 12 rfl rfl (ltb rfl) (congrArg Value.bool b9_)) rfl (ltb rfl) (X_move (v := (S a0)) (K5 0 rfl)) ?_
      obtain ⟨c11, H⟩ := bif_some H
      refine L_callO (.guard 9 true 12 rfl rfl (ltb rfl) (congrArg Value.bool b9_)) rfl (ltb rfl) rfl Tryz.call155 (impl_parts.calls (w := w4) (a0 := a0) (GV.ext gv e7) (of_decide_eq_true c11)) rfl <| fun v14 w12 e13 o15 => ?_
      obtain ⟨c20, H⟩ := bif_some H
      obtain ⟨z21, x22, H⟩ := bind_some H
      refine L_callP (.guard 9 true 12 rfl rfl (ltb rfl) (congrArg Value.bool b9_)) rfl (ltb rfl) rfl Tryz.call201 (impl_allS.calls (w := w12) (a0 := (cut 47 a0)) (a1 := (fun (x0_ : List UInt8) => bif decide (x0_.length ≤ 4611686018427387904) then (some (partOK x0_)) else none)) (Ow.rd o15) (fun x0_ r h => by obtain ⟨q0, h⟩ := bif_some h; have h := Option.some.inj h; subst h; exact FnAt.mk Tryz.call202 (by rfl) fun w18 k19 => impl_PartOK.calls (w := w18) (a0 := x0_) (of_decide_eq_true q0)) rfl (of_decide_eq_true c20) x22) rfl <| fun w23 e24 => L_op (.plain rfl) rfl (ltb rfl) (X_pick (b := true) (v := (.bool z21)) (congrArg Value.bool b9_) rfl) ?_
      obtain rfl := Option.some.inj H
      exact L_nil <| thn_n ⟨(Kp.upd (Kp.upd (Kp.upd (Kp.upd (Kp.refl _ _) rfl) rfl) rfl) rfl), ⟨_, rfl, rfl⟩, (Ext.trans e13 e24)⟩
    · refine L_skip rfl rfl (ltb rfl) (congrArg Value.bool b9_) rfl rfl (ltb rfl) <| L_skip rfl rfl (ltb rfl) (congrArg Value.bool b9_) rfl rfl (ltb rfl) <| L_skip rfl rfl (ltb rfl) (congrArg Value.bool b9_) rfl rfl (ltb rfl) <| L_op (.plain rfl) rfl (ltb rfl) (X_pick (b := false) (v := (.bool false)) (congrArg Value.bool b9_) rfl) ?_
      obtain rfl := Option.some.inj H
      exact L_nil <| thn_n ⟨(Kp.upd (Kp.upd (Kp.upd (Kp.upd (Kp.refl _ _) rfl) rfl) rfl) rfl), ⟨_, rfl, rfl⟩, (Ext.refl w4)⟩
  intro s25 w13 z26 K14 hq h15 e16
  rw [hq] at h15; clear hq
  refine L_op (.plain rfl) rfl (ltb rfl) (X_assign (v := (.bool z11)) h15) <| L_nil <| thn_n <| W_ret <| fin_r ?_
  obtain rfl := Option.some.inj H
  exact fin1 rfl (Ext.trans e7 e16)
theorem impl_PathOK.calls {w : World} {a0 : List UInt8} (gv : GV 0 w) :
    Calls Tryz.prog 167 #[S a0] w (Rt (RP w (.bool (pathOK a0)))) := impl_PathOK.walk gv (impl_PathOK.eq a0)
/-! impl.first -/
theorem impl_first.walk {k : Nat} {w : World} {a0 : List (Bool ⊕ Int)} {v_a0 : Value} (f_a0 : Rd 1 (encAny 4 3) w v_a0 a0) {r : Int} (H : impl_first.sh k a0 = some r) :
    Calls Tryz.prog 68 #[v_a0] w (Rt (RP w (.int .i64 r))) := by
  unfold impl_first.sh at H
  refine calls_of_W Tryz.func68 rfl (Nat.le_of_ble_eq_true rfl) Tryz.ntmps68 rfl ?_
  refine W_seq <| W_reg <| L_op (.plain rfl) rfl (ltb rfl) (X_assign (v := (.int .i64 0)) rfl) <| L_nil <| thn_n <| W_seq <| W_seq <| W_reg <| L_op (.plain rfl) rfl (ltb rfl) (X_assign (v := (.int .i64 0)) rfl) <| L_nil <| thn_n ?_
  obtain ⟨z2, L3, C4⟩ := bind_some H
  clear H
  refine  W_cutQ (fun s0 sQ wQ => Kp [(2, 34)] s0 sQ ∧ Ext w wQ ∧ z2 = .inr ()) ?_ ?_
  · refine W_block <| W_loopI (fun s0 kk sQ wQ => ∃ (x3_1 : Int), Kp [(2, 34)] s0 sQ ∧ sQ 3 = .int .i64 x3_1 ∧ Ext w wQ ∧ loopF (impl_first.b1 a0) kk x3_1 = some z2) k ⟨0, (Kp.refl _ _), rfl, (Ext.refl w), L3⟩ ?_
    rintro k9 s10 w11 ⟨x3_1, K12, h15, e13, L14⟩
    cases k9 with
    | zero => exact absurd L14 (by simp [loopF])
    | succ k9 =>
      obtain ⟨t16, H, S17⟩ := loopF_succ L14
      clear L14
      unfold impl_first.b1 at H
      refine W_seq <| W_seq <| W_reg <| L_op (.plain rfl) rfl (ltb rfl) (X_move (v := (.int .i64 x3_1)) h15) <| L_op (.plain rfl) rfl (ltb rfl) (X_add rfl rfl) <| L_op (.plain rfl) rfl (ltb rfl) (X_move (v := v_a0) (K12 0 rfl)) <| L_op (.plain rfl) rfl (ltb rfl) (X_lenR Tryz.underlying119 rfl (Rd.ext f_a0 e13)) <| L_op (.plain rfl) rfl (ltb rfl) (X_lss rfl rfl) <| L_nil <| thn_n ?_
      rcases bif_two H with ⟨q18, H⟩ | ⟨q18, H⟩
      · refine W_true (congrArg Value.bool q18) <| W_skip <| thn_n <| W_seq <| W_block <| W_seq <| W_reg <| L_op (.plain rfl) rfl (ltb rfl) (X_move (v := v_a0) (K12 0 rfl)) <| L_op (.plain rfl) rfl (ltb rfl) (X_move (v := (.int .i64 x3_1)) h15) ?_
        obtain ⟨c19, H⟩ := bif_some H
        refine L_idx (.plain rfl) rfl (ltb rfl) rfl Tryz.underlying119 Tryz.sizeOf20 rfl (Rd.ext f_a0 e13) rfl c19 <| fun p20 h21 => L_op (.plain rfl) rfl (ltb rfl) (X_loadAt Tryz.isAgg20 rfl h21 rfl) <| L_op (.plain rfl) rfl (ltb rfl) (X_taB Tryz.underlying4 Tryz.zeroValue4 (by decide) rfl) <| L_op (.plain rfl) rfl (ltb rfl) (X_move (v := (.tuple #[(.bool (anyB (gt a0 x3_1))), (.bool (isB (gt a0 x3_1)))])) rfl) <| L_op (.plain rfl) rfl (ltb rfl) (X_extract (v := (.bool (anyB (gt a0 x3_1)))) rfl rfl) <| L_op (.plain rfl) rfl (ltb rfl) (X_extract (v := (.bool (isB (gt a0 x3_1)))) rfl rfl) <| L_op (.plain rfl) rfl (ltb rfl) (X_assign (v := (.bool (anyB (gt a0 x3_1)))) rfl) <| L_op (.plain rfl) rfl (ltb rfl) (X_assign (v := (.bool (isB (gt a0 x3_1)))) rfl) <| L_nil <| thn_n <| W_seq <| W_reg <| L_op (.plain rfl) rfl (ltb rfl) (X_move (v := (.bool (anyB (gt a0 x3_1)))) rfl) <| L_nil <| thn_n ?_
        rcases bif_two H with ⟨q22, H⟩ | ⟨q22, H⟩
        · refine W_true (congrArg Value.bool q22) <| W_seq <| W_reg <| L_op (.plain rfl) rfl (ltb rfl) (X_move (v := v_a0) (K12 0 rfl)) <| L_op (.plain rfl) rfl (ltb rfl) (X_move (v := (.int .i64 x3_1)) h15) <| L_op (.plain rfl) rfl (ltb rfl) (X_add rfl rfl) ?_
          obtain ⟨c23, H⟩ := bif_some H
          refine L_idx (.plain rfl) rfl (ltb rfl) rfl Tryz.underlying119 Tryz.sizeOf20 rfl (Rd.ext f_a0 e13) rfl c23 <| fun p24 h25 => L_op (.plain rfl) rfl (ltb rfl) (X_loadAt Tryz.isAgg20 rfl h25 rfl) <| L_op (.plain rfl) rfl (ltb rfl) (X_taI Tryz.underlying3 Tryz.zeroValue3 (by decide) rfl) <| L_op (.plain rfl) rfl (ltb rfl) (X_move rfl) <| L_op (.plain rfl) rfl (ltb rfl) (X_extract (v := (.int .i64 (anyI (gt a0 (IntKind.wrap .i64 (x3_1 + 1)))))) rfl rfl) <| L_op (.plain rfl) rfl (ltb rfl) (X_extract (v := (.bool (!isB (gt a0 (IntKind.wrap .i64 (x3_1 + 1)))))) rfl rfl) <| L_op (.plain rfl) rfl (ltb rfl) (X_assign (v := (.int .i64 (anyI (gt a0 (IntKind.wrap .i64 (x3_1 + 1)))))) rfl) <| L_op (.plain rfl) rfl (ltb rfl) (X_assign (v := (.bool (!isB (gt a0 (IntKind.wrap .i64 (x3_1 + 1)))))) rfl) <| L_nil <| thn_n <| W_seq <| W_reg <| L_op (.plain rfl) rfl (ltb rfl) (X_move (v := (.int .i64 (anyI (gt a0 (IntKind.wrap .i64 (x3_1 + 1)))))) rfl) <| L_op (.plain rfl) rfl (ltb rfl) (X_assign (v := (.int .i64 (anyI (gt a0 (IntKind.wrap .i64 (x3_1 + 1)))))) rfl) <| L_nil <| thn_n <| W_ret <| blk_r <| thn_r <| thn_r <| blk_r <| thn_r <| thn_r <| fin_r ?_
          obtain rfl := Option.some.inj H
          obtain rfl := Option.some.inj S17
          have H := C4
          obtain rfl := Option.some.inj H
          exact fin1 rfl e13
        · refine W_false (congrArg Value.bool q22) <| W_skip <| blk_n <| thn_n <| W_reg <| L_op (.plain rfl) rfl (ltb rfl) (X_move (v := (.int .i64 x3_1)) h15) <| L_op (.plain rfl) rfl (ltb rfl) (X_add rfl rfl) <| L_op (.plain rfl) rfl (ltb rfl) (X_assign (v := (.int .i64 (IntKind.wrap .i64 (x3_1 + 2)))) rfl) <| L_nil <| thn_n ?_
          obtain rfl := Option.some.inj H
          exact ⟨_, Nat.lt_succ_self _, IntKind.wrap .i64 (x3_1 + 2), (Kp.upd (Kp.upd (Kp.upd (Kp.upd (Kp.upd (Kp.upd (Kp.upd (Kp.upd (Kp.upd (Kp.upd (Kp.upd (Kp.upd (Kp.upd (Kp.upd (Kp.upd (Kp.upd (Kp.upd (Kp.upd (Kp.upd K12 rfl) rfl) rfl) rfl) rfl) rfl) rfl) rfl) rfl) rfl) rfl) rfl) rfl) rfl) rfl) rfl) rfl) rfl) rfl), rfl, e13, S17⟩
      · refine W_false (congrArg Value.bool q18) <| W_exit <| thn_x <| thn_x <| blk_x <| thn_n ?_
        obtain rfl := Option.some.inj H
        obtain rfl := Option.some.inj S17
        exact ⟨(Kp.upd (Kp.upd (Kp.upd (Kp.upd (Kp.upd K12 rfl) rfl) rfl) rfl) rfl), e13, rfl⟩
  · rintro s6 w5 ⟨K7, e8, y26⟩
    rw [y26] at C4
    have H := C4
    replace H : _ = some _ := H
    refine thn_n <| W_seq <| W_reg <| L_op (.plain rfl) rfl (ltb rfl) (X_assign (v := (.int .i64 0)) rfl) <| L_nil <| thn_n <| W_ret <| fin_r ?_
    obtain rfl := Option.some.inj H
    exact fin1 rfl e8
theorem impl_first.calls {w : World} {a0 : List (Bool ⊕ Int)} {v_a0 : Value} (f_a0 : Rd 1 (encAny 4 3) w v_a0 a0) (h0 : a0.length ≤ 4611686018427387904) :
    Calls Tryz.prog 68 #[v_a0] w (Rt (RP w (.int .i64 (firstOf a0)))) := by
  obtain ⟨k, h⟩ := impl_first.eq a0 h0
  exact impl_first.walk f_a0 h
/-! spec.l01OK -/
theorem spec_l01OK.walk {k : Nat} {w : World} {a0 : List UInt8} {r : Bool} (H : spec_l01OK.sh k a0 = some r) :
    Calls Tryz.prog 197 #[S a0] w (Rt (RP w (.bool r))) := by
  unfold spec_l01OK.sh at H
  refine calls_of_W Tryz.func197 rfl (Nat.le_of_ble_eq_true rfl) Tryz.ntmps197 rfl ?_
  refine W_seq <| W_reg <| L_op (.plain rfl) rfl (ltb rfl) (X_assign (v := (.bool false)) rfl) <| L_nil <| thn_n <| W_seq <| W_seq <| W_reg <| L_op (.plain rfl) rfl (ltb rfl) (X_move (v := (S a0)) rfl) <| L_op (.plain rfl) rfl (ltb rfl) (X_lenS Tryz.underlying9 rfl) <| L_op (.plain rfl) rfl (ltb rfl) (X_gtr rfl rfl) <| L_nil <| thn_n ?_
  rcases bif_two H with ⟨q1, H⟩ | ⟨q1, H⟩
  · refine W_true (congrArg Value.bool q1) <| W_seq <| W_reg <| L_op (.plain rfl) rfl (ltb rfl) (X_assign (v := (.bool false)) rfl) <| L_nil <| thn_n <| W_ret <| thn_r <| fin_r ?_
    obtain rfl := Option.some.inj H
    exact fin1 rfl (Ext.refl w)
  · refine W_false (congrArg Value.bool q1) <| W_skip <| thn_n <| W_seq <| W_reg <| L_op (.plain rfl) rfl (ltb rfl) (X_move (v := (S a0)) rfl) ?_
    obtain ⟨c2, H⟩ := bif_some H
    refine L_callO (.plain rfl) rfl (ltb rfl) rfl Tryz.call161 (spec_l00Cut.calls (w := w) (a0 := a0) (a1 := 47) (of_decide_eq_true c2)) rfl <| fun v5 w3 e4 o6 => L_op (.plain rfl) rfl (ltb rfl) (X_assign (v := v5) rfl) <| L_nil <| thn_n <| W_seq <| W_seq <| W_reg <| L_op (.plain rfl) rfl (ltb rfl) (X_move (v := v5) rfl) <| L_op (.plain rfl) rfl (ltb rfl) (X_lenR Tryz.underlying49 rfl (Ow.rd o6)) <| L_op (.plain rfl) rfl (ltb rfl) (X_gtr rfl rfl) <| L_nil <| thn_n ?_
    rcases bif_two H with ⟨q7, H⟩ | ⟨q7, H⟩
    · refine W_true (congrArg Value.bool q7) <| W_seq <| W_reg <| L_op (.plain rfl) rfl (ltb rfl) (X_assign (v := (.bool false)) rfl) <| L_nil <| thn_n <| W_ret <| thn_r <| fin_r ?_
      obtain rfl := Option.some.inj H
      exact fin1 rfl e4
    · refine W_false (congrArg Value.bool q7) <| W_skip <| thn_n <| W_seq <| W_seq <| W_reg <| L_op (.plain rfl) rfl (ltb rfl) (X_assign (v := (.int .i64 0)) rfl) <| L_nil <| thn_n ?_
      obtain ⟨z9, L10, C11⟩ := bind_some H
      clear H
      refine  W_cutQ (fun s0 sQ wQ => Kp [(2, 3), (4, 5), (13, 25)] s0 sQ ∧ Ext w3 wQ ∧ z9 = .inr ()) ?_ ?_
      · refine W_block <| W_loopI (fun s0 kk sQ wQ => ∃ (x4_8 : Int), Kp [(2, 3), (4, 5), (13, 25)] s0 sQ ∧ sQ 4 = .int .i64 x4_8 ∧ Ext w3 wQ ∧ loopF (spec_l01OK.b1 a0) kk x4_8 = some z9) k ⟨0, (Kp.refl _ _), rfl, (Ext.refl w3), L10⟩ ?_
        rintro k16 s17 w18 ⟨x4_8, K19, h22, e20, L21⟩
        cases k16 with
        | zero => exact absurd L21 (by simp [loopF])
        | succ k16 =>
          obtain ⟨t23, H, S24⟩ := loopF_succ L21
          clear L21
          unfold spec_l01OK.b1 at H
          refine W_seq <| W_seq <| W_reg <| L_op (.plain rfl) rfl (ltb rfl) (X_move (v := (.int .i64 x4_8)) h22) <| L_op (.plain rfl) rfl (ltb rfl) (X_move (v := v5) (K19 3 rfl)) <| L_op (.plain rfl) rfl (ltb rfl) (X_lenR Tryz.underlying49 rfl (Ow.rd (Ow.ext o6 e20))) <| L_op (.plain rfl) rfl (ltb rfl) (X_lss rfl rfl) <| L_nil <| thn_n ?_
          rcases bif_two H with ⟨q25, H⟩ | ⟨q25, H⟩
          · refine W_true (congrArg Value.bool q25) <| W_skip <| thn_n <| W_seq <| W_block <| W_seq <| W_reg <| L_op (.plain rfl) rfl (ltb rfl) (X_move (v := v5) (K19 3 rfl)) <| L_op (.plain rfl) rfl (ltb rfl) (X_move (v := (.int .i64 x4_8)) h22) ?_
            obtain ⟨c26, H⟩ := bif_some H
            refine L_idx (.plain rfl) rfl (ltb rfl) rfl Tryz.underlying49 Tryz.sizeOf9 rfl (Ow.rd (Ow.ext o6 e20)) rfl c26 <| fun p27 h28 => L_op (.plain rfl) rfl (ltb rfl) (X_loadAt Tryz.isAgg9 rfl h28 rfl) <| L_callP (.plain rfl) rfl (ltb rfl) rfl Tryz.call236 (spec_l01Part.calls (w := w18) (a0 := gt (cut 47 a0) x4_8)) rfl <| fun w29 e30 => L_op (.plain rfl) rfl (ltb rfl) (X_not rfl) <| L_nil <| thn_n ?_
            rcases bif_two H with ⟨q31, H⟩ | ⟨q31, H⟩
            · refine W_true (congrArg Value.bool q31) <| W_seq <| W_reg <| L_op (.plain rfl) rfl (ltb rfl) (X_assign (v := (.bool false)) rfl) <| L_nil <| thn_n <| W_ret <| blk_r <| thn_r <| thn_r <| blk_r <| thn_r <| thn_r <| fin_r ?_
              obtain rfl := Option.some.inj H
              obtain rfl := Option.some.inj S24
              have H := C11
              obtain rfl := Option.some.inj H
              exact fin1 rfl (Ext.trans (Ext.trans e4 e20) e30)
            · refine W_false (congrArg Value.bool q31) <| W_skip <| blk_n <| thn_n <| W_reg <| L_op (.plain rfl) rfl (ltb rfl) (X_move (v := (.int .i64 x4_8)) h22) <| L_op (.plain rfl) rfl (ltb rfl) (X_add rfl rfl) <| L_op (.plain rfl) rfl (ltb rfl) (X_assign (v := (.int .i64 (IntKind.wrap .i64 (x4_8 + 1)))) rfl) <| L_nil <| thn_n ?_
              obtain rfl := Option.some.inj H
              exact ⟨_, Nat.lt_succ_self _, IntKind.wrap .i64 (x4_8 + 1), (Kp.upd (Kp.upd (Kp.upd (Kp.upd (Kp.upd (Kp.upd (Kp.upd (Kp.upd (Kp.upd (Kp.upd (Kp.upd (Kp.upd (Kp.upd K19 rfl) rfl) rfl) rfl) rfl) rfl) rfl) rfl) rfl) rfl) rfl) rfl) rfl), rfl, (Ext.trans e20 e30), S24⟩
          · refine W_false (congrArg Value.bool q25) <| W_exit <| thn_x <| thn_x <| blk_x <| thn_n ?_
            obtain rfl := Option.some.inj H
            obtain rfl := Option.some.inj S24
            exact ⟨(Kp.upd (Kp.upd (Kp.upd (Kp.upd K19 rfl) rfl) rfl) rfl), e20, rfl⟩
      · rintro s13 w12 ⟨K14, e15, y32⟩
        rw [y32] at C11
        have H := C11
        replace H : _ = some _ := H
        refine thn_n <| W_seq <| W_reg <| L_op (.plain rfl) rfl (ltb rfl) (X_assign (v := (.bool true)) rfl) <| L_nil <| thn_n <| W_ret <| fin_r ?_
        obtain rfl := Option.some.inj H
        exact fin1 rfl (Ext.trans e4 e15)
theorem spec_l01OK.calls {w : World} {a0 : List UInt8} :
    Calls Tryz.prog 197 #[S a0] w (Rt (RP w (.bool (pathOK a0)))) := by
  obtain ⟨k, h⟩ := spec_l01OK.eq a0
  exact spec_l01OK.walk h
/-! laws.szRecord -/
theorem laws_szRecord.walk {w : World} {a0 : Rec} {a1 : Int} {r : Int} (H : laws_szRecord.sh a0 a1 = some r) :
    Calls Tryz.prog 60 #[.agg (encRec a0).toArray, .int .i64 a1] w (Rt (RP w (.int .i64 r))) := by
  unfold laws_szRecord.sh at H
  refine calls_of_W Tryz.func60 rfl (Nat.le_of_ble_eq_true rfl) Tryz.ntmps60 rfl ?_
  refine W_seq <| W_reg <| L_box (.plain rfl) rfl (ltb rfl) rfl rfl <| fun b1 w2 z3 z4 e5 k6 => L_op (.plain rfl) rfl (ltb rfl) (X_assign (v := (.int .i64 0)) rfl) <| L_nil <| thn_n <| W_seq <| W_reg <| L_op (.plain rfl) rfl (ltb rfl) (X_move (v := (.int .i64 a1)) rfl) <| L_op (.plain rfl) rfl (ltb rfl) (X_fieldAddr Tryz.underlying71 rfl Tryz.sizeOf9 rfl rfl) <| L_op (.plain rfl) rfl (ltb rfl) (X_loadB Tryz.isAgg9 k6 rfl rfl) <| L_op (.plain rfl) rfl (ltb rfl) (X_lenS Tryz.underlying9 rfl) <| L_op (.plain rfl) rfl (ltb rfl) (X_sub rfl rfl) <| L_op (.plain rfl) rfl (ltb rfl) (X_assign (v := (.int .i64 (IntKind.wrap .i64 (a1 - (a0.path.length : Int))))) rfl) <| L_nil <| thn_n <| W_seq <| W_seq <| W_reg <| L_op (.plain rfl) rfl (ltb rfl) (X_move (v := (.int .i64 (IntKind.wrap .i64 (a1 - (a0.path.length : Int))))) rfl) <| L_op (.plain rfl) rfl (ltb rfl) (X_lss rfl rfl) <| L_nil <| thn_n ?_
  rcases bif_two H with ⟨q7, H⟩ | ⟨q7, H⟩
  · refine W_true (congrArg Value.bool q7) <| W_seq <| W_reg <| L_op (.plain rfl) rfl (ltb rfl) (X_assign (v := (.int .i64 (-1))) rfl) <| L_nil <| thn_n <| W_ret <| thn_r <| fin_r ?_
    obtain rfl := Option.some.inj H
    exact fin1 rfl e5
  · refine W_false (congrArg Value.bool q7) <| W_skip <| thn_n <| W_seq <| W_reg <| L_op (.plain rfl) rfl (ltb rfl) (X_move (v := (.int .i64 (IntKind.wrap .i64 (a1 - (a0.path.length : Int))))) rfl) <| L_op (.plain rfl) rfl (ltb rfl) (X_fieldAddr Tryz.underlying71 rfl Tryz.sizeOf9 rfl rfl) <| L_op (.plain rfl) rfl (ltb rfl) (X_loadB Tryz.isAgg9 k6 rfl rfl) <| L_op (.plain rfl) rfl (ltb rfl) (X_lenS Tryz.underlying9 rfl) <| L_op (.plain rfl) rfl (ltb rfl) (X_sub rfl rfl) <| L_op (.plain rfl) rfl (ltb rfl) (X_assign rfl) <| L_nil <| thn_n <| W_seq <| W_seq <| W_reg <| L_op (.plain rfl) rfl (ltb rfl) (X_move rfl) <| L_op (.plain rfl) rfl (ltb rfl) (X_lss rfl rfl) <| L_nil <| thn_n ?_
    rcases bif_two H with ⟨q8, H⟩ | ⟨q8, H⟩
    · refine W_true (congrArg Value.bool q8) <| W_seq <| W_reg <| L_op (.plain rfl) rfl (ltb rfl) (X_assign (v := (.int .i64 (-1))) rfl) <| L_nil <| thn_n <| W_ret <| thn_r <| fin_r ?_
      obtain rfl := Option.some.inj H
      exact fin1 rfl e5
    · refine W_false (congrArg Value.bool q8) <| W_skip <| thn_n <| W_seq <| W_reg <| L_op (.plain rfl) rfl (ltb rfl) (X_move rfl) <| L_op (.plain rfl) rfl (ltb rfl) (X_assign rfl) <| L_nil <| thn_n <| W_ret <| fin_r ?_
      obtain rfl := Option.some.inj H
      exact fin1 rfl e5
theorem laws_szRecord.calls {w : World} {a0 : Rec} {a1 : Int} (h0 : (0 : Int) ≤ a1) (h1 : (a1 : Int) ≤ 1048576) (h2 : a0.path.length ≤ 9223372036854775807) (h3 : a0.body.length ≤ 9223372036854775807) :
    Calls Tryz.prog 60 #[.agg (encRec a0).toArray, .int .i64 a1] w (Rt (RP w (.int .i64 (szRec a0 a1)))) := laws_szRecord.walk (laws_szRecord.eq a0 a1 h0 h1 h2 h3)
/-! laws.toRecord -/
theorem laws_toRecord.walk {w : World} {a0 : Rec} {r : Rec} (H : laws_toRecord.sh a0 = some r) :
    Calls Tryz.prog 66 #[.agg (encRec a0).toArray] w (Rt (RP w (.agg (encRec r).toArray))) := by
  unfold laws_toRecord.sh at H
  refine calls_of_WG Tryz.func66 rfl (Nat.le_of_ble_eq_true rfl) Tryz.ntmps66 ?_
  refine W_seq <| W_reg <| L_box (.plain rfl) rfl (ltb rfl) rfl rfl <| fun b1 w2 z3 z4 e5 k6 => L_alloc (.plain rfl) rfl (ltb rfl) rfl Tryz.zeroValue78 <| fun b7 w8 z9 z10 e11 k12 => L_nil <| thn_n <| W_seq <| W_reg <| L_alloc (.plain rfl) rfl (ltb rfl) rfl Tryz.zeroValue78 <| fun b13 w14 z15 z16 e17 k18 => L_nil <| thn_n <| W_seq <| W_reg <| L_op (.plain rfl) rfl (ltb rfl) (X_fieldAddr Tryz.underlying71 rfl Tryz.sizeOf3 rfl rfl) <| L_op (.plain rfl) rfl (ltb rfl) (X_loadB Tryz.isAgg3 (Blk.ext k6 (Ext.trans e11 e17)) rfl rfl) <| L_op (.plain rfl) rfl (ltb rfl) (X_fieldAddr Tryz.underlying78 rfl Tryz.sizeOf3 rfl rfl) <| L_store1 (.plain rfl) rfl rfl Tryz.sizeOf3 rfl rfl rfl k18 (ltb rfl) <| fun w19 h20 k21 => L_nil <| thn_n <| W_seq <| W_reg <| L_op (.plain rfl) rfl (ltb rfl) (X_fieldAddr Tryz.underlying71 rfl Tryz.sizeOf9 rfl rfl) <| L_op (.plain rfl) rfl (ltb rfl) (X_loadB Tryz.isAgg9 (Blk.ext k6 (Ext.trans e11 (Below.trans e17 (Wr.below h20 (Nat.le_of_eq z15))))) rfl rfl) <| L_op (.plain rfl) rfl (ltb rfl) (X_fieldAddr Tryz.underlying78 rfl Tryz.sizeOf9 rfl rfl) <| L_store1 (.plain rfl) rfl rfl Tryz.sizeOf9 rfl rfl rfl k21 (ltb rfl) <| fun w22 h23 k24 => L_nil <| thn_n <| W_seq <| W_reg <| L_op (.plain rfl) rfl (ltb rfl) (X_fieldAddr Tryz.underlying71 rfl Tryz.sizeOf9 rfl rfl) <| L_op (.plain rfl) rfl (ltb rfl) (X_loadB Tryz.isAgg9 (Blk.ext k6 (Ext.trans e11 (Below.trans (Below.trans e17 (Wr.below h20 (Nat.le_of_eq z15))) (Wr.below h23 (Nat.le_of_eq z15))))) rfl rfl) <| L_op (.plain rfl) rfl (ltb rfl) (X_fieldAddr Tryz.underlying78 rfl Tryz.sizeOf9 rfl rfl) <| L_store1 (.plain rfl) rfl rfl Tryz.sizeOf9 rfl rfl rfl k24 (ltb rfl) <| fun w25 h26 k27 => L_nil <| thn_n <| W_seq <| W_reg <| L_op (.plain rfl) rfl (ltb rfl) (X_fieldAddr Tryz.underlying71 rfl Tryz.sizeOf3 rfl rfl) <| L_op (.plain rfl) rfl (ltb rfl) (X_loadB Tryz.isAgg3 (Blk.ext k6 (Ext.trans e11 (Below.trans (Below.trans (Below.trans e17 (Wr.below h20 (Nat.le_of_eq z15))) (Wr.below h23 (Nat.le_of_eq z15))) (Wr.below h26 (Nat.le_of_eq z15))))) rfl rfl) <| L_op (.plain rfl) rfl (ltb rfl) (X_fieldAddr Tryz.underlying78 rfl Tryz.sizeOf3 rfl rfl) <| L_store1 (.plain rfl) rfl rfl Tryz.sizeOf3 rfl rfl rfl k27 (ltb rfl) <| fun w28 h29 k30 => L_nil <| thn_n <| W_seq <| W_reg <| L_op (.plain rfl) rfl (ltb rfl) (X_fieldAddr Tryz.underlying71 rfl Tryz.sizeOf4 rfl rfl) <| L_op (.plain rfl) rfl (ltb rfl) (X_loadB Tryz.isAgg4 (Blk.ext k6 (Ext.trans e11 (Below.trans (Below.trans (Below.trans (Below.trans e17 (Wr.below h20 (Nat.le_of_eq z15))) (Wr.below h23 (Nat.le_of_eq z15))) (Wr.below h26 (Nat.le_of_eq z15))) (Wr.below h29 (Nat.le_of_eq z15))))) rfl rfl) <| L_op (.plain rfl) rfl (ltb rfl) (X_fieldAddr Tryz.underlying78 rfl Tryz.sizeOf4 rfl rfl) <| L_store1 (.plain rfl) rfl rfl Tryz.sizeOf4 rfl rfl rfl k30 (ltb rfl) <| fun w31 h32 k33 => L_nil <| thn_n <| W_seq <| W_reg <| L_op (.plain rfl) rfl (ltb rfl) (X_loadS Tryz.isAgg78 Tryz.sizeOf78 rfl rfl (Blk.at0 k33)) <| L_storeA (.plain rfl) rfl rfl Tryz.sizeOf78 rfl rfl rfl rfl rfl (Blk.ext k12 (Below.trans (Below.trans (Below.trans (Below.trans (Below.trans e17 (Wr.below h20 (Nat.le_of_eq z15))) (Wr.below h23 (Nat.le_of_eq z15))) (Wr.below h26 (Nat.le_of_eq z15))) (Wr.below h29 (Nat.le_of_eq z15))) (Wr.below h32 (Nat.le_of_eq z15)))) <| fun w34 h35 k36 => L_nil <| thn_n <| W_ret <| finG_r ?_
  obtain rfl := Option.some.inj H
  exact finC1 rfl rfl k36 Tryz.isAgg78 Tryz.sizeOf78 rfl (Ext.trans e5 (Below.trans (Ext.trans e11 (Below.trans (Below.trans (Below.trans (Below.trans (Below.trans e17 (Wr.below h20 (Nat.le_of_eq z15))) (Wr.below h23 (Nat.le_of_eq z15))) (Wr.below h26 (Nat.le_of_eq z15))) (Wr.below h29 (Nat.le_of_eq z15))) (Wr.below h32 (Nat.le_of_eq z15)))) (Wr.below h35 (Nat.le_of_eq z9))))
theorem laws_toRecord.calls {w : World} {a0 : Rec} :
    Calls Tryz.prog 66 #[.agg (encRec a0).toArray] w (Rt (RP w (.agg (encRec a0).toArray))) := laws_toRecord.walk (laws_toRecord.eq a0)
/-! spec.l02Fault -/
theorem spec_l02Fault.walk {w : World} {a0 : Rec} {r : Int} (H : spec_l02Fault.sh a0 = some r) :
    Calls Tryz.prog 160 #[.agg (encRec a0).toArray] w (Rt (RP w (.int .i64 r))) := by
  unfold spec_l02Fault.sh at H
  refine calls_of_W Tryz.func160 rfl (Nat.le_of_ble_eq_true rfl) Tryz.ntmps160 rfl ?_
  refine W_seq <| W_reg <| L_box (.plain rfl) rfl (ltb rfl) rfl rfl <| fun b1 w2 z3 z4 e5 k6 => L_op (.plain rfl) rfl (ltb rfl) (X_assign (v := (.int .i64 0)) rfl) <| L_nil <| thn_n <| W_seq <| W_reg <| L_op (.plain rfl) rfl (ltb rfl) (X_fieldAddr Tryz.underlying78 rfl Tryz.sizeOf3 rfl rfl) <| L_op (.plain rfl) rfl (ltb rfl) (X_loadB Tryz.isAgg3 k6 rfl rfl) <| L_op (.plain rfl) rfl (ltb rfl) (X_eql rfl rfl) <| L_op (.plain rfl) rfl (ltb rfl) (X_assign (v := (.bool (decide (a0.kind = 3)))) rfl) <| L_nil <| thn_n <| W_seq <| W_block <| W_seq <| W_reg <| L_op (.plain rfl) rfl (ltb rfl) (X_fieldAddr Tryz.underlying78 rfl Tryz.sizeOf3 rfl rfl) <| L_op (.plain rfl) rfl (ltb rfl) (X_loadB Tryz.isAgg3 k6 rfl rfl) <| L_callP (.plain rfl) rfl (ltb rfl) rfl Tryz.call100 (spec_l01In.calls (w := w2) (a0 := a0.kind) (a1 := 1) (a2 := 4)) rfl <| fun w7 e8 => L_op (.plain rfl) rfl (ltb rfl) (X_not rfl) <| L_op (.plain rfl) rfl (ltb rfl) (X_assign (v := (.bool (!(within a0.kind 1 4)))) rfl) <| L_nil <| thn_n ?_
  rcases bif_two H with ⟨q9, H⟩ | ⟨q9, H⟩
  · refine W_true (congrArg Value.bool q9) <| W_seq <| W_reg <| L_op (.plain rfl) rfl (ltb rfl) (X_assign (v := (.int .i64 9)) rfl) <| L_nil <| thn_n <| W_ret <| blk_r <| thn_r <| fin_r ?_
    obtain rfl := Option.some.inj H
    exact fin1 rfl (Ext.trans e5 e8)
  · refine W_false (congrArg Value.bool q9) <| W_seq <| W_reg <| L_op (.plain rfl) rfl (ltb rfl) (X_fieldAddr Tryz.underlying78 rfl Tryz.sizeOf9 rfl rfl) <| L_op (.plain rfl) rfl (ltb rfl) (X_loadB Tryz.isAgg9 (Blk.ext k6 e8) rfl rfl) <| L_callP (.plain rfl) rfl (ltb rfl) rfl Tryz.call197 (spec_l01OK.calls (w := w7) (a0 := a0.path)) rfl <| fun w10 e11 => L_op (.plain rfl) rfl (ltb rfl) (X_not rfl) <| L_op (.plain rfl) rfl (ltb rfl) (X_assign (v := (.bool (!(pathOK a0.path)))) rfl) <| L_nil <| thn_n ?_
    rcases bif_two H with ⟨q12, H⟩ | ⟨q12, H⟩
    · refine W_true (congrArg Value.bool q12) <| W_seq <| W_reg <| L_op (.plain rfl) rfl (ltb rfl) (X_assign (v := (.int .i64 10)) rfl) <| L_nil <| thn_n <| W_ret <| blk_r <| thn_r <| fin_r ?_
      obtain rfl := Option.some.inj H
      exact fin1 rfl (Ext.trans (Ext.trans e5 e8) e11)
    · refine W_false (congrArg Value.bool q12) <| W_seq <| W_reg <| L_op (.plain rfl) rfl (ltb rfl) (X_fieldAddr Tryz.underlying78 rfl Tryz.sizeOf9 rfl rfl) <| L_op (.plain rfl) rfl (ltb rfl) (X_loadB Tryz.isAgg9 (Blk.ext k6 (Ext.trans e8 e11)) rfl rfl) <| L_op (.plain rfl) rfl (ltb rfl) (X_lenS Tryz.underlying9 rfl) <| L_op (.plain rfl) rfl (ltb rfl) (X_gtr rfl rfl) <| L_op (.plain rfl) rfl (ltb rfl) (X_move (v := (.bool (decide (20 < (a0.body.length : Int))))) rfl) <| L_grp 9 [(23, 32)] 31 (.bool ((decide (20 < (a0.body.length : Int))) || ((decide (a0.kind = 2)) && (decide (a0.body = ([] : List UInt8)))))) ?_ ?_
      · rcases bool_two (decide (20 < (a0.body.length : Int))) with b12_ | b12_
        · exact L_skip rfl rfl (ltb rfl) (congrArg Value.bool b12_) rfl rfl (ltb rfl) <| L_skip rfl rfl (ltb rfl) (congrArg Value.bool b12_) rfl rfl (ltb rfl) <| L_skip rfl rfl (ltb rfl) (congrArg Value.bool b12_) rfl rfl (ltb rfl) <| L_skip rfl rfl (ltb rfl) (congrArg Value.bool b12_) rfl rfl (ltb rfl) <| L_skipU rfl rfl (ltb rfl) rfl rfl (ltb rfl) <| L_skipU rfl rfl (ltb rfl) rfl rfl (ltb rfl) <| L_skipU rfl rfl (ltb rfl) rfl rfl (ltb rfl) <| L_skip rfl rfl (ltb rfl) (congrArg Value.bool b12_) rfl rfl (ltb rfl) <| L_op (.plain rfl) rfl (ltb rfl) (X_pick (b := true) (v := (.bool true)) (congrArg Value.bool b12_) rfl) <| L_nil <| thn_n ⟨(Kp.upd (Kp.upd (Kp.upd (Kp.upd (Kp.upd (Kp.upd (Kp.upd (Kp.upd (Kp.upd (Kp.refl _ _) rfl) rfl) rfl) rfl) rfl) rfl) rfl) rfl) rfl), (or_t b12_), (Ext.refl w10)⟩
        · refine L_op (.guard 4 false 22 rfl rfl (ltb rfl) (congrArg Value.bool b12_)) rfl (ltb rfl) (X_fieldAddr Tryz.underlying78 rfl Tryz.sizeOf3 rfl rfl) <| L_op (.guard 4 false 22 rfl rfl (ltb rfl) (congrArg Value.bool b12_)) rfl (ltb rfl) (X_loadB Tryz.isAgg3 (Blk.ext k6 (Ext.trans e8 e11)) rfl rfl) <| L_op (.guard 4 false 22 rfl rfl (ltb rfl) (congrArg Value.bool b12_)) rfl (ltb rfl) (X_eql rfl rfl) <| L_op (.guard 4 false 22 rfl rfl (ltb rfl) (congrArg Value.bool b12_)) rfl (ltb rfl) (X_move (v := (.bool (decide (a0.kind = 2)))) rfl) <| L_grp 4 [(27, 31)] 30 (.bool ((decide (a0.kind = 2)) && (decide (a0.body = ([] : List UInt8))))) ?_ ?_
          · rcases bool_two (decide (a0.kind = 2)) with b13_ | b13_
            · exact L_op (.guard 8 true 26 rfl rfl (ltb rfl) (congrArg Value.bool b13_)) rfl (ltb rfl) (X_fieldAddr Tryz.underlying78 rfl Tryz.sizeOf9 rfl rfl) <| L_op (.guard 8 true 26 rfl rfl (ltb rfl) (congrArg Value.bool b13_)) rfl (ltb rfl) (X_loadB Tryz.isAgg9 (Blk.ext k6 (Ext.trans e8 e11)) rfl rfl) <| L_op (.guard 8 true 26 rfl rfl (ltb rfl) (congrArg Value.bool b13_)) rfl (ltb rfl) (X_seq rfl rfl) <| L_op (.guard 4 false 22 rfl rfl (ltb rfl) (congrArg Value.bool b12_)) rfl (ltb rfl) (X_pick (b := true) (v := (.bool (decide (a0.body = ([] : List UInt8))))) (congrArg Value.bool b13_) rfl) <| L_nil <| thn_n ⟨(Kp.upd (Kp.upd (Kp.upd (Kp.upd (Kp.refl _ _) rfl) rfl) rfl) rfl), (and_t b13_), (Ext.refl w10)⟩
            · exact L_skip rfl rfl (ltb rfl) (congrArg Value.bool b13_) rfl rfl (ltb rfl) <| L_skip rfl rfl (ltb rfl) (congrArg Value.bool b13_) rfl rfl (ltb rfl) <| L_skip rfl rfl (ltb rfl) (congrArg Value.bool b13_) rfl rfl (ltb rfl) <| L_op (.guard 4 false 22 rfl rfl (ltb rfl) (congrArg Value.bool b12_)) rfl (ltb rfl) (X_pick (b := false) (v := (.bool false)) (congrArg Value.bool b13_) rfl) <| L_nil <| thn_n ⟨(Kp.upd (Kp.upd (Kp.upd (Kp.upd (Kp.refl _ _) rfl) rfl) rfl) rfl), (and_f b13_), (Ext.refl w10)⟩
          intro s19 w15 K16 h17 e18
          exact L_op (.plain rfl) rfl (ltb rfl) (X_pick (b := false) (v := (.bool ((decide (a0.kind = 2)) && (decide (a0.body = ([] : List UInt8)))))) ((K16 22 rfl).trans (congrArg Value.bool b12_)) h17) <| L_nil <| thn_n ⟨(Kp.upd (Kp.cut (Kp.upd (Kp.upd (Kp.upd (Kp.upd (Kp.refl _ _) rfl) rfl) rfl) rfl) K16 rfl) rfl), (or_f b12_), e18⟩
      intro s20 w14 K15 h16 e17
      refine L_op (.plain rfl) rfl (ltb rfl) (X_assign h16) <| L_nil <| thn_n ?_
      rcases bif_two H with ⟨q21, H⟩ | ⟨q21, H⟩
      · refine W_true (congrArg Value.bool q21) <| W_seq <| W_reg <| L_op (.plain rfl) rfl (ltb rfl) (X_assign (v := (.int .i64 8)) rfl) <| L_nil <| thn_n <| W_ret <| blk_r <| thn_r <| fin_r ?_
        obtain rfl := Option.some.inj H
        exact fin1 rfl (Ext.trans (Ext.trans (Ext.trans e5 e8) e11) e17)
      · refine W_false (congrArg Value.bool q21) <| W_seq <| W_reg <| L_op (.plain rfl) rfl (ltb rfl) (X_fieldAddr Tryz.underlying78 rfl Tryz.sizeOf9 rfl (K15 1 rfl)) <| L_op (.plain rfl) rfl (ltb rfl) (X_loadB Tryz.isAgg9 (Blk.ext k6 (Ext.trans (Ext.trans e8 e11) e17)) rfl rfl) <| L_op (.plain rfl) rfl (ltb rfl) (X_sne rfl rfl) <| L_op (.plain rfl) rfl (ltb rfl) (X_move (v := (.bool (!decide (a0.body = ([] : List UInt8))))) rfl) <| L_grp 7 [(37, 44)] 43 (.bool ((!decide (a0.body = ([] : List UInt8))) && ((decide (a0.kind = 3)) || (decide (a0.kind = 4))))) ?_ ?_
        · rcases bool_two (!decide (a0.body = ([] : List UInt8))) with b21_ | b21_
          · refine L_op (.guard 3 true 36 rfl rfl (ltb rfl) (congrArg Value.bool b21_)) rfl (ltb rfl) (X_move (v := (.bool (decide (a0.kind = 3)))) (K15 3 rfl)) <| L_op (.guard 3 true 36 rfl rfl (ltb rfl) (congrArg Value.bool b21_)) rfl (ltb rfl) (X_move (v := (.bool (decide (a0.kind = 3)))) rfl) <| L_grp 4 [(39, 43)] 42 (.bool ((decide (a0.kind = 3)) || (decide (a0.kind = 4)))) ?_ ?_
            · rcases bool_two (decide (a0.kind = 3)) with b22_ | b22_
              · exact L_skip rfl rfl (ltb rfl) (congrArg Value.bool b22_) rfl rfl (ltb rfl) <| L_skip rfl rfl (ltb rfl) (congrArg Value.bool b22_) rfl rfl (ltb rfl) <| L_skip rfl rfl (ltb rfl) (congrArg Value.bool b22_) rfl rfl (ltb rfl) <| L_op (.guard 3 true 36 rfl rfl (ltb rfl) (congrArg Value.bool b21_)) rfl (ltb rfl) (X_pick (b := true) (v := (.bool true)) (congrArg Value.bool b22_) rfl) <| L_nil <| thn_n ⟨(Kp.upd (Kp.upd (Kp.upd (Kp.upd (Kp.refl _ _) rfl) rfl) rfl) rfl), (or_t b22_), (Ext.refl w14)⟩
              · exact L_op (.guard 5 false 38 rfl rfl (ltb rfl) (congrArg Value.bool b22_)) rfl (ltb rfl) (X_fieldAddr Tryz.underlying78 rfl Tryz.sizeOf3 rfl (K15 1 rfl)) <| L_op (.guard 5 false 38 rfl rfl (ltb rfl) (congrArg Value.bool b22_)) rfl (ltb rfl) (X_loadB Tryz.isAgg3 (Blk.ext k6 (Ext.trans (Ext.trans e8 e11) e17)) rfl rfl) <| L_op (.guard 5 false 38 rfl rfl (ltb rfl) (congrArg Value.bool b22_)) rfl (ltb rfl) (X_eql rfl rfl) <| L_op (.guard 3 true 36 rfl rfl (ltb rfl) (congrArg Value.bool b21_)) rfl (ltb rfl) (X_pick (b := false) (v := (.bool (decide (a0.kind = 4)))) (congrArg Value.bool b22_) rfl) <| L_nil <| thn_n ⟨(Kp.upd (Kp.upd (Kp.upd (Kp.upd (Kp.refl _ _) rfl) rfl) rfl) rfl), (or_f b22_), (Ext.refl w14)⟩
            intro s28 w24 K25 h26 e27
            exact L_op (.plain rfl) rfl (ltb rfl) (X_pick (b := true) (v := (.bool ((decide (a0.kind = 3)) || (decide (a0.kind = 4))))) ((K25 36 rfl).trans (congrArg Value.bool b21_)) h26) <| L_nil <| thn_n ⟨(Kp.upd (Kp.cut (Kp.upd (Kp.upd (Kp.refl _ _) rfl) rfl) K25 rfl) rfl), (and_t b21_), e27⟩
          · exact L_skip rfl rfl (ltb rfl) (congrArg Value.bool b21_) rfl rfl (ltb rfl) <| L_skip rfl rfl (ltb rfl) (congrArg Value.bool b21_) rfl rfl (ltb rfl) <| L_skipU rfl rfl (ltb rfl) rfl rfl (ltb rfl) <| L_skipU rfl rfl (ltb rfl) rfl rfl (ltb rfl) <| L_skipU rfl rfl (ltb rfl) rfl rfl (ltb rfl) <| L_skip rfl rfl (ltb rfl) (congrArg Value.bool b21_) rfl rfl (ltb rfl) <| L_op (.plain rfl) rfl (ltb rfl) (X_pick (b := false) (v := (.bool false)) (congrArg Value.bool b21_) rfl) <| L_nil <| thn_n ⟨(Kp.upd (Kp.upd (Kp.upd (Kp.upd (Kp.upd (Kp.upd (Kp.upd (Kp.refl _ _) rfl) rfl) rfl) rfl) rfl) rfl) rfl), (and_f b21_), (Ext.refl w14)⟩
        intro s29 w23 K24 h25 e26
        refine L_op (.plain rfl) rfl (ltb rfl) (X_move h25) <| L_grp 7 [(45, 52)] 51 (.bool (((!decide (a0.body = ([] : List UInt8))) && ((decide (a0.kind = 3)) || (decide (a0.kind = 4)))) || (a0.opq && (!(decide (a0.kind = 3)))))) ?_ ?_
        · rcases bool_two ((!decide (a0.body = ([] : List UInt8))) && ((decide (a0.kind = 3)) || (decide (a0.kind = 4)))) with b29_ | b29_
          · exact L_skip rfl rfl (ltb rfl) (congrArg Value.bool b29_) rfl rfl (ltb rfl) <| L_skip rfl rfl (ltb rfl) (congrArg Value.bool b29_) rfl rfl (ltb rfl) <| L_skip rfl rfl (ltb rfl) (congrArg Value.bool b29_) rfl rfl (ltb rfl) <| L_skipU rfl rfl (ltb rfl) rfl rfl (ltb rfl) <| L_skipU rfl rfl (ltb rfl) rfl rfl (ltb rfl) <| L_skip rfl rfl (ltb rfl) (congrArg Value.bool b29_) rfl rfl (ltb rfl) <| L_op (.plain rfl) rfl (ltb rfl) (X_pick (b := true) (v := (.bool true)) (congrArg Value.bool b29_) rfl) <| L_nil <| thn_n ⟨(Kp.upd (Kp.upd (Kp.upd (Kp.upd (Kp.upd (Kp.upd (Kp.upd (Kp.refl _ _) rfl) rfl) rfl) rfl) rfl) rfl) rfl), (or_t b29_), (Ext.refl w23)⟩
          · refine L_op (.guard 11 false 44 rfl rfl (ltb rfl) (congrArg Value.bool b29_)) rfl (ltb rfl) (X_fieldAddr Tryz.underlying78 rfl Tryz.sizeOf4 rfl ((K24 1 rfl).trans (K15 1 rfl))) <| L_op (.guard 11 false 44 rfl rfl (ltb rfl) (congrArg Value.bool b29_)) rfl (ltb rfl) (X_loadB Tryz.isAgg4 (Blk.ext k6 (Ext.trans (Ext.trans (Ext.trans e8 e11) e17) e26)) rfl rfl) <| L_op (.guard 11 false 44 rfl rfl (ltb rfl) (congrArg Value.bool b29_)) rfl (ltb rfl) (X_move (v := (.bool a0.opq)) rfl) <| L_grp 3 [(48, 51)] 50 (.bool (a0.opq && (!(decide (a0.kind = 3))))) ?_ ?_
            · rcases bool_two a0.opq with b30_ | b30_
              · exact L_op (.guard 14 true 47 rfl rfl (ltb rfl) (congrArg Value.bool b30_)) rfl (ltb rfl) (X_move (v := (.bool (decide (a0.kind = 3)))) ((K24 3 rfl).trans (K15 3 rfl))) <| L_op (.guard 14 true 47 rfl rfl (ltb rfl) (congrArg Value.bool b30_)) rfl (ltb rfl) (X_not rfl) <| L_op (.guard 11 false 44 rfl rfl (ltb rfl) (congrArg Value.bool b29_)) rfl (ltb rfl) (X_pick (b := true) (v := (.bool (!(decide (a0.kind = 3))))) (congrArg Value.bool b30_) rfl) <| L_nil <| thn_n ⟨(Kp.upd (Kp.upd (Kp.upd (Kp.refl _ _) rfl) rfl) rfl), (and_t b30_), (Ext.refl w23)⟩
              · exact L_skip rfl rfl (ltb rfl) (congrArg Value.bool b30_) rfl rfl (ltb rfl) <| L_skip rfl rfl (ltb rfl) (congrArg Value.bool b30_) rfl rfl (ltb rfl) <| L_op (.guard 11 false 44 rfl rfl (ltb rfl) (congrArg Value.bool b29_)) rfl (ltb rfl) (X_pick (b := false) (v := (.bool false)) (congrArg Value.bool b30_) rfl) <| L_nil <| thn_n ⟨(Kp.upd (Kp.upd (Kp.upd (Kp.refl _ _) rfl) rfl) rfl), (and_f b30_), (Ext.refl w23)⟩
            intro s36 w32 K33 h34 e35
            exact L_op (.plain rfl) rfl (ltb rfl) (X_pick (b := false) (v := (.bool (a0.opq && (!(decide (a0.kind = 3)))))) ((K33 44 rfl).trans (congrArg Value.bool b29_)) h34) <| L_nil <| thn_n ⟨(Kp.upd (Kp.cut (Kp.upd (Kp.upd (Kp.upd (Kp.refl _ _) rfl) rfl) rfl) K33 rfl) rfl), (or_f b29_), e35⟩
        intro s37 w31 K32 h33 e34
        refine L_op (.plain rfl) rfl (ltb rfl) (X_assign h33) <| L_nil <| thn_n ?_
        rcases bif_two H with ⟨q38, H⟩ | ⟨q38, H⟩
        · refine W_true (congrArg Value.bool q38) <| W_seq <| W_reg <| L_op (.plain rfl) rfl (ltb rfl) (X_assign (v := (.int .i64 3)) rfl) <| L_nil <| thn_n <| W_ret <| blk_r <| thn_r <| fin_r ?_
          obtain rfl := Option.some.inj H
          exact fin1 rfl (Ext.trans (Ext.trans (Ext.trans (Ext.trans (Ext.trans e5 e8) e11) e17) e26) e34)
        · refine W_false (congrArg Value.bool q38) <| W_seq <| W_reg <| L_op (.plain rfl) rfl (ltb rfl) (X_fieldAddr Tryz.underlying78 rfl Tryz.sizeOf3 rfl ((K32 1 rfl).trans ((K24 1 rfl).trans (K15 1 rfl)))) <| L_op (.plain rfl) rfl (ltb rfl) (X_loadB Tryz.isAgg3 (Blk.ext k6 (Ext.trans (Ext.trans (Ext.trans (Ext.trans e8 e11) e17) e26) e34)) rfl rfl) <| L_callP (.plain rfl) rfl (ltb rfl) rfl Tryz.call100 (spec_l01In.calls (w := w31) (a0 := a0.mode) (a1 := 0) (a2 := 511)) rfl <| fun w39 e40 => L_op (.plain rfl) rfl (ltb rfl) (X_not rfl) <| L_op (.plain rfl) rfl (ltb rfl) (X_move (v := (.bool (!(within a0.mode 0 511)))) rfl) <| L_grp 14 [(58, 72)] 71 (.bool ((!(within a0.mode 0 511)) || ((!decide (a0.mode = 0)) && ((decide (a0.kind = 4)) || (decide (a0.kind = 2)))))) ?_ ?_
          · rcases bool_two (!(within a0.mode 0 511)) with b40_ | b40_
            · exact L_skip rfl rfl (ltb rfl) (congrArg Value.bool b40_) rfl rfl (ltb rfl) <| L_skip rfl rfl (ltb rfl) (congrArg Value.bool b40_) rfl rfl (ltb rfl) <| L_skip rfl rfl (ltb rfl) (congrArg Value.bool b40_) rfl rfl (ltb rfl) <| L_skip rfl rfl (ltb rfl) (congrArg Value.bool b40_) rfl rfl (ltb rfl) <| L_skipU rfl rfl (ltb rfl) rfl rfl (ltb rfl) <| L_skipU rfl rfl (ltb rfl) rfl rfl (ltb rfl) <| L_skipU rfl rfl (ltb rfl) rfl rfl (ltb rfl) <| L_skipU rfl rfl (ltb rfl) rfl rfl (ltb rfl) <| L_skipU rfl rfl (ltb rfl) rfl rfl (ltb rfl) <| L_skipU rfl rfl (ltb rfl) rfl rfl (ltb rfl) <| L_skipU rfl rfl (ltb rfl) rfl rfl (ltb rfl) <| L_skipU rfl rfl (ltb rfl) rfl rfl (ltb rfl) <| L_skip rfl rfl (ltb rfl) (congrArg Value.bool b40_) rfl rfl (ltb rfl) <| L_op (.plain rfl) rfl (ltb rfl) (X_pick (b := true) (v := (.bool true)) (congrArg Value.bool b40_) rfl) <| L_nil <| thn_n ⟨(Kp.upd (Kp.upd (Kp.upd (Kp.upd (Kp.upd (Kp.upd (Kp.upd (Kp.upd (Kp.upd (Kp.upd (Kp.upd (Kp.upd (Kp.upd (Kp.upd (Kp.refl _ _) rfl) rfl) rfl) rfl) rfl) rfl) rfl) rfl) rfl) rfl) rfl) rfl) rfl) rfl), (or_t b40_), (Ext.refl w39)⟩
            · refine L_op (.guard 4 false 57 rfl rfl (ltb rfl) (congrArg Value.bool b40_)) rfl (ltb rfl) (X_fieldAddr Tryz.underlying78 rfl Tryz.sizeOf3 rfl ((K32 1 rfl).trans ((K24 1 rfl).trans (K15 1 rfl)))) <| L_op (.guard 4 false 57 rfl rfl (ltb rfl) (congrArg Value.bool b40_)) rfl (ltb rfl) (X_loadB Tryz.isAgg3 (Blk.ext k6 (Ext.trans (Ext.trans (Ext.trans (Ext.trans (Ext.trans e8 e11) e17) e26) e34) e40)) rfl rfl) <| L_op (.guard 4 false 57 rfl rfl (ltb rfl) (congrArg Value.bool b40_)) rfl (ltb rfl) (X_neq rfl rfl) <| L_op (.guard 4 false 57 rfl rfl (ltb rfl) (congrArg Value.bool b40_)) rfl (ltb rfl) (X_move (v := (.bool (!decide (a0.mode = 0)))) rfl) <| L_grp 9 [(62, 71)] 70 (.bool ((!decide (a0.mode = 0)) && ((decide (a0.kind = 4)) || (decide (a0.kind = 2))))) ?_ ?_
              · rcases bool_two (!decide (a0.mode = 0)) with b41_ | b41_
                · refine L_op (.guard 8 true 61 rfl rfl (ltb rfl) (congrArg Value.bool b41_)) rfl (ltb rfl) (X_fieldAddr Tryz.underlying78 rfl Tryz.sizeOf3 rfl ((K32 1 rfl).trans ((K24 1 rfl).trans (K15 1 rfl)))) <| L_op (.guard 8 true 61 rfl rfl (ltb rfl) (congrArg Value.bool b41_)) rfl (ltb rfl) (X_loadB Tryz.isAgg3 (Blk.ext k6 (Ext.trans (Ext.trans (Ext.trans (Ext.trans (Ext.trans e8 e11) e17) e26) e34) e40)) rfl rfl) <| L_op (.guard 8 true 61 rfl rfl (ltb rfl) (congrArg Value.bool b41_)) rfl (ltb rfl) (X_eql rfl rfl) <| L_op (.guard 8 true 61 rfl rfl (ltb rfl) (congrArg Value.bool b41_)) rfl (ltb rfl) (X_move (v := (.bool (decide (a0.kind = 4)))) rfl) <| L_grp 4 [(66, 70)] 69 (.bool ((decide (a0.kind = 4)) || (decide (a0.kind = 2)))) ?_ ?_
                  · rcases bool_two (decide (a0.kind = 4)) with b42_ | b42_
                    · exact L_skip rfl rfl (ltb rfl) (congrArg Value.bool b42_) rfl rfl (ltb rfl) <| L_skip rfl rfl (ltb rfl) (congrArg Value.bool b42_) rfl rfl (ltb rfl) <| L_skip rfl rfl (ltb rfl) (congrArg Value.bool b42_) rfl rfl (ltb rfl) <| L_op (.guard 8 true 61 rfl rfl (ltb rfl) (congrArg Value.bool b41_)) rfl (ltb rfl) (X_pick (b := true) (v := (.bool true)) (congrArg Value.bool b42_) rfl) <| L_nil <| thn_n ⟨(Kp.upd (Kp.upd (Kp.upd (Kp.upd (Kp.refl _ _) rfl) rfl) rfl) rfl), (or_t b42_), (Ext.refl w39)⟩
                    · exact L_op (.guard 12 false 65 rfl rfl (ltb rfl) (congrArg Value.bool b42_)) rfl (ltb rfl) (X_fieldAddr Tryz.underlying78 rfl Tryz.sizeOf3 rfl ((K32 1 rfl).trans ((K24 1 rfl).trans (K15 1 rfl)))) <| L_op (.guard 12 false 65 rfl rfl (ltb rfl) (congrArg Value.bool b42_)) rfl (ltb rfl) (X_loadB Tryz.isAgg3 (Blk.ext k6 (Ext.trans (Ext.trans (Ext.trans (Ext.trans (Ext.trans e8 e11) e17) e26) e34) e40)) rfl rfl) <| L_op (.guard 12 false 65 rfl rfl (ltb rfl) (congrArg Value.bool b42_)) rfl (ltb rfl) (X_eql rfl rfl) <| L_op (.guard 8 true 61 rfl rfl (ltb rfl) (congrArg Value.bool b41_)) rfl (ltb rfl) (X_pick (b := false) (v := (.bool (decide (a0.kind = 2)))) (congrArg Value.bool b42_) rfl) <| L_nil <| thn_n ⟨(Kp.upd (Kp.upd (Kp.upd (Kp.upd (Kp.refl _ _) rfl) rfl) rfl) rfl), (or_f b42_), (Ext.refl w39)⟩
                  intro s48 w44 K45 h46 e47
                  exact L_op (.guard 4 false 57 rfl rfl (ltb rfl) ((K45 57 rfl).trans (congrArg Value.bool b40_))) rfl (ltb rfl) (X_pick (b := true) (v := (.bool ((decide (a0.kind = 4)) || (decide (a0.kind = 2))))) ((K45 61 rfl).trans (congrArg Value.bool b41_)) h46) <| L_nil <| thn_n ⟨(Kp.upd (Kp.cut (Kp.upd (Kp.upd (Kp.upd (Kp.upd (Kp.refl _ _) rfl) rfl) rfl) rfl) K45 rfl) rfl), (and_t b41_), e47⟩
                · exact L_skip rfl rfl (ltb rfl) (congrArg Value.bool b41_) rfl rfl (ltb rfl) <| L_skip rfl rfl (ltb rfl) (congrArg Value.bool b41_) rfl rfl (ltb rfl) <| L_skip rfl rfl (ltb rfl) (congrArg Value.bool b41_) rfl rfl (ltb rfl) <| L_skip rfl rfl (ltb rfl) (congrArg Value.bool b41_) rfl rfl (ltb rfl) <| L_skipU rfl rfl (ltb rfl) rfl rfl (ltb rfl) <| L_skipU rfl rfl (ltb rfl) rfl rfl (ltb rfl) <| L_skipU rfl rfl (ltb rfl) rfl rfl (ltb rfl) <| L_skip rfl rfl (ltb rfl) (congrArg Value.bool b41_) rfl rfl (ltb rfl) <| L_op (.guard 4 false 57 rfl rfl (ltb rfl) (congrArg Value.bool b40_)) rfl (ltb rfl) (X_pick (b := false) (v := (.bool false)) (congrArg Value.bool b41_) rfl) <| L_nil <| thn_n ⟨(Kp.upd (Kp.upd (Kp.upd (Kp.upd (Kp.upd (Kp.upd (Kp.upd (Kp.upd (Kp.upd (Kp.refl _ _) rfl) rfl) rfl) rfl) rfl) rfl) rfl) rfl) rfl), (and_f b41_), (Ext.refl w39)⟩
              intro s49 w43 K44 h45 e46
              exact L_op (.plain rfl) rfl (ltb rfl) (X_pick (b := false) (v := (.bool ((!decide (a0.mode = 0)) && ((decide (a0.kind = 4)) || (decide (a0.kind = 2)))))) ((K44 57 rfl).trans (congrArg Value.bool b40_)) h45) <| L_nil <| thn_n ⟨(Kp.upd (Kp.cut (Kp.upd (Kp.upd (Kp.upd (Kp.upd (Kp.refl _ _) rfl) rfl) rfl) rfl) K44 rfl) rfl), (or_f b40_), e46⟩
          intro s50 w42 K43 h44 e45
          refine L_op (.plain rfl) rfl (ltb rfl) (X_assign h44) <| L_nil <| thn_n ?_
          rcases bif_two H with ⟨q51, H⟩ | ⟨q51, H⟩
          · refine W_true (congrArg Value.bool q51) <| W_seq <| W_reg <| L_op (.plain rfl) rfl (ltb rfl) (X_assign (v := (.int .i64 4)) rfl) <| L_nil <| thn_n <| W_ret <| blk_r <| thn_r <| fin_r ?_
            obtain rfl := Option.some.inj H
            exact fin1 rfl (Ext.trans (Ext.trans (Ext.trans (Ext.trans (Ext.trans (Ext.trans (Ext.trans e5 e8) e11) e17) e26) e34) e40) e45)
          · refine W_false (congrArg Value.bool q51) <| W_skip <| blk_n <| thn_n <| W_seq <| W_reg <| L_op (.plain rfl) rfl (ltb rfl) (X_assign (v := (.int .i64 0)) rfl) <| L_nil <| thn_n <| W_ret <| fin_r ?_
            obtain rfl := Option.some.inj H
            exact fin1 rfl (Ext.trans (Ext.trans (Ext.trans (Ext.trans (Ext.trans (Ext.trans (Ext.trans e5 e8) e11) e17) e26) e34) e40) e45)
theorem spec_l02Fault.calls {w : World} {a0 : Rec} :
    Calls Tryz.prog 160 #[.agg (encRec a0).toArray] w (Rt (RP w (.int .i64 (recFault a0)))) := spec_l02Fault.walk (spec_l02Fault.eq a0)
/-! impl.RecordFault -/
abbrev impl_RecordFault.e1 (a0 : Rec) := (((decide (a0.kind = 3)) || (decide (a0.kind = 4))) && (!decide (a0.body = ([] : List UInt8))))
abbrev impl_RecordFault.e2 (a0 : Rec) := ([.inl (!(within a0.kind 1 4)), .inr 9, .inl (!(pathOK a0.path)), .inr 10, .inl ((decide (20 < (a0.body.length : Int))) || ((decide (a0.kind = 2)) && (decide (a0.body = ([] : List UInt8))))), .inr 8, .inl ((impl_RecordFault.e1 a0) || ((!decide (a0.kind = 3)) && a0.opq)), .inr 3, .inl ((!(within a0.mode 0 511)) || (((decide (a0.kind = 2)) || (decide (a0.kind = 4))) && (!decide (a0.mode = 0)))), .inr 4] : List (Bool ⊕ Int))
abbrev impl_RecordFault.e3 (a0 : Rec) := ((decide (a0.kind = 2)) || (decide (a0.kind = 4)))
abbrev impl_RecordFault.e4 (a0 : Rec) := ((decide (a0.kind = 3)) || (decide (a0.kind = 4)))
abbrev impl_RecordFault.e5 (a0 : Rec) := ((decide (20 < (a0.body.length : Int))) || ((decide (a0.kind = 2)) && (decide (a0.body = ([] : List UInt8)))))
abbrev impl_RecordFault.e6 (a0 : Rec) := ((!(within a0.mode 0 511)) || ((impl_RecordFault.e3 a0) && (!decide (a0.mode = 0))))
abbrev impl_RecordFault.e7 (a0 : Rec) := ((!(decide (20 < (a0.body.length : Int)))) && (decide (a0.kind = 2)))
theorem impl_RecordFault.walk {w : World} {a0 : Rec} (gv : GV 0 w) {r : Int} (H : impl_RecordFault.sh a0 = some r) :
    Calls Tryz.prog 200 #[.agg (encRec a0).toArray] w (Rt (RP w (.int .i64 r))) := by
  unfold impl_RecordFault.sh at H
  refine calls_of_W Tryz.func200 rfl (Nat.le_of_ble_eq_true rfl) Tryz.ntmps200 rfl ?_
  refine W_seq <| W_reg <| L_box (.plain rfl) rfl (ltb rfl) rfl rfl <| fun b1 w2 z3 z4 e5 k6 => L_op (.plain rfl) rfl (ltb rfl) (X_assign (v := (.int .i64 0)) rfl) <| L_nil <| thn_n <| W_seq <| W_reg <| L_op (.plain rfl) rfl (ltb rfl) (X_fieldAddr Tryz.underlying78 rfl Tryz.sizeOf3 rfl rfl) <| L_op (.plain rfl) rfl (ltb rfl) (X_loadB Tryz.isAgg3 k6 rfl rfl) <| L_op (.plain rfl) rfl (ltb rfl) (X_eql rfl rfl) <| L_op (.plain rfl) rfl (ltb rfl) (X_move (v := (.bool (decide (a0.kind = 3)))) rfl) <| L_grp 4 [(8, 12)] 11 (.bool (impl_RecordFault.e4 a0)) ?_ ?_
  · rcases bool_two (decide (a0.kind = 3)) with b6_ | b6_
    · exact L_skip rfl rfl (ltb rfl) (congrArg Value.bool b6_) rfl rfl (ltb rfl) <| L_skip rfl rfl (ltb rfl) (congrArg Value.bool b6_) rfl rfl (ltb rfl) <| L_skip rfl rfl (ltb rfl) (congrArg Value.bool b6_) rfl rfl (ltb rfl) <| L_op (.plain rfl) rfl (ltb rfl) (X_pick (b := true) (v := (.bool true)) (congrArg Value.bool b6_) rfl) <| L_nil <| thn_n ⟨(Kp.upd (Kp.upd (Kp.upd (Kp.upd (Kp.refl _ _) rfl) rfl) rfl) rfl), (or_t b6_), (Ext.refl w2)⟩
    · exact L_op (.guard 3 false 7 rfl rfl (ltb rfl) (congrArg Value.bool b6_)) rfl (ltb rfl) (X_fieldAddr Tryz.underlying78 rfl Tryz.sizeOf3 rfl rfl) <| L_op (.guard 3 false 7 rfl rfl (ltb rfl) (congrArg Value.bool b6_)) rfl (ltb rfl) (X_loadB Tryz.isAgg3 k6 rfl rfl) <| L_op (.guard 3 false 7 rfl rfl (ltb rfl) (congrArg Value.bool b6_)) rfl (ltb rfl) (X_eql rfl rfl) <| L_op (.plain rfl) rfl (ltb rfl) (X_pick (b := false) (v := (.bool (decide (a0.kind = 4)))) (congrArg Value.bool b6_) rfl) <| L_nil <| thn_n ⟨(Kp.upd (Kp.upd (Kp.upd (Kp.upd (Kp.refl _ _) rfl) rfl) rfl) rfl), (or_f b6_), (Ext.refl w2)⟩
  intro s12 w8 K9 h10 e11
  refine L_op (.plain rfl) rfl (ltb rfl) (X_assign (v := (.bool (impl_RecordFault.e4 a0))) h10) <| L_nil <| thn_n <| W_seq ?_
  obtain ⟨c25, H⟩ := bif_some H
  refine W_drawM [LEq (.pointer (some ⟨b1, 0, none⟩)), LEq (.int .i64 a0.kind), LEq (.bool (within a0.kind 1 4)), LEq (.bool (!(within a0.kind 1 4))), LEq (.iface 4 (.bool (!(within a0.kind 1 4)))), LEq (.iface 3 (.int .i64 9)), LEq (.pointer (some ⟨b1, 1, none⟩)), LEq (S a0.path), LEq (.bool (pathOK a0.path)), LEq (.bool (!(pathOK a0.path))), LEq (.iface 4 (.bool (!(pathOK a0.path)))), LEq (.iface 3 (.int .i64 10)), LEq (.pointer (some ⟨b1, 2, none⟩)), LEq (S a0.body), LEq (.int .i64 (a0.body.length : Int)), LEq (.bool (decide (20 < (a0.body.length : Int)))), LEq (.bool (decide (20 < (a0.body.length : Int)))), LIf (!(decide (20 < (a0.body.length : Int)))) (LEq (.pointer (some ⟨b1, 0, none⟩))), LIf (!(decide (20 < (a0.body.length : Int)))) (LEq (.int .i64 a0.kind)), LIf (!(decide (20 < (a0.body.length : Int)))) (LEq (.bool (decide (a0.kind = 2)))), LIf (!(decide (20 < (a0.body.length : Int)))) (LEq (.bool (decide (a0.kind = 2)))), LIf (impl_RecordFault.e7 a0) (LEq (.pointer (some ⟨b1, 2, none⟩))), LIf (impl_RecordFault.e7 a0) (LEq (S a0.body)), LIf (impl_RecordFault.e7 a0) (LEq (.bool (decide (a0.body = ([] : List UInt8))))), LIf (!(decide (20 < (a0.body.length : Int)))) (LEq (.bool ((decide (a0.kind = 2)) && (decide (a0.body = ([] : List UInt8)))))), LEq (.bool (impl_RecordFault.e5 a0)), LEq (.iface 4 (.bool (impl_RecordFault.e5 a0))), LEq (.iface 3 (.int .i64 8)), LEq (.bool (impl_RecordFault.e4 a0)), LEq (.bool (impl_RecordFault.e4 a0)), LIf (impl_RecordFault.e4 a0) (LEq (.pointer (some ⟨b1, 2, none⟩))), LIf (impl_RecordFault.e4 a0) (LEq (S a0.body)), LIf (impl_RecordFault.e4 a0) (LEq (.bool (!decide (a0.body = ([] : List UInt8))))), LEq (.bool (impl_RecordFault.e1 a0)), LEq (.bool (impl_RecordFault.e1 a0)), LIf (!(impl_RecordFault.e1 a0)) (LEq (.pointer (some ⟨b1, 0, none⟩))), LIf (!(impl_RecordFault.e1 a0)) (LEq (.int .i64 a0.kind)), LIf (!(impl_RecordFault.e1 a0)) (LEq (.bool (!decide (a0.kind = 3)))), LIf (!(impl_RecordFault.e1 a0)) (LEq (.bool (!decide (a0.kind = 3)))), LIf ((!(impl_RecordFault.e1 a0)) && (!decide (a0.kind = 3))) (LEq (.pointer (some ⟨b1, 4, none⟩))), LIf ((!(impl_RecordFault.e1 a0)) && (!decide (a0.kind = 3))) (LEq (.bool a0.opq)), LIf (!(impl_RecordFault.e1 a0)) (LEq (.bool ((!decide (a0.kind = 3)) && a0.opq))), LEq (.bool ((impl_RecordFault.e1 a0) || ((!decide (a0.kind = 3)) && a0.opq))), LEq (.iface 4 (.bool ((impl_RecordFault.e1 a0) || ((!decide (a0.kind = 3)) && a0.opq)))), LEq (.iface 3 (.int .i64 3)), LEq (.pointer (some ⟨b1, 3, none⟩)), LEq (.int .i64 a0.mode), LEq (.bool (within a0.mode 0 511)), LEq (.bool (!(within a0.mode 0 511))), LEq (.bool (!(within a0.mode 0 511))), LIf (!(!(within a0.mode 0 511))) (LEq (.pointer (some ⟨b1, 0, none⟩))), LIf (!(!(within a0.mode 0 511))) (LEq (.int .i64 a0.kind)), LIf (!(!(within a0.mode 0 511))) (LEq (.bool (decide (a0.kind = 2)))), LIf (!(!(within a0.mode 0 511))) (LEq (.bool (decide (a0.kind = 2)))), LIf ((!(!(within a0.mode 0 511))) && (!(decide (a0.kind = 2)))) (LEq (.pointer (some ⟨b1, 0, none⟩))), LIf ((!(!(within a0.mode 0 511))) && (!(decide (a0.kind = 2)))) (LEq (.int .i64 a0.kind)), LIf ((!(!(within a0.mode 0 511))) && (!(decide (a0.kind = 2)))) (LEq (.bool (decide (a0.kind = 4)))), LIf (!(!(within a0.mode 0 511))) (LEq (.bool (impl_RecordFault.e3 a0))), LIf (!(!(within a0.mode 0 511))) (LEq (.bool (impl_RecordFault.e3 a0))), LIf ((!(!(within a0.mode 0 511))) && (impl_RecordFault.e3 a0)) (LEq (.pointer (some ⟨b1, 3, none⟩))), LIf ((!(!(within a0.mode 0 511))) && (impl_RecordFault.e3 a0)) (LEq (.int .i64 a0.mode)), LIf ((!(!(within a0.mode 0 511))) && (impl_RecordFault.e3 a0)) (LEq (.bool (!decide (a0.mode = 0)))), LIf (!(!(within a0.mode 0 511))) (LEq (.bool ((impl_RecordFault.e3 a0) && (!decide (a0.mode = 0))))), LEq (.bool (impl_RecordFault.e6 a0)), LEq (.iface 4 (.bool (impl_RecordFault.e6 a0))), LEq (.iface 3 (.int .i64 4)), LRd 1 (encAny 4 3) (impl_RecordFault.e2 a0), LEq (.int .i64 (firstOf (impl_RecordFault.e2 a0))), LEq (.int .i64 (firstOf (impl_RecordFault.e2 a0)))] (by kernel_rfl) (by kernel_rfl) ⟨LEq.mono, LEq.mono, LEq.mono, LEq.mono, LEq.mono, LEq.mono, LEq.mono, LEq.mono, LEq.mono, LEq.mono, LEq.mono, LEq.mono, LEq.mono, LEq.mono, LEq.mono, LEq.mono, LEq.mono, (LIf.mono LEq.mono), (LIf.mono LEq.mono), (LIf.mono LEq.mono), (LIf.mono LEq.mono), (LIf.mono LEq.mono), (LIf.mono LEq.mono), (LIf.mono LEq.mono), (LIf.mono LEq.mono), LEq.mono, LEq.mono, LEq.mono, LEq.mono, LEq.mono, (LIf.mono LEq.mono), (LIf.mono LEq.mono), (LIf.mono LEq.mono), LEq.mono, LEq.mono, (LIf.mono LEq.mono), (LIf.mono LEq.mono), (LIf.mono LEq.mono), (LIf.mono LEq.mono), (LIf.mono LEq.mono), (LIf.mono LEq.mono), (LIf.mono LEq.mono), LEq.mono, LEq.mono, LEq.mono, LEq.mono, LEq.mono, LEq.mono, LEq.mono, LEq.mono, (LIf.mono LEq.mono), (LIf.mono LEq.mono), (LIf.mono LEq.mono), (LIf.mono LEq.mono), (LIf.mono LEq.mono), (LIf.mono LEq.mono), (LIf.mono LEq.mono), (LIf.mono LEq.mono), (LIf.mono LEq.mono), (LIf.mono LEq.mono), (LIf.mono LEq.mono), (LIf.mono LEq.mono), (LIf.mono LEq.mono), LEq.mono, LEq.mono, LEq.mono, LRd.mono, LEq.mono, LEq.mono, trivial⟩ ⟨?_, ?_, ?_, ?_, ?_, ?_, ?_, ?_, ?_, ?_, ?_, ?_, ?_, ?_, ?_, ?_, ?_, ?_, ?_, ?_, ?_, ?_, ?_, ?_, ?_, ?_, ?_, ?_, ?_, ?_, ?_, ?_, ?_, ?_, ?_, ?_, ?_, ?_, ?_, ?_, ?_, ?_, ?_, ?_, ?_, ?_, ?_, ?_, ?_, ?_, ?_, ?_, ?_, ?_, ?_, ?_, ?_, ?_, ?_, ?_, ?_, ?_, ?_, ?_, ?_, ?_, ?_, ?_, ?_, trivial⟩ ?_
  · intro s28 w29 e30 hf31 hd32 hu33
    exact L_op (.plain rfl) rfl (ltb rfl) (X_fieldAddr Tryz.underlying78 rfl Tryz.sizeOf3 rfl ((hf31 1 rfl).trans (K9 1 rfl))) <| L_nil <| stepEnd rfl rfl (Ext.refl w29) rfl
  · intro s34 w35 e36 hf37 hd38 hu39
    have d40 : s34 12 = (.pointer (some ⟨b1, 0, none⟩)) := (hd38 0 rfl)
    exact L_op (.plain rfl) rfl (ltb rfl) (X_loadB Tryz.isAgg3 (Blk.ext k6 (Ext.trans e11 e36)) d40 rfl) <| L_nil <| stepEnd rfl rfl (Ext.refl w35) rfl
  · intro s41 w42 e43 hf44 hd45 hu46
    have d47 : s41 13 = (.int .i64 a0.kind) := (hd45 1 rfl)
    exact L_callP (.plain rfl) rfl (ltb rfl) rfl Tryz.call148 (impl_within.calls (w := w42) (a0 := a0.kind) (a1 := 1) (a2 := 4)) (cons2 d47 (cons2 rfl (cons2 rfl rfl))) <| fun w48 e49 => L_nil <| stepEnd rfl rfl e49 rfl
  · intro s50 w51 e52 hf53 hd54 hu55
    have d56 : s50 14 = (.bool (within a0.kind 1 4)) := (hd54 2 rfl)
    exact L_op (.plain rfl) rfl (ltb rfl) (X_not d56) <| L_nil <| stepEnd rfl rfl (Ext.refl w51) rfl
  · intro s57 w58 e59 hf60 hd61 hu62
    have d63 : s57 15 = (.bool (!(within a0.kind 1 4))) := (hd61 3 rfl)
    exact L_op (.plain rfl) rfl (ltb rfl) (X_mkiface Tryz.underlying4 rfl d63) <| L_nil <| stepEnd rfl rfl (Ext.refl w58) rfl
  · intro s64 w65 e66 hf67 hd68 hu69
    exact L_op (.plain rfl) rfl (ltb rfl) (X_mkiface Tryz.underlying3 rfl rfl) <| L_nil <| stepEnd rfl rfl (Ext.refl w65) rfl
  · intro s70 w71 e72 hf73 hd74 hu75
    exact L_op (.plain rfl) rfl (ltb rfl) (X_fieldAddr Tryz.underlying78 rfl Tryz.sizeOf9 rfl ((hf73 1 rfl).trans (K9 1 rfl))) <| L_nil <| stepEnd rfl rfl (Ext.refl w71) rfl
  · intro s76 w77 e78 hf79 hd80 hu81
    have d82 : s76 18 = (.pointer (some ⟨b1, 1, none⟩)) := (hd80 6 rfl)
    exact L_op (.plain rfl) rfl (ltb rfl) (X_loadB Tryz.isAgg9 (Blk.ext k6 (Ext.trans e11 e78)) d82 rfl) <| L_nil <| stepEnd rfl rfl (Ext.refl w77) rfl
  · intro s83 w84 e85 hf86 hd87 hu88
    have d89 : s83 19 = (S a0.path) := (hd87 7 rfl)
    exact L_callP (.plain rfl) rfl (ltb rfl) rfl Tryz.call167 (impl_PathOK.calls (w := w84) (a0 := a0.path) (GV.ext gv (Ext.trans (Ext.trans e5 e11) e85))) (cons2 d89 rfl) <| fun w90 e91 => L_nil <| stepEnd rfl rfl e91 rfl
  · intro s92 w93 e94 hf95 hd96 hu97
    have d98 : s92 20 = (.bool (pathOK a0.path)) := (hd96 8 rfl)
    exact L_op (.plain rfl) rfl (ltb rfl) (X_not d98) <| L_nil <| stepEnd rfl rfl (Ext.refl w93) rfl
  · intro s99 w100 e101 hf102 hd103 hu104
    have d105 : s99 21 = (.bool (!(pathOK a0.path))) := (hd103 9 rfl)
    exact L_op (.plain rfl) rfl (ltb rfl) (X_mkiface Tryz.underlying4 rfl d105) <| L_nil <| stepEnd rfl rfl (Ext.refl w100) rfl
  · intro s106 w107 e108 hf109 hd110 hu111
    exact L_op (.plain rfl) rfl (ltb rfl) (X_mkiface Tryz.underlying3 rfl rfl) <| L_nil <| stepEnd rfl rfl (Ext.refl w107) rfl
  · intro s112 w113 e114 hf115 hd116 hu117
    exact L_op (.plain rfl) rfl (ltb rfl) (X_fieldAddr Tryz.underlying78 rfl Tryz.sizeOf9 rfl ((hf115 1 rfl).trans (K9 1 rfl))) <| L_nil <| stepEnd rfl rfl (Ext.refl w113) rfl
  · intro s118 w119 e120 hf121 hd122 hu123
    have d124 : s118 24 = (.pointer (some ⟨b1, 2, none⟩)) := (hd122 12 rfl)
    exact L_op (.plain rfl) rfl (ltb rfl) (X_loadB Tryz.isAgg9 (Blk.ext k6 (Ext.trans e11 e120)) d124 rfl) <| L_nil <| stepEnd rfl rfl (Ext.refl w119) rfl
  · intro s125 w126 e127 hf128 hd129 hu130
    have d131 : s125 25 = (S a0.body) := (hd129 13 rfl)
    exact L_op (.plain rfl) rfl (ltb rfl) (X_lenS Tryz.underlying9 d131) <| L_nil <| stepEnd rfl rfl (Ext.refl w126) rfl
  · intro s132 w133 e134 hf135 hd136 hu137
    have d138 : s132 26 = (.int .i64 (a0.body.length : Int)) := (hd136 14 rfl)
    exact L_op (.plain rfl) rfl (ltb rfl) (X_gtr d138 rfl) <| L_nil <| stepEnd rfl rfl (Ext.refl w133) rfl
  · intro s139 w140 e141 hf142 hd143 hu144
    have d145 : s139 27 = (.bool (decide (20 < (a0.body.length : Int)))) := (hd143 15 rfl)
    exact L_op (.plain rfl) rfl (ltb rfl) (X_move (v := (.bool (decide (20 < (a0.body.length : Int))))) d145) <| L_nil <| stepEnd rfl rfl (Ext.refl w140) rfl
  · intro s146 w147 e148 hf149 hd150 hu151
    rcases bool_two (!(decide (20 < (a0.body.length : Int)))) with b152 | b152
    · have g153 : (decide (20 < (a0.body.length : Int))) = false := (not_f b152)
      have d154 : s146 28 = (.bool (decide (20 < (a0.body.length : Int)))) := (hd150 16 rfl)
      have d155 : s146 28 = (.bool (decide (20 < (a0.body.length : Int)))) := (hd150 16 rfl)
      exact L_op (.guard 16 false 28 rfl rfl (ltb rfl) (d154.trans (congrArg Value.bool g153))) rfl (ltb rfl) (X_fieldAddr Tryz.underlying78 rfl Tryz.sizeOf3 rfl ((hf149 1 rfl).trans (K9 1 rfl))) <| L_nil <| stepEnd rfl rfl (Ext.refl w147) ⟨fun _ => rfl, fun h => absurd (b152.symm.trans h) (by decide)⟩
    · have d156 : s146 28 = (.bool (decide (20 < (a0.body.length : Int)))) := (hd150 16 rfl)
      have g157 : (decide (20 < (a0.body.length : Int))) = true := (not_ff b152)
      exact L_skip rfl rfl (ltb rfl) (d156.trans (congrArg Value.bool g157)) rfl rfl (ltb rfl) <| L_nil <| stepEnd rfl rfl (Ext.refl w147) ⟨fun h => absurd (b152.symm.trans h) (by decide), fun _ => rfl⟩
  · intro s158 w159 e160 hf161 hd162 hu163
    rcases bool_two (!(decide (20 < (a0.body.length : Int)))) with b164 | b164
    · have g165 : (decide (20 < (a0.body.length : Int))) = false := (not_f b164)
      have d166 : s158 28 = (.bool (decide (20 < (a0.body.length : Int)))) := (hd162 16 rfl)
      have d167 : s158 28 = (.bool (decide (20 < (a0.body.length : Int)))) := (hd162 16 rfl)
      have d168 : s158 29 = (.pointer (some ⟨b1, 0, none⟩)) := ((hd162 17 rfl).1 (not_mk (not_f b164)))
      exact L_op (.guard 16 false 28 rfl rfl (ltb rfl) (d166.trans (congrArg Value.bool g165))) rfl (ltb rfl) (X_loadB Tryz.isAgg3 (Blk.ext k6 (Ext.trans e11 e160)) d168 rfl) <| L_nil <| stepEnd rfl rfl (Ext.refl w159) ⟨fun _ => rfl, fun h => absurd (b164.symm.trans h) (by decide)⟩
    · have d169 : s158 28 = (.bool (decide (20 < (a0.body.length : Int)))) := (hd162 16 rfl)
      have g170 : (decide (20 < (a0.body.length : Int))) = true := (not_ff b164)
      exact L_skip rfl rfl (ltb rfl) (d169.trans (congrArg Value.bool g170)) rfl rfl (ltb rfl) <| L_nil <| stepEnd rfl rfl (Ext.refl w159) ⟨fun h => absurd (b164.symm.trans h) (by decide), fun _ => rfl⟩
  · intro s171 w172 e173 hf174 hd175 hu176
    rcases bool_two (!(decide (20 < (a0.body.length : Int)))) with b177 | b177
    · have g178 : (decide (20 < (a0.body.length : Int))) = false := (not_f b177)
      have d179 : s171 28 = (.bool (decide (20 < (a0.body.length : Int)))) := (hd175 16 rfl)
      have d180 : s171 28 = (.bool (decide (20 < (a0.body.length : Int)))) := (hd175 16 rfl)
      have d181 : s171 30 = (.int .i64 a0.kind) := ((hd175 18 rfl).1 (not_mk (not_f b177)))
      exact L_op (.guard 16 false 28 rfl rfl (ltb rfl) (d179.trans (congrArg Value.bool g178))) rfl (ltb rfl) (X_eql d181 rfl) <| L_nil <| stepEnd rfl rfl (Ext.refl w172) ⟨fun _ => rfl, fun h => absurd (b177.symm.trans h) (by decide)⟩
    · have d182 : s171 28 = (.bool (decide (20 < (a0.body.length : Int)))) := (hd175 16 rfl)
      have g183 : (decide (20 < (a0.body.length : Int))) = true := (not_ff b177)
      exact L_skip rfl rfl (ltb rfl) (d182.trans (congrArg Value.bool g183)) rfl rfl (ltb rfl) <| L_nil <| stepEnd rfl rfl (Ext.refl w172) ⟨fun h => absurd (b177.symm.trans h) (by decide), fun _ => rfl⟩
  · intro s184 w185 e186 hf187 hd188 hu189
    rcases bool_two (!(decide (20 < (a0.body.length : Int)))) with b190 | b190
    · have g191 : (decide (20 < (a0.body.length : Int))) = false := (not_f b190)
      have d192 : s184 28 = (.bool (decide (20 < (a0.body.length : Int)))) := (hd188 16 rfl)
      have d193 : s184 28 = (.bool (decide (20 < (a0.body.length : Int)))) := (hd188 16 rfl)
      have d194 : s184 31 = (.bool (decide (a0.kind = 2))) := ((hd188 19 rfl).1 (not_mk (not_f b190)))
      exact L_op (.guard 16 false 28 rfl rfl (ltb rfl) (d192.trans (congrArg Value.bool g191))) rfl (ltb rfl) (X_move (v := (.bool (decide (a0.kind = 2)))) d194) <| L_nil <| stepEnd rfl rfl (Ext.refl w185) ⟨fun _ => rfl, fun h => absurd (b190.symm.trans h) (by decide)⟩
    · have d195 : s184 28 = (.bool (decide (20 < (a0.body.length : Int)))) := (hd188 16 rfl)
      have g196 : (decide (20 < (a0.body.length : Int))) = true := (not_ff b190)
      exact L_skip rfl rfl (ltb rfl) (d195.trans (congrArg Value.bool g196)) rfl rfl (ltb rfl) <| L_nil <| stepEnd rfl rfl (Ext.refl w185) ⟨fun h => absurd (b190.symm.trans h) (by decide), fun _ => rfl⟩
  · intro s197 w198 e199 hf200 hd201 hu202
    rcases bool_two (impl_RecordFault.e7 a0) with b203 | b203
    · have g204 : (decide (a0.kind = 2)) = true := (and_r b203)
      have d205 : s197 32 = (.bool (decide (a0.kind = 2))) := ((hd201 20 rfl).1 (not_mk (not_f (and_l b203))))
      have d206 : s197 32 = (.bool (decide (a0.kind = 2))) := ((hd201 20 rfl).1 (not_mk (not_f (and_l b203))))
      exact L_op (.guard 20 true 32 rfl rfl (ltb rfl) (d205.trans (congrArg Value.bool g204))) rfl (ltb rfl) (X_fieldAddr Tryz.underlying78 rfl Tryz.sizeOf9 rfl ((hf200 1 rfl).trans (K9 1 rfl))) <| L_nil <| stepEnd rfl rfl (Ext.refl w198) ⟨fun _ => rfl, fun h => absurd (b203.symm.trans h) (by decide)⟩
    · rcases bool_two (!(decide (20 < (a0.body.length : Int)))) with b207 | b207
      · have d208 : s197 32 = (.bool (decide (a0.kind = 2))) := ((hd201 20 rfl).1 (not_mk (not_f b207)))
        have g209 : (decide (a0.kind = 2)) = false := (and_fr b203 b207)
        exact L_skip rfl rfl (ltb rfl) (d208.trans (congrArg Value.bool g209)) rfl rfl (ltb rfl) <| L_nil <| stepEnd rfl rfl (Ext.refl w198) ⟨fun h => absurd (b203.symm.trans h) (by decide), fun _ => rfl⟩
      · exact L_skipU rfl rfl (ltb rfl) ((hd201 20 rfl).2 b207) rfl (ltb rfl) <| L_nil <| stepEnd rfl rfl (Ext.refl w198) ⟨fun h => absurd (b203.symm.trans h) (by decide), fun _ => rfl⟩
  · intro s210 w211 e212 hf213 hd214 hu215
    rcases bool_two (impl_RecordFault.e7 a0) with b216 | b216
    · have g217 : (decide (a0.kind = 2)) = true := (and_r b216)
      have d218 : s210 32 = (.bool (decide (a0.kind = 2))) := ((hd214 20 rfl).1 (not_mk (not_f (and_l b216))))
      have d219 : s210 32 = (.bool (decide (a0.kind = 2))) := ((hd214 20 rfl).1 (not_mk (not_f (and_l b216))))
      have d220 : s210 33 = (.pointer (some ⟨b1, 2, none⟩)) := ((hd214 21 rfl).1 (and_mk (not_mk (not_f (and_l b216))) (and_r b216)))
      exact L_op (.guard 20 true 32 rfl rfl (ltb rfl) (d218.trans (congrArg Value.bool g217))) rfl (ltb rfl) (X_loadB Tryz.isAgg9 (Blk.ext k6 (Ext.trans e11 e212)) d220 rfl) <| L_nil <| stepEnd rfl rfl (Ext.refl w211) ⟨fun _ => rfl, fun h => absurd (b216.symm.trans h) (by decide)⟩
    · rcases bool_two (!(decide (20 < (a0.body.length : Int)))) with b221 | b221
      · have d222 : s210 32 = (.bool (decide (a0.kind = 2))) := ((hd214 20 rfl).1 (not_mk (not_f b221)))
        have g223 : (decide (a0.kind = 2)) = false := (and_fr b216 b221)
        exact L_skip rfl rfl (ltb rfl) (d222.trans (congrArg Value.bool g223)) rfl rfl (ltb rfl) <| L_nil <| stepEnd rfl rfl (Ext.refl w211) ⟨fun h => absurd (b216.symm.trans h) (by decide), fun _ => rfl⟩
      · exact L_skipU rfl rfl (ltb rfl) ((hd214 20 rfl).2 b221) rfl (ltb rfl) <| L_nil <| stepEnd rfl rfl (Ext.refl w211) ⟨fun h => absurd (b216.symm.trans h) (by decide), fun _ => rfl⟩
  · intro s224 w225 e226 hf227 hd228 hu229
    rcases bool_two (impl_RecordFault.e7 a0) with b230 | b230
    · have g231 : (decide (a0.kind = 2)) = true := (and_r b230)
      have d232 : s224 32 = (.bool (decide (a0.kind = 2))) := ((hd228 20 rfl).1 (not_mk (not_f (and_l b230))))
      have d233 : s224 32 = (.bool (decide (a0.kind = 2))) := ((hd228 20 rfl).1 (not_mk (not_f (and_l b230))))
      have d234 : s224 34 = (S a0.body) := ((hd228 22 rfl).1 (and_mk (not_mk (not_f (and_l b230))) (and_r b230)))
      exact L_op (.guard 20 true 32 rfl rfl (ltb rfl) (d232.trans (congrArg Value.bool g231))) rfl (ltb rfl) (X_seq d234 rfl) <| L_nil <| stepEnd rfl rfl (Ext.refl w225) ⟨fun _ => rfl, fun h => absurd (b230.symm.trans h) (by decide)⟩
    · rcases bool_two (!(decide (20 < (a0.body.length : Int)))) with b235 | b235
      · have d236 : s224 32 = (.bool (decide (a0.kind = 2))) := ((hd228 20 rfl).1 (not_mk (not_f b235)))
        have g237 : (decide (a0.kind = 2)) = false := (and_fr b230 b235)
        exact L_skip rfl rfl (ltb rfl) (d236.trans (congrArg Value.bool g237)) rfl rfl (ltb rfl) <| L_nil <| stepEnd rfl rfl (Ext.refl w225) ⟨fun h => absurd (b230.symm.trans h) (by decide), fun _ => rfl⟩
      · exact L_skipU rfl rfl (ltb rfl) ((hd228 20 rfl).2 b235) rfl (ltb rfl) <| L_nil <| stepEnd rfl rfl (Ext.refl w225) ⟨fun h => absurd (b230.symm.trans h) (by decide), fun _ => rfl⟩
  · intro s238 w239 e240 hf241 hd242 hu243
    rcases bool_two (!(decide (20 < (a0.body.length : Int)))) with b244 | b244
    · have g245 : (decide (20 < (a0.body.length : Int))) = false := (not_f b244)
      have d246 : s238 28 = (.bool (decide (20 < (a0.body.length : Int)))) := (hd242 16 rfl)
      rcases bool_two (decide (a0.kind = 2)) with b247 | b247
      · have d248 : s238 32 = (.bool (decide (a0.kind = 2))) := ((hd242 20 rfl).1 (not_mk (not_f b244)))
        have d249 : s238 35 = (.bool (decide (a0.body = ([] : List UInt8)))) := ((hd242 23 rfl).1 (and_mk (not_mk (not_f b244)) b247))
        exact L_op (.guard 16 false 28 rfl rfl (ltb rfl) (d246.trans (congrArg Value.bool g245))) rfl (ltb rfl) (X_pick (b := true) (v := (.bool (decide (a0.body = ([] : List UInt8))))) (d248.trans (congrArg Value.bool b247)) d249) <| L_nil <| stepEnd rfl rfl (Ext.refl w239) ⟨fun _ => (and_t b247), fun h => absurd (b244.symm.trans h) (by decide)⟩
      · have d250 : s238 32 = (.bool (decide (a0.kind = 2))) := ((hd242 20 rfl).1 (not_mk (not_f b244)))
        exact L_op (.guard 16 false 28 rfl rfl (ltb rfl) (d246.trans (congrArg Value.bool g245))) rfl (ltb rfl) (X_pick (b := false) (v := (.bool false)) (d250.trans (congrArg Value.bool b247)) rfl) <| L_nil <| stepEnd rfl rfl (Ext.refl w239) ⟨fun _ => (and_f b247), fun h => absurd (b244.symm.trans h) (by decide)⟩
    · have d251 : s238 28 = (.bool (decide (20 < (a0.body.length : Int)))) := (hd242 16 rfl)
      have g252 : (decide (20 < (a0.body.length : Int))) = true := (not_ff b244)
      exact L_skip rfl rfl (ltb rfl) (d251.trans (congrArg Value.bool g252)) rfl rfl (ltb rfl) <| L_nil <| stepEnd rfl rfl (Ext.refl w239) ⟨fun h => absurd (b244.symm.trans h) (by decide), fun _ => rfl⟩
  · intro s253 w254 e255 hf256 hd257 hu258
    rcases bool_two (decide (20 < (a0.body.length : Int))) with b259 | b259
    · have d260 : s253 28 = (.bool (decide (20 < (a0.body.length : Int)))) := (hd257 16 rfl)
      exact L_op (.plain rfl) rfl (ltb rfl) (X_pick (b := true) (v := (.bool true)) (d260.trans (congrArg Value.bool b259)) rfl) <| L_nil <| stepEnd rfl rfl (Ext.refl w254) (or_t b259)
    · have d261 : s253 28 = (.bool (decide (20 < (a0.body.length : Int)))) := (hd257 16 rfl)
      have d262 : s253 36 = (.bool ((decide (a0.kind = 2)) && (decide (a0.body = ([] : List UInt8))))) := ((hd257 24 rfl).1 (not_mk b259))
      exact L_op (.plain rfl) rfl (ltb rfl) (X_pick (b := false) (v := (.bool ((decide (a0.kind = 2)) && (decide (a0.body = ([] : List UInt8)))))) (d261.trans (congrArg Value.bool b259)) d262) <| L_nil <| stepEnd rfl rfl (Ext.refl w254) (or_f b259)
  · intro s263 w264 e265 hf266 hd267 hu268
    have d269 : s263 37 = (.bool (impl_RecordFault.e5 a0)) := (hd267 25 rfl)
    exact L_op (.plain rfl) rfl (ltb rfl) (X_mkiface Tryz.underlying4 rfl d269) <| L_nil <| stepEnd rfl rfl (Ext.refl w264) rfl
  · intro s270 w271 e272 hf273 hd274 hu275
    exact L_op (.plain rfl) rfl (ltb rfl) (X_mkiface Tryz.underlying3 rfl rfl) <| L_nil <| stepEnd rfl rfl (Ext.refl w271) rfl
  · intro s276 w277 e278 hf279 hd280 hu281
    exact L_op (.plain rfl) rfl (ltb rfl) (X_move (v := (.bool (impl_RecordFault.e4 a0))) (hf279 3 rfl)) <| L_nil <| stepEnd rfl rfl (Ext.refl w277) rfl
  · intro s282 w283 e284 hf285 hd286 hu287
    have d288 : s282 40 = (.bool (impl_RecordFault.e4 a0)) := (hd286 28 rfl)
    exact L_op (.plain rfl) rfl (ltb rfl) (X_move (v := (.bool (impl_RecordFault.e4 a0))) d288) <| L_nil <| stepEnd rfl rfl (Ext.refl w283) rfl
  · intro s289 w290 e291 hf292 hd293 hu294
    rcases bool_two (impl_RecordFault.e4 a0) with b295 | b295
    · have g296 : (impl_RecordFault.e4 a0) = true := b295
      have d297 : s289 41 = (.bool (impl_RecordFault.e4 a0)) := (hd293 29 rfl)
      have d298 : s289 41 = (.bool (impl_RecordFault.e4 a0)) := (hd293 29 rfl)
      exact L_op (.guard 29 true 41 rfl rfl (ltb rfl) (d297.trans (congrArg Value.bool g296))) rfl (ltb rfl) (X_fieldAddr Tryz.underlying78 rfl Tryz.sizeOf9 rfl ((hf292 1 rfl).trans (K9 1 rfl))) <| L_nil <| stepEnd rfl rfl (Ext.refl w290) ⟨fun _ => rfl, fun h => absurd (b295.symm.trans h) (by decide)⟩
    · have d299 : s289 41 = (.bool (impl_RecordFault.e4 a0)) := (hd293 29 rfl)
      have g300 : (impl_RecordFault.e4 a0) = false := b295
      exact L_skip rfl rfl (ltb rfl) (d299.trans (congrArg Value.bool g300)) rfl rfl (ltb rfl) <| L_nil <| stepEnd rfl rfl (Ext.refl w290) ⟨fun h => absurd (b295.symm.trans h) (by decide), fun _ => rfl⟩
  · intro s301 w302 e303 hf304 hd305 hu306
    rcases bool_two (impl_RecordFault.e4 a0) with b307 | b307
    · have g308 : (impl_RecordFault.e4 a0) = true := b307
      have d309 : s301 41 = (.bool (impl_RecordFault.e4 a0)) := (hd305 29 rfl)
      have d310 : s301 41 = (.bool (impl_RecordFault.e4 a0)) := (hd305 29 rfl)
      have d311 : s301 42 = (.pointer (some ⟨b1, 2, none⟩)) := ((hd305 30 rfl).1 b307)
      exact L_op (.guard 29 true 41 rfl rfl (ltb rfl) (d309.trans (congrArg Value.bool g308))) rfl (ltb rfl) (X_loadB Tryz.isAgg9 (Blk.ext k6 (Ext.trans e11 e303)) d311 rfl) <| L_nil <| stepEnd rfl rfl (Ext.refl w302) ⟨fun _ => rfl, fun h => absurd (b307.symm.trans h) (by decide)⟩
    · have d312 : s301 41 = (.bool (impl_RecordFault.e4 a0)) := (hd305 29 rfl)
      have g313 : (impl_RecordFault.e4 a0) = false := b307
      exact L_skip rfl rfl (ltb rfl) (d312.trans (congrArg Value.bool g313)) rfl rfl (ltb rfl) <| L_nil <| stepEnd rfl rfl (Ext.refl w302) ⟨fun h => absurd (b307.symm.trans h) (by decide), fun _ => rfl⟩
  · intro s314 w315 e316 hf317 hd318 hu319
    rcases bool_two (impl_RecordFault.e4 a0) with b320 | b320
    · have g321 : (impl_RecordFault.e4 a0) = true := b320
      have d322 : s314 41 = (.bool (impl_RecordFault.e4 a0)) := (hd318 29 rfl)
      have d323 : s314 41 = (.bool (impl_RecordFault.e4 a0)) := (hd318 29 rfl)
      have d324 : s314 43 = (S a0.body) := ((hd318 31 rfl).1 b320)
      exact L_op (.guard 29 true 41 rfl rfl (ltb rfl) (d322.trans (congrArg Value.bool g321))) rfl (ltb rfl) (X_sne d324 rfl) <| L_nil <| stepEnd rfl rfl (Ext.refl w315) ⟨fun _ => rfl, fun h => absurd (b320.symm.trans h) (by decide)⟩
    · have d325 : s314 41 = (.bool (impl_RecordFault.e4 a0)) := (hd318 29 rfl)
      have g326 : (impl_RecordFault.e4 a0) = false := b320
      exact L_skip rfl rfl (ltb rfl) (d325.trans (congrArg Value.bool g326)) rfl rfl (ltb rfl) <| L_nil <| stepEnd rfl rfl (Ext.refl w315) ⟨fun h => absurd (b320.symm.trans h) (by decide), fun _ => rfl⟩
  · intro s327 w328 e329 hf330 hd331 hu332
    rcases bool_two (impl_RecordFault.e4 a0) with b333 | b333
    · have d334 : s327 41 = (.bool (impl_RecordFault.e4 a0)) := (hd331 29 rfl)
      have d335 : s327 44 = (.bool (!decide (a0.body = ([] : List UInt8)))) := ((hd331 32 rfl).1 b333)
      exact L_op (.plain rfl) rfl (ltb rfl) (X_pick (b := true) (v := (.bool (!decide (a0.body = ([] : List UInt8))))) (d334.trans (congrArg Value.bool b333)) d335) <| L_nil <| stepEnd rfl rfl (Ext.refl w328) (and_t b333)
    · have d336 : s327 41 = (.bool (impl_RecordFault.e4 a0)) := (hd331 29 rfl)
      exact L_op (.plain rfl) rfl (ltb rfl) (X_pick (b := false) (v := (.bool false)) (d336.trans (congrArg Value.bool b333)) rfl) <| L_nil <| stepEnd rfl rfl (Ext.refl w328) (and_f b333)
  · intro s337 w338 e339 hf340 hd341 hu342
    have d343 : s337 45 = (.bool (impl_RecordFault.e1 a0)) := (hd341 33 rfl)
    exact L_op (.plain rfl) rfl (ltb rfl) (X_move d343) <| L_nil <| stepEnd rfl rfl (Ext.refl w338) rfl
  · intro s344 w345 e346 hf347 hd348 hu349
    rcases bool_two (!(impl_RecordFault.e1 a0)) with b350 | b350
    · have g351 : (impl_RecordFault.e1 a0) = false := (not_f b350)
      have d352 : s344 46 = (.bool (impl_RecordFault.e1 a0)) := (hd348 34 rfl)
      have d353 : s344 46 = (.bool (impl_RecordFault.e1 a0)) := (hd348 34 rfl)
      exact L_op (.guard 34 false 46 rfl rfl (ltb rfl) (d352.trans (congrArg Value.bool g351))) rfl (ltb rfl) (X_fieldAddr Tryz.underlying78 rfl Tryz.sizeOf3 rfl ((hf347 1 rfl).trans (K9 1 rfl))) <| L_nil <| stepEnd rfl rfl (Ext.refl w345) ⟨fun _ => rfl, fun h => absurd (b350.symm.trans h) (by decide)⟩
    · have d354 : s344 46 = (.bool (impl_RecordFault.e1 a0)) := (hd348 34 rfl)
      have g355 : (impl_RecordFault.e1 a0) = true := (not_ff b350)
      exact L_skip rfl rfl (ltb rfl) (d354.trans (congrArg Value.bool g355)) rfl rfl (ltb rfl) <| L_nil <| stepEnd rfl rfl (Ext.refl w345) ⟨fun h => absurd (b350.symm.trans h) (by decide), fun _ => rfl⟩
  · intro s356 w357 e358 hf359 hd360 hu361
    rcases bool_two (!(impl_RecordFault.e1 a0)) with b362 | b362
    · have g363 : (impl_RecordFault.e1 a0) = false := (not_f b362)
      have d364 : s356 46 = (.bool (impl_RecordFault.e1 a0)) := (hd360 34 rfl)
      have d365 : s356 46 = (.bool (impl_RecordFault.e1 a0)) := (hd360 34 rfl)
      have d366 : s356 47 = (.pointer (some ⟨b1, 0, none⟩)) := ((hd360 35 rfl).1 (not_mk (not_f b362)))
      exact L_op (.guard 34 false 46 rfl rfl (ltb rfl) (d364.trans (congrArg Value.bool g363))) rfl (ltb rfl) (X_loadB Tryz.isAgg3 (Blk.ext k6 (Ext.trans e11 e358)) d366 rfl) <| L_nil <| stepEnd rfl rfl (Ext.refl w357) ⟨fun _ => rfl, fun h => absurd (b362.symm.trans h) (by decide)⟩
    · have d367 : s356 46 = (.bool (impl_RecordFault.e1 a0)) := (hd360 34 rfl)
      have g368 : (impl_RecordFault.e1 a0) = true := (not_ff b362)
      exact L_skip rfl rfl (ltb rfl) (d367.trans (congrArg Value.bool g368)) rfl rfl (ltb rfl) <| L_nil <| stepEnd rfl rfl (Ext.refl w357) ⟨fun h => absurd (b362.symm.trans h) (by decide), fun _ => rfl⟩
  · intro s369 w370 e371 hf372 hd373 hu374
    rcases bool_two (!(impl_RecordFault.e1 a0)) with b375 | b375
    · have g376 : (impl_RecordFault.e1 a0) = false := (not_f b375)
      have d377 : s369 46 = (.bool (impl_RecordFault.e1 a0)) := (hd373 34 rfl)
      have d378 : s369 46 = (.bool (impl_RecordFault.e1 a0)) := (hd373 34 rfl)
      have d379 : s369 48 = (.int .i64 a0.kind) := ((hd373 36 rfl).1 (not_mk (not_f b375)))
      exact L_op (.guard 34 false 46 rfl rfl (ltb rfl) (d377.trans (congrArg Value.bool g376))) rfl (ltb rfl) (X_neq d379 rfl) <| L_nil <| stepEnd rfl rfl (Ext.refl w370) ⟨fun _ => rfl, fun h => absurd (b375.symm.trans h) (by decide)⟩
    · have d380 : s369 46 = (.bool (impl_RecordFault.e1 a0)) := (hd373 34 rfl)
      have g381 : (impl_RecordFault.e1 a0) = true := (not_ff b375)
      exact L_skip rfl rfl (ltb rfl) (d380.trans (congrArg Value.bool g381)) rfl rfl (ltb rfl) <| L_nil <| stepEnd rfl rfl (Ext.refl w370) ⟨fun h => absurd (b375.symm.trans h) (by decide), fun _ => rfl⟩
  · intro s382 w383 e384 hf385 hd386 hu387
    rcases bool_two (!(impl_RecordFault.e1 a0)) with b388 | b388
    · have g389 : (impl_RecordFault.e1 a0) = false := (not_f b388)
      have d390 : s382 46 = (.bool (impl_RecordFault.e1 a0)) := (hd386 34 rfl)
      have d391 : s382 46 = (.bool (impl_RecordFault.e1 a0)) := (hd386 34 rfl)
      have d392 : s382 49 = (.bool (!decide (a0.kind = 3))) := ((hd386 37 rfl).1 (not_mk (not_f b388)))
      exact L_op (.guard 34 false 46 rfl rfl (ltb rfl) (d390.trans (congrArg Value.bool g389))) rfl (ltb rfl) (X_move (v := (.bool (!decide (a0.kind = 3)))) d392) <| L_nil <| stepEnd rfl rfl (Ext.refl w383) ⟨fun _ => rfl, fun h => absurd (b388.symm.trans h) (by decide)⟩
    · have d393 : s382 46 = (.bool (impl_RecordFault.e1 a0)) := (hd386 34 rfl)
      have g394 : (impl_RecordFault.e1 a0) = true := (not_ff b388)
      exact L_skip rfl rfl (ltb rfl) (d393.trans (congrArg Value.bool g394)) rfl rfl (ltb rfl) <| L_nil <| stepEnd rfl rfl (Ext.refl w383) ⟨fun h => absurd (b388.symm.trans h) (by decide), fun _ => rfl⟩
  · intro s395 w396 e397 hf398 hd399 hu400
    rcases bool_two ((!(impl_RecordFault.e1 a0)) && (!decide (a0.kind = 3))) with b401 | b401
    · have g402 : (!decide (a0.kind = 3)) = true := (and_r b401)
      have d403 : s395 50 = (.bool (!decide (a0.kind = 3))) := ((hd399 38 rfl).1 (not_mk (not_f (and_l b401))))
      have d404 : s395 50 = (.bool (!decide (a0.kind = 3))) := ((hd399 38 rfl).1 (not_mk (not_f (and_l b401))))
      exact L_op (.guard 38 true 50 rfl rfl (ltb rfl) (d403.trans (congrArg Value.bool g402))) rfl (ltb rfl) (X_fieldAddr Tryz.underlying78 rfl Tryz.sizeOf4 rfl ((hf398 1 rfl).trans (K9 1 rfl))) <| L_nil <| stepEnd rfl rfl (Ext.refl w396) ⟨fun _ => rfl, fun h => absurd (b401.symm.trans h) (by decide)⟩
    · rcases bool_two (!(impl_RecordFault.e1 a0)) with b405 | b405
      · have d406 : s395 50 = (.bool (!decide (a0.kind = 3))) := ((hd399 38 rfl).1 (not_mk (not_f b405)))
        have g407 : (!decide (a0.kind = 3)) = false := (and_fr b401 b405)
        exact L_skip rfl rfl (ltb rfl) (d406.trans (congrArg Value.bool g407)) rfl rfl (ltb rfl) <| L_nil <| stepEnd rfl rfl (Ext.refl w396) ⟨fun h => absurd (b401.symm.trans h) (by decide), fun _ => rfl⟩
      · exact L_skipU rfl rfl (ltb rfl) ((hd399 38 rfl).2 b405) rfl (ltb rfl) <| L_nil <| stepEnd rfl rfl (Ext.refl w396) ⟨fun h => absurd (b401.symm.trans h) (by decide), fun _ => rfl⟩
  · intro s408 w409 e410 hf411 hd412 hu413
    rcases bool_two ((!(impl_RecordFault.e1 a0)) && (!decide (a0.kind = 3))) with b414 | b414
    · have g415 : (!decide (a0.kind = 3)) = true := (and_r b414)
      have d416 : s408 50 = (.bool (!decide (a0.kind = 3))) := ((hd412 38 rfl).1 (not_mk (not_f (and_l b414))))
      have d417 : s408 50 = (.bool (!decide (a0.kind = 3))) := ((hd412 38 rfl).1 (not_mk (not_f (and_l b414))))
      have d418 : s408 51 = (.pointer (some ⟨b1, 4, none⟩)) := ((hd412 39 rfl).1 (and_mk (not_mk (not_f (and_l b414))) (and_r b414)))
      exact L_op (.guard 38 true 50 rfl rfl (ltb rfl) (d416.trans (congrArg Value.bool g415))) rfl (ltb rfl) (X_loadB Tryz.isAgg4 (Blk.ext k6 (Ext.trans e11 e410)) d418 rfl) <| L_nil <| stepEnd rfl rfl (Ext.refl w409) ⟨fun _ => rfl, fun h => absurd (b414.symm.trans h) (by decide)⟩
    · rcases bool_two (!(impl_RecordFault.e1 a0)) with b419 | b419
      · have d420 : s408 50 = (.bool (!decide (a0.kind = 3))) := ((hd412 38 rfl).1 (not_mk (not_f b419)))
        have g421 : (!decide (a0.kind = 3)) = false := (and_fr b414 b419)
        exact L_skip rfl rfl (ltb rfl) (d420.trans (congrArg Value.bool g421)) rfl rfl (ltb rfl) <| L_nil <| stepEnd rfl rfl (Ext.refl w409) ⟨fun h => absurd (b414.symm.trans h) (by decide), fun _ => rfl⟩
      · exact L_skipU rfl rfl (ltb rfl) ((hd412 38 rfl).2 b419) rfl (ltb rfl) <| L_nil <| stepEnd rfl rfl (Ext.refl w409) ⟨fun h => absurd (b414.symm.trans h) (by decide), fun _ => rfl⟩
  · intro s422 w423 e424 hf425 hd426 hu427
    rcases bool_two (!(impl_RecordFault.e1 a0)) with b428 | b428
    · have g429 : (impl_RecordFault.e1 a0) = false := (not_f b428)
      have d430 : s422 46 = (.bool (impl_RecordFault.e1 a0)) := (hd426 34 rfl)
      rcases bool_two (!decide (a0.kind = 3)) with b431 | b431
      · have d432 : s422 50 = (.bool (!decide (a0.kind = 3))) := ((hd426 38 rfl).1 (not_mk (not_f b428)))
        have d433 : s422 52 = (.bool a0.opq) := ((hd426 40 rfl).1 (and_mk (not_mk (not_f b428)) b431))
        exact L_op (.guard 34 false 46 rfl rfl (ltb rfl) (d430.trans (congrArg Value.bool g429))) rfl (ltb rfl) (X_pick (b := true) (v := (.bool a0.opq)) (d432.trans (congrArg Value.bool b431)) d433) <| L_nil <| stepEnd rfl rfl (Ext.refl w423) ⟨fun _ => (and_t b431), fun h => absurd (b428.symm.trans h) (by decide)⟩
      · have d434 : s422 50 = (.bool (!decide (a0.kind = 3))) := ((hd426 38 rfl).1 (not_mk (not_f b428)))
        exact L_op (.guard 34 false 46 rfl rfl (ltb rfl) (d430.trans (congrArg Value.bool g429))) rfl (ltb rfl) (X_pick (b := false) (v := (.bool false)) (d434.trans (congrArg Value.bool b431)) rfl) <| L_nil <| stepEnd rfl rfl (Ext.refl w423) ⟨fun _ => (and_f b431), fun h => absurd (b428.symm.trans h) (by decide)⟩
    · have d435 : s422 46 = (.bool (impl_RecordFault.e1 a0)) := (hd426 34 rfl)
      have g436 : (impl_RecordFault.e1 a0) = true := (not_ff b428)
      exact L_skip rfl rfl (ltb rfl) (d435.trans (congrArg Value.bool g436)) rfl rfl (ltb rfl) <| L_nil <| stepEnd rfl rfl (Ext.refl w423) ⟨fun h => absurd (b428.symm.trans h) (by decide), fun _ => rfl⟩
  · intro s437 w438 e439 hf440 hd441 hu442
    rcases bool_two (impl_RecordFault.e1 a0) with b443 | b443
    · have d444 : s437 46 = (.bool (impl_RecordFault.e1 a0)) := (hd441 34 rfl)
      exact L_op (.plain rfl) rfl (ltb rfl) (X_pick (b := true) (v := (.bool true)) (d444.trans (congrArg Value.bool b443)) rfl) <| L_nil <| stepEnd rfl rfl (Ext.refl w438) (or_t b443)
    · have d445 : s437 46 = (.bool (impl_RecordFault.e1 a0)) := (hd441 34 rfl)
      have d446 : s437 53 = (.bool ((!decide (a0.kind = 3)) && a0.opq)) := ((hd441 41 rfl).1 (not_mk b443))
      exact L_op (.plain rfl) rfl (ltb rfl) (X_pick (b := false) (v := (.bool ((!decide (a0.kind = 3)) && a0.opq))) (d445.trans (congrArg Value.bool b443)) d446) <| L_nil <| stepEnd rfl rfl (Ext.refl w438) (or_f b443)
  · intro s447 w448 e449 hf450 hd451 hu452
    have d453 : s447 54 = (.bool ((impl_RecordFault.e1 a0) || ((!decide (a0.kind = 3)) && a0.opq))) := (hd451 42 rfl)
    exact L_op (.plain rfl) rfl (ltb rfl) (X_mkiface Tryz.underlying4 rfl d453) <| L_nil <| stepEnd rfl rfl (Ext.refl w448) rfl
  · intro s454 w455 e456 hf457 hd458 hu459
    exact L_op (.plain rfl) rfl (ltb rfl) (X_mkiface Tryz.underlying3 rfl rfl) <| L_nil <| stepEnd rfl rfl (Ext.refl w455) rfl
  · intro s460 w461 e462 hf463 hd464 hu465
    exact L_op (.plain rfl) rfl (ltb rfl) (X_fieldAddr Tryz.underlying78 rfl Tryz.sizeOf3 rfl ((hf463 1 rfl).trans (K9 1 rfl))) <| L_nil <| stepEnd rfl rfl (Ext.refl w461) rfl
  · intro s466 w467 e468 hf469 hd470 hu471
    have d472 : s466 57 = (.pointer (some ⟨b1, 3, none⟩)) := (hd470 45 rfl)
    exact L_op (.plain rfl) rfl (ltb rfl) (X_loadB Tryz.isAgg3 (Blk.ext k6 (Ext.trans e11 e468)) d472 rfl) <| L_nil <| stepEnd rfl rfl (Ext.refl w467) rfl
  · intro s473 w474 e475 hf476 hd477 hu478
    have d479 : s473 58 = (.int .i64 a0.mode) := (hd477 46 rfl)
    exact L_callP (.plain rfl) rfl (ltb rfl) rfl Tryz.call148 (impl_within.calls (w := w474) (a0 := a0.mode) (a1 := 0) (a2 := 511)) (cons2 d479 (cons2 rfl (cons2 rfl rfl))) <| fun w480 e481 => L_nil <| stepEnd rfl rfl e481 rfl
  · intro s482 w483 e484 hf485 hd486 hu487
    have d488 : s482 59 = (.bool (within a0.mode 0 511)) := (hd486 47 rfl)
    exact L_op (.plain rfl) rfl (ltb rfl) (X_not d488) <| L_nil <| stepEnd rfl rfl (Ext.refl w483) rfl
  · intro s489 w490 e491 hf492 hd493 hu494
    have d495 : s489 60 = (.bool (!(within a0.mode 0 511))) := (hd493 48 rfl)
    exact L_op (.plain rfl) rfl (ltb rfl) (X_move (v := (.bool (!(within a0.mode 0 511)))) d495) <| L_nil <| stepEnd rfl rfl (Ext.refl w490) rfl
  · intro s496 w497 e498 hf499 hd500 hu501
    rcases bool_two (!(!(within a0.mode 0 511))) with b502 | b502
    · have g503 : (!(within a0.mode 0 511)) = false := (not_f b502)
      have d504 : s496 61 = (.bool (!(within a0.mode 0 511))) := (hd500 49 rfl)
      have d505 : s496 61 = (.bool (!(within a0.mode 0 511))) := (hd500 49 rfl)
      exact L_op (.guard 49 false 61 rfl rfl (ltb rfl) (d504.trans (congrArg Value.bool g503))) rfl (ltb rfl) (X_fieldAddr Tryz.underlying78 rfl Tryz.sizeOf3 rfl ((hf499 1 rfl).trans (K9 1 rfl))) <| L_nil <| stepEnd rfl rfl (Ext.refl w497) ⟨fun _ => rfl, fun h => absurd (b502.symm.trans h) (by decide)⟩
    · have d506 : s496 61 = (.bool (!(within a0.mode 0 511))) := (hd500 49 rfl)
      have g507 : (!(within a0.mode 0 511)) = true := (not_ff b502)
      exact L_skip rfl rfl (ltb rfl) (d506.trans (congrArg Value.bool g507)) rfl rfl (ltb rfl) <| L_nil <| stepEnd rfl rfl (Ext.refl w497) ⟨fun h => absurd (b502.symm.trans h) (by decide), fun _ => rfl⟩
  · intro s508 w509 e510 hf511 hd512 hu513
    rcases bool_two (!(!(within a0.mode 0 511))) with b514 | b514
    · have g515 : (!(within a0.mode 0 511)) = false := (not_f b514)
      have d516 : s508 61 = (.bool (!(within a0.mode 0 511))) := (hd512 49 rfl)
      have d517 : s508 61 = (.bool (!(within a0.mode 0 511))) := (hd512 49 rfl)
      have d518 : s508 62 = (.pointer (some ⟨b1, 0, none⟩)) := ((hd512 50 rfl).1 (not_mk (not_f b514)))
      exact L_op (.guard 49 false 61 rfl rfl (ltb rfl) (d516.trans (congrArg Value.bool g515))) rfl (ltb rfl) (X_loadB Tryz.isAgg3 (Blk.ext k6 (Ext.trans e11 e510)) d518 rfl) <| L_nil <| stepEnd rfl rfl (Ext.refl w509) ⟨fun _ => rfl, fun h => absurd (b514.symm.trans h) (by decide)⟩
    · have d519 : s508 61 = (.bool (!(within a0.mode 0 511))) := (hd512 49 rfl)
      have g520 : (!(within a0.mode 0 511)) = true := (not_ff b514)
      exact L_skip rfl rfl (ltb rfl) (d519.trans (congrArg Value.bool g520)) rfl rfl (ltb rfl) <| L_nil <| stepEnd rfl rfl (Ext.refl w509) ⟨fun h => absurd (b514.symm.trans h) (by decide), fun _ => rfl⟩
  · intro s521 w522 e523 hf524 hd525 hu526
    rcases bool_two (!(!(within a0.mode 0 511))) with b527 | b527
    · have g528 : (!(within a0.mode 0 511)) = false := (not_f b527)
      have d529 : s521 61 = (.bool (!(within a0.mode 0 511))) := (hd525 49 rfl)
      have d530 : s521 61 = (.bool (!(within a0.mode 0 511))) := (hd525 49 rfl)
      have d531 : s521 63 = (.int .i64 a0.kind) := ((hd525 51 rfl).1 (not_mk (not_f b527)))
      exact L_op (.guard 49 false 61 rfl rfl (ltb rfl) (d529.trans (congrArg Value.bool g528))) rfl (ltb rfl) (X_eql d531 rfl) <| L_nil <| stepEnd rfl rfl (Ext.refl w522) ⟨fun _ => rfl, fun h => absurd (b527.symm.trans h) (by decide)⟩
    · have d532 : s521 61 = (.bool (!(within a0.mode 0 511))) := (hd525 49 rfl)
      have g533 : (!(within a0.mode 0 511)) = true := (not_ff b527)
      exact L_skip rfl rfl (ltb rfl) (d532.trans (congrArg Value.bool g533)) rfl rfl (ltb rfl) <| L_nil <| stepEnd rfl rfl (Ext.refl w522) ⟨fun h => absurd (b527.symm.trans h) (by decide), fun _ => rfl⟩
  · intro s534 w535 e536 hf537 hd538 hu539
    rcases bool_two (!(!(within a0.mode 0 511))) with b540 | b540
    · have g541 : (!(within a0.mode 0 511)) = false := (not_f b540)
      have d542 : s534 61 = (.bool (!(within a0.mode 0 511))) := (hd538 49 rfl)
      have d543 : s534 61 = (.bool (!(within a0.mode 0 511))) := (hd538 49 rfl)
      have d544 : s534 64 = (.bool (decide (a0.kind = 2))) := ((hd538 52 rfl).1 (not_mk (not_f b540)))
      exact L_op (.guard 49 false 61 rfl rfl (ltb rfl) (d542.trans (congrArg Value.bool g541))) rfl (ltb rfl) (X_move (v := (.bool (decide (a0.kind = 2)))) d544) <| L_nil <| stepEnd rfl rfl (Ext.refl w535) ⟨fun _ => rfl, fun h => absurd (b540.symm.trans h) (by decide)⟩
    · have d545 : s534 61 = (.bool (!(within a0.mode 0 511))) := (hd538 49 rfl)
      have g546 : (!(within a0.mode 0 511)) = true := (not_ff b540)
      exact L_skip rfl rfl (ltb rfl) (d545.trans (congrArg Value.bool g546)) rfl rfl (ltb rfl) <| L_nil <| stepEnd rfl rfl (Ext.refl w535) ⟨fun h => absurd (b540.symm.trans h) (by decide), fun _ => rfl⟩
  · intro s547 w548 e549 hf550 hd551 hu552
    rcases bool_two ((!(!(within a0.mode 0 511))) && (!(decide (a0.kind = 2)))) with b553 | b553
    · have g554 : (decide (a0.kind = 2)) = false := (not_f (and_r b553))
      have d555 : s547 65 = (.bool (decide (a0.kind = 2))) := ((hd551 53 rfl).1 (not_mk (not_f (and_l b553))))
      have d556 : s547 65 = (.bool (decide (a0.kind = 2))) := ((hd551 53 rfl).1 (not_mk (not_f (and_l b553))))
      exact L_op (.guard 53 false 65 rfl rfl (ltb rfl) (d555.trans (congrArg Value.bool g554))) rfl (ltb rfl) (X_fieldAddr Tryz.underlying78 rfl Tryz.sizeOf3 rfl ((hf550 1 rfl).trans (K9 1 rfl))) <| L_nil <| stepEnd rfl rfl (Ext.refl w548) ⟨fun _ => rfl, fun h => absurd (b553.symm.trans h) (by decide)⟩
    · rcases bool_two (!(!(within a0.mode 0 511))) with b557 | b557
      · have d558 : s547 65 = (.bool (decide (a0.kind = 2))) := ((hd551 53 rfl).1 (not_mk (not_f b557)))
        have g559 : (decide (a0.kind = 2)) = true := (not_ff (and_fr b553 b557))
        exact L_skip rfl rfl (ltb rfl) (d558.trans (congrArg Value.bool g559)) rfl rfl (ltb rfl) <| L_nil <| stepEnd rfl rfl (Ext.refl w548) ⟨fun h => absurd (b553.symm.trans h) (by decide), fun _ => rfl⟩
      · exact L_skipU rfl rfl (ltb rfl) ((hd551 53 rfl).2 b557) rfl (ltb rfl) <| L_nil <| stepEnd rfl rfl (Ext.refl w548) ⟨fun h => absurd (b553.symm.trans h) (by decide), fun _ => rfl⟩
  · intro s560 w561 e562 hf563 hd564 hu565
    rcases bool_two ((!(!(within a0.mode 0 511))) && (!(decide (a0.kind = 2)))) with b566 | b566
    · have g567 : (decide (a0.kind = 2)) = false := (not_f (and_r b566))
      have d568 : s560 65 = (.bool (decide (a0.kind = 2))) := ((hd564 53 rfl).1 (not_mk (not_f (and_l b566))))
      have d569 : s560 65 = (.bool (decide (a0.kind = 2))) := ((hd564 53 rfl).1 (not_mk (not_f (and_l b566))))
      have d570 : s560 66 = (.pointer (some ⟨b1, 0, none⟩)) := ((hd564 54 rfl).1 (and_mk (not_mk (not_f (and_l b566))) (not_mk (not_f (and_r b566)))))
      exact L_op (.guard 53 false 65 rfl rfl (ltb rfl) (d568.trans (congrArg Value.bool g567))) rfl (ltb rfl) (X_loadB Tryz.isAgg3 (Blk.ext k6 (Ext.trans e11 e562)) d570 rfl) <| L_nil <| stepEnd rfl rfl (Ext.refl w561) ⟨fun _ => rfl, fun h => absurd (b566.symm.trans h) (by decide)⟩
    · rcases bool_two (!(!(within a0.mode 0 511))) with b571 | b571
      · have d572 : s560 65 = (.bool (decide (a0.kind = 2))) := ((hd564 53 rfl).1 (not_mk (not_f b571)))
        have g573 : (decide (a0.kind = 2)) = true := (not_ff (and_fr b566 b571))
        exact L_skip rfl rfl (ltb rfl) (d572.trans (congrArg Value.bool g573)) rfl rfl (ltb rfl) <| L_nil <| stepEnd rfl rfl (Ext.refl w561) ⟨fun h => absurd (b566.symm.trans h) (by decide), fun _ => rfl⟩
      · exact L_skipU rfl rfl (ltb rfl) ((hd564 53 rfl).2 b571) rfl (ltb rfl) <| L_nil <| stepEnd rfl rfl (Ext.refl w561) ⟨fun h => absurd (b566.symm.trans h) (by decide), fun _ => rfl⟩
  · intro s574 w575 e576 hf577 hd578 hu579
    rcases bool_two ((!(!(within a0.mode 0 511))) && (!(decide (a0.kind = 2)))) with b580 | b580
    · have g581 : (decide (a0.kind = 2)) = false := (not_f (and_r b580))
      have d582 : s574 65 = (.bool (decide (a0.kind = 2))) := ((hd578 53 rfl).1 (not_mk (not_f (and_l b580))))
      have d583 : s574 65 = (.bool (decide (a0.kind = 2))) := ((hd578 53 rfl).1 (not_mk (not_f (and_l b580))))
      have d584 : s574 67 = (.int .i64 a0.kind) := ((hd578 55 rfl).1 (and_mk (not_mk (not_f (and_l b580))) (not_mk (not_f (and_r b580)))))
      exact L_op (.guard 53 false 65 rfl rfl (ltb rfl) (d582.trans (congrArg Value.bool g581))) rfl (ltb rfl) (X_eql d584 rfl) <| L_nil <| stepEnd rfl rfl (Ext.refl w575) ⟨fun _ => rfl, fun h => absurd (b580.symm.trans h) (by decide)⟩
    · rcases bool_two (!(!(within a0.mode 0 511))) with b585 | b585
      · have d586 : s574 65 = (.bool (decide (a0.kind = 2))) := ((hd578 53 rfl).1 (not_mk (not_f b585)))
        have g587 : (decide (a0.kind = 2)) = true := (not_ff (and_fr b580 b585))
        exact L_skip rfl rfl (ltb rfl) (d586.trans (congrArg Value.bool g587)) rfl rfl (ltb rfl) <| L_nil <| stepEnd rfl rfl (Ext.refl w575) ⟨fun h => absurd (b580.symm.trans h) (by decide), fun _ => rfl⟩
      · exact L_skipU rfl rfl (ltb rfl) ((hd578 53 rfl).2 b585) rfl (ltb rfl) <| L_nil <| stepEnd rfl rfl (Ext.refl w575) ⟨fun h => absurd (b580.symm.trans h) (by decide), fun _ => rfl⟩
  · intro s588 w589 e590 hf591 hd592 hu593
    rcases bool_two (!(!(within a0.mode 0 511))) with b594 | b594
    · have g595 : (!(within a0.mode 0 511)) = false := (not_f b594)
      have d596 : s588 61 = (.bool (!(within a0.mode 0 511))) := (hd592 49 rfl)
      rcases bool_two (decide (a0.kind = 2)) with b597 | b597
      · have d598 : s588 65 = (.bool (decide (a0.kind = 2))) := ((hd592 53 rfl).1 (not_mk (not_f b594)))
        exact L_op (.guard 49 false 61 rfl rfl (ltb rfl) (d596.trans (congrArg Value.bool g595))) rfl (ltb rfl) (X_pick (b := true) (v := (.bool true)) (d598.trans (congrArg Value.bool b597)) rfl) <| L_nil <| stepEnd rfl rfl (Ext.refl w589) ⟨fun _ => (or_t b597), fun h => absurd (b594.symm.trans h) (by decide)⟩
      · have d599 : s588 65 = (.bool (decide (a0.kind = 2))) := ((hd592 53 rfl).1 (not_mk (not_f b594)))
        have d600 : s588 68 = (.bool (decide (a0.kind = 4))) := ((hd592 56 rfl).1 (and_mk (not_mk (not_f b594)) (not_mk b597)))
        exact L_op (.guard 49 false 61 rfl rfl (ltb rfl) (d596.trans (congrArg Value.bool g595))) rfl (ltb rfl) (X_pick (b := false) (v := (.bool (decide (a0.kind = 4)))) (d599.trans (congrArg Value.bool b597)) d600) <| L_nil <| stepEnd rfl rfl (Ext.refl w589) ⟨fun _ => (or_f b597), fun h => absurd (b594.symm.trans h) (by decide)⟩
    · have d601 : s588 61 = (.bool (!(within a0.mode 0 511))) := (hd592 49 rfl)
      have g602 : (!(within a0.mode 0 511)) = true := (not_ff b594)
      exact L_skip rfl rfl (ltb rfl) (d601.trans (congrArg Value.bool g602)) rfl rfl (ltb rfl) <| L_nil <| stepEnd rfl rfl (Ext.refl w589) ⟨fun h => absurd (b594.symm.trans h) (by decide), fun _ => rfl⟩
  · intro s603 w604 e605 hf606 hd607 hu608
    rcases bool_two (!(!(within a0.mode 0 511))) with b609 | b609
    · have g610 : (!(within a0.mode 0 511)) = false := (not_f b609)
      have d611 : s603 61 = (.bool (!(within a0.mode 0 511))) := (hd607 49 rfl)
      have d612 : s603 61 = (.bool (!(within a0.mode 0 511))) := (hd607 49 rfl)
      have d613 : s603 69 = (.bool (impl_RecordFault.e3 a0)) := ((hd607 57 rfl).1 (not_mk (not_f b609)))
      exact L_op (.guard 49 false 61 rfl rfl (ltb rfl) (d611.trans (congrArg Value.bool g610))) rfl (ltb rfl) (X_move (v := (.bool (impl_RecordFault.e3 a0))) d613) <| L_nil <| stepEnd rfl rfl (Ext.refl w604) ⟨fun _ => rfl, fun h => absurd (b609.symm.trans h) (by decide)⟩
    · have d614 : s603 61 = (.bool (!(within a0.mode 0 511))) := (hd607 49 rfl)
      have g615 : (!(within a0.mode 0 511)) = true := (not_ff b609)
      exact L_skip rfl rfl (ltb rfl) (d614.trans (congrArg Value.bool g615)) rfl rfl (ltb rfl) <| L_nil <| stepEnd rfl rfl (Ext.refl w604) ⟨fun h => absurd (b609.symm.trans h) (by decide), fun _ => rfl⟩
  · intro s616 w617 e618 hf619 hd620 hu621
    rcases bool_two ((!(!(within a0.mode 0 511))) && (impl_RecordFault.e3 a0)) with b622 | b622
    · have g623 : (impl_RecordFault.e3 a0) = true := (and_r b622)
      have d624 : s616 70 = (.bool (impl_RecordFault.e3 a0)) := ((hd620 58 rfl).1 (not_mk (not_f (and_l b622))))
      have d625 : s616 70 = (.bool (impl_RecordFault.e3 a0)) := ((hd620 58 rfl).1 (not_mk (not_f (and_l b622))))
      exact L_op (.guard 58 true 70 rfl rfl (ltb rfl) (d624.trans (congrArg Value.bool g623))) rfl (ltb rfl) (X_fieldAddr Tryz.underlying78 rfl Tryz.sizeOf3 rfl ((hf619 1 rfl).trans (K9 1 rfl))) <| L_nil <| stepEnd rfl rfl (Ext.refl w617) ⟨fun _ => rfl, fun h => absurd (b622.symm.trans h) (by decide)⟩
    · rcases bool_two (!(!(within a0.mode 0 511))) with b626 | b626
      · have d627 : s616 70 = (.bool (impl_RecordFault.e3 a0)) := ((hd620 58 rfl).1 (not_mk (not_f b626)))
        have g628 : (impl_RecordFault.e3 a0) = false := (and_fr b622 b626)
        exact L_skip rfl rfl (ltb rfl) (d627.trans (congrArg Value.bool g628)) rfl rfl (ltb rfl) <| L_nil <| stepEnd rfl rfl (Ext.refl w617) ⟨fun h => absurd (b622.symm.trans h) (by decide), fun _ => rfl⟩
      · exact L_skipU rfl rfl (ltb rfl) ((hd620 58 rfl).2 b626) rfl (ltb rfl) <| L_nil <| stepEnd rfl rfl (Ext.refl w617) ⟨fun h => absurd (b622.symm.trans h) (by decide), fun _ => rfl⟩
  · intro s629 w630 e631 hf632 hd633 hu634
    rcases bool_two ((!(!(within a0.mode 0 511))) && (impl_RecordFault.e3 a0)) with b635 | b635
    · have g636 : (impl_RecordFault.e3 a0) = true := (and_r b635)
      have d637 : s629 70 = (.bool (impl_RecordFault.e3 a0)) := ((hd633 58 rfl).1 (not_mk (not_f (and_l b635))))
      have d638 : s629 70 = (.bool (impl_RecordFault.e3 a0)) := ((hd633 58 rfl).1 (not_mk (not_f (and_l b635))))
      have d639 : s629 71 = (.pointer (some ⟨b1, 3, none⟩)) := ((hd633 59 rfl).1 (and_mk (not_mk (not_f (and_l b635))) (and_r b635)))
      exact L_op (.guard 58 true 70 rfl rfl (ltb rfl) (d637.trans (congrArg Value.bool g636))) rfl (ltb rfl) (X_loadB Tryz.isAgg3 (Blk.ext k6 (Ext.trans e11 e631)) d639 rfl) <| L_nil <| stepEnd rfl rfl (Ext.refl w630) ⟨fun _ => rfl, fun h => absurd (b635.symm.trans h) (by decide)⟩
    · rcases bool_two (!(!(within a0.mode 0 511))) with b640 | b640
      · have d641 : s629 70 = (.bool (impl_RecordFault.e3 a0)) := ((hd633 58 rfl).1 (not_mk (not_f b640)))
        have g642 : (impl_RecordFault.e3 a0) = false := (and_fr b635 b640)
        exact L_skip rfl rfl (ltb rfl) (d641.trans (congrArg Value.bool g642)) rfl rfl (ltb rfl) <| L_nil <| stepEnd rfl rfl (Ext.refl w630) ⟨fun h => absurd (b635.symm.trans h) (by decide), fun _ => rfl⟩
      · exact L_skipU rfl rfl (ltb rfl) ((hd633 58 rfl).2 b640) rfl (ltb rfl) <| L_nil <| stepEnd rfl rfl (Ext.refl w630) ⟨fun h => absurd (b635.symm.trans h) (by decide), fun _ => rfl⟩
  · intro s643 w644 e645 hf646 hd647 hu648
    rcases bool_two ((!(!(within a0.mode 0 511))) && (impl_RecordFault.e3 a0)) with b649 | b649
    · have g650 : (impl_RecordFault.e3 a0) = true := (and_r b649)
      have d651 : s643 70 = (.bool (impl_RecordFault.e3 a0)) := ((hd647 58 rfl).1 (not_mk (not_f (and_l b649))))
      have d652 : s643 70 = (.bool (impl_RecordFault.e3 a0)) := ((hd647 58 rfl).1 (not_mk (not_f (and_l b649))))
      have d653 : s643 72 = (.int .i64 a0.mode) := ((hd647 60 rfl).1 (and_mk (not_mk (not_f (and_l b649))) (and_r b649)))
      exact L_op (.guard 58 true 70 rfl rfl (ltb rfl) (d651.trans (congrArg Value.bool g650))) rfl (ltb rfl) (X_neq d653 rfl) <| L_nil <| stepEnd rfl rfl (Ext.refl w644) ⟨fun _ => rfl, fun h => absurd (b649.symm.trans h) (by decide)⟩
    · rcases bool_two (!(!(within a0.mode 0 511))) with b654 | b654
      · have d655 : s643 70 = (.bool (impl_RecordFault.e3 a0)) := ((hd647 58 rfl).1 (not_mk (not_f b654)))
        have g656 : (impl_RecordFault.e3 a0) = false := (and_fr b649 b654)
        exact L_skip rfl rfl (ltb rfl) (d655.trans (congrArg Value.bool g656)) rfl rfl (ltb rfl) <| L_nil <| stepEnd rfl rfl (Ext.refl w644) ⟨fun h => absurd (b649.symm.trans h) (by decide), fun _ => rfl⟩
      · exact L_skipU rfl rfl (ltb rfl) ((hd647 58 rfl).2 b654) rfl (ltb rfl) <| L_nil <| stepEnd rfl rfl (Ext.refl w644) ⟨fun h => absurd (b649.symm.trans h) (by decide), fun _ => rfl⟩
  · intro s657 w658 e659 hf660 hd661 hu662
    rcases bool_two (!(!(within a0.mode 0 511))) with b663 | b663
    · have g664 : (!(within a0.mode 0 511)) = false := (not_f b663)
      have d665 : s657 61 = (.bool (!(within a0.mode 0 511))) := (hd661 49 rfl)
      rcases bool_two (impl_RecordFault.e3 a0) with b666 | b666
      · have d667 : s657 70 = (.bool (impl_RecordFault.e3 a0)) := ((hd661 58 rfl).1 (not_mk (not_f b663)))
        have d668 : s657 73 = (.bool (!decide (a0.mode = 0))) := ((hd661 61 rfl).1 (and_mk (not_mk (not_f b663)) b666))
        exact L_op (.guard 49 false 61 rfl rfl (ltb rfl) (d665.trans (congrArg Value.bool g664))) rfl (ltb rfl) (X_pick (b := true) (v := (.bool (!decide (a0.mode = 0)))) (d667.trans (congrArg Value.bool b666)) d668) <| L_nil <| stepEnd rfl rfl (Ext.refl w658) ⟨fun _ => (and_t b666), fun h => absurd (b663.symm.trans h) (by decide)⟩
      · have d669 : s657 70 = (.bool (impl_RecordFault.e3 a0)) := ((hd661 58 rfl).1 (not_mk (not_f b663)))
        exact L_op (.guard 49 false 61 rfl rfl (ltb rfl) (d665.trans (congrArg Value.bool g664))) rfl (ltb rfl) (X_pick (b := false) (v := (.bool false)) (d669.trans (congrArg Value.bool b666)) rfl) <| L_nil <| stepEnd rfl rfl (Ext.refl w658) ⟨fun _ => (and_f b666), fun h => absurd (b663.symm.trans h) (by decide)⟩
    · have d670 : s657 61 = (.bool (!(within a0.mode 0 511))) := (hd661 49 rfl)
      have g671 : (!(within a0.mode 0 511)) = true := (not_ff b663)
      exact L_skip rfl rfl (ltb rfl) (d670.trans (congrArg Value.bool g671)) rfl rfl (ltb rfl) <| L_nil <| stepEnd rfl rfl (Ext.refl w658) ⟨fun h => absurd (b663.symm.trans h) (by decide), fun _ => rfl⟩
  · intro s672 w673 e674 hf675 hd676 hu677
    rcases bool_two (!(within a0.mode 0 511)) with b678 | b678
    · have d679 : s672 61 = (.bool (!(within a0.mode 0 511))) := (hd676 49 rfl)
      exact L_op (.plain rfl) rfl (ltb rfl) (X_pick (b := true) (v := (.bool true)) (d679.trans (congrArg Value.bool b678)) rfl) <| L_nil <| stepEnd rfl rfl (Ext.refl w673) (or_t b678)
    · have d680 : s672 61 = (.bool (!(within a0.mode 0 511))) := (hd676 49 rfl)
      have d681 : s672 74 = (.bool ((impl_RecordFault.e3 a0) && (!decide (a0.mode = 0)))) := ((hd676 62 rfl).1 (not_mk b678))
      exact L_op (.plain rfl) rfl (ltb rfl) (X_pick (b := false) (v := (.bool ((impl_RecordFault.e3 a0) && (!decide (a0.mode = 0))))) (d680.trans (congrArg Value.bool b678)) d681) <| L_nil <| stepEnd rfl rfl (Ext.refl w673) (or_f b678)
  · intro s682 w683 e684 hf685 hd686 hu687
    have d688 : s682 75 = (.bool (impl_RecordFault.e6 a0)) := (hd686 63 rfl)
    exact L_op (.plain rfl) rfl (ltb rfl) (X_mkiface Tryz.underlying4 rfl d688) <| L_nil <| stepEnd rfl rfl (Ext.refl w683) rfl
  · intro s689 w690 e691 hf692 hd693 hu694
    exact L_op (.plain rfl) rfl (ltb rfl) (X_mkiface Tryz.underlying3 rfl rfl) <| L_nil <| stepEnd rfl rfl (Ext.refl w690) rfl
  · intro s695 w696 e697 hf698 hd699 hu700
    have d701 : s695 16 = (.iface 4 (.bool (!(within a0.kind 1 4)))) := (hd699 4 rfl)
    have d702 : s695 17 = (.iface 3 (.int .i64 9)) := (hd699 5 rfl)
    have d703 : s695 22 = (.iface 4 (.bool (!(pathOK a0.path)))) := (hd699 10 rfl)
    have d704 : s695 23 = (.iface 3 (.int .i64 10)) := (hd699 11 rfl)
    have d705 : s695 38 = (.iface 4 (.bool (impl_RecordFault.e5 a0))) := (hd699 26 rfl)
    have d706 : s695 39 = (.iface 3 (.int .i64 8)) := (hd699 27 rfl)
    have d707 : s695 55 = (.iface 4 (.bool ((impl_RecordFault.e1 a0) || ((!decide (a0.kind = 3)) && a0.opq)))) := (hd699 43 rfl)
    have d708 : s695 56 = (.iface 3 (.int .i64 3)) := (hd699 44 rfl)
    have d709 : s695 76 = (.iface 4 (.bool (impl_RecordFault.e6 a0))) := (hd699 64 rfl)
    have d710 : s695 77 = (.iface 3 (.int .i64 4)) := (hd699 65 rfl)
    exact L_lit (.plain rfl) rfl (ltb rfl) rfl Tryz.underlying119 Tryz.sizeOf20 Tryz.zeroValue20 rfl rfl rfl (vs := [(.iface 4 (.bool (!(within a0.kind 1 4)))), (.iface 3 (.int .i64 9)), (.iface 4 (.bool (!(pathOK a0.path)))), (.iface 3 (.int .i64 10)), (.iface 4 (.bool (impl_RecordFault.e5 a0))), (.iface 3 (.int .i64 8)), (.iface 4 (.bool ((impl_RecordFault.e1 a0) || ((!decide (a0.kind = 3)) && a0.opq)))), (.iface 3 (.int .i64 3)), (.iface 4 (.bool (impl_RecordFault.e6 a0))), (.iface 3 (.int .i64 4))]) (cons2 d701 (cons2 d702 (cons2 d703 (cons2 d704 (cons2 d705 (cons2 d706 (cons2 d707 (cons2 d708 (cons2 d709 (cons2 d710 rfl)))))))))) (lit_all rfl) <| fun b711 w712 z713 z714 e715 k716 => L_nil <| stepEnd rfl rfl e715 (Ow.rd (Ow.new (xs := [.inl (!(within a0.kind 1 4)), .inr 9, .inl (!(pathOK a0.path)), .inr 10, .inl (impl_RecordFault.e5 a0), .inr 8, .inl ((impl_RecordFault.e1 a0) || ((!decide (a0.kind = 3)) && a0.opq)), .inr 3, .inl (impl_RecordFault.e6 a0), .inr 4]) (sz := 1) (enc := (encAny 4 3)) (base := w696.heap.size) k716 (Nat.le_of_eq z713) rfl (fun _ _ => by first | rfl | exact encAny_len _ _ _) (Nat.le_of_ble_eq_true rfl)))
  · intro s717 w718 e719 hf720 hd721 hu722
    have d723 : Rd 1 (encAny 4 3) w718 (s717 78) (impl_RecordFault.e2 a0) := (hd721 66 rfl)
    have c724 := c25
    exact L_callP (.plain rfl) rfl (ltb rfl) rfl Tryz.call68 (impl_first.calls (w := w718) (a0 := (impl_RecordFault.e2 a0)) d723 (of_decide_eq_true c724)) rfl <| fun w725 e726 => L_nil <| stepEnd rfl rfl e726 rfl
  · intro s727 w728 e729 hf730 hd731 hu732
    have d733 : s727 79 = (.int .i64 (firstOf (impl_RecordFault.e2 a0))) := (hd731 67 rfl)
    exact L_op (.plain rfl) rfl (ltb rfl) (X_assign d733) <| L_nil <| stepEnd rfl rfl (Ext.refl w728) rfl
  intro s734 w735 e736 hf737 ha738
  have K739 := Kp.ofD (kp := [(2, 3), (12, 80)]) rfl hf737
  have d740 : s734 2 = (.int .i64 (firstOf (impl_RecordFault.e2 a0))) := ha738 68 rfl
  clear ha738 hf737
  refine thn_n <| W_ret <| fin_r ?_
  obtain rfl := Option.some.inj H
  exact fin1 d740 (Ext.trans (Ext.trans e5 e11) e736)
theorem impl_RecordFault.calls {w : World} {a0 : Rec} (gv : GV 0 w) :
    Calls Tryz.prog 200 #[.agg (encRec a0).toArray] w (Rt (RP w (.int .i64 (recFault a0)))) := impl_RecordFault.walk gv (impl_RecordFault.eq a0)
/-! impl.RecordOK -/
theorem impl_RecordOK.walk {w : World} {a0 : Rec} (gv : GV 0 w) {r : Bool} (H : impl_RecordOK.sh a0 = some r) :
    Calls Tryz.prog 166 #[.agg (encRec a0).toArray] w (Rt (RP w (.bool r))) := by
  unfold impl_RecordOK.sh at H
  refine calls_of_W Tryz.func166 rfl (Nat.le_of_ble_eq_true rfl) Tryz.ntmps166 rfl ?_
  refine W_seq <| W_reg <| L_box (.plain rfl) rfl (ltb rfl) rfl rfl <| fun b1 w2 z3 z4 e5 k6 => L_op (.plain rfl) rfl (ltb rfl) (X_assign (v := (.bool false)) rfl) <| L_nil <| thn_n <| W_seq <| W_reg <| L_op (.plain rfl) rfl (ltb rfl) (X_loadS Tryz.isAgg78 Tryz.sizeOf78 rfl rfl (Blk.at0 k6)) <| L_callP (.plain rfl) rfl (ltb rfl) rfl Tryz.call200 (impl_RecordFault.calls (w := w2) (a0 := a0) (GV.ext gv e5)) rfl <| fun w7 e8 => L_op (.plain rfl) rfl (ltb rfl) (X_eql rfl rfl) <| L_op (.plain rfl) rfl (ltb rfl) (X_assign (v := (.bool (decide ((recFault a0) = 0)))) rfl) <| L_nil <| thn_n <| W_ret <| fin_r ?_
  obtain rfl := Option.some.inj H
  exact fin1 rfl (Ext.trans e5 e8)
theorem impl_RecordOK.calls {w : World} {a0 : Rec} (gv : GV 0 w) :
    Calls Tryz.prog 166 #[.agg (encRec a0).toArray] w (Rt (RP w (.bool (decide (recFault a0 = 0))))) := impl_RecordOK.walk gv (impl_RecordOK.eq a0)
/-! spec.l01Less -/
theorem spec_l01Less.walk {k : Nat} {w : World} {a0 : List UInt8} {a1 : List UInt8} {r : Bool} (H : spec_l01Less.sh k a0 a1 = some r) :
    Calls Tryz.prog 112 #[S a0, S a1] w (Rt (RP w (.bool r))) := by
  unfold spec_l01Less.sh at H
  refine calls_of_W Tryz.func112 rfl (Nat.le_of_ble_eq_true rfl) Tryz.ntmps112 rfl ?_
  refine W_seq <| W_reg <| L_op (.plain rfl) rfl (ltb rfl) (X_assign (v := (.bool false)) rfl) <| L_nil <| thn_n <| W_seq <| W_reg <| L_op (.plain rfl) rfl (ltb rfl) (X_move (v := (S a0)) rfl) ?_
  obtain ⟨c1, H⟩ := bif_some H
  refine L_callO (.plain rfl) rfl (ltb rfl) rfl Tryz.call161 (spec_l00Cut.calls (w := w) (a0 := a0) (a1 := 47) (of_decide_eq_true c1)) rfl <| fun v4 w2 e3 o5 => L_op (.plain rfl) rfl (ltb rfl) (X_assign (v := v4) rfl) <| L_nil <| thn_n <| W_seq <| W_reg <| L_op (.plain rfl) rfl (ltb rfl) (X_move (v := (S a1)) rfl) ?_
  obtain ⟨c6, H⟩ := bif_some H
  refine L_callO (.plain rfl) rfl (ltb rfl) rfl Tryz.call161 (spec_l00Cut.calls (w := w2) (a0 := a1) (a1 := 47) (of_decide_eq_true c6)) rfl <| fun v9 w7 e8 o10 => L_op (.plain rfl) rfl (ltb rfl) (X_assign (v := v9) rfl) <| L_nil <| thn_n <| W_seq <| W_seq <| W_reg <| L_op (.plain rfl) rfl (ltb rfl) (X_assign (v := (.int .i64 0)) rfl) <| L_nil <| thn_n ?_
  obtain ⟨z12, L13, C14⟩ := bind_some H
  clear H
  refine  W_cutQ (fun s0 sQ wQ => Kp [(4, 5), (7, 8), (12, 42)] s0 sQ ∧ Ext w7 wQ ∧ z12 = .inr ()) ?_ ?_
  · refine W_block <| W_loopI (fun s0 kk sQ wQ => ∃ (x7_11 : Int), Kp [(4, 5), (7, 8), (12, 42)] s0 sQ ∧ sQ 7 = .int .i64 x7_11 ∧ Ext w7 wQ ∧ loopF (spec_l01Less.b1 a0 a1) kk x7_11 = some z12) k ⟨0, (Kp.refl _ _), rfl, (Ext.refl w7), L13⟩ ?_
    rintro k19 s20 w21 ⟨x7_11, K22, h25, e23, L24⟩
    cases k19 with
    | zero => exact absurd L24 (by simp [loopF])
    | succ k19 =>
      obtain ⟨t26, H, S27⟩ := loopF_succ L24
      clear L24
      unfold spec_l01Less.b1 at H
      refine W_seq <| W_seq <| W_reg <| L_op (.plain rfl) rfl (ltb rfl) (X_move (v := (.int .i64 x7_11)) h25) <| L_op (.plain rfl) rfl (ltb rfl) (X_move (v := v4) (K22 5 rfl)) <| L_op (.plain rfl) rfl (ltb rfl) (X_lenR Tryz.underlying49 rfl (Ow.rd (Ow.ext o5 (Ext.trans e8 e23)))) <| L_op (.plain rfl) rfl (ltb rfl) (X_lss rfl rfl) <| L_op (.plain rfl) rfl (ltb rfl) (X_move (v := (.bool (decide (x7_11 < ((cut 47 a0).length : Int))))) rfl) <| L_grp 5 [(17, 22)] 21 (.bool ((decide (x7_11 < ((cut 47 a0).length : Int))) && (decide (x7_11 < ((cut 47 a1).length : Int))))) ?_ ?_
      · rcases bool_two (decide (x7_11 < ((cut 47 a0).length : Int))) with b27_ | b27_
        · exact L_op (.guard 4 true 16 rfl rfl (ltb rfl) (congrArg Value.bool b27_)) rfl (ltb rfl) (X_move (v := (.int .i64 x7_11)) h25) <| L_op (.guard 4 true 16 rfl rfl (ltb rfl) (congrArg Value.bool b27_)) rfl (ltb rfl) (X_move (v := v9) (K22 6 rfl)) <| L_op (.guard 4 true 16 rfl rfl (ltb rfl) (congrArg Value.bool b27_)) rfl (ltb rfl) (X_lenR Tryz.underlying49 rfl (Ow.rd (Ow.ext o10 e23))) <| L_op (.guard 4 true 16 rfl rfl (ltb rfl) (congrArg Value.bool b27_)) rfl (ltb rfl) (X_lss rfl rfl) <| L_op (.plain rfl) rfl (ltb rfl) (X_pick (b := true) (v := (.bool (decide (x7_11 < ((cut 47 a1).length : Int))))) (congrArg Value.bool b27_) rfl) <| L_nil <| thn_n ⟨(Kp.upd (Kp.upd (Kp.upd (Kp.upd (Kp.upd (Kp.refl _ _) rfl) rfl) rfl) rfl) rfl), (and_t b27_), (Ext.refl w21)⟩
        · exact L_skip rfl rfl (ltb rfl) (congrArg Value.bool b27_) rfl rfl (ltb rfl) <| L_skip rfl rfl (ltb rfl) (congrArg Value.bool b27_) rfl rfl (ltb rfl) <| L_skip rfl rfl (ltb rfl) (congrArg Value.bool b27_) rfl rfl (ltb rfl) <| L_skip rfl rfl (ltb rfl) (congrArg Value.bool b27_) rfl rfl (ltb rfl) <| L_op (.plain rfl) rfl (ltb rfl) (X_pick (b := false) (v := (.bool false)) (congrArg Value.bool b27_) rfl) <| L_nil <| thn_n ⟨(Kp.upd (Kp.upd (Kp.upd (Kp.upd (Kp.upd (Kp.refl _ _) rfl) rfl) rfl) rfl) rfl), (and_f b27_), (Ext.refl w21)⟩
      intro s33 w29 K30 h31 e32
      refine L_nil <| thn_n ?_
      rcases bif_two H with ⟨q34, H⟩ | ⟨q34, H⟩
      · refine W_true (h31.trans (congrArg Value.bool q34)) <| W_skip <| thn_n <| W_seq <| W_block <| W_seq ?_
        obtain ⟨c35, H⟩ := bif_some H
        obtain ⟨c38, H⟩ := bif_some H
        refine W_drawM [LEq v4, LEq (.int .i64 x7_11), LAt0 (encS (gt (cut 47 a0) x7_11)), LEq (S (gt (cut 47 a0) x7_11)), LEq v9, LEq (.int .i64 x7_11), LAt0 (encS (gt (cut 47 a1) x7_11)), LEq (S (gt (cut 47 a1) x7_11)), LEq (.bool (!decide ((gt (cut 47 a0) x7_11) = (gt (cut 47 a1) x7_11))))] (by kernel_rfl) (by kernel_rfl) ⟨LEq.mono, LEq.mono, LAt0.mono, LEq.mono, LEq.mono, LEq.mono, LAt0.mono, LEq.mono, LEq.mono, trivial⟩ ⟨?_, ?_, ?_, ?_, ?_, ?_, ?_, ?_, ?_, trivial⟩ ?_
        · intro s41 w42 e43 hf44 hd45 hu46
          exact L_op (.plain rfl) rfl (ltb rfl) (X_move (v := v4) ((hf44 5 rfl).trans ((K30 5 rfl).trans (K22 5 rfl)))) <| L_nil <| stepEnd rfl rfl (Ext.refl w42) rfl
        · intro s47 w48 e49 hf50 hd51 hu52
          exact L_op (.plain rfl) rfl (ltb rfl) (X_move (v := (.int .i64 x7_11)) ((hf50 7 rfl).trans ((K30 7 rfl).trans h25))) <| L_nil <| stepEnd rfl rfl (Ext.refl w48) rfl
        · intro s53 w54 e55 hf56 hd57 hu58
          have d59 : s53 24 = v4 := (hd57 0 rfl)
          have d60 : s53 25 = (.int .i64 x7_11) := (hd57 1 rfl)
          have c61 := c35
          exact L_idx (.plain rfl) rfl (ltb rfl) rfl Tryz.underlying49 Tryz.sizeOf9 d59 (Ow.rd (Ow.ext o5 (Ext.trans (Ext.trans (Ext.trans e8 e23) e32) e55))) d60 c61 <| fun p62 h63 => L_nil <| stepEnd rfl rfl (Ext.refl w54) ⟨_, rfl, h63⟩
        · intro s64 w65 e66 hf67 hd68 hu69
          obtain ⟨p70, h71, h72⟩ := (hd68 2 rfl)
          exact L_op (.plain rfl) rfl (ltb rfl) (X_loadAt Tryz.isAgg9 h71 h72 rfl) <| L_nil <| stepEnd rfl rfl (Ext.refl w65) rfl
        · intro s73 w74 e75 hf76 hd77 hu78
          exact L_op (.plain rfl) rfl (ltb rfl) (X_move (v := v9) ((hf76 6 rfl).trans ((K30 6 rfl).trans (K22 6 rfl)))) <| L_nil <| stepEnd rfl rfl (Ext.refl w74) rfl
        · intro s79 w80 e81 hf82 hd83 hu84
          exact L_op (.plain rfl) rfl (ltb rfl) (X_move (v := (.int .i64 x7_11)) ((hf82 7 rfl).trans ((K30 7 rfl).trans h25))) <| L_nil <| stepEnd rfl rfl (Ext.refl w80) rfl
        · intro s85 w86 e87 hf88 hd89 hu90
          have d91 : s85 28 = v9 := (hd89 4 rfl)
          have d92 : s85 29 = (.int .i64 x7_11) := (hd89 5 rfl)
          have c93 := c38
          exact L_idx (.plain rfl) rfl (ltb rfl) rfl Tryz.underlying49 Tryz.sizeOf9 d91 (Ow.rd (Ow.ext o10 (Ext.trans (Ext.trans e23 e32) e87))) d92 c93 <| fun p94 h95 => L_nil <| stepEnd rfl rfl (Ext.refl w86) ⟨_, rfl, h95⟩
        · intro s96 w97 e98 hf99 hd100 hu101
          obtain ⟨p102, h103, h104⟩ := (hd100 6 rfl)
          exact L_op (.plain rfl) rfl (ltb rfl) (X_loadAt Tryz.isAgg9 h103 h104 rfl) <| L_nil <| stepEnd rfl rfl (Ext.refl w97) rfl
        · intro s105 w106 e107 hf108 hd109 hu110
          have d111 : s105 27 = (S (gt (cut 47 a0) x7_11)) := (hd109 3 rfl)
          have d112 : s105 31 = (S (gt (cut 47 a1) x7_11)) := (hd109 7 rfl)
          exact L_op (.plain rfl) rfl (ltb rfl) (X_sne d111 d112) <| L_nil <| stepEnd rfl rfl (Ext.refl w106) rfl
        intro s113 w114 e115 hf116 ha117
        have K118 := Kp.ofD (kp := [(24, 33)]) rfl hf116
        have d119 : s113 32 = (.bool (!decide ((gt (cut 47 a0) x7_11) = (gt (cut 47 a1) x7_11)))) := ha117 8 rfl
        clear ha117 hf116
        refine thn_n ?_
        rcases bif_two H with ⟨q120, H⟩ | ⟨q120, H⟩
        · refine W_true (d119.trans (congrArg Value.bool q120)) <| W_seq ?_
          obtain ⟨c121, H⟩ := bif_some H
          obtain ⟨c124, H⟩ := bif_some H
          refine W_drawM [LEq v4, LEq (.int .i64 x7_11), LAt0 (encS (gt (cut 47 a0) x7_11)), LEq (S (gt (cut 47 a0) x7_11)), LEq v9, LEq (.int .i64 x7_11), LAt0 (encS (gt (cut 47 a1) x7_11)), LEq (S (gt (cut 47 a1) x7_11)), LEq (.bool (lt8 (gt (cut 47 a0) x7_11) (gt (cut 47 a1) x7_11))), LEq (.bool (lt8 (gt (cut 47 a0) x7_11) (gt (cut 47 a1) x7_11)))] (by kernel_rfl) (by kernel_rfl) ⟨LEq.mono, LEq.mono, LAt0.mono, LEq.mono, LEq.mono, LEq.mono, LAt0.mono, LEq.mono, LEq.mono, LEq.mono, trivial⟩ ⟨?_, ?_, ?_, ?_, ?_, ?_, ?_, ?_, ?_, ?_, trivial⟩ ?_
          · intro s127 w128 e129 hf130 hd131 hu132
            exact L_op (.plain rfl) rfl (ltb rfl) (X_move (v := v4) ((hf130 5 rfl).trans ((K118 5 rfl).trans ((K30 5 rfl).trans (K22 5 rfl))))) <| L_nil <| stepEnd rfl rfl (Ext.refl w128) rfl
          · intro s133 w134 e135 hf136 hd137 hu138
            exact L_op (.plain rfl) rfl (ltb rfl) (X_move (v := (.int .i64 x7_11)) ((hf136 7 rfl).trans ((K118 7 rfl).trans ((K30 7 rfl).trans h25)))) <| L_nil <| stepEnd rfl rfl (Ext.refl w134) rfl
          · intro s139 w140 e141 hf142 hd143 hu144
            have d145 : s139 33 = v4 := (hd143 0 rfl)
            have d146 : s139 34 = (.int .i64 x7_11) := (hd143 1 rfl)
            have c147 := c121
            exact L_idx (.plain rfl) rfl (ltb rfl) rfl Tryz.underlying49 Tryz.sizeOf9 d145 (Ow.rd (Ow.ext o5 (Ext.trans (Ext.trans (Ext.trans (Ext.trans e8 e23) e32) e115) e141))) d146 c147 <| fun p148 h149 => L_nil <| stepEnd rfl rfl (Ext.refl w140) ⟨_, rfl, h149⟩
          · intro s150 w151 e152 hf153 hd154 hu155
            obtain ⟨p156, h157, h158⟩ := (hd154 2 rfl)
            exact L_op (.plain rfl) rfl (ltb rfl) (X_loadAt Tryz.isAgg9 h157 h158 rfl) <| L_nil <| stepEnd rfl rfl (Ext.refl w151) rfl
          · intro s159 w160 e161 hf162 hd163 hu164
            exact L_op (.plain rfl) rfl (ltb rfl) (X_move (v := v9) ((hf162 6 rfl).trans ((K118 6 rfl).trans ((K30 6 rfl).trans (K22 6 rfl))))) <| L_nil <| stepEnd rfl rfl (Ext.refl w160) rfl
          · intro s165 w166 e167 hf168 hd169 hu170
            exact L_op (.plain rfl) rfl (ltb rfl) (X_move (v := (.int .i64 x7_11)) ((hf168 7 rfl).trans ((K118 7 rfl).trans ((K30 7 rfl).trans h25)))) <| L_nil <| stepEnd rfl rfl (Ext.refl w166) rfl
          · intro s171 w172 e173 hf174 hd175 hu176
            have d177 : s171 37 = v9 := (hd175 4 rfl)
            have d178 : s171 38 = (.int .i64 x7_11) := (hd175 5 rfl)
            have c179 := c124
            exact L_idx (.plain rfl) rfl (ltb rfl) rfl Tryz.underlying49 Tryz.sizeOf9 d177 (Ow.rd (Ow.ext o10 (Ext.trans (Ext.trans (Ext.trans e23 e32) e115) e173))) d178 c179 <| fun p180 h181 => L_nil <| stepEnd rfl rfl (Ext.refl w172) ⟨_, rfl, h181⟩
          · intro s182 w183 e184 hf185 hd186 hu187
            obtain ⟨p188, h189, h190⟩ := (hd186 6 rfl)
            exact L_op (.plain rfl) rfl (ltb rfl) (X_loadAt Tryz.isAgg9 h189 h190 rfl) <| L_nil <| stepEnd rfl rfl (Ext.refl w183) rfl
          · intro s191 w192 e193 hf194 hd195 hu196
            have d197 : s191 36 = (S (gt (cut 47 a0) x7_11)) := (hd195 3 rfl)
            have d198 : s191 40 = (S (gt (cut 47 a1) x7_11)) := (hd195 7 rfl)
            exact L_op (.plain rfl) rfl (ltb rfl) (X_slt d197 d198) <| L_nil <| stepEnd rfl rfl (Ext.refl w192) rfl
          · intro s199 w200 e201 hf202 hd203 hu204
            have d205 : s199 41 = (.bool (lt8 (gt (cut 47 a0) x7_11) (gt (cut 47 a1) x7_11))) := (hd203 8 rfl)
            exact L_op (.plain rfl) rfl (ltb rfl) (X_assign (v := (.bool (lt8 (gt (cut 47 a0) x7_11) (gt (cut 47 a1) x7_11)))) d205) <| L_nil <| stepEnd rfl rfl (Ext.refl w200) rfl
          intro s206 w207 e208 hf209 ha210
          have K211 := Kp.ofD (kp := [(4, 5), (33, 42)]) rfl hf209
          have d212 : s206 4 = (.bool (lt8 (gt (cut 47 a0) x7_11) (gt (cut 47 a1) x7_11))) := ha210 9 rfl
          clear ha210 hf209
          refine thn_n <| W_ret <| blk_r <| thn_r <| thn_r <| blk_r <| thn_r <| thn_r <| fin_r ?_
          obtain rfl := Option.some.inj H
          obtain rfl := Option.some.inj S27
          have H := C14
          obtain rfl := Option.some.inj H
          exact fin1 d212 (Ext.trans (Ext.trans (Ext.trans (Ext.trans (Ext.trans e3 e8) e23) e32) e115) e208)
        · refine W_false (d119.trans (congrArg Value.bool q120)) <| W_skip <| blk_n <| thn_n <| W_reg <| L_op (.plain rfl) rfl (ltb rfl) (X_move (v := (.int .i64 x7_11)) ((K118 7 rfl).trans ((K30 7 rfl).trans h25))) <| L_op (.plain rfl) rfl (ltb rfl) (X_add rfl rfl) <| L_op (.plain rfl) rfl (ltb rfl) (X_assign (v := (.int .i64 (IntKind.wrap .i64 (x7_11 + 1)))) rfl) <| L_nil <| thn_n ?_
          obtain rfl := Option.some.inj H
          exact ⟨_, Nat.lt_succ_self _, IntKind.wrap .i64 (x7_11 + 1), (Kp.upd (Kp.upd (Kp.upd (Kp.cut (Kp.cut (Kp.upd (Kp.upd (Kp.upd (Kp.upd (Kp.upd K22 rfl) rfl) rfl) rfl) rfl) K30 rfl) K118 rfl) rfl) rfl) rfl), rfl, (Ext.trans (Ext.trans e23 e32) e115), S27⟩
      · refine W_false (h31.trans (congrArg Value.bool q34)) <| W_exit <| thn_x <| thn_x <| blk_x <| thn_n ?_
        obtain rfl := Option.some.inj H
        obtain rfl := Option.some.inj S27
        exact ⟨(Kp.cut (Kp.upd (Kp.upd (Kp.upd (Kp.upd (Kp.upd K22 rfl) rfl) rfl) rfl) rfl) K30 rfl), (Ext.trans e23 e32), rfl⟩
  · rintro s16 w15 ⟨K17, e18, y213⟩
    rw [y213] at C14
    have H := C14
    replace H : _ = some _ := H
    refine thn_n <| W_seq <| W_reg <| L_op (.plain rfl) rfl (ltb rfl) (X_move (v := v4) (K17 5 rfl)) <| L_op (.plain rfl) rfl (ltb rfl) (X_lenR Tryz.underlying49 rfl (Ow.rd (Ow.ext o5 (Ext.trans e8 e18)))) <| L_op (.plain rfl) rfl (ltb rfl) (X_move (v := v9) (K17 6 rfl)) <| L_op (.plain rfl) rfl (ltb rfl) (X_lenR Tryz.underlying49 rfl (Ow.rd (Ow.ext o10 e18))) <| L_op (.plain rfl) rfl (ltb rfl) (X_lss rfl rfl) <| L_op (.plain rfl) rfl (ltb rfl) (X_assign rfl) <| L_nil <| thn_n <| W_ret <| fin_r ?_
    obtain rfl := Option.some.inj H
    exact fin1 rfl (Ext.trans (Ext.trans e3 e8) e18)
theorem spec_l01Less.calls {w : World} {a0 : List UInt8} {a1 : List UInt8} (h0 : a0.length ≤ 1048576) (h1 : a1.length ≤ 1048576) :
    Calls Tryz.prog 112 #[S a0, S a1] w (Rt (RP w (.bool (lessL (cut 47 a0) (cut 47 a1))))) := by
  obtain ⟨k, h⟩ := spec_l01Less.eq a0 a1 h0 h1
  exact spec_l01Less.walk h
/-! cmp.isNaN(string) -/
theorem cmp_isNaNS.walk {w : World} {a0 : List UInt8} {r : Bool} (H : cmp_isNaNS.sh a0 = some r) :
    Calls Tryz.prog 246 #[S a0] w (Rt (RP w (.bool r))) := by
  unfold cmp_isNaNS.sh at H
  refine calls_of_W Tryz.func246 rfl (Nat.le_of_ble_eq_true rfl) Tryz.ntmps246 rfl ?_
  refine W_seq <| W_reg <| L_op (.plain rfl) rfl (ltb rfl) (X_assign (v := (.bool false)) rfl) <| L_nil <| thn_n <| W_seq <| W_reg <| L_op (.plain rfl) rfl (ltb rfl) (X_move (v := (S a0)) rfl) <| L_op (.plain rfl) rfl (ltb rfl) (X_move (v := (S a0)) rfl) <| L_op (.plain rfl) rfl (ltb rfl) (X_sne rfl rfl) <| L_op (.plain rfl) rfl (ltb rfl) (X_assign (v := (.bool (!decide (a0 = a0)))) rfl) <| L_nil <| thn_n <| W_ret <| fin_r ?_
  obtain rfl := Option.some.inj H
  exact fin1 rfl (Ext.refl w)
theorem cmp_isNaNS.calls {w : World} {a0 : List UInt8} :
    Calls Tryz.prog 246 #[S a0] w (Rt (RP w (.bool false))) := cmp_isNaNS.walk (cmp_isNaNS.eq a0)
/-! cmp.Compare(string) -/
theorem cmp_CompareS.walk {w : World} {a0 : List UInt8} {a1 : List UInt8} {r : Int} (H : cmp_CompareS.sh a0 a1 = some r) :
    Calls Tryz.prog 219 #[S a0, S a1] w (Rt (RP w (.int .i64 r))) := by
  unfold cmp_CompareS.sh at H
  refine calls_of_W Tryz.func219 rfl (Nat.le_of_ble_eq_true rfl) Tryz.ntmps219 rfl ?_
  refine W_seq <| W_reg <| L_op (.plain rfl) rfl (ltb rfl) (X_assign (v := (.int .i64 0)) rfl) <| L_nil <| thn_n <| W_seq <| W_reg <| L_op (.plain rfl) rfl (ltb rfl) (X_move (v := (S a0)) rfl) <| L_callP (.plain rfl) rfl (ltb rfl) rfl Tryz.call246 (cmp_isNaNS.calls (w := w) (a0 := a0)) rfl <| fun w1 e2 => L_op (.plain rfl) rfl (ltb rfl) (X_assign (v := (.bool false)) rfl) <| L_nil <| thn_n <| W_seq <| W_reg <| L_op (.plain rfl) rfl (ltb rfl) (X_move (v := (S a1)) rfl) <| L_callP (.plain rfl) rfl (ltb rfl) rfl Tryz.call246 (cmp_isNaNS.calls (w := w1) (a0 := a1)) rfl <| fun w3 e4 => L_op (.plain rfl) rfl (ltb rfl) (X_assign (v := (.bool false)) rfl) <| L_nil <| thn_n <| W_seq <| W_seq <| W_reg <| L_op (.plain rfl) rfl (ltb rfl) (X_move (v := (.bool false)) rfl) <| L_nil <| thn_n ?_
  rcases bif_two H with ⟨q5, H⟩ | ⟨q5, H⟩
  · refine W_true (congrArg Value.bool q5) <| W_seq <| W_seq <| W_reg <| L_op (.plain rfl) rfl (ltb rfl) (X_move (v := (.bool false)) rfl) <| L_nil <| thn_n ?_
    rcases bif_two H with ⟨q6, H⟩ | ⟨q6, H⟩
    · refine W_true (congrArg Value.bool q6) <| W_seq <| W_reg <| L_op (.plain rfl) rfl (ltb rfl) (X_assign (v := (.int .i64 0)) rfl) <| L_nil <| thn_n <| W_ret <| thn_r <| thn_r <| fin_r ?_
      obtain rfl := Option.some.inj H
      exact fin1 rfl (Ext.trans e2 e4)
    · refine W_false (congrArg Value.bool q6) <| W_skip <| thn_n <| W_seq <| W_reg <| L_op (.plain rfl) rfl (ltb rfl) (X_assign (v := (.int .i64 (-1))) rfl) <| L_nil <| thn_n <| W_ret <| thn_r <| fin_r ?_
      obtain rfl := Option.some.inj H
      exact fin1 rfl (Ext.trans e2 e4)
  · refine W_false (congrArg Value.bool q5) <| W_skip <| thn_n <| W_seq <| W_seq <| W_reg <| L_op (.plain rfl) rfl (ltb rfl) (X_move (v := (.bool false)) rfl) <| L_nil <| thn_n ?_
    rcases bif_two H with ⟨q7, H⟩ | ⟨q7, H⟩
    · refine W_true (congrArg Value.bool q7) <| W_seq <| W_reg <| L_op (.plain rfl) rfl (ltb rfl) (X_assign (v := (.int .i64 1)) rfl) <| L_nil <| thn_n <| W_ret <| thn_r <| fin_r ?_
      obtain rfl := Option.some.inj H
      exact fin1 rfl (Ext.trans e2 e4)
    · refine W_false (congrArg Value.bool q7) <| W_skip <| thn_n <| W_seq <| W_seq <| W_reg <| L_op (.plain rfl) rfl (ltb rfl) (X_move (v := (S a0)) rfl) <| L_op (.plain rfl) rfl (ltb rfl) (X_move (v := (S a1)) rfl) <| L_op (.plain rfl) rfl (ltb rfl) (X_slt rfl rfl) <| L_nil <| thn_n ?_
      rcases bif_two H with ⟨q8, H⟩ | ⟨q8, H⟩
      · refine W_true (congrArg Value.bool q8) <| W_seq <| W_reg <| L_op (.plain rfl) rfl (ltb rfl) (X_assign (v := (.int .i64 (-1))) rfl) <| L_nil <| thn_n <| W_ret <| thn_r <| fin_r ?_
        obtain rfl := Option.some.inj H
        exact fin1 rfl (Ext.trans e2 e4)
      · refine W_false (congrArg Value.bool q8) <| W_skip <| thn_n <| W_seq <| W_seq <| W_reg <| L_op (.plain rfl) rfl (ltb rfl) (X_move (v := (S a0)) rfl) <| L_op (.plain rfl) rfl (ltb rfl) (X_move (v := (S a1)) rfl) <| L_op (.plain rfl) rfl (ltb rfl) (X_sgt rfl rfl) <| L_nil <| thn_n ?_
        rcases bif_two H with ⟨q9, H⟩ | ⟨q9, H⟩
        · refine W_true (congrArg Value.bool q9) <| W_seq <| W_reg <| L_op (.plain rfl) rfl (ltb rfl) (X_assign (v := (.int .i64 1)) rfl) <| L_nil <| thn_n <| W_ret <| thn_r <| fin_r ?_
          obtain rfl := Option.some.inj H
          exact fin1 rfl (Ext.trans e2 e4)
        · refine W_false (congrArg Value.bool q9) <| W_skip <| thn_n <| W_seq <| W_reg <| L_op (.plain rfl) rfl (ltb rfl) (X_assign (v := (.int .i64 0)) rfl) <| L_nil <| thn_n <| W_ret <| fin_r ?_
          obtain rfl := Option.some.inj H
          exact fin1 rfl (Ext.trans e2 e4)
theorem cmp_CompareS.calls {w : World} {a0 : List UInt8} {a1 : List UInt8} :
    Calls Tryz.prog 219 #[S a0, S a1] w (Rt (RP w (.int .i64 (cmpS a0 a1)))) := cmp_CompareS.walk (cmp_CompareS.eq a0 a1)
/-! slices.Compare(()string,string) -/
theorem slices_CompareS.walk {k : Nat} {w : World} {a0 : List (List UInt8)} {a1 : List (List UInt8)} {v_a0 : Value} (f_a0 : Rd 1 encS w v_a0 a0) {v_a1 : Value} (f_a1 : Rd 1 encS w v_a1 a1) {r : Int} (H : slices_CompareS.sh k a0 a1 = some r) :
    Calls Tryz.prog 181 #[v_a0, v_a1] w (Rt (RP w (.int .i64 r))) := by
  unfold slices_CompareS.sh at H
  refine calls_of_W Tryz.func181 rfl (Nat.le_of_ble_eq_true rfl) Tryz.ntmps181 rfl ?_
  refine W_seq <| W_reg <| L_op (.plain rfl) rfl (ltb rfl) (X_assign (v := (.int .i64 0)) rfl) <| L_nil <| thn_n <| W_seq <| W_seq <| W_reg <| L_op (.plain rfl) rfl (ltb rfl) (X_move (v := v_a0) rfl) <| L_op (.plain rfl) rfl (ltb rfl) (X_lenR Tryz.underlying49 rfl f_a0) <| L_op (.plain rfl) rfl (ltb rfl) (X_move (v := (.int .i64 0)) rfl) <| L_nil <| thn_n ?_
  obtain ⟨z2, L3, C4⟩ := bind_some H
  clear H
  refine  W_cutQ (fun s0 sQ wQ => Kp [(4, 9), (11, 31)] s0 sQ ∧ Ext w wQ ∧ z2 = .inr ()) ?_ ?_
  · refine W_block <| W_loopI (fun s0 kk sQ wQ => ∃ (x11_1 : Int), Kp [(4, 9), (11, 31)] s0 sQ ∧ sQ 11 = .int .i64 x11_1 ∧ Ext w wQ ∧ loopF (slices_CompareS.b1 a0 a1) kk x11_1 = some z2) k ⟨0, (Kp.refl _ _), rfl, (Ext.refl w), L3⟩ ?_
    rintro k9 s10 w11 ⟨x11_1, K12, h15, e13, L14⟩
    cases k9 with
    | zero => exact absurd L14 (by simp [loopF])
    | succ k9 =>
      obtain ⟨t16, H, S17⟩ := loopF_succ L14
      clear L14
      unfold slices_CompareS.b1 at H
      refine W_seq <| W_reg <| L_op (.plain rfl) rfl (ltb rfl) (X_lss h15 (K12 10 rfl)) <| L_nil <| thn_n <| W_seq ?_
      rcases bif_two H with ⟨q18, H⟩ | ⟨q18, H⟩
      · refine W_true (congrArg Value.bool q18) <| W_skip <| thn_n <| W_seq <| W_block <| W_seq <| W_reg <| L_op (.plain rfl) rfl (ltb rfl) (X_move (v := (.int .i64 x11_1)) h15) ?_
        obtain ⟨c19, H⟩ := bif_some H
        refine L_idx (.plain rfl) rfl (ltb rfl) rfl Tryz.underlying49 Tryz.sizeOf9 (K12 9 rfl) (Rd.ext f_a0 e13) h15 c19 <| fun p20 h21 => L_op (.plain rfl) rfl (ltb rfl) (X_loadAt Tryz.isAgg9 rfl h21 rfl) <| L_op (.plain rfl) rfl (ltb rfl) (X_assign (v := (.int .i64 x11_1)) rfl) <| L_op (.plain rfl) rfl (ltb rfl) (X_assign (v := (S (gt a0 x11_1))) rfl) <| L_nil <| thn_n <| W_seq <| W_seq <| W_reg <| L_op (.plain rfl) rfl (ltb rfl) (X_move (v := (.int .i64 x11_1)) rfl) <| L_op (.plain rfl) rfl (ltb rfl) (X_move (v := v_a1) (K12 1 rfl)) <| L_op (.plain rfl) rfl (ltb rfl) (X_lenR Tryz.underlying49 rfl (Rd.ext f_a1 e13)) <| L_op (.plain rfl) rfl (ltb rfl) (X_geq rfl rfl) <| L_nil <| thn_n ?_
        rcases bif_two H with ⟨q22, H⟩ | ⟨q22, H⟩
        · refine W_true (congrArg Value.bool q22) <| W_seq <| W_reg <| L_op (.plain rfl) rfl (ltb rfl) (X_assign (v := (.int .i64 1)) rfl) <| L_nil <| thn_n <| W_ret <| thn_r <| blk_r <| thn_r <| thn_r <| blk_r <| thn_r <| thn_r <| fin_r ?_
          obtain rfl := Option.some.inj H
          obtain rfl := Option.some.inj S17
          have H := C4
          obtain rfl := Option.some.inj H
          exact fin1 rfl e13
        · refine W_false (congrArg Value.bool q22) <| W_skip <| thn_n <| W_seq <| W_reg <| L_op (.plain rfl) rfl (ltb rfl) (X_move (v := v_a1) (K12 1 rfl)) <| L_op (.plain rfl) rfl (ltb rfl) (X_move (v := (.int .i64 x11_1)) rfl) ?_
          obtain ⟨c23, H⟩ := bif_some H
          refine L_idx (.plain rfl) rfl (ltb rfl) rfl Tryz.underlying49 Tryz.sizeOf9 rfl (Rd.ext f_a1 e13) rfl c23 <| fun p24 h25 => L_op (.plain rfl) rfl (ltb rfl) (X_loadAt Tryz.isAgg9 rfl h25 rfl) <| L_op (.plain rfl) rfl (ltb rfl) (X_assign (v := (S (gt a1 x11_1))) rfl) <| L_nil <| thn_n <| W_seq <| W_reg <| L_op (.plain rfl) rfl (ltb rfl) (X_move (v := (S (gt a0 x11_1))) rfl) <| L_op (.plain rfl) rfl (ltb rfl) (X_move (v := (S (gt a1 x11_1))) rfl) <| L_callP (.plain rfl) rfl (ltb rfl) rfl Tryz.call219 (cmp_CompareS.calls (w := w11) (a0 := gt a0 x11_1) (a1 := gt a1 x11_1)) rfl <| fun w26 e27 => L_op (.plain rfl) rfl (ltb rfl) (X_assign (v := (.int .i64 (cmpS (gt a0 x11_1) (gt a1 x11_1)))) rfl) <| L_nil <| thn_n <| W_seq <| W_reg <| L_op (.plain rfl) rfl (ltb rfl) (X_move (v := (.int .i64 (cmpS (gt a0 x11_1) (gt a1 x11_1)))) rfl) <| L_op (.plain rfl) rfl (ltb rfl) (X_neq rfl rfl) <| L_nil <| thn_n ?_
          rcases bif_two H with ⟨q28, H⟩ | ⟨q28, H⟩
          · refine W_true (congrArg Value.bool q28) <| W_seq <| W_reg <| L_op (.plain rfl) rfl (ltb rfl) (X_move (v := (.int .i64 (cmpS (gt a0 x11_1) (gt a1 x11_1)))) rfl) <| L_op (.plain rfl) rfl (ltb rfl) (X_assign (v := (.int .i64 (cmpS (gt a0 x11_1) (gt a1 x11_1)))) rfl) <| L_nil <| thn_n <| W_ret <| blk_r <| thn_r <| thn_r <| blk_r <| thn_r <| thn_r <| fin_r ?_
            obtain rfl := Option.some.inj H
            obtain rfl := Option.some.inj S17
            have H := C4
            obtain rfl := Option.some.inj H
            exact fin1 rfl (Ext.trans e13 e27)
          · refine W_false (congrArg Value.bool q28) <| W_skip <| blk_n <| thn_n <| W_reg <| L_op (.plain rfl) rfl (ltb rfl) (X_add h15 rfl) <| L_op (.plain rfl) rfl (ltb rfl) (X_move (v := (.int .i64 (IntKind.wrap .i64 (x11_1 + 1)))) rfl) <| L_nil <| thn_n ?_
            obtain rfl := Option.some.inj H
            exact ⟨_, Nat.lt_succ_self _, IntKind.wrap .i64 (x11_1 + 1), (Kp.upd (Kp.upd (Kp.upd (Kp.upd (Kp.upd (Kp.upd (Kp.upd (Kp.upd (Kp.upd (Kp.upd (Kp.upd (Kp.upd (Kp.upd (Kp.upd (Kp.upd (Kp.upd (Kp.upd (Kp.upd (Kp.upd (Kp.upd (Kp.upd (Kp.upd (Kp.upd K12 rfl) rfl) rfl) rfl) rfl) rfl) rfl) rfl) rfl) rfl) rfl) rfl) rfl) rfl) rfl) rfl) rfl) rfl) rfl) rfl) rfl) rfl) rfl), rfl, (Ext.trans e13 e27), S17⟩
      · refine W_false (congrArg Value.bool q18) <| W_exit <| thn_x <| thn_x <| blk_x <| thn_n ?_
        obtain rfl := Option.some.inj H
        obtain rfl := Option.some.inj S17
        exact ⟨(Kp.upd K12 rfl), e13, rfl⟩
  · rintro s6 w5 ⟨K7, e8, y29⟩
    rw [y29] at C4
    have H := C4
    replace H : _ = some _ := H
    refine thn_n <| W_seq <| W_seq <| W_reg <| L_op (.plain rfl) rfl (ltb rfl) (X_move (v := v_a0) (K7 0 rfl)) <| L_op (.plain rfl) rfl (ltb rfl) (X_lenR Tryz.underlying49 rfl (Rd.ext f_a0 e8)) <| L_op (.plain rfl) rfl (ltb rfl) (X_move (v := v_a1) (K7 1 rfl)) <| L_op (.plain rfl) rfl (ltb rfl) (X_lenR Tryz.underlying49 rfl (Rd.ext f_a1 e8)) <| L_op (.plain rfl) rfl (ltb rfl) (X_lss rfl rfl) <| L_nil <| thn_n ?_
    rcases bif_two H with ⟨q30, H⟩ | ⟨q30, H⟩
    · refine W_true (congrArg Value.bool q30) <| W_seq <| W_reg <| L_op (.plain rfl) rfl (ltb rfl) (X_assign (v := (.int .i64 (-1))) rfl) <| L_nil <| thn_n <| W_ret <| thn_r <| fin_r ?_
      obtain rfl := Option.some.inj H
      exact fin1 rfl e8
    · refine W_false (congrArg Value.bool q30) <| W_skip <| thn_n <| W_seq <| W_reg <| L_op (.plain rfl) rfl (ltb rfl) (X_assign (v := (.int .i64 0)) rfl) <| L_nil <| thn_n <| W_ret <| fin_r ?_
      obtain rfl := Option.some.inj H
      exact fin1 rfl e8
theorem slices_CompareS.calls {w : World} {a0 : List (List UInt8)} {a1 : List (List UInt8)} {v_a0 : Value} (f_a0 : Rd 1 encS w v_a0 a0) {v_a1 : Value} (f_a1 : Rd 1 encS w v_a1 a1) (h0 : a0.length ≤ 4611686018427387904) (h1 : a1.length ≤ 4611686018427387904) :
    Calls Tryz.prog 181 #[v_a0, v_a1] w (Rt (RP w (.int .i64 (cmpL a0 a1)))) := by
  obtain ⟨k, h⟩ := slices_CompareS.eq a0 a1 h0 h1
  exact slices_CompareS.walk f_a0 f_a1 h
/-! impl.compare -/
theorem impl_compare.walk {w : World} {a0 : List UInt8} {a1 : List UInt8} (gv : GV 0 w) {r : Int} (H : impl_compare.sh a0 a1 = some r) :
    Calls Tryz.prog 128 #[S a0, S a1] w (Rt (RP w (.int .i64 r))) := by
  unfold impl_compare.sh at H
  refine calls_of_W Tryz.func128 rfl (Nat.le_of_ble_eq_true rfl) Tryz.ntmps128 rfl ?_
  refine W_seq <| W_reg <| L_op (.plain rfl) rfl (ltb rfl) (X_assign (v := (.int .i64 0)) rfl) <| L_nil <| thn_n <| W_seq <| W_reg <| L_op (.plain rfl) rfl (ltb rfl) (X_move (v := (S a0)) rfl) ?_
  obtain ⟨c1, H⟩ := bif_some H
  refine L_callO (.plain rfl) rfl (ltb rfl) rfl Tryz.call155 (impl_parts.calls (w := w) (a0 := a0) gv (of_decide_eq_true c1)) rfl <| fun v4 w2 e3 o5 => L_op (.plain rfl) rfl (ltb rfl) (X_move (v := (S a1)) rfl) ?_
  obtain ⟨c6, H⟩ := bif_some H
  refine L_callO (.plain rfl) rfl (ltb rfl) rfl Tryz.call155 (impl_parts.calls (w := w2) (a0 := a1) (GV.ext gv e3) (of_decide_eq_true c6)) rfl <| fun v9 w7 e8 o10 => ?_
  obtain ⟨c11, H⟩ := bif_some H
  obtain ⟨c12, H⟩ := bif_some H
  refine L_callP (.plain rfl) rfl (ltb rfl) rfl Tryz.call181 (slices_CompareS.calls (w := w7) (a0 := (cut 47 a0)) (a1 := (cut 47 a1)) (Ow.rd (Ow.ext o5 e8)) (Ow.rd o10) (of_decide_eq_true c11) (of_decide_eq_true c12)) rfl <| fun w13 e14 => L_op (.plain rfl) rfl (ltb rfl) (X_assign (v := (.int .i64 (cmpL (cut 47 a0) (cut 47 a1)))) rfl) <| L_nil <| thn_n <| W_ret <| fin_r ?_
  obtain rfl := Option.some.inj H
  exact fin1 rfl (Ext.trans (Ext.trans e3 e8) e14)
theorem impl_compare.calls {w : World} {a0 : List UInt8} {a1 : List UInt8} (gv : GV 0 w) (h0 : a0.length ≤ 1048576) (h1 : a1.length ≤ 1048576) :
    Calls Tryz.prog 128 #[S a0, S a1] w (Rt (RP w (.int .i64 (cmpL (cut 47 a0) (cut 47 a1))))) := impl_compare.walk gv (impl_compare.eq a0 a1 h0 h1)
/-! impl.PathLess -/
theorem impl_PathLess.walk {w : World} {a0 : List UInt8} {a1 : List UInt8} (gv : GV 0 w) {r : Bool} (H : impl_PathLess.sh a0 a1 = some r) :
    Calls Tryz.prog 118 #[S a0, S a1] w (Rt (RP w (.bool r))) := by
  unfold impl_PathLess.sh at H
  refine calls_of_W Tryz.func118 rfl (Nat.le_of_ble_eq_true rfl) Tryz.ntmps118 rfl ?_
  refine W_seq <| W_reg <| L_op (.plain rfl) rfl (ltb rfl) (X_assign (v := (.bool false)) rfl) <| L_nil <| thn_n <| W_seq <| W_reg <| L_op (.plain rfl) rfl (ltb rfl) (X_move (v := (S a0)) rfl) <| L_callP (.plain rfl) rfl (ltb rfl) rfl Tryz.call167 (impl_PathOK.calls (w := w) (a0 := a0) gv) rfl <| fun w1 e2 => L_op (.plain rfl) rfl (ltb rfl) (X_move (v := (.bool (pathOK a0))) rfl) <| L_grp 3 [(8, 11)] 10 (.bool ((pathOK a0) && (pathOK a1))) ?_ ?_
  · rcases bool_two (pathOK a0) with b2_ | b2_
    · exact L_op (.guard 2 true 7 rfl rfl (ltb rfl) (congrArg Value.bool b2_)) rfl (ltb rfl) (X_move (v := (S a1)) rfl) <| L_callP (.guard 2 true 7 rfl rfl (ltb rfl) (congrArg Value.bool b2_)) rfl (ltb rfl) rfl Tryz.call167 (impl_PathOK.calls (w := w1) (a0 := a1) (GV.ext gv e2)) rfl <| fun w4 e5 => L_op (.plain rfl) rfl (ltb rfl) (X_pick (b := true) (v := (.bool (pathOK a1))) (congrArg Value.bool b2_) rfl) <| L_nil <| thn_n ⟨(Kp.upd (Kp.upd (Kp.upd (Kp.refl _ _) rfl) rfl) rfl), (and_t b2_), e5⟩
    · exact L_skip rfl rfl (ltb rfl) (congrArg Value.bool b2_) rfl rfl (ltb rfl) <| L_skip rfl rfl (ltb rfl) (congrArg Value.bool b2_) rfl rfl (ltb rfl) <| L_op (.plain rfl) rfl (ltb rfl) (X_pick (b := false) (v := (.bool false)) (congrArg Value.bool b2_) rfl) <| L_nil <| thn_n ⟨(Kp.upd (Kp.upd (Kp.upd (Kp.refl _ _) rfl) rfl) rfl), (and_f b2_), (Ext.refl w1)⟩
  intro s8 w4 K5 h6 e7
  refine L_op (.plain rfl) rfl (ltb rfl) (X_move (v := (.bool ((pathOK a0) && (pathOK a1)))) h6) ?_
  obtain ⟨z10, x11, H⟩ := bind_some H
  refine L_grpE 5 [(12, 17)] 16 (fun q => q = z10) ?_ ?_
  · rcases bif_two x11 with ⟨b8_, H⟩ | ⟨b8_, H⟩
    · refine L_op (.guard 6 true 11 rfl rfl (ltb rfl) (congrArg Value.bool b8_)) rfl (ltb rfl) (X_move (v := (S a0)) (K5 0 rfl)) <| L_op (.guard 6 true 11 rfl rfl (ltb rfl) (congrArg Value.bool b8_)) rfl (ltb rfl) (X_move (v := (S a1)) (K5 1 rfl)) ?_
      obtain ⟨c10, H⟩ := bif_some H
      obtain ⟨c11, H⟩ := bif_some H
      refine L_callP (.guard 6 true 11 rfl rfl (ltb rfl) (congrArg Value.bool b8_)) rfl (ltb rfl) rfl Tryz.call128 (impl_compare.calls (w := w4) (a0 := a0) (a1 := a1) (GV.ext gv (Ext.trans e2 e7)) (of_decide_eq_true c10) (of_decide_eq_true c11)) rfl <| fun w12 e13 => L_op (.guard 6 true 11 rfl rfl (ltb rfl) (congrArg Value.bool b8_)) rfl (ltb rfl) (X_lss rfl rfl) <| L_op (.plain rfl) rfl (ltb rfl) (X_pick (b := true) (v := (.bool (decide ((cmpL (cut 47 a0) (cut 47 a1)) < 0)))) (congrArg Value.bool b8_) rfl) ?_
      obtain rfl := Option.some.inj H
      exact L_nil <| thn_n ⟨(Kp.upd (Kp.upd (Kp.upd (Kp.upd (Kp.upd (Kp.refl _ _) rfl) rfl) rfl) rfl) rfl), ⟨_, rfl, rfl⟩, e13⟩
    · refine L_skip rfl rfl (ltb rfl) (congrArg Value.bool b8_) rfl rfl (ltb rfl) <| L_skip rfl rfl (ltb rfl) (congrArg Value.bool b8_) rfl rfl (ltb rfl) <| L_skip rfl rfl (ltb rfl) (congrArg Value.bool b8_) rfl rfl (ltb rfl) <| L_skip rfl rfl (ltb rfl) (congrArg Value.bool b8_) rfl rfl (ltb rfl) <| L_op (.plain rfl) rfl (ltb rfl) (X_pick (b := false) (v := (.bool false)) (congrArg Value.bool b8_) rfl) ?_
      obtain rfl := Option.some.inj H
      exact L_nil <| thn_n ⟨(Kp.upd (Kp.upd (Kp.upd (Kp.upd (Kp.upd (Kp.refl _ _) rfl) rfl) rfl) rfl) rfl), ⟨_, rfl, rfl⟩, (Ext.refl w4)⟩
  intro s16 w12 z17 K13 hq h14 e15
  rw [hq] at h14; clear hq
  refine L_op (.plain rfl) rfl (ltb rfl) (X_assign (v := (.bool z10)) h14) <| L_nil <| thn_n <| W_ret <| fin_r ?_
  obtain rfl := Option.some.inj H
  exact fin1 rfl (Ext.trans (Ext.trans e2 e7) e15)
theorem impl_PathLess.calls {w : World} {a0 : List UInt8} {a1 : List UInt8} (gv : GV 0 w) :
    Calls Tryz.prog 118 #[S a0, S a1] w (Rt (RP w (.bool (pathLess a0 a1)))) := impl_PathLess.walk gv (impl_PathLess.eq a0 a1)
/-! laws.markText -/
theorem laws_markText.walk {k : Nat} {w : World} {a0 : Int} {r : List UInt8} (H : laws_markText.sh k a0 = some r) :
    Calls Tryz.prog 81 #[.int .i64 a0] w (Rt (RP w (S r))) := by
  unfold laws_markText.sh at H
  refine calls_of_W Tryz.func81 rfl (Nat.le_of_ble_eq_true rfl) Tryz.ntmps81 rfl ?_
  refine W_seq <| W_reg <| L_op (.plain rfl) rfl (ltb rfl) (X_assign (v := (S ([] : List UInt8))) rfl) <| L_nil <| thn_n <| W_seq <| W_seq <| W_reg <| L_op (.plain rfl) rfl (ltb rfl) (X_move (v := (.int .i64 a0)) rfl) <| L_op (.plain rfl) rfl (ltb rfl) (X_leq rfl rfl) <| L_nil <| thn_n ?_
  rcases bif_two H with ⟨q1, H⟩ | ⟨q1, H⟩
  · refine W_true (congrArg Value.bool q1) <| W_seq <| W_reg <| L_op (.plain rfl) rfl (ltb rfl) (X_assign (v := (S ([109, 48] : List UInt8))) rfl) <| L_nil <| thn_n <| W_ret <| thn_r <| fin_r ?_
    obtain rfl := Option.some.inj H
    exact fin1 rfl (Ext.refl w)
  · refine W_false (congrArg Value.bool q1) <| W_skip <| thn_n <| W_seq <| W_reg <| L_op (.plain rfl) rfl (ltb rfl) (X_assign (v := (S ([] : List UInt8))) rfl) <| L_nil <| thn_n <| W_seq ?_
    obtain ⟨z4, L5, C6⟩ := bind_some H
    clear H
    refine  W_cutQ (fun s0 sQ wQ => ∃ (x3_7 : List UInt8), Kp [(0, 1), (3, 4), (6, 18)] s0 sQ ∧ sQ 3 = S x3_7 ∧ Ext w wQ ∧ z4 = .inr x3_7) ?_ ?_
    · refine W_block <| W_loopI (fun s0 kk sQ wQ => ∃ (x0_2 : Int) (x3_3 : List UInt8), Kp [(0, 1), (3, 4), (6, 18)] s0 sQ ∧ sQ 0 = .int .i64 x0_2 ∧ sQ 3 = S x3_3 ∧ Ext w wQ ∧ loopF (laws_markText.b1) kk (x0_2, x3_3) = some z4) k ⟨a0, ([] : List UInt8), (Kp.refl _ _), rfl, rfl, (Ext.refl w), L5⟩ ?_
      rintro k12 s13 w14 ⟨x0_2, x3_3, K15, h18, h19, e16, L17⟩
      cases k12 with
      | zero => exact absurd L17 (by simp [loopF])
      | succ k12 =>
        obtain ⟨t20, H, S21⟩ := loopF_succ L17
        clear L17
        unfold laws_markText.b1 at H
        refine W_seq <| W_seq <| W_reg <| L_op (.plain rfl) rfl (ltb rfl) (X_move (v := (.int .i64 x0_2)) h18) <| L_op (.plain rfl) rfl (ltb rfl) (X_gtr rfl rfl) <| L_nil <| thn_n ?_
        rcases bif_two H with ⟨q22, H⟩ | ⟨q22, H⟩
        · refine W_true (congrArg Value.bool q22) <| W_skip <| thn_n <| W_block <| W_seq <| W_reg <| L_op (.plain rfl) rfl (ltb rfl) (X_move (v := (.int .i64 x0_2)) h18) <| L_op (.plain rfl) rfl (ltb rfl) (X_rem rfl rfl (by decide)) <| L_op (.plain rfl) rfl (ltb rfl) (X_add rfl rfl) <| L_op (.plain rfl) rfl (ltb rfl) (X_convInt Tryz.underlying3 Tryz.underlying5 rfl) <| L_lit (.plain rfl) rfl (ltb rfl) rfl Tryz.underlying128 Tryz.sizeOf5 Tryz.zeroValue5 rfl rfl rfl (vs := [(.int .u8 (IntKind.wrap .u8 (IntKind.wrap .i64 (48 + (x0_2.tmod 10)))))]) rfl (lit_all rfl) <| fun b23 w24 z25 z26 e27 k28 => L_op (.plain rfl) rfl (ltb rfl) (X_convBS Tryz.underlying128 Tryz.underlying5 Tryz.underlying9 rfl (Ow.rd (Ow.new (xs := [IntKind.wrap .u8 (IntKind.wrap .i64 (48 + (x0_2.tmod 10)))]) (sz := 1) (enc := (Go.UL.encI .u8)) (base := w14.heap.size) k28 (Nat.le_of_eq z25) rfl (fun _ _ => by rfl) (Nat.le_of_ble_eq_true rfl)))) <| L_op (.plain rfl) rfl (ltb rfl) (X_move (v := (S x3_3)) h19) ?_
          obtain ⟨c29, H⟩ := bif_some H
          refine L_op (.plain rfl) rfl (ltb rfl) (X_cat rfl rfl (of_decide_eq_true c29)) <| L_op (.plain rfl) rfl (ltb rfl) (X_assign rfl) <| L_nil <| thn_n <| W_reg <| L_op (.plain rfl) rfl (ltb rfl) (X_move (v := (.int .i64 x0_2)) h18) <| L_op (.plain rfl) rfl (ltb rfl) (X_quo rfl rfl (by decide)) <| L_op (.plain rfl) rfl (ltb rfl) (X_assign (v := (.int .i64 (IntKind.wrap .i64 (x0_2.tdiv 10)))) rfl) <| L_nil <| blk_n <| thn_n ?_
          obtain rfl := Option.some.inj H
          exact ⟨_, Nat.lt_succ_self _, IntKind.wrap .i64 (x0_2.tdiv 10), (bytesOf ([IntKind.wrap .u8 (IntKind.wrap .i64 (48 + (x0_2.tmod 10)))] : List Int)) ++ x3_3, (Kp.upd (Kp.upd (Kp.upd (Kp.upd (Kp.upd (Kp.upd (Kp.upd (Kp.upd (Kp.upd (Kp.upd (Kp.upd (Kp.upd (Kp.upd (Kp.upd K15 rfl) rfl) rfl) rfl) rfl) rfl) rfl) rfl) rfl) rfl) rfl) rfl) rfl) rfl), rfl, rfl, (Ext.trans e16 e27), S21⟩
        · refine W_false (congrArg Value.bool q22) <| W_exit <| thn_x <| thn_x <| blk_x <| thn_n ?_
          obtain rfl := Option.some.inj H
          obtain rfl := Option.some.inj S21
          exact ⟨x3_3, (Kp.upd (Kp.upd K15 rfl) rfl), h19, e16, rfl⟩
    · rintro s9 w8 ⟨x3_7, K10, h30, e11, y31⟩
      rw [y31] at C6
      have H := C6
      replace H : _ = some _ := H
      refine thn_n <| W_seq <| W_reg <| L_op (.plain rfl) rfl (ltb rfl) (X_move (v := (S x3_7)) h30) ?_
      obtain ⟨c32, H⟩ := bif_some H
      refine L_op (.plain rfl) rfl (ltb rfl) (X_cat rfl rfl (of_decide_eq_true c32)) <| L_op (.plain rfl) rfl (ltb rfl) (X_assign (v := (S (([109] : List UInt8) ++ x3_7))) rfl) <| L_nil <| thn_n <| W_ret <| fin_r ?_
      obtain rfl := Option.some.inj H
      exact fin1 rfl e11
theorem laws_markText.calls {w : World} {a0 : Int} (h0 : (a0 : Int) ≤ 4611686018427387904) :
    Calls Tryz.prog 81 #[.int .i64 a0] w (Rt (RP w (S (markT a0)))) := by
  obtain ⟨k, h⟩ := laws_markText.eq a0 h0
  exact laws_markText.walk h
/-! laws.eqRecord -/
theorem laws_eqRecord.walk {w : World} {a0 : Rec} {a1 : Rec} {r : Bool} (H : laws_eqRecord.sh a0 a1 = some r) :
    Calls Tryz.prog 75 #[.agg (encRec a0).toArray, .agg (encRec a1).toArray] w (Rt (RP w (.bool r))) := by
  unfold laws_eqRecord.sh at H
  refine calls_of_W Tryz.func75 rfl (Nat.le_of_ble_eq_true rfl) Tryz.ntmps75 rfl ?_
  refine W_seq <| W_reg <| L_box (.plain rfl) rfl (ltb rfl) rfl rfl <| fun b1 w2 z3 z4 e5 k6 => L_box (.plain rfl) rfl (ltb rfl) rfl rfl <| fun b7 w8 z9 z10 e11 k12 => L_op (.plain rfl) rfl (ltb rfl) (X_assign (v := (.bool false)) rfl) <| L_nil <| thn_n <| W_seq <| W_seq <| W_reg <| L_op (.plain rfl) rfl (ltb rfl) (X_fieldAddr Tryz.underlying78 rfl Tryz.sizeOf3 rfl rfl) <| L_op (.plain rfl) rfl (ltb rfl) (X_loadB Tryz.isAgg3 (Blk.ext k6 e11) rfl rfl) <| L_op (.plain rfl) rfl (ltb rfl) (X_fieldAddr Tryz.underlying78 rfl Tryz.sizeOf3 rfl rfl) <| L_op (.plain rfl) rfl (ltb rfl) (X_loadB Tryz.isAgg3 k12 rfl rfl) <| L_op (.plain rfl) rfl (ltb rfl) (X_neq rfl rfl) <| L_nil <| thn_n ?_
  rcases bif_two H with ⟨q13, H⟩ | ⟨q13, H⟩
  · refine W_true (congrArg Value.bool q13) <| W_seq <| W_reg <| L_op (.plain rfl) rfl (ltb rfl) (X_assign (v := (.bool false)) rfl) <| L_nil <| thn_n <| W_ret <| thn_r <| fin_r ?_
    obtain rfl := Option.some.inj H
    exact fin1 rfl (Ext.trans e5 e11)
  · refine W_false (congrArg Value.bool q13) <| W_skip <| thn_n <| W_seq <| W_seq <| W_reg <| L_op (.plain rfl) rfl (ltb rfl) (X_fieldAddr Tryz.underlying78 rfl Tryz.sizeOf9 rfl rfl) <| L_op (.plain rfl) rfl (ltb rfl) (X_loadB Tryz.isAgg9 (Blk.ext k6 e11) rfl rfl) <| L_op (.plain rfl) rfl (ltb rfl) (X_fieldAddr Tryz.underlying78 rfl Tryz.sizeOf9 rfl rfl) <| L_op (.plain rfl) rfl (ltb rfl) (X_loadB Tryz.isAgg9 k12 rfl rfl) <| L_op (.plain rfl) rfl (ltb rfl) (X_sne rfl rfl) <| L_nil <| thn_n ?_
    rcases bif_two H with ⟨q14, H⟩ | ⟨q14, H⟩
    · refine W_true (congrArg Value.bool q14) <| W_seq <| W_reg <| L_op (.plain rfl) rfl (ltb rfl) (X_assign (v := (.bool false)) rfl) <| L_nil <| thn_n <| W_ret <| thn_r <| fin_r ?_
      obtain rfl := Option.some.inj H
      exact fin1 rfl (Ext.trans e5 e11)
    · refine W_false (congrArg Value.bool q14) <| W_skip <| thn_n <| W_seq <| W_seq <| W_reg <| L_op (.plain rfl) rfl (ltb rfl) (X_fieldAddr Tryz.underlying78 rfl Tryz.sizeOf9 rfl rfl) <| L_op (.plain rfl) rfl (ltb rfl) (X_loadB Tryz.isAgg9 (Blk.ext k6 e11) rfl rfl) <| L_op (.plain rfl) rfl (ltb rfl) (X_fieldAddr Tryz.underlying78 rfl Tryz.sizeOf9 rfl rfl) <| L_op (.plain rfl) rfl (ltb rfl) (X_loadB Tryz.isAgg9 k12 rfl rfl) <| L_op (.plain rfl) rfl (ltb rfl) (X_sne rfl rfl) <| L_nil <| thn_n ?_
      rcases bif_two H with ⟨q15, H⟩ | ⟨q15, H⟩
      · refine W_true (congrArg Value.bool q15) <| W_seq <| W_reg <| L_op (.plain rfl) rfl (ltb rfl) (X_assign (v := (.bool false)) rfl) <| L_nil <| thn_n <| W_ret <| thn_r <| fin_r ?_
        obtain rfl := Option.some.inj H
        exact fin1 rfl (Ext.trans e5 e11)
      · refine W_false (congrArg Value.bool q15) <| W_skip <| thn_n <| W_seq <| W_seq <| W_reg <| L_op (.plain rfl) rfl (ltb rfl) (X_fieldAddr Tryz.underlying78 rfl Tryz.sizeOf3 rfl rfl) <| L_op (.plain rfl) rfl (ltb rfl) (X_loadB Tryz.isAgg3 (Blk.ext k6 e11) rfl rfl) <| L_op (.plain rfl) rfl (ltb rfl) (X_fieldAddr Tryz.underlying78 rfl Tryz.sizeOf3 rfl rfl) <| L_op (.plain rfl) rfl (ltb rfl) (X_loadB Tryz.isAgg3 k12 rfl rfl) <| L_op (.plain rfl) rfl (ltb rfl) (X_neq rfl rfl) <| L_nil <| thn_n ?_
        rcases bif_two H with ⟨q16, H⟩ | ⟨q16, H⟩
        · refine W_true (congrArg Value.bool q16) <| W_seq <| W_reg <| L_op (.plain rfl) rfl (ltb rfl) (X_assign (v := (.bool false)) rfl) <| L_nil <| thn_n <| W_ret <| thn_r <| fin_r ?_
          obtain rfl := Option.some.inj H
          exact fin1 rfl (Ext.trans e5 e11)
        · refine W_false (congrArg Value.bool q16) <| W_skip <| thn_n <| W_seq <| W_seq <| W_reg <| L_op (.plain rfl) rfl (ltb rfl) (X_fieldAddr Tryz.underlying78 rfl Tryz.sizeOf4 rfl rfl) <| L_op (.plain rfl) rfl (ltb rfl) (X_loadB Tryz.isAgg4 (Blk.ext k6 e11) rfl rfl) <| L_op (.plain rfl) rfl (ltb rfl) (X_fieldAddr Tryz.underlying78 rfl Tryz.sizeOf4 rfl rfl) <| L_op (.plain rfl) rfl (ltb rfl) (X_loadB Tryz.isAgg4 k12 rfl rfl) <| L_op (.plain rfl) rfl (ltb rfl) (X_bne Tryz.underlying4 rfl rfl) <| L_nil <| thn_n ?_
          rcases bif_two H with ⟨q17, H⟩ | ⟨q17, H⟩
          · refine W_true (congrArg Value.bool q17) <| W_seq <| W_reg <| L_op (.plain rfl) rfl (ltb rfl) (X_assign (v := (.bool false)) rfl) <| L_nil <| thn_n <| W_ret <| thn_r <| fin_r ?_
            obtain rfl := Option.some.inj H
            exact fin1 rfl (Ext.trans e5 e11)
          · refine W_false (congrArg Value.bool q17) <| W_skip <| thn_n <| W_seq <| W_reg <| L_op (.plain rfl) rfl (ltb rfl) (X_assign (v := (.bool true)) rfl) <| L_nil <| thn_n <| W_ret <| fin_r ?_
            obtain rfl := Option.some.inj H
            exact fin1 rfl (Ext.trans e5 e11)
theorem laws_eqRecord.calls {w : World} {a0 : Rec} {a1 : Rec} :
    Calls Tryz.prog 75 #[.agg (encRec a0).toArray, .agg (encRec a1).toArray] w (Rt (RP w (.bool (decide (a0 = a1))))) := laws_eqRecord.walk (laws_eqRecord.eq a0 a1)
/-! spec.l01Parent -/
theorem spec_l01Parent.walk {k : Nat} {w : World} {a0 : List UInt8} {r : List UInt8} (H : spec_l01Parent.sh k a0 = some r) :
    Calls Tryz.prog 113 #[S a0] w (Rt (RP w (S r))) := by
  unfold spec_l01Parent.sh at H
  refine calls_of_W Tryz.func113 rfl (Nat.le_of_ble_eq_true rfl) Tryz.ntmps113 rfl ?_
  refine W_seq <| W_reg <| L_op (.plain rfl) rfl (ltb rfl) (X_assign (v := (S ([] : List UInt8))) rfl) <| L_nil <| thn_n <| W_seq <| W_seq <| W_reg <| L_op (.plain rfl) rfl (ltb rfl) (X_move (v := (S a0)) rfl) <| L_op (.plain rfl) rfl (ltb rfl) (X_lenS Tryz.underlying9 rfl) <| L_op (.plain rfl) rfl (ltb rfl) (X_sub rfl rfl) <| L_op (.plain rfl) rfl (ltb rfl) (X_assign (v := (.int .i64 (IntKind.wrap .i64 ((a0.length : Int) - 1)))) rfl) <| L_nil <| thn_n ?_
  obtain ⟨z2, L3, C4⟩ := bind_some H
  clear H
  refine  W_cutQ (fun s0 sQ wQ => Kp [(2, 4), (7, 18)] s0 sQ ∧ Ext w wQ ∧ z2 = .inr ()) ?_ ?_
  · refine W_block <| W_loopI (fun s0 kk sQ wQ => ∃ (x3_1 : Int), Kp [(2, 4), (7, 18)] s0 sQ ∧ sQ 3 = .int .i64 x3_1 ∧ Ext w wQ ∧ loopF (spec_l01Parent.b1 a0) kk x3_1 = some z2) k ⟨IntKind.wrap .i64 ((a0.length : Int) - 1), (Kp.refl _ _), rfl, (Ext.refl w), L3⟩ ?_
    rintro k9 s10 w11 ⟨x3_1, K12, h15, e13, L14⟩
    cases k9 with
    | zero => exact absurd L14 (by simp [loopF])
    | succ k9 =>
      obtain ⟨t16, H, S17⟩ := loopF_succ L14
      clear L14
      unfold spec_l01Parent.b1 at H
      refine W_seq <| W_seq <| W_reg <| L_op (.plain rfl) rfl (ltb rfl) (X_move (v := (.int .i64 x3_1)) h15) <| L_op (.plain rfl) rfl (ltb rfl) (X_geq rfl rfl) <| L_nil <| thn_n ?_
      rcases bif_two H with ⟨q18, H⟩ | ⟨q18, H⟩
      · refine W_true (congrArg Value.bool q18) <| W_skip <| thn_n <| W_seq <| W_block <| W_seq <| W_reg <| L_op (.plain rfl) rfl (ltb rfl) (X_move (v := (S a0)) (K12 0 rfl)) <| L_op (.plain rfl) rfl (ltb rfl) (X_move (v := (.int .i64 x3_1)) h15) ?_
        obtain ⟨c19, H⟩ := bif_some H
        refine L_op (.plain rfl) rfl (ltb rfl) (X_indexS Tryz.underlying9 rfl rfl (inR_lo c19) (inR_hi c19)) <| L_op (.plain rfl) rfl (ltb rfl) (X_eql rfl rfl) <| L_nil <| thn_n ?_
        rcases bif_two H with ⟨q20, H⟩ | ⟨q20, H⟩
        · refine W_true (congrArg Value.bool q20) <| W_seq <| W_reg <| L_op (.plain rfl) rfl (ltb rfl) (X_move (v := (S a0)) (K12 0 rfl)) <| L_op (.plain rfl) rfl (ltb rfl) (X_move (v := (.int .i64 x3_1)) h15) ?_
          obtain ⟨c21, H⟩ := bif_some H
          refine L_op (.plain rfl) rfl (ltb rfl) (X_sliceS Tryz.underlying9 rfl (l := 0) (h := x3_1) rfl ⟨_, rfl⟩ (inS_1 c21) (inS_2 c21) (inS_3 c21)) <| L_op (.plain rfl) rfl (ltb rfl) (X_assign (v := (S (sub a0 0 x3_1))) rfl) <| L_nil <| thn_n <| W_ret <| blk_r <| thn_r <| thn_r <| blk_r <| thn_r <| thn_r <| fin_r ?_
          obtain rfl := Option.some.inj H
          obtain rfl := Option.some.inj S17
          have H := C4
          obtain rfl := Option.some.inj H
          exact fin1 rfl e13
        · refine W_false (congrArg Value.bool q20) <| W_skip <| blk_n <| thn_n <| W_reg <| L_op (.plain rfl) rfl (ltb rfl) (X_move (v := (.int .i64 x3_1)) h15) <| L_op (.plain rfl) rfl (ltb rfl) (X_sub rfl rfl) <| L_op (.plain rfl) rfl (ltb rfl) (X_assign (v := (.int .i64 (IntKind.wrap .i64 (x3_1 - 1)))) rfl) <| L_nil <| thn_n ?_
          obtain rfl := Option.some.inj H
          exact ⟨_, Nat.lt_succ_self _, IntKind.wrap .i64 (x3_1 - 1), (Kp.upd (Kp.upd (Kp.upd (Kp.upd (Kp.upd (Kp.upd (Kp.upd (Kp.upd (Kp.upd K12 rfl) rfl) rfl) rfl) rfl) rfl) rfl) rfl) rfl), rfl, e13, S17⟩
      · refine W_false (congrArg Value.bool q18) <| W_exit <| thn_x <| thn_x <| blk_x <| thn_n ?_
        obtain rfl := Option.some.inj H
        obtain rfl := Option.some.inj S17
        exact ⟨(Kp.upd (Kp.upd K12 rfl) rfl), e13, rfl⟩
  · rintro s6 w5 ⟨K7, e8, y22⟩
    rw [y22] at C4
    have H := C4
    replace H : _ = some _ := H
    refine thn_n <| W_seq <| W_reg <| L_op (.plain rfl) rfl (ltb rfl) (X_assign (v := (S ([] : List UInt8))) rfl) <| L_nil <| thn_n <| W_ret <| fin_r ?_
    obtain rfl := Option.some.inj H
    exact fin1 rfl e8
theorem spec_l01Parent.calls {w : World} {a0 : List UInt8} (h0 : a0.length ≤ 4611686018427387904) :
    Calls Tryz.prog 113 #[S a0] w (Rt (RP w (S (parentP a0)))) := by
  obtain ⟨k, h⟩ := spec_l01Parent.eq a0 h0
  exact spec_l01Parent.walk h
/-! impl.parent -/
theorem impl_parent.walk {w : World} {a0 : List UInt8} {r : List UInt8} (H : impl_parent.sh a0 = some r) :
    Calls Tryz.prog 120 #[S a0] w (Rt (RP w (S r))) := by
  unfold impl_parent.sh at H
  refine calls_of_W Tryz.func120 rfl (Nat.le_of_ble_eq_true rfl) Tryz.ntmps120 rfl ?_
  refine W_seq <| W_reg <| L_op (.plain rfl) rfl (ltb rfl) (X_assign (v := (S ([] : List UInt8))) rfl) <| L_nil <| thn_n <| W_seq <| W_reg <| L_op (.plain rfl) rfl (ltb rfl) (X_move (v := (S a0)) rfl) <| L_op (.plain rfl) rfl (ltb rfl) (X_move (v := (S a0)) rfl) ?_
  obtain ⟨c1, H⟩ := bif_some H
  obtain ⟨c2, H⟩ := bif_some H
  refine L_callP (.plain rfl) rfl (ltb rfl) rfl Tryz.call168 (strings_LastIndex.calls (w := w) (a0 := a0) (a1 := ([47] : List UInt8)) (of_decide_eq_true c1) (of_decide_eq_true c2)) rfl <| fun w3 e4 => L_op (.plain rfl) rfl (ltb rfl) (X_max rfl rfl) ?_
  obtain ⟨c5, H⟩ := bif_some H
  refine L_op (.plain rfl) rfl (ltb rfl) (X_sliceS Tryz.underlying9 rfl (l := 0) (h := (if ((lastSlash a0) < 0 : Prop) then 0 else (lastSlash a0))) rfl ⟨_, rfl⟩ (inS_1 c5) (inS_2 c5) (inS_3 c5)) <| L_op (.plain rfl) rfl (ltb rfl) (X_assign rfl) <| L_nil <| thn_n <| W_ret <| fin_r ?_
  obtain rfl := Option.some.inj H
  exact fin1 rfl e4
theorem impl_parent.calls {w : World} {a0 : List UInt8} (h0 : a0.length ≤ 1048576) :
    Calls Tryz.prog 120 #[S a0] w (Rt (RP w (S (parentP a0)))) := impl_parent.walk (impl_parent.eq a0 h0)
/-! laws.szRecordS -/
theorem laws_szRecordS.walk {k : Nat} {w : World} {a0 : List Rec} {a1 : Int} {v_a0 : Value} (f_a0 : Rd 5 encRec w v_a0 a0) {r : Int} (H : laws_szRecordS.sh k a0 a1 = some r) :
    Calls Tryz.prog 15 #[v_a0, .int .i64 a1] w (Rt (RP w (.int .i64 r))) := by
  unfold laws_szRecordS.sh at H
  refine calls_of_W Tryz.func15 rfl (Nat.le_of_ble_eq_true rfl) Tryz.ntmps15 rfl ?_
  refine W_seq <| W_reg <| L_op (.plain rfl) rfl (ltb rfl) (X_assign (v := (.int .i64 0)) rfl) <| L_nil <| thn_n <| W_seq <| W_reg <| L_op (.plain rfl) rfl (ltb rfl) (X_move (v := (.int .i64 a1)) rfl) <| L_op (.plain rfl) rfl (ltb rfl) (X_move (v := v_a0) rfl) <| L_op (.plain rfl) rfl (ltb rfl) (X_lenR Tryz.underlying22 rfl f_a0) <| L_op (.plain rfl) rfl (ltb rfl) (X_sub rfl rfl) <| L_op (.plain rfl) rfl (ltb rfl) (X_assign (v := (.int .i64 (IntKind.wrap .i64 (a1 - (a0.length : Int))))) rfl) <| L_nil <| thn_n <| W_seq <| W_seq <| W_reg <| L_op (.plain rfl) rfl (ltb rfl) (X_move (v := (.int .i64 (IntKind.wrap .i64 (a1 - (a0.length : Int))))) rfl) <| L_op (.plain rfl) rfl (ltb rfl) (X_lss rfl rfl) <| L_nil <| thn_n ?_
  rcases bif_two H with ⟨q1, H⟩ | ⟨q1, H⟩
  · refine W_true (congrArg Value.bool q1) <| W_seq <| W_reg <| L_op (.plain rfl) rfl (ltb rfl) (X_assign (v := (.int .i64 (-1))) rfl) <| L_nil <| thn_n <| W_ret <| thn_r <| fin_r ?_
    obtain rfl := Option.some.inj H
    exact fin1 rfl (Ext.refl w)
  · refine W_false (congrArg Value.bool q1) <| W_skip <| thn_n <| W_seq <| W_seq <| W_reg <| L_op (.plain rfl) rfl (ltb rfl) (X_assign (v := (.int .i64 0)) rfl) <| L_nil <| thn_n ?_
    obtain ⟨z4, L5, C6⟩ := bind_some H
    clear H
    refine  W_cutQ (fun s0 sQ wQ => ∃ (x1_7 : Int), Kp [(1, 2), (4, 6), (12, 26)] s0 sQ ∧ sQ 1 = .int .i64 x1_7 ∧ Ext w wQ ∧ z4 = .inr x1_7) ?_ ?_
    · refine W_block <| W_loopI (fun s0 kk sQ wQ => ∃ (x1_2 : Int) (x5_3 : Int), Kp [(1, 2), (4, 6), (12, 26)] s0 sQ ∧ sQ 1 = .int .i64 x1_2 ∧ sQ 5 = .int .i64 x5_3 ∧ Ext w wQ ∧ loopF (laws_szRecordS.b1 a0) kk (x1_2, x5_3) = some z4) k ⟨IntKind.wrap .i64 (a1 - (a0.length : Int)), 0, (Kp.refl _ _), rfl, rfl, (Ext.refl w), L5⟩ ?_
      rintro k12 s13 w14 ⟨x1_2, x5_3, K15, h18, h19, e16, L17⟩
      cases k12 with
      | zero => exact absurd L17 (by simp [loopF])
      | succ k12 =>
        obtain ⟨t20, H, S21⟩ := loopF_succ L17
        clear L17
        unfold laws_szRecordS.b1 at H
        refine W_seq <| W_seq <| W_reg <| L_op (.plain rfl) rfl (ltb rfl) (X_move (v := (.int .i64 x5_3)) h19) <| L_op (.plain rfl) rfl (ltb rfl) (X_move (v := v_a0) (K15 0 rfl)) <| L_op (.plain rfl) rfl (ltb rfl) (X_lenR Tryz.underlying22 rfl (Rd.ext f_a0 e16)) <| L_op (.plain rfl) rfl (ltb rfl) (X_lss rfl rfl) <| L_nil <| thn_n ?_
        rcases bif_two H with ⟨q22, H⟩ | ⟨q22, H⟩
        · refine W_true (congrArg Value.bool q22) <| W_skip <| thn_n <| W_seq <| W_block <| W_seq <| W_reg <| L_op (.plain rfl) rfl (ltb rfl) (X_move (v := v_a0) (K15 0 rfl)) <| L_op (.plain rfl) rfl (ltb rfl) (X_move (v := (.int .i64 x5_3)) h19) ?_
          obtain ⟨c23, H⟩ := bif_some H
          refine L_idx (.plain rfl) rfl (ltb rfl) rfl Tryz.underlying22 Tryz.sizeOf71 rfl (Rd.ext f_a0 e16) rfl c23 <| fun p24 h25 => L_op (.plain rfl) rfl (ltb rfl) (X_loadS Tryz.isAgg71 Tryz.sizeOf71 rfl rfl h25) <| L_op (.plain rfl) rfl (ltb rfl) (X_move (v := (.int .i64 x1_2)) h18) ?_
          obtain ⟨c26, H⟩ := bif_some H
          obtain ⟨c27, H⟩ := bif_some H
          obtain ⟨c28, H⟩ := bif_some H
          obtain ⟨c29, H⟩ := bif_some H
          refine L_callP (.plain rfl) rfl (ltb rfl) rfl Tryz.call60 (laws_szRecord.calls (w := w14) (a0 := gt a0 x5_3) (a1 := x1_2) (of_decide_eq_true c26) (of_decide_eq_true c27) (of_decide_eq_true c28) (of_decide_eq_true c29)) rfl <| fun w30 e31 => L_op (.plain rfl) rfl (ltb rfl) (X_assign (v := (.int .i64 (szRec (gt a0 x5_3) x1_2))) rfl) <| L_nil <| thn_n <| W_seq <| W_reg <| L_op (.plain rfl) rfl (ltb rfl) (X_move (v := (.int .i64 (szRec (gt a0 x5_3) x1_2))) rfl) <| L_op (.plain rfl) rfl (ltb rfl) (X_lss rfl rfl) <| L_nil <| thn_n ?_
          rcases bif_two H with ⟨q32, H⟩ | ⟨q32, H⟩
          · refine W_true (congrArg Value.bool q32) <| W_seq <| W_reg <| L_op (.plain rfl) rfl (ltb rfl) (X_assign (v := (.int .i64 (-1))) rfl) <| L_nil <| thn_n <| W_ret <| blk_r <| thn_r <| thn_r <| blk_r <| thn_r <| thn_r <| fin_r ?_
            obtain rfl := Option.some.inj H
            obtain rfl := Option.some.inj S21
            have H := C6
            obtain rfl := Option.some.inj H
            exact fin1 rfl (Ext.trans e16 e31)
          · refine W_false (congrArg Value.bool q32) <| W_skip <| blk_n <| thn_n <| W_reg <| L_op (.plain rfl) rfl (ltb rfl) (X_move (v := (.int .i64 x5_3)) h19) <| L_op (.plain rfl) rfl (ltb rfl) (X_add rfl rfl) <| L_op (.plain rfl) rfl (ltb rfl) (X_assign (v := (.int .i64 (IntKind.wrap .i64 (x5_3 + 1)))) rfl) <| L_nil <| thn_n ?_
            obtain rfl := Option.some.inj H
            exact ⟨_, Nat.lt_succ_self _, (szRec (gt a0 x5_3) x1_2), IntKind.wrap .i64 (x5_3 + 1), (Kp.upd (Kp.upd (Kp.upd (Kp.upd (Kp.upd (Kp.upd (Kp.upd (Kp.upd (Kp.upd (Kp.upd (Kp.upd (Kp.upd (Kp.upd (Kp.upd (Kp.upd (Kp.upd K15 rfl) rfl) rfl) rfl) rfl) rfl) rfl) rfl) rfl) rfl) rfl) rfl) rfl) rfl) rfl) rfl), rfl, rfl, (Ext.trans e16 e31), S21⟩
        · refine W_false (congrArg Value.bool q22) <| W_exit <| thn_x <| thn_x <| blk_x <| thn_n ?_
          obtain rfl := Option.some.inj H
          obtain rfl := Option.some.inj S21
          exact ⟨x1_2, (Kp.upd (Kp.upd (Kp.upd (Kp.upd K15 rfl) rfl) rfl) rfl), h18, e16, rfl⟩
    · rintro s9 w8 ⟨x1_7, K10, h33, e11, y34⟩
      rw [y34] at C6
      have H := C6
      replace H : _ = some _ := H
      refine thn_n <| W_seq <| W_reg <| L_op (.plain rfl) rfl (ltb rfl) (X_move (v := (.int .i64 x1_7)) h33) <| L_op (.plain rfl) rfl (ltb rfl) (X_assign (v := (.int .i64 x1_7)) rfl) <| L_nil <| thn_n <| W_ret <| fin_r ?_
      obtain rfl := Option.some.inj H
      exact fin1 rfl e11
theorem laws_szRecordS.calls {w : World} {a0 : List Rec} {a1 : Int} {v_a0 : Value} (f_a0 : Rd 5 encRec w v_a0 a0) (h0 : (0 : Int) ≤ a1) (h1 : (a1 : Int) ≤ 1048576) (h2 : a0.length ≤ 9223372036854775807) (h3 : ∀ x ∈ a0, okRec x) :
    Calls Tryz.prog 15 #[v_a0, .int .i64 a1] w (Rt (RP w (.int .i64 (szRecS a0 a1)))) := by
  obtain ⟨k, h⟩ := laws_szRecordS.eq a0 a1 h0 h1 h2 h3
  exact laws_szRecordS.walk f_a0 h
/-! laws.toRecordS -/
theorem laws_toRecordS.walk {k : Nat} {w : World} {a0 : List Rec} {v_a0 : Value} (f_a0 : Rd 5 encRec w v_a0 a0) {r : List Rec} (H : laws_toRecordS.sh k a0 = some r) :
    Calls Tryz.prog 18 #[v_a0] w (Rt (RO 78 5 encRec w r)) := by
  unfold laws_toRecordS.sh at H
  refine calls_of_W Tryz.func18 rfl (Nat.le_of_ble_eq_true rfl) Tryz.ntmps18 rfl ?_
  refine W_seq <| W_reg <| L_op (.plain rfl) rfl (ltb rfl) (X_assign (v := (.slice none 0 0)) rfl) <| L_nil <| thn_n <| W_seq <| W_reg <| L_op (.plain rfl) rfl (ltb rfl) (X_move (v := v_a0) rfl) <| L_op (.plain rfl) rfl (ltb rfl) (X_lenR Tryz.underlying22 rfl f_a0) ?_
  obtain ⟨c1, H⟩ := bif_some H
  refine L_make (enc := encRec) (zr := (⟨0, [], [], 0, false⟩ : Rec)) (n := a0.length) (.plain rfl) rfl (ltb rfl) rfl El.t28 rfl rfl rfl (of_decide_eq_true c1) (Nat.le_refl _) <| fun b2 w3 z4 z5 e6 o7 => L_op (.plain rfl) rfl (ltb rfl) (X_assign (v := (.slice (some ⟨b2, 0, none⟩) a0.length a0.length)) rfl) <| L_nil <| thn_n <| W_seq <| W_seq <| W_reg <| L_op (.plain rfl) rfl (ltb rfl) (X_assign (v := (.int .i64 0)) rfl) <| L_nil <| thn_n ?_
  obtain ⟨z10, L11, C12⟩ := bind_some H
  clear H
  refine  W_cutQ (fun s0 sQ wQ => ∃ (y13 : List Rec), Kp [(4, 5), (8, 22)] s0 sQ ∧ Ow 78 5 encRec w.heap.size wQ (.slice (some ⟨b2, 0, none⟩) a0.length a0.length) y13 ∧ Ext w wQ ∧ z10 = .inr y13) ?_ ?_
  · refine W_block <| W_loopI (fun s0 kk sQ wQ => ∃ (x4_8 : Int) (y9 : List Rec), Kp [(4, 5), (8, 22)] s0 sQ ∧ sQ 4 = .int .i64 x4_8 ∧ Ow 78 5 encRec w.heap.size wQ (.slice (some ⟨b2, 0, none⟩) a0.length a0.length) y9 ∧ Ext w wQ ∧ loopF (laws_toRecordS.b1 a0) kk (x4_8, y9) = some z10) k ⟨0, List.replicate a0.length (⟨0, [], [], 0, false⟩ : Rec), (Kp.refl _ _), rfl, o7, e6, L11⟩ ?_
    rintro k18 s19 w20 ⟨x4_8, y9, K21, h24, h25, e22, L23⟩
    cases k18 with
    | zero => exact absurd L23 (by simp [loopF])
    | succ k18 =>
      obtain ⟨t26, H, S27⟩ := loopF_succ L23
      clear L23
      unfold laws_toRecordS.b1 at H
      refine W_seq <| W_seq <| W_reg <| L_op (.plain rfl) rfl (ltb rfl) (X_move (v := (.int .i64 x4_8)) h24) <| L_op (.plain rfl) rfl (ltb rfl) (X_move (v := v_a0) (K21 0 rfl)) <| L_op (.plain rfl) rfl (ltb rfl) (X_lenR Tryz.underlying22 rfl (Rd.ext f_a0 e22)) <| L_op (.plain rfl) rfl (ltb rfl) (X_lss rfl rfl) <| L_nil <| thn_n ?_
      rcases bif_two H with ⟨q28, H⟩ | ⟨q28, H⟩
      · refine W_true (congrArg Value.bool q28) <| W_skip <| thn_n <| W_seq <| W_block <| W_reg <| L_op (.plain rfl) rfl (ltb rfl) (X_move (v := (.slice (some ⟨b2, 0, none⟩) a0.length a0.length)) (K21 3 rfl)) <| L_op (.plain rfl) rfl (ltb rfl) (X_move (v := (.int .i64 x4_8)) h24) <| L_op (.plain rfl) rfl (ltb rfl) (X_move (v := v_a0) (K21 0 rfl)) <| L_op (.plain rfl) rfl (ltb rfl) (X_move (v := (.int .i64 x4_8)) h24) ?_
        obtain ⟨c29, H⟩ := bif_some H
        refine L_idx (.plain rfl) rfl (ltb rfl) rfl Tryz.underlying22 Tryz.sizeOf71 rfl (Rd.ext f_a0 e22) rfl c29 <| fun p30 h31 => L_op (.plain rfl) rfl (ltb rfl) (X_loadS Tryz.isAgg71 Tryz.sizeOf71 rfl rfl h31) <| L_callP (.plain rfl) rfl (ltb rfl) rfl Tryz.call66 (laws_toRecord.calls (w := w20) (a0 := gt a0 x4_8)) rfl <| fun w32 e33 => ?_
        obtain ⟨c36, H⟩ := bif_some H
        refine L_idxO (.plain rfl) rfl (ltb rfl) rfl Tryz.underlying28 Tryz.sizeOf78 rfl (Ow.ext h25 e33) rfl c36 <| fun p34 h35 => L_storeO (a := (gt a0 x4_8)) (vs := [(.int .i64 ((gt a0 x4_8).kind)), (S ((gt a0 x4_8).path)), (S ((gt a0 x4_8).body)), (.int .i64 ((gt a0 x4_8).mode)), (.bool ((gt a0 x4_8).opq))]) (off := 0) (.plain rfl) rfl rfl Tryz.sizeOf78 rfl h35 rfl rfl rfl rfl rfl rfl <| fun b37 w38 h39 h40 h41 o42 => L_nil <| blk_n <| thn_n <| W_reg <| L_op (.plain rfl) rfl (ltb rfl) (X_move (v := (.int .i64 x4_8)) h24) <| L_op (.plain rfl) rfl (ltb rfl) (X_add rfl rfl) <| L_op (.plain rfl) rfl (ltb rfl) (X_assign (v := (.int .i64 (IntKind.wrap .i64 (x4_8 + 1)))) rfl) <| L_nil <| thn_n ?_
        obtain rfl := Option.some.inj H
        exact ⟨_, Nat.lt_succ_self _, IntKind.wrap .i64 (x4_8 + 1), setI y9 x4_8 (gt a0 x4_8), (Kp.upd (Kp.upd (Kp.upd (Kp.upd (Kp.upd (Kp.upd (Kp.upd (Kp.upd (Kp.upd (Kp.upd (Kp.upd (Kp.upd (Kp.upd (Kp.upd (Kp.upd K21 rfl) rfl) rfl) rfl) rfl) rfl) rfl) rfl) rfl) rfl) rfl) rfl) rfl) rfl) rfl), rfl, o42, (Ext.wr (Ext.trans e22 e33) h41 h40 (Nat.le_refl _)), S27⟩
      · refine W_false (congrArg Value.bool q28) <| W_exit <| thn_x <| thn_x <| blk_x <| thn_n ?_
        obtain rfl := Option.some.inj H
        obtain rfl := Option.some.inj S27
        exact ⟨y9, (Kp.upd (Kp.upd (Kp.upd (Kp.upd K21 rfl) rfl) rfl) rfl), h25, e22, rfl⟩
  · rintro s15 w14 ⟨y13, K16, h43, e17, y44⟩
    rw [y44] at C12
    have H := C12
    replace H : _ = some _ := H
    refine thn_n <| W_seq <| W_reg <| L_op (.plain rfl) rfl (ltb rfl) (X_move (v := (.slice (some ⟨b2, 0, none⟩) a0.length a0.length)) (K16 3 rfl)) <| L_op (.plain rfl) rfl (ltb rfl) (X_assign (v := (.slice (some ⟨b2, 0, none⟩) a0.length a0.length)) rfl) <| L_nil <| thn_n <| W_ret <| fin_r ?_
    obtain rfl := Option.some.inj H
    exact fin1o rfl e17 h43 ((Ext.refl w)).size
theorem laws_toRecordS.calls {w : World} {a0 : List Rec} {v_a0 : Value} (f_a0 : Rd 5 encRec w v_a0 a0) (h0 : a0.length ≤ 1048576) :
    Calls Tryz.prog 18 #[v_a0] w (Rt (RO 78 5 encRec w a0)) := by
  obtain ⟨k, h⟩ := laws_toRecordS.eq a0 h0
  exact laws_toRecordS.walk f_a0 h
/-! spec.l03At -/
theorem spec_l03At.walk {k : Nat} {w : World} {a0 : List Rec} {a1 : List UInt8} {v_a0 : Value} (f_a0 : Rd 5 encRec w v_a0 a0) {r : Int} (H : spec_l03At.sh k a0 a1 = some r) :
    Calls Tryz.prog 137 #[v_a0, S a1] w (Rt (RP w (.int .i64 r))) := by
  unfold spec_l03At.sh at H
  refine calls_of_W Tryz.func137 rfl (Nat.le_of_ble_eq_true rfl) Tryz.ntmps137 rfl ?_
  refine W_seq <| W_reg <| L_op (.plain rfl) rfl (ltb rfl) (X_assign (v := (.int .i64 0)) rfl) <| L_nil <| thn_n <| W_seq <| W_seq <| W_reg <| L_op (.plain rfl) rfl (ltb rfl) (X_assign (v := (.int .i64 0)) rfl) <| L_nil <| thn_n ?_
  obtain ⟨z2, L3, C4⟩ := bind_some H
  clear H
  refine  W_cutQ (fun s0 sQ wQ => Kp [(4, 20)] s0 sQ ∧ Ext w wQ ∧ z2 = .inr ()) ?_ ?_
  · refine W_block <| W_loopI (fun s0 kk sQ wQ => ∃ (x5_1 : Int), Kp [(4, 20)] s0 sQ ∧ sQ 5 = .int .i64 x5_1 ∧ Ext w wQ ∧ loopF (spec_l03At.b1 a0 a1) kk x5_1 = some z2) k ⟨0, (Kp.refl _ _), rfl, (Ext.refl w), L3⟩ ?_
    rintro k9 s10 w11 ⟨x5_1, K12, h15, e13, L14⟩
    cases k9 with
    | zero => exact absurd L14 (by simp [loopF])
    | succ k9 =>
      obtain ⟨t16, H, S17⟩ := loopF_succ L14
      clear L14
      unfold spec_l03At.b1 at H
      refine W_seq <| W_seq <| W_reg <| L_op (.plain rfl) rfl (ltb rfl) (X_move (v := (.int .i64 x5_1)) h15) <| L_op (.plain rfl) rfl (ltb rfl) (X_move (v := v_a0) (K12 0 rfl)) <| L_op (.plain rfl) rfl (ltb rfl) (X_lenR Tryz.underlying28 rfl (Rd.ext f_a0 e13)) <| L_op (.plain rfl) rfl (ltb rfl) (X_lss rfl rfl) <| L_nil <| thn_n ?_
      rcases bif_two H with ⟨q18, H⟩ | ⟨q18, H⟩
      · refine W_true (congrArg Value.bool q18) <| W_skip <| thn_n <| W_seq <| W_block <| W_seq <| W_reg <| L_op (.plain rfl) rfl (ltb rfl) (X_move (v := v_a0) (K12 0 rfl)) <| L_op (.plain rfl) rfl (ltb rfl) (X_move (v := (.int .i64 x5_1)) h15) ?_
        obtain ⟨c19, H⟩ := bif_some H
        refine L_idx (.plain rfl) rfl (ltb rfl) rfl Tryz.underlying28 Tryz.sizeOf78 rfl (Rd.ext f_a0 e13) rfl c19 <| fun p20 h21 => L_op (.plain rfl) rfl (ltb rfl) (X_fieldAddr Tryz.underlying78 rfl Tryz.sizeOf9 rfl rfl) <| L_op (.plain rfl) rfl (ltb rfl) (X_loadF Tryz.isAgg9 (j := 1) h21 rfl rfl) <| L_op (.plain rfl) rfl (ltb rfl) (X_move (v := (S a1)) (K12 1 rfl)) <| L_op (.plain rfl) rfl (ltb rfl) (X_seq rfl rfl) <| L_nil <| thn_n ?_
        rcases bif_two H with ⟨q22, H⟩ | ⟨q22, H⟩
        · refine W_true (congrArg Value.bool q22) <| W_seq <| W_reg <| L_op (.plain rfl) rfl (ltb rfl) (X_move (v := (.int .i64 x5_1)) h15) <| L_op (.plain rfl) rfl (ltb rfl) (X_assign (v := (.int .i64 x5_1)) rfl) <| L_nil <| thn_n <| W_ret <| blk_r <| thn_r <| thn_r <| blk_r <| thn_r <| thn_r <| fin_r ?_
          obtain rfl := Option.some.inj H
          obtain rfl := Option.some.inj S17
          have H := C4
          obtain rfl := Option.some.inj H
          exact fin1 rfl e13
        · refine W_false (congrArg Value.bool q22) <| W_skip <| blk_n <| thn_n <| W_reg <| L_op (.plain rfl) rfl (ltb rfl) (X_move (v := (.int .i64 x5_1)) h15) <| L_op (.plain rfl) rfl (ltb rfl) (X_add rfl rfl) <| L_op (.plain rfl) rfl (ltb rfl) (X_assign (v := (.int .i64 (IntKind.wrap .i64 (x5_1 + 1)))) rfl) <| L_nil <| thn_n ?_
          obtain rfl := Option.some.inj H
          exact ⟨_, Nat.lt_succ_self _, IntKind.wrap .i64 (x5_1 + 1), (Kp.upd (Kp.upd (Kp.upd (Kp.upd (Kp.upd (Kp.upd (Kp.upd (Kp.upd (Kp.upd (Kp.upd (Kp.upd (Kp.upd (Kp.upd (Kp.upd K12 rfl) rfl) rfl) rfl) rfl) rfl) rfl) rfl) rfl) rfl) rfl) rfl) rfl) rfl), rfl, e13, S17⟩
      · refine W_false (congrArg Value.bool q18) <| W_exit <| thn_x <| thn_x <| blk_x <| thn_n ?_
        obtain rfl := Option.some.inj H
        obtain rfl := Option.some.inj S17
        exact ⟨(Kp.upd (Kp.upd (Kp.upd (Kp.upd K12 rfl) rfl) rfl) rfl), e13, rfl⟩
  · rintro s6 w5 ⟨K7, e8, y23⟩
    rw [y23] at C4
    have H := C4
    replace H : _ = some _ := H
    refine thn_n <| W_seq <| W_reg <| L_op (.plain rfl) rfl (ltb rfl) (X_assign (v := (.int .i64 (-1))) rfl) <| L_nil <| thn_n <| W_ret <| fin_r ?_
    obtain rfl := Option.some.inj H
    exact fin1 rfl e8
theorem spec_l03At.calls {w : World} {a0 : List Rec} {a1 : List UInt8} {v_a0 : Value} (f_a0 : Rd 5 encRec w v_a0 a0) (h0 : a0.length ≤ 1048576) :
    Calls Tryz.prog 137 #[v_a0, S a1] w (Rt (RP w (.int .i64 (findR a0 a1)))) := by
  obtain ⟨k, h⟩ := spec_l03At.eq a0 a1 h0
  exact spec_l03At.walk f_a0 h
end Go.Proofs.YthpjkenkbfkdhaaGreatDoor
