/- The walks, by program (wip/tools). -/
import Derived.Test.YteinfnffodejkaaDoorProg
import Derived.Test.YteinfnffodejkaaDoorH
set_option linter.unusedVariables false
set_option maxRecDepth 10000
namespace Go.Proofs.YteinfnffodejkaaDoor
open Go.UL Go.RowKit
theorem El.t34 : ElemI Tryd.prog 34 9 1 16 (.string ⟨#[]⟩) := ElemI.mk' Tryd.underlying34 (by kernel_rfl) rfl rfl rfl
theorem El.t50 : ElemI Tryd.prog 50 20 1 16 (.nilIface) := ElemI.mk' Tryd.underlying50 (by kernel_rfl) rfl rfl rfl
theorem El.t54 : ElemI Tryd.prog 54 5 1 1 (.int .u8 0) := ElemI.mk' Tryd.underlying54 (by kernel_rfl) rfl rfl rfl
/-! impl.within -/
theorem impl_within.walk {w : World} {a0 : Int} {a1 : Int} {a2 : Int} {r : Bool} (H : impl_within.sh a0 a1 a2 = some r) :
    Calls Tryd.prog 42 #[.int .i64 a0, .int .i64 a1, .int .i64 a2] w (Rt (RP w (.bool r))) := by
  unfold impl_within.sh at H
  refine calls_of_W Tryd.func42 rfl (Nat.le_of_ble_eq_true rfl) Tryd.ntmps42 rfl ?_
  refine W_seq <| W_reg <| L_op (.plain rfl) rfl (ltb rfl) (X_assign (v := (.bool false)) rfl) <| L_nil <| thn_n <| W_seq <| W_reg <| L_op (.plain rfl) rfl (ltb rfl) (X_move (v := (.int .i64 a1)) rfl) <| L_op (.plain rfl) rfl (ltb rfl) (X_move (v := (.int .i64 a0)) rfl) <| L_op (.plain rfl) rfl (ltb rfl) (X_leq rfl rfl) <| L_op (.plain rfl) rfl (ltb rfl) (X_move (v := (.bool (decide (a1 ≤ a0)))) rfl) <| L_grp 4 [(11, 15)] 14 (.bool ((decide (a1 ≤ a0)) && (decide (a0 ≤ a2)))) ?_ ?_
  · rcases bool_two (decide (a1 ≤ a0)) with b0_ | b0_
    · exact L_op (.guard 3 true 10 rfl rfl (ltb rfl) (congrArg Value.bool b0_)) rfl (ltb rfl) (X_move (v := (.int .i64 a0)) rfl) <| L_op (.guard 3 true 10 rfl rfl (ltb rfl) (congrArg Value.bool b0_)) rfl (ltb rfl) (X_move (v := (.int .i64 a2)) rfl) <| L_op (.guard 3 true 10 rfl rfl (ltb rfl) (congrArg Value.bool b0_)) rfl (ltb rfl) (X_leq rfl rfl) <| L_op (.plain rfl) rfl (ltb rfl) (X_pick (b := true) (v := (.bool (decide (a0 ≤ a2)))) (congrArg Value.bool b0_) rfl) <| L_nil <| thn_n ⟨(Kp.upd (Kp.upd (Kp.upd (Kp.upd (Kp.refl _ _) rfl) rfl) rfl) rfl), (and_t b0_), (Ext.refl w)⟩
    · exact L_skip rfl rfl (ltb rfl) (congrArg Value.bool b0_) rfl rfl (ltb rfl) <| L_skip rfl rfl (ltb rfl) (congrArg Value.bool b0_) rfl rfl (ltb rfl) <| L_skip rfl rfl (ltb rfl) (congrArg Value.bool b0_) rfl rfl (ltb rfl) <| L_op (.plain rfl) rfl (ltb rfl) (X_pick (b := false) (v := (.bool false)) (congrArg Value.bool b0_) rfl) <| L_nil <| thn_n ⟨(Kp.upd (Kp.upd (Kp.upd (Kp.upd (Kp.refl _ _) rfl) rfl) rfl) rfl), (and_f b0_), (Ext.refl w)⟩
  intro s6 w2 K3 h4 e5
  refine L_op (.plain rfl) rfl (ltb rfl) (X_assign (v := (.bool ((decide (a1 ≤ a0)) && (decide (a0 ≤ a2))))) h4) <| L_nil <| thn_n <| W_ret <| fin_r ?_
  obtain rfl := Option.some.inj H
  exact fin1 rfl e5
theorem impl_within.calls {w : World} {a0 : Int} {a1 : Int} {a2 : Int} :
    Calls Tryd.prog 42 #[.int .i64 a0, .int .i64 a1, .int .i64 a2] w (Rt (RP w (.bool (within a0 a1 a2)))) := impl_within.walk (impl_within.eq a0 a1 a2)
/-! spec.l01In -/
theorem spec_l01In.walk {w : World} {a0 : Int} {a1 : Int} {a2 : Int} {r : Bool} (H : spec_l01In.sh a0 a1 a2 = some r) :
    Calls Tryd.prog 53 #[.int .i64 a0, .int .i64 a1, .int .i64 a2] w (Rt (RP w (.bool r))) := by
  unfold spec_l01In.sh at H
  refine calls_of_W Tryd.func53 rfl (Nat.le_of_ble_eq_true rfl) Tryd.ntmps53 rfl ?_
  refine W_seq <| W_reg <| L_op (.plain rfl) rfl (ltb rfl) (X_assign (v := (.bool false)) rfl) <| L_nil <| thn_n <| W_seq <| W_reg <| L_op (.plain rfl) rfl (ltb rfl) (X_move (v := (.int .i64 a0)) rfl) <| L_op (.plain rfl) rfl (ltb rfl) (X_move (v := (.int .i64 a1)) rfl) <| L_op (.plain rfl) rfl (ltb rfl) (X_geq rfl rfl) <| L_op (.plain rfl) rfl (ltb rfl) (X_move (v := (.bool (decide (a1 ≤ a0)))) rfl) <| L_grp 4 [(11, 15)] 14 (.bool ((decide (a1 ≤ a0)) && (decide (a0 ≤ a2)))) ?_ ?_
  · rcases bool_two (decide (a1 ≤ a0)) with b0_ | b0_
    · exact L_op (.guard 3 true 10 rfl rfl (ltb rfl) (congrArg Value.bool b0_)) rfl (ltb rfl) (X_move (v := (.int .i64 a0)) rfl) <| L_op (.guard 3 true 10 rfl rfl (ltb rfl) (congrArg Value.bool b0_)) rfl (ltb rfl) (X_move (v := (.int .i64 a2)) rfl) <| L_op (.guard 3 true 10 rfl rfl (ltb rfl) (congrArg Value.bool b0_)) rfl (ltb rfl) (X_leq rfl rfl) <| L_op (.plain rfl) rfl (ltb rfl) (X_pick (b := true) (v := (.bool (decide (a0 ≤ a2)))) (congrArg Value.bool b0_) rfl) <| L_nil <| thn_n ⟨(Kp.upd (Kp.upd (Kp.upd (Kp.upd (Kp.refl _ _) rfl) rfl) rfl) rfl), (and_t b0_), (Ext.refl w)⟩
    · exact L_skip rfl rfl (ltb rfl) (congrArg Value.bool b0_) rfl rfl (ltb rfl) <| L_skip rfl rfl (ltb rfl) (congrArg Value.bool b0_) rfl rfl (ltb rfl) <| L_skip rfl rfl (ltb rfl) (congrArg Value.bool b0_) rfl rfl (ltb rfl) <| L_op (.plain rfl) rfl (ltb rfl) (X_pick (b := false) (v := (.bool false)) (congrArg Value.bool b0_) rfl) <| L_nil <| thn_n ⟨(Kp.upd (Kp.upd (Kp.upd (Kp.upd (Kp.refl _ _) rfl) rfl) rfl) rfl), (and_f b0_), (Ext.refl w)⟩
  intro s6 w2 K3 h4 e5
  refine L_op (.plain rfl) rfl (ltb rfl) (X_assign (v := (.bool ((decide (a1 ≤ a0)) && (decide (a0 ≤ a2))))) h4) <| L_nil <| thn_n <| W_ret <| fin_r ?_
  obtain rfl := Option.some.inj H
  exact fin1 rfl e5
theorem spec_l01In.calls {w : World} {a0 : Int} {a1 : Int} {a2 : Int} :
    Calls Tryd.prog 53 #[.int .i64 a0, .int .i64 a1, .int .i64 a2] w (Rt (RP w (.bool (within a0 a1 a2)))) := spec_l01In.walk (spec_l01In.eq a0 a1 a2)
/-! spec.l01Part -/
theorem spec_l01Part.walk {k : Nat} {w : World} {a0 : List UInt8} {r : Bool} (H : spec_l01Part.sh k a0 = some r) :
    Calls Tryd.prog 36 #[S a0] w (Rt (RP w (.bool r))) := by
  unfold spec_l01Part.sh at H
  refine calls_of_W Tryd.func36 rfl (Nat.le_of_ble_eq_true rfl) Tryd.ntmps36 rfl ?_
  refine W_seq <| W_reg <| L_op (.plain rfl) rfl (ltb rfl) (X_assign (v := (.bool false)) rfl) <| L_nil <| thn_n <| W_seq <| W_seq <| W_reg <| L_op (.plain rfl) rfl (ltb rfl) (X_move (v := (S a0)) rfl) <| L_op (.plain rfl) rfl (ltb rfl) (X_lenS Tryd.underlying9 rfl) <| L_callP (.plain rfl) rfl (ltb rfl) rfl Tryd.call53 (spec_l01In.calls (w := w) (a0 := (a0.length : Int)) (a1 := 1) (a2 := 8)) rfl <| fun w1 e2 => L_op (.plain rfl) rfl (ltb rfl) (X_not rfl) <| L_op (.plain rfl) rfl (ltb rfl) (X_move (v := (.bool (!(within (a0.length : Int) 1 8)))) rfl) <| L_grp 3 [(9, 12)] 11 (.bool ((!(within (a0.length : Int) 1 8)) || (decide (a0 = ([46] : List UInt8))))) ?_ ?_
  · rcases bool_two (!(within (a0.length : Int) 1 8)) with b2_ | b2_
    · exact L_skip rfl rfl (ltb rfl) (congrArg Value.bool b2_) rfl rfl (ltb rfl) <| L_skip rfl rfl (ltb rfl) (congrArg Value.bool b2_) rfl rfl (ltb rfl) <| L_op (.plain rfl) rfl (ltb rfl) (X_pick (b := true) (v := (.bool true)) (congrArg Value.bool b2_) rfl) <| L_nil <| thn_n ⟨(Kp.upd (Kp.upd (Kp.upd (Kp.refl _ _) rfl) rfl) rfl), (or_t b2_), (Ext.refl w1)⟩
    · exact L_op (.guard 4 false 8 rfl rfl (ltb rfl) (congrArg Value.bool b2_)) rfl (ltb rfl) (X_move (v := (S a0)) rfl) <| L_op (.guard 4 false 8 rfl rfl (ltb rfl) (congrArg Value.bool b2_)) rfl (ltb rfl) (X_seq rfl rfl) <| L_op (.plain rfl) rfl (ltb rfl) (X_pick (b := false) (v := (.bool (decide (a0 = ([46] : List UInt8))))) (congrArg Value.bool b2_) rfl) <| L_nil <| thn_n ⟨(Kp.upd (Kp.upd (Kp.upd (Kp.refl _ _) rfl) rfl) rfl), (or_f b2_), (Ext.refl w1)⟩
  intro s8 w4 K5 h6 e7
  refine L_op (.plain rfl) rfl (ltb rfl) (X_move h6) <| L_grp 3 [(13, 16)] 15 (.bool (((!(within (a0.length : Int) 1 8)) || (decide (a0 = ([46] : List UInt8)))) || (decide (a0 = ([46, 46] : List UInt8))))) ?_ ?_
  · rcases bool_two ((!(within (a0.length : Int) 1 8)) || (decide (a0 = ([46] : List UInt8)))) with b8_ | b8_
    · exact L_skip rfl rfl (ltb rfl) (congrArg Value.bool b8_) rfl rfl (ltb rfl) <| L_skip rfl rfl (ltb rfl) (congrArg Value.bool b8_) rfl rfl (ltb rfl) <| L_op (.plain rfl) rfl (ltb rfl) (X_pick (b := true) (v := (.bool true)) (congrArg Value.bool b8_) rfl) <| L_nil <| thn_n ⟨(Kp.upd (Kp.upd (Kp.upd (Kp.refl _ _) rfl) rfl) rfl), (or_t b8_), (Ext.refl w4)⟩
    · exact L_op (.guard 8 false 12 rfl rfl (ltb rfl) (congrArg Value.bool b8_)) rfl (ltb rfl) (X_move (v := (S a0)) (K5 0 rfl)) <| L_op (.guard 8 false 12 rfl rfl (ltb rfl) (congrArg Value.bool b8_)) rfl (ltb rfl) (X_seq rfl rfl) <| L_op (.plain rfl) rfl (ltb rfl) (X_pick (b := false) (v := (.bool (decide (a0 = ([46, 46] : List UInt8))))) (congrArg Value.bool b8_) rfl) <| L_nil <| thn_n ⟨(Kp.upd (Kp.upd (Kp.upd (Kp.refl _ _) rfl) rfl) rfl), (or_f b8_), (Ext.refl w4)⟩
  intro s14 w10 K11 h12 e13
  refine L_nil <| thn_n ?_
  rcases bif_two H with ⟨q15, H⟩ | ⟨q15, H⟩
  · refine W_true (h12.trans (congrArg Value.bool q15)) <| W_seq <| W_reg <| L_op (.plain rfl) rfl (ltb rfl) (X_assign (v := (.bool false)) rfl) <| L_nil <| thn_n <| W_ret <| thn_r <| fin_r ?_
    obtain rfl := Option.some.inj H
    exact fin1 rfl (Ext.trans (Ext.trans e2 e7) e13)
  · refine W_false (h12.trans (congrArg Value.bool q15)) <| W_skip <| thn_n <| W_seq <| W_seq <| W_reg <| L_op (.plain rfl) rfl (ltb rfl) (X_assign (v := (.int .i64 0)) rfl) <| L_nil <| thn_n ?_
    obtain ⟨z17, L18, C19⟩ := bind_some H
    clear H
    refine  W_cutQ (fun s0 s9 w9 => Kp [(2, 4), (16, 38)] s0 s9 ∧ Ext w10 w9 ∧ z17 = .inr ()) ?_ ?_
    · refine W_block <| W_loopI (fun s0 kk s9 w9 => ∃ (x3_16 : Int), Kp [(2, 4), (16, 38)] s0 s9 ∧ s9 3 = .int .i64 x3_16 ∧ Ext w10 w9 ∧ loopF (spec_l01Part.b1 a0) kk x3_16 = some z17) k ⟨0, (Kp.refl _ _), rfl, (Ext.refl w10), L18⟩ ?_
      rintro k24 s25 w26 ⟨x3_16, K27, h30, e28, L29⟩
      cases k24 with
      | zero => exact absurd L29 (by simp [loopF])
      | succ k24 =>
        obtain ⟨t31, H, S32⟩ := loopF_succ L29
        clear L29
        unfold spec_l01Part.b1 at H
        refine W_seq <| W_seq <| W_reg <| L_op (.plain rfl) rfl (ltb rfl) (X_move (v := (.int .i64 x3_16)) h30) <| L_op (.plain rfl) rfl (ltb rfl) (X_move (v := (S a0)) ((K27 0 rfl).trans ((K11 0 rfl).trans (K5 0 rfl)))) <| L_op (.plain rfl) rfl (ltb rfl) (X_lenS Tryd.underlying9 rfl) <| L_op (.plain rfl) rfl (ltb rfl) (X_lss rfl rfl) <| L_nil <| thn_n ?_
        rcases bif_two H with ⟨q33, H⟩ | ⟨q33, H⟩
        · refine W_true (congrArg Value.bool q33) <| W_skip <| thn_n <| W_seq <| W_block <| W_seq <| W_reg <| L_op (.plain rfl) rfl (ltb rfl) (X_move (v := (S a0)) ((K27 0 rfl).trans ((K11 0 rfl).trans (K5 0 rfl)))) <| L_op (.plain rfl) rfl (ltb rfl) (X_move (v := (.int .i64 x3_16)) h30) ?_
          obtain ⟨c34, H⟩ := bif_some H
          refine L_op (.plain rfl) rfl (ltb rfl) (X_indexS Tryd.underlying9 rfl rfl (inR_lo c34) (inR_hi c34)) <| L_op (.plain rfl) rfl (ltb rfl) (X_lss rfl rfl) <| L_op (.plain rfl) rfl (ltb rfl) (X_move (v := (.bool (decide ((byt a0 x3_16) < 33)))) rfl) ?_
          obtain ⟨z36, x37, H⟩ := bind_some H
          refine L_grpE 5 [(27, 32)] 31 (fun q => q = z36) ?_ ?_
          · rcases bif_two x37 with ⟨b34_, H⟩ | ⟨b34_, H⟩
            · refine L_skip rfl rfl (ltb rfl) (congrArg Value.bool b34_) rfl rfl (ltb rfl) <| L_skip rfl rfl (ltb rfl) (congrArg Value.bool b34_) rfl rfl (ltb rfl) <| L_skip rfl rfl (ltb rfl) (congrArg Value.bool b34_) rfl rfl (ltb rfl) <| L_skip rfl rfl (ltb rfl) (congrArg Value.bool b34_) rfl rfl (ltb rfl) <| L_op (.plain rfl) rfl (ltb rfl) (X_pick (b := true) (v := (.bool true)) (congrArg Value.bool b34_) rfl) ?_
              obtain rfl := Option.some.inj H
              exact L_nil <| thn_n ⟨(Kp.upd (Kp.upd (Kp.upd (Kp.upd (Kp.upd (Kp.refl _ _) rfl) rfl) rfl) rfl) rfl), ⟨_, rfl, rfl⟩, (Ext.refl w26)⟩
            · refine L_op (.guard 4 false 26 rfl rfl (ltb rfl) (congrArg Value.bool b34_)) rfl (ltb rfl) (X_move (v := (S a0)) ((K27 0 rfl).trans ((K11 0 rfl).trans (K5 0 rfl)))) <| L_op (.guard 4 false 26 rfl rfl (ltb rfl) (congrArg Value.bool b34_)) rfl (ltb rfl) (X_move (v := (.int .i64 x3_16)) h30) ?_
              obtain ⟨c36, H⟩ := bif_some H
              refine L_op (.guard 4 false 26 rfl rfl (ltb rfl) (congrArg Value.bool b34_)) rfl (ltb rfl) (X_indexS Tryd.underlying9 rfl rfl (inR_lo c36) (inR_hi c36)) <| L_op (.guard 4 false 26 rfl rfl (ltb rfl) (congrArg Value.bool b34_)) rfl (ltb rfl) (X_gtr rfl rfl) <| L_op (.plain rfl) rfl (ltb rfl) (X_pick (b := false) (v := (.bool (decide (126 < (byt a0 x3_16))))) (congrArg Value.bool b34_) rfl) ?_
              obtain rfl := Option.some.inj H
              exact L_nil <| thn_n ⟨(Kp.upd (Kp.upd (Kp.upd (Kp.upd (Kp.upd (Kp.refl _ _) rfl) rfl) rfl) rfl) rfl), ⟨_, rfl, rfl⟩, (Ext.refl w26)⟩
          intro s42 w38 z43 K39 hq h40 e41
          rw [hq] at h40; clear hq
          refine L_op (.plain rfl) rfl (ltb rfl) (X_move (v := (.bool z36)) h40) ?_
          obtain ⟨z45, x46, H⟩ := bind_some H
          refine L_grpE 5 [(33, 38)] 37 (fun q => q = z45) ?_ ?_
          · rcases bif_two x46 with ⟨b43_, H⟩ | ⟨b43_, H⟩
            · refine L_skip rfl rfl (ltb rfl) (congrArg Value.bool b43_) rfl rfl (ltb rfl) <| L_skip rfl rfl (ltb rfl) (congrArg Value.bool b43_) rfl rfl (ltb rfl) <| L_skip rfl rfl (ltb rfl) (congrArg Value.bool b43_) rfl rfl (ltb rfl) <| L_skip rfl rfl (ltb rfl) (congrArg Value.bool b43_) rfl rfl (ltb rfl) <| L_op (.plain rfl) rfl (ltb rfl) (X_pick (b := true) (v := (.bool true)) (congrArg Value.bool b43_) rfl) ?_
              obtain rfl := Option.some.inj H
              exact L_nil <| thn_n ⟨(Kp.upd (Kp.upd (Kp.upd (Kp.upd (Kp.upd (Kp.refl _ _) rfl) rfl) rfl) rfl) rfl), ⟨_, rfl, rfl⟩, (Ext.refl w38)⟩
            · refine L_op (.guard 10 false 32 rfl rfl (ltb rfl) (congrArg Value.bool b43_)) rfl (ltb rfl) (X_move (v := (S a0)) ((K39 0 rfl).trans ((K27 0 rfl).trans ((K11 0 rfl).trans (K5 0 rfl))))) <| L_op (.guard 10 false 32 rfl rfl (ltb rfl) (congrArg Value.bool b43_)) rfl (ltb rfl) (X_move (v := (.int .i64 x3_16)) ((K39 3 rfl).trans h30)) ?_
              obtain ⟨c45, H⟩ := bif_some H
              refine L_op (.guard 10 false 32 rfl rfl (ltb rfl) (congrArg Value.bool b43_)) rfl (ltb rfl) (X_indexS Tryd.underlying9 rfl rfl (inR_lo c45) (inR_hi c45)) <| L_op (.guard 10 false 32 rfl rfl (ltb rfl) (congrArg Value.bool b43_)) rfl (ltb rfl) (X_eql rfl rfl) <| L_op (.plain rfl) rfl (ltb rfl) (X_pick (b := false) (v := (.bool (decide ((byt a0 x3_16) = 47)))) (congrArg Value.bool b43_) rfl) ?_
              obtain rfl := Option.some.inj H
              exact L_nil <| thn_n ⟨(Kp.upd (Kp.upd (Kp.upd (Kp.upd (Kp.upd (Kp.refl _ _) rfl) rfl) rfl) rfl) rfl), ⟨_, rfl, rfl⟩, (Ext.refl w38)⟩
          intro s51 w47 z52 K48 hq h49 e50
          rw [hq] at h49; clear hq
          refine L_nil <| thn_n ?_
          rcases bif_two H with ⟨q53, H⟩ | ⟨q53, H⟩
          · refine W_true (h49.trans (congrArg Value.bool q53)) <| W_seq <| W_reg <| L_op (.plain rfl) rfl (ltb rfl) (X_assign (v := (.bool false)) rfl) <| L_nil <| thn_n <| W_ret <| blk_r <| thn_r <| thn_r <| blk_r <| thn_r <| thn_r <| fin_r ?_
            obtain rfl := Option.some.inj H
            obtain rfl := Option.some.inj S32
            have H := C19
            obtain rfl := Option.some.inj H
            exact fin1 rfl (Ext.trans (Ext.trans (Ext.trans (Ext.trans (Ext.trans e2 e7) e13) e28) e41) e50)
          · refine W_false (h49.trans (congrArg Value.bool q53)) <| W_skip <| blk_n <| thn_n <| W_reg <| L_op (.plain rfl) rfl (ltb rfl) (X_move (v := (.int .i64 x3_16)) ((K48 3 rfl).trans ((K39 3 rfl).trans h30))) <| L_op (.plain rfl) rfl (ltb rfl) (X_add rfl rfl) <| L_op (.plain rfl) rfl (ltb rfl) (X_assign (v := (.int .i64 (IntKind.wrap .i64 (x3_16 + 1)))) rfl) <| L_nil <| thn_n ?_
            obtain rfl := Option.some.inj H
            exact ⟨_, Nat.lt_succ_self _, IntKind.wrap .i64 (x3_16 + 1), (Kp.upd (Kp.upd (Kp.upd (Kp.cut (Kp.upd (Kp.cut (Kp.upd (Kp.upd (Kp.upd (Kp.upd (Kp.upd (Kp.upd (Kp.upd (Kp.upd (Kp.upd K27 rfl) rfl) rfl) rfl) rfl) rfl) rfl) rfl) rfl) K39 rfl) rfl) K48 rfl) rfl) rfl) rfl), rfl, (Ext.trans (Ext.trans e28 e41) e50), S32⟩
        · refine W_false (congrArg Value.bool q33) <| W_exit <| thn_x <| thn_x <| blk_x <| thn_n ?_
          obtain rfl := Option.some.inj H
          obtain rfl := Option.some.inj S32
          exact ⟨(Kp.upd (Kp.upd (Kp.upd (Kp.upd K27 rfl) rfl) rfl) rfl), e28, rfl⟩
    · rintro s21 w20 ⟨K22, e23, y54⟩
      rw [y54] at C19
      have H := C19
      replace H : _ = some _ := H
      refine thn_n <| W_seq <| W_reg <| L_op (.plain rfl) rfl (ltb rfl) (X_assign (v := (.bool true)) rfl) <| L_nil <| thn_n <| W_ret <| fin_r ?_
      obtain rfl := Option.some.inj H
      exact fin1 rfl (Ext.trans (Ext.trans (Ext.trans e2 e7) e13) e23)
theorem spec_l01Part.calls {w : World} {a0 : List UInt8} :
    Calls Tryd.prog 36 #[S a0] w (Rt (RP w (.bool (partOK a0)))) := by
  obtain ⟨k, h⟩ := spec_l01Part.eq a0
  exact spec_l01Part.walk h
/-! impl.PartOK -/
theorem impl_PartOK.walk {k : Nat} {w : World} {a0 : List UInt8} {r : Bool} (H : impl_PartOK.sh k a0 = some r) :
    Calls Tryd.prog 32 #[S a0] w (Rt (RP w (.bool r))) := by
  unfold impl_PartOK.sh at H
  refine calls_of_W Tryd.func32 rfl (Nat.le_of_ble_eq_true rfl) Tryd.ntmps32 rfl ?_
  refine W_seq <| W_reg <| L_op (.plain rfl) rfl (ltb rfl) (X_assign (v := (.bool false)) rfl) <| L_nil <| thn_n <| W_seq <| W_seq <| W_reg <| L_op (.plain rfl) rfl (ltb rfl) (X_move (v := (S a0)) rfl) <| L_op (.plain rfl) rfl (ltb rfl) (X_lenS Tryd.underlying9 rfl) <| L_op (.plain rfl) rfl (ltb rfl) (X_move (v := (.int .i64 0)) rfl) <| L_nil <| thn_n ?_
  obtain ⟨z2, L3, C4⟩ := bind_some H
  clear H
  refine  W_cutQ (fun s0 s9 w9 => Kp [(2, 4), (6, 22)] s0 s9 ∧ Ext w w9 ∧ z2 = .inr ()) ?_ ?_
  · refine W_block <| W_loopI (fun s0 kk s9 w9 => ∃ (x6_1 : Int), Kp [(2, 4), (6, 22)] s0 s9 ∧ s9 6 = .int .i64 x6_1 ∧ Ext w w9 ∧ loopF (impl_PartOK.b1 a0) kk x6_1 = some z2) k ⟨0, (Kp.refl _ _), rfl, (Ext.refl w), L3⟩ ?_
    rintro k9 s10 w11 ⟨x6_1, K12, h15, e13, L14⟩
    cases k9 with
    | zero => exact absurd L14 (by simp [loopF])
    | succ k9 =>
      obtain ⟨t16, H, S17⟩ := loopF_succ L14
      clear L14
      unfold impl_PartOK.b1 at H
      refine W_seq <| W_reg <| L_op (.plain rfl) rfl (ltb rfl) (X_lss h15 (K12 5 rfl)) <| L_nil <| thn_n <| W_seq ?_
      rcases bif_two H with ⟨q18, H⟩ | ⟨q18, H⟩
      · refine W_true (congrArg Value.bool q18) <| W_skip <| thn_n <| W_seq <| W_block <| W_seq <| W_reg <| L_op (.plain rfl) rfl (ltb rfl) (X_move (v := (.int .i64 x6_1)) h15) <| L_op (.plain rfl) rfl (ltb rfl) (X_assign (v := (.int .i64 x6_1)) rfl) <| L_nil <| thn_n <| W_seq <| W_reg <| L_op (.plain rfl) rfl (ltb rfl) (X_move (v := (S a0)) (K12 0 rfl)) <| L_op (.plain rfl) rfl (ltb rfl) (X_move (v := (.int .i64 x6_1)) rfl) ?_
        obtain ⟨c19, H⟩ := bif_some H
        refine L_op (.plain rfl) rfl (ltb rfl) (X_indexS Tryd.underlying9 rfl rfl (inR_lo c19) (inR_hi c19)) <| L_op (.plain rfl) rfl (ltb rfl) (X_convInt Tryd.underlying5 Tryd.underlying3 rfl) <| L_callP (.plain rfl) rfl (ltb rfl) rfl Tryd.call42 (impl_within.calls (w := w11) (a0 := IntKind.wrap .i64 (byt a0 x6_1)) (a1 := 33) (a2 := 126)) rfl <| fun w20 e21 => L_op (.plain rfl) rfl (ltb rfl) (X_not rfl) <| L_op (.plain rfl) rfl (ltb rfl) (X_move (v := (.bool (!(within (IntKind.wrap .i64 (byt a0 x6_1)) 33 126)))) rfl) ?_
        obtain ⟨z23, x24, H⟩ := bind_some H
        refine L_grpE 5 [(16, 21)] 20 (fun q => q = z23) ?_ ?_
        · rcases bif_two x24 with ⟨b21_, H⟩ | ⟨b21_, H⟩
          · refine L_skip rfl rfl (ltb rfl) (congrArg Value.bool b21_) rfl rfl (ltb rfl) <| L_skip rfl rfl (ltb rfl) (congrArg Value.bool b21_) rfl rfl (ltb rfl) <| L_skip rfl rfl (ltb rfl) (congrArg Value.bool b21_) rfl rfl (ltb rfl) <| L_skip rfl rfl (ltb rfl) (congrArg Value.bool b21_) rfl rfl (ltb rfl) <| L_op (.plain rfl) rfl (ltb rfl) (X_pick (b := true) (v := (.bool true)) (congrArg Value.bool b21_) rfl) ?_
            obtain rfl := Option.some.inj H
            exact L_nil <| thn_n ⟨(Kp.upd (Kp.upd (Kp.upd (Kp.upd (Kp.upd (Kp.refl _ _) rfl) rfl) rfl) rfl) rfl), ⟨_, rfl, rfl⟩, (Ext.refl w20)⟩
          · refine L_op (.guard 6 false 15 rfl rfl (ltb rfl) (congrArg Value.bool b21_)) rfl (ltb rfl) (X_move (v := (S a0)) (K12 0 rfl)) <| L_op (.guard 6 false 15 rfl rfl (ltb rfl) (congrArg Value.bool b21_)) rfl (ltb rfl) (X_move (v := (.int .i64 x6_1)) rfl) ?_
            obtain ⟨c23, H⟩ := bif_some H
            refine L_op (.guard 6 false 15 rfl rfl (ltb rfl) (congrArg Value.bool b21_)) rfl (ltb rfl) (X_indexS Tryd.underlying9 rfl rfl (inR_lo c23) (inR_hi c23)) <| L_op (.guard 6 false 15 rfl rfl (ltb rfl) (congrArg Value.bool b21_)) rfl (ltb rfl) (X_eql rfl rfl) <| L_op (.plain rfl) rfl (ltb rfl) (X_pick (b := false) (v := (.bool (decide ((byt a0 x6_1) = 47)))) (congrArg Value.bool b21_) rfl) ?_
            obtain rfl := Option.some.inj H
            exact L_nil <| thn_n ⟨(Kp.upd (Kp.upd (Kp.upd (Kp.upd (Kp.upd (Kp.refl _ _) rfl) rfl) rfl) rfl) rfl), ⟨_, rfl, rfl⟩, (Ext.refl w20)⟩
        intro s29 w25 z30 K26 hq h27 e28
        rw [hq] at h27; clear hq
        refine L_nil <| thn_n ?_
        rcases bif_two H with ⟨q31, H⟩ | ⟨q31, H⟩
        · refine W_true (h27.trans (congrArg Value.bool q31)) <| W_seq <| W_reg <| L_op (.plain rfl) rfl (ltb rfl) (X_assign (v := (.bool false)) rfl) <| L_nil <| thn_n <| W_ret <| blk_r <| thn_r <| thn_r <| blk_r <| thn_r <| thn_r <| fin_r ?_
          obtain rfl := Option.some.inj H
          obtain rfl := Option.some.inj S17
          have H := C4
          obtain rfl := Option.some.inj H
          exact fin1 rfl (Ext.trans (Ext.trans e13 e21) e28)
        · refine W_false (h27.trans (congrArg Value.bool q31)) <| W_skip <| blk_n <| thn_n <| W_reg <| L_op (.plain rfl) rfl (ltb rfl) (X_add ((K26 6 rfl).trans h15) rfl) <| L_op (.plain rfl) rfl (ltb rfl) (X_move (v := (.int .i64 (IntKind.wrap .i64 (x6_1 + 1)))) rfl) <| L_nil <| thn_n ?_
          obtain rfl := Option.some.inj H
          exact ⟨_, Nat.lt_succ_self _, IntKind.wrap .i64 (x6_1 + 1), (Kp.upd (Kp.upd (Kp.cut (Kp.upd (Kp.upd (Kp.upd (Kp.upd (Kp.upd (Kp.upd (Kp.upd (Kp.upd (Kp.upd (Kp.upd K12 rfl) rfl) rfl) rfl) rfl) rfl) rfl) rfl) rfl) rfl) K26 rfl) rfl) rfl), rfl, (Ext.trans (Ext.trans e13 e21) e28), S17⟩
      · refine W_false (congrArg Value.bool q18) <| W_exit <| thn_x <| thn_x <| blk_x <| thn_n ?_
        obtain rfl := Option.some.inj H
        obtain rfl := Option.some.inj S17
        exact ⟨(Kp.upd K12 rfl), e13, rfl⟩
  · rintro s6 w5 ⟨K7, e8, y32⟩
    rw [y32] at C4
    have H := C4
    replace H : _ = some _ := H
    refine thn_n <| W_seq <| W_reg <| L_op (.plain rfl) rfl (ltb rfl) (X_move (v := (S a0)) (K7 0 rfl)) <| L_op (.plain rfl) rfl (ltb rfl) (X_lenS Tryd.underlying9 rfl) <| L_callP (.plain rfl) rfl (ltb rfl) rfl Tryd.call42 (impl_within.calls (w := w5) (a0 := (a0.length : Int)) (a1 := 1) (a2 := 8)) rfl <| fun w33 e34 => L_op (.plain rfl) rfl (ltb rfl) (X_move (v := (.bool (within (a0.length : Int) 1 8))) rfl) <| L_grp 3 [(26, 29)] 28 (.bool ((within (a0.length : Int) 1 8) && (!decide (a0 = ([46] : List UInt8))))) ?_ ?_
    · rcases bool_two (within (a0.length : Int) 1 8) with b34_ | b34_
      · exact L_op (.guard 3 true 25 rfl rfl (ltb rfl) (congrArg Value.bool b34_)) rfl (ltb rfl) (X_move (v := (S a0)) (K7 0 rfl)) <| L_op (.guard 3 true 25 rfl rfl (ltb rfl) (congrArg Value.bool b34_)) rfl (ltb rfl) (X_sne rfl rfl) <| L_op (.plain rfl) rfl (ltb rfl) (X_pick (b := true) (v := (.bool (!decide (a0 = ([46] : List UInt8))))) (congrArg Value.bool b34_) rfl) <| L_nil <| thn_n ⟨(Kp.upd (Kp.upd (Kp.upd (Kp.refl _ _) rfl) rfl) rfl), (and_t b34_), (Ext.refl w33)⟩
      · exact L_skip rfl rfl (ltb rfl) (congrArg Value.bool b34_) rfl rfl (ltb rfl) <| L_skip rfl rfl (ltb rfl) (congrArg Value.bool b34_) rfl rfl (ltb rfl) <| L_op (.plain rfl) rfl (ltb rfl) (X_pick (b := false) (v := (.bool false)) (congrArg Value.bool b34_) rfl) <| L_nil <| thn_n ⟨(Kp.upd (Kp.upd (Kp.upd (Kp.refl _ _) rfl) rfl) rfl), (and_f b34_), (Ext.refl w33)⟩
    intro s40 w36 K37 h38 e39
    refine L_op (.plain rfl) rfl (ltb rfl) (X_move h38) <| L_grp 3 [(30, 33)] 32 (.bool (((within (a0.length : Int) 1 8) && (!decide (a0 = ([46] : List UInt8)))) && (!decide (a0 = ([46, 46] : List UInt8))))) ?_ ?_
    · rcases bool_two ((within (a0.length : Int) 1 8) && (!decide (a0 = ([46] : List UInt8)))) with b40_ | b40_
      · exact L_op (.guard 7 true 29 rfl rfl (ltb rfl) (congrArg Value.bool b40_)) rfl (ltb rfl) (X_move (v := (S a0)) ((K37 0 rfl).trans (K7 0 rfl))) <| L_op (.guard 7 true 29 rfl rfl (ltb rfl) (congrArg Value.bool b40_)) rfl (ltb rfl) (X_sne rfl rfl) <| L_op (.plain rfl) rfl (ltb rfl) (X_pick (b := true) (v := (.bool (!decide (a0 = ([46, 46] : List UInt8))))) (congrArg Value.bool b40_) rfl) <| L_nil <| thn_n ⟨(Kp.upd (Kp.upd (Kp.upd (Kp.refl _ _) rfl) rfl) rfl), (and_t b40_), (Ext.refl w36)⟩
      · exact L_skip rfl rfl (ltb rfl) (congrArg Value.bool b40_) rfl rfl (ltb rfl) <| L_skip rfl rfl (ltb rfl) (congrArg Value.bool b40_) rfl rfl (ltb rfl) <| L_op (.plain rfl) rfl (ltb rfl) (X_pick (b := false) (v := (.bool false)) (congrArg Value.bool b40_) rfl) <| L_nil <| thn_n ⟨(Kp.upd (Kp.upd (Kp.upd (Kp.refl _ _) rfl) rfl) rfl), (and_f b40_), (Ext.refl w36)⟩
    intro s46 w42 K43 h44 e45
    refine L_op (.plain rfl) rfl (ltb rfl) (X_assign h44) <| L_nil <| thn_n <| W_ret <| fin_r ?_
    obtain rfl := Option.some.inj H
    exact fin1 rfl (Ext.trans (Ext.trans (Ext.trans e8 e34) e39) e45)
theorem impl_PartOK.calls {w : World} {a0 : List UInt8} (h0 : a0.length ≤ 4611686018427387904) :
    Calls Tryd.prog 32 #[S a0] w (Rt (RP w (.bool (partOK a0)))) := by
  obtain ⟨k, h⟩ := impl_PartOK.eq a0 h0
  exact impl_PartOK.walk h
/-! spec.l00Cut -/
theorem spec_l00Cut.walk {k : Nat} {w : World} {a0 : List UInt8} {a1 : Int} {r : List (List UInt8)} (H : spec_l00Cut.sh k a0 a1 = some r) :
    Calls Tryd.prog 47 #[S a0, .int .u8 a1] w (Rt (RO 9 1 encS w r)) := by
  unfold spec_l00Cut.sh at H
  refine calls_of_W Tryd.func47 rfl (Nat.le_of_ble_eq_true rfl) Tryd.ntmps47 rfl ?_
  refine W_seq <| W_reg <| L_op (.plain rfl) rfl (ltb rfl) (X_assign (v := (.slice none 0 0)) rfl) <| L_nil <| thn_n <| W_seq <| W_reg <| L_lit (.plain rfl) rfl (ltb rfl) rfl Tryd.underlying34 Tryd.sizeOf9 Tryd.zeroValue9 rfl rfl rfl (vs := []) rfl (lit_all rfl) <| fun b1 w2 z3 z4 e5 k6 => L_op (.plain rfl) rfl (ltb rfl) (X_assign (v := (.slice (some ⟨b1, 0, none⟩) 0 0)) rfl) <| L_nil <| thn_n <| W_seq <| W_reg <| L_op (.plain rfl) rfl (ltb rfl) (X_assign (v := (.int .i64 0)) rfl) <| L_nil <| thn_n <| W_seq <| W_seq <| W_reg <| L_op (.plain rfl) rfl (ltb rfl) (X_assign (v := (.int .i64 0)) rfl) <| L_nil <| thn_n ?_
  obtain ⟨z11, L12, C13⟩ := bind_some H
  clear H
  refine  W_cutQ (fun s0 s9 w9 => ∃ (x5_14 : List (List UInt8)) (v15 : Value) (x6_16 : Int), Kp [(5, 8), (9, 29)] s0 s9 ∧ s9 5 = v15 ∧ Own 9 1 encS w2.heap.size w9 v15 x5_14 ∧ s9 6 = .int .i64 x6_16 ∧ Ext w2 w9 ∧ z11 = .inr (x5_14, x6_16)) ?_ ?_
  · refine W_block <| W_loopI (fun s0 kk s9 w9 => ∃ (x5_7 : List (List UInt8)) (v8 : Value) (x6_9 : Int) (x7_10 : Int), Kp [(5, 8), (9, 29)] s0 s9 ∧ s9 5 = v8 ∧ Own 9 1 encS w2.heap.size w9 v8 x5_7 ∧ s9 6 = .int .i64 x6_9 ∧ s9 7 = .int .i64 x7_10 ∧ Ext w2 w9 ∧ loopF (spec_l00Cut.b1 a0 a1) kk (x5_7, x6_9, x7_10) = some z11) k ⟨([] : List (List UInt8)), (.slice (some ⟨b1, 0, none⟩) 0 0), 0, 0, (Kp.refl _ _), rfl, (Own.zero), rfl, rfl, (Ext.refl w2), L12⟩ ?_
    rintro k21 s22 w23 ⟨x5_7, v8, x6_9, x7_10, K24, h27, h28, h29, h30, e25, L26⟩
    cases k21 with
    | zero => exact absurd L26 (by simp [loopF])
    | succ k21 =>
      obtain ⟨t31, H, S32⟩ := loopF_succ L26
      clear L26
      unfold spec_l00Cut.b1 at H
      refine W_seq <| W_seq <| W_reg <| L_op (.plain rfl) rfl (ltb rfl) (X_move (v := (.int .i64 x7_10)) h30) <| L_op (.plain rfl) rfl (ltb rfl) (X_move (v := (S a0)) (K24 0 rfl)) <| L_op (.plain rfl) rfl (ltb rfl) (X_lenS Tryd.underlying9 rfl) <| L_op (.plain rfl) rfl (ltb rfl) (X_lss rfl rfl) <| L_nil <| thn_n ?_
      rcases bif_two H with ⟨q33, H⟩ | ⟨q33, H⟩
      · refine W_true (congrArg Value.bool q33) <| W_skip <| thn_n <| W_seq <| W_block <| W_seq <| W_reg <| L_op (.plain rfl) rfl (ltb rfl) (X_move (v := (S a0)) (K24 0 rfl)) <| L_op (.plain rfl) rfl (ltb rfl) (X_move (v := (.int .i64 x7_10)) h30) ?_
        obtain ⟨c34, H⟩ := bif_some H
        refine L_op (.plain rfl) rfl (ltb rfl) (X_indexS Tryd.underlying9 rfl rfl (inR_lo c34) (inR_hi c34)) <| L_op (.plain rfl) rfl (ltb rfl) (X_move (v := (.int .u8 a1)) (K24 1 rfl)) <| L_op (.plain rfl) rfl (ltb rfl) (X_eql rfl rfl) <| L_nil <| thn_n ?_
        rcases bif_two H with ⟨q35, H⟩ | ⟨q35, H⟩
        · refine W_true (congrArg Value.bool q35) <| W_seq <| W_reg <| L_op (.plain rfl) rfl (ltb rfl) (X_move (v := v8) h27) <| L_op (.plain rfl) rfl (ltb rfl) (X_move (v := (S a0)) (K24 0 rfl)) <| L_op (.plain rfl) rfl (ltb rfl) (X_move (v := (.int .i64 x6_9)) h29) <| L_op (.plain rfl) rfl (ltb rfl) (X_move (v := (.int .i64 x7_10)) h30) ?_
          obtain ⟨c36, H⟩ := bif_some H
          refine L_op (.plain rfl) rfl (ltb rfl) (X_sliceS Tryd.underlying9 rfl (l := x6_9) (h := x7_10) ⟨_, rfl⟩ ⟨_, rfl⟩ (inS_1 c36) (inS_2 c36) (inS_3 c36)) <| L_lit (.plain rfl) rfl (ltb rfl) rfl Tryd.underlying34 Tryd.sizeOf9 Tryd.zeroValue9 rfl rfl rfl (vs := [(S (sub a0 x6_9 x7_10))]) rfl (lit_all rfl) <| fun b37 w38 z39 z40 e41 k42 => ?_
          obtain ⟨c43, H⟩ := bif_some H
          refine L_append (enc := encS) (.plain rfl) rfl (ltb rfl) rfl El.t34 rfl rfl (Own.ext h28 e41) (Own.rd (Own.new (xs := [sub a0 x6_9 x7_10]) (sz := 1) (enc := encS) (base := w23.heap.size) k42 (Nat.le_of_eq z39) rfl (fun _ _ => by rfl) (Nat.le_of_ble_eq_true rfl))) (ones_S _) (of_decide_eq_true c43) ((Ext.trans e25 e41)).size <| fun v44 w45 o46 z47 g48 => L_op (.plain rfl) rfl (ltb rfl) (X_assign (v := v44) rfl) <| L_nil <| thn_n <| W_reg <| L_op (.plain rfl) rfl (ltb rfl) (X_move (v := (.int .i64 x7_10)) h30) <| L_op (.plain rfl) rfl (ltb rfl) (X_add rfl rfl) <| L_op (.plain rfl) rfl (ltb rfl) (X_assign (v := (.int .i64 (IntKind.wrap .i64 (x7_10 + 1)))) rfl) <| L_nil <| blk_n <| thn_n <| W_reg <| L_op (.plain rfl) rfl (ltb rfl) (X_move (v := (.int .i64 x7_10)) h30) <| L_op (.plain rfl) rfl (ltb rfl) (X_add rfl rfl) <| L_op (.plain rfl) rfl (ltb rfl) (X_assign (v := (.int .i64 (IntKind.wrap .i64 (x7_10 + 1)))) rfl) <| L_nil <| thn_n ?_
          obtain rfl := Option.some.inj H
          exact ⟨_, Nat.lt_succ_self _, x5_7 ++ ([sub a0 x6_9 x7_10] : List (List UInt8)), v44, IntKind.wrap .i64 (x7_10 + 1), IntKind.wrap .i64 (x7_10 + 1), (Kp.upd (Kp.upd (Kp.upd (Kp.upd (Kp.upd (Kp.upd (Kp.upd (Kp.upd (Kp.upd (Kp.upd (Kp.upd (Kp.upd (Kp.upd (Kp.upd (Kp.upd (Kp.upd (Kp.upd (Kp.upd (Kp.upd (Kp.upd (Kp.upd (Kp.upd (Kp.upd K24 rfl) rfl) rfl) rfl) rfl) rfl) rfl) rfl) rfl) rfl) rfl) rfl) rfl) rfl) rfl) rfl) rfl) rfl) rfl) rfl) rfl) rfl) rfl), rfl, o46, rfl, rfl, (g48 _ (Ext.trans e25 e41)), S32⟩
        · refine W_false (congrArg Value.bool q35) <| W_skip <| blk_n <| thn_n <| W_reg <| L_op (.plain rfl) rfl (ltb rfl) (X_move (v := (.int .i64 x7_10)) h30) <| L_op (.plain rfl) rfl (ltb rfl) (X_add rfl rfl) <| L_op (.plain rfl) rfl (ltb rfl) (X_assign (v := (.int .i64 (IntKind.wrap .i64 (x7_10 + 1)))) rfl) <| L_nil <| thn_n ?_
          obtain rfl := Option.some.inj H
          exact ⟨_, Nat.lt_succ_self _, x5_7, v8, x6_9, IntKind.wrap .i64 (x7_10 + 1), (Kp.upd (Kp.upd (Kp.upd (Kp.upd (Kp.upd (Kp.upd (Kp.upd (Kp.upd (Kp.upd (Kp.upd (Kp.upd (Kp.upd K24 rfl) rfl) rfl) rfl) rfl) rfl) rfl) rfl) rfl) rfl) rfl) rfl), h27, h28, h29, rfl, e25, S32⟩
      · refine W_false (congrArg Value.bool q33) <| W_exit <| thn_x <| thn_x <| blk_x <| thn_n ?_
        obtain rfl := Option.some.inj H
        obtain rfl := Option.some.inj S32
        exact ⟨x5_7, v8, x6_9, (Kp.upd (Kp.upd (Kp.upd (Kp.upd K24 rfl) rfl) rfl) rfl), h27, h28, h29, e25, rfl⟩
  · rintro s18 w17 ⟨x5_14, v15, x6_16, K19, h49, h50, h51, e20, y52⟩
    rw [y52] at C13
    have H := C13
    replace H : _ = some _ := H
    refine thn_n <| W_seq <| W_reg <| L_op (.plain rfl) rfl (ltb rfl) (X_move (v := v15) h49) <| L_op (.plain rfl) rfl (ltb rfl) (X_move (v := (S a0)) (K19 0 rfl)) <| L_op (.plain rfl) rfl (ltb rfl) (X_move (v := (.int .i64 x6_16)) h51) ?_
    obtain ⟨c53, H⟩ := bif_some H
    refine L_op (.plain rfl) rfl (ltb rfl) (X_sliceS Tryd.underlying9 rfl (l := x6_16) (h := (a0.length : Int)) ⟨_, rfl⟩ rfl (inS_1 c53) (inS_2 c53) (inS_3 c53)) <| L_lit (.plain rfl) rfl (ltb rfl) rfl Tryd.underlying34 Tryd.sizeOf9 Tryd.zeroValue9 rfl rfl rfl (vs := [(S (sub a0 x6_16 (a0.length : Int)))]) rfl (lit_all rfl) <| fun b54 w55 z56 z57 e58 k59 => ?_
    obtain ⟨c60, H⟩ := bif_some H
    refine L_append (enc := encS) (.plain rfl) rfl (ltb rfl) rfl El.t34 rfl rfl (Own.ext h50 e58) (Own.rd (Own.new (xs := [sub a0 x6_16 (a0.length : Int)]) (sz := 1) (enc := encS) (base := w17.heap.size) k59 (Nat.le_of_eq z56) rfl (fun _ _ => by rfl) (Nat.le_of_ble_eq_true rfl))) (ones_S _) (of_decide_eq_true c60) ((Ext.trans e20 e58)).size <| fun v61 w62 o63 z64 g65 => L_op (.plain rfl) rfl (ltb rfl) (X_assign (v := v61) rfl) <| L_nil <| thn_n <| W_ret <| fin_r ?_
    obtain rfl := Option.some.inj H
    exact fin1o rfl (Ext.trans e5 (g65 _ (Ext.trans e20 e58))) o63 (e5).size
theorem spec_l00Cut.calls {w : World} {a0 : List UInt8} {a1 : Int} (h0 : a0.length ≤ 1048576) :
    Calls Tryd.prog 47 #[S a0, .int .u8 a1] w (Rt (RO 9 1 encS w (cut a1 a0))) := by
  obtain ⟨k, h⟩ := spec_l00Cut.eq a0 a1 h0
  exact spec_l00Cut.walk h
/-! impl.parts -/
theorem impl_parts.walk {w : World} {a0 : List UInt8} (gv : GV 0 w) {r : List (List UInt8)} (H : impl_parts.sh a0 = some r) :
    Calls Tryd.prog 30 #[S a0] w (Rt (RO 9 1 encS w r)) := by
  unfold impl_parts.sh at H
  refine calls_of_W Tryd.func30 rfl (Nat.le_of_ble_eq_true rfl) Tryd.ntmps30 rfl ?_
  refine W_seq <| W_reg <| L_op (.plain rfl) rfl (ltb rfl) (X_assign (v := (.slice none 0 0)) rfl) <| L_nil <| thn_n <| W_seq <| W_reg <| L_op (.plain rfl) rfl (ltb rfl) (X_move (v := (S a0)) rfl) ?_
  obtain ⟨c1, H⟩ := bif_some H
  obtain ⟨c2, H⟩ := bif_some H
  refine L_callO (.plain rfl) rfl (ltb rfl) rfl Tryd.call49 (strings_Split.calls (w := w) (a0 := a0) (a1 := ([47] : List UInt8)) gv (of_decide_eq_true c1) (of_decide_eq_true c2)) rfl <| fun v5 w3 e4 o6 => L_op (.plain rfl) rfl (ltb rfl) (X_assign (v := v5) rfl) <| L_nil <| thn_n <| W_ret <| fin_r ?_
  obtain rfl := Option.some.inj H
  exact fin1o rfl e4 o6 ((Ext.refl w)).size
theorem impl_parts.calls {w : World} {a0 : List UInt8} (gv : GV 0 w) (h0 : a0.length ≤ 1048576) :
    Calls Tryd.prog 30 #[S a0] w (Rt (RO 9 1 encS w (cut 47 a0))) := impl_parts.walk gv (impl_parts.eq a0 h0)
/-! impl.all(string)$1 -/
theorem impl_allS_1.walk {w : World} {a0 : List UInt8} {a1 : List UInt8 → Option Bool} {v_a1 : Value} (f_a1 : ∀ (x0 : List UInt8) (r : Bool), a1 x0 = some r → FnAt Tryd.prog w v_a1 [(S x0)] (.bool r)) (g_a1 : v_a1.cells = #[v_a1]) {b_a1 : Nat} (k_a1 : Blk w b_a1 #[v_a1] 22) {r : Bool} (H : impl_allS_1.sh a0 a1 = some r) :
    Calls Tryd.prog 51 #[S a0, .pointer (some ⟨b_a1, 0, none⟩)] w (Rt (RP w (.bool r))) := by
  unfold impl_allS_1.sh at H
  refine calls_of_W Tryd.func51 rfl (Nat.le_of_ble_eq_true rfl) Tryd.ntmps51 rfl ?_
  refine W_seq <| W_reg <| L_op (.plain rfl) rfl (ltb rfl) (X_assign (v := (.bool false)) rfl) <| L_nil <| thn_n <| W_seq <| W_reg <| L_op (.plain rfl) rfl (ltb rfl) (X_loadB Tryd.isAgg22 k_a1 rfl rfl) <| L_op (.plain rfl) rfl (ltb rfl) (X_move (v := (S a0)) rfl) ?_
  obtain ⟨z1, x2, H⟩ := bind_some H
  refine L_callF (.plain rfl) rfl (ltb rfl) rfl rfl (FnAt.ext (f_a1 _ _ x2) (Ext.refl w)) rfl <| fun w3 e4 => L_op (.plain rfl) rfl (ltb rfl) (X_not rfl) <| L_op (.plain rfl) rfl (ltb rfl) (X_assign (v := (.bool (!z1))) rfl) <| L_nil <| thn_n <| W_ret <| fin_r ?_
  obtain rfl := Option.some.inj H
  exact fin1 rfl e4
theorem impl_allS_1.calls {w : World} {a0 : List UInt8} {a1 : List UInt8 → Option Bool} {r : Bool} {v_a1 : Value} (f_a1 : ∀ (x0 : List UInt8) (r : Bool), a1 x0 = some r → FnAt Tryd.prog w v_a1 [(S x0)] (.bool r)) (g_a1 : v_a1.cells = #[v_a1]) {b_a1 : Nat} (k_a1 : Blk w b_a1 #[v_a1] 22) (H : ((a1 a0).map (!·)) = some r) :
    Calls Tryd.prog 51 #[S a0, .pointer (some ⟨b_a1, 0, none⟩)] w (Rt (RP w (.bool r))) := impl_allS_1.walk f_a1 g_a1 k_a1 (impl_allS_1.eq a0 a1 H)
/-! slices.IndexFunc(()string,string) -/
theorem slices_IndexFuncS.walk {k : Nat} {w : World} {a0 : List (List UInt8)} {a1 : List UInt8 → Option Bool} {v_a0 : Value} (f_a0 : Rd 1 encS w v_a0 a0) {v_a1 : Value} (f_a1 : ∀ (x0 : List UInt8) (r : Bool), a1 x0 = some r → FnAt Tryd.prog w v_a1 [(S x0)] (.bool r)) (g_a1 : v_a1.cells = #[v_a1]) {r : Int} (H : slices_IndexFuncS.sh k a0 a1 = some r) :
    Calls Tryd.prog 57 #[v_a0, v_a1] w (Rt (RP w (.int .i64 r))) := by
  unfold slices_IndexFuncS.sh at H
  refine calls_of_W Tryd.func57 rfl (Nat.le_of_ble_eq_true rfl) Tryd.ntmps57 rfl ?_
  refine W_seq <| W_reg <| L_op (.plain rfl) rfl (ltb rfl) (X_assign (v := (.int .i64 0)) rfl) <| L_nil <| thn_n <| W_seq <| W_seq <| W_reg <| L_op (.plain rfl) rfl (ltb rfl) (X_move (v := v_a0) rfl) <| L_op (.plain rfl) rfl (ltb rfl) (X_lenR Tryd.underlying34 rfl f_a0) <| L_op (.plain rfl) rfl (ltb rfl) (X_move (v := (.int .i64 0)) rfl) <| L_nil <| thn_n ?_
  obtain ⟨z2, L3, C4⟩ := bind_some H
  clear H
  refine  W_cutQ (fun s0 s9 w9 => Kp [(4, 6), (8, 19)] s0 s9 ∧ Ext w w9 ∧ z2 = .inr ()) ?_ ?_
  · refine W_block <| W_loopI (fun s0 kk s9 w9 => ∃ (x8_1 : Int), Kp [(4, 6), (8, 19)] s0 s9 ∧ s9 8 = .int .i64 x8_1 ∧ Ext w w9 ∧ loopF (slices_IndexFuncS.b1 a0 a1) kk x8_1 = some z2) k ⟨0, (Kp.refl _ _), rfl, (Ext.refl w), L3⟩ ?_
    rintro k9 s10 w11 ⟨x8_1, K12, h15, e13, L14⟩
    cases k9 with
    | zero => exact absurd L14 (by simp [loopF])
    | succ k9 =>
      obtain ⟨t16, H, S17⟩ := loopF_succ L14
      clear L14
      unfold slices_IndexFuncS.b1 at H
      refine W_seq <| W_reg <| L_op (.plain rfl) rfl (ltb rfl) (X_lss h15 (K12 7 rfl)) <| L_nil <| thn_n <| W_seq ?_
      rcases bif_two H with ⟨q18, H⟩ | ⟨q18, H⟩
      · refine W_true (congrArg Value.bool q18) <| W_skip <| thn_n <| W_seq <| W_block <| W_seq <| W_reg <| L_op (.plain rfl) rfl (ltb rfl) (X_move (v := (.int .i64 x8_1)) h15) <| L_op (.plain rfl) rfl (ltb rfl) (X_assign (v := (.int .i64 x8_1)) rfl) <| L_nil <| thn_n <| W_seq <| W_reg <| L_op (.plain rfl) rfl (ltb rfl) (X_move (v := v_a1) (K12 1 rfl)) <| L_op (.plain rfl) rfl (ltb rfl) (X_move (v := v_a0) (K12 0 rfl)) <| L_op (.plain rfl) rfl (ltb rfl) (X_move (v := (.int .i64 x8_1)) rfl) ?_
        obtain ⟨c19, H⟩ := bif_some H
        refine L_idx (.plain rfl) rfl (ltb rfl) rfl Tryd.underlying34 Tryd.sizeOf9 rfl (Rd.ext f_a0 e13) rfl c19 <| fun p20 h21 => L_op (.plain rfl) rfl (ltb rfl) (X_loadAt Tryd.isAgg9 rfl h21 rfl) ?_
        obtain ⟨z22, x23, H⟩ := bind_some H
        refine L_callF (.plain rfl) rfl (ltb rfl) rfl rfl (FnAt.ext (f_a1 _ _ x23) e13) rfl <| fun w24 e25 => L_nil <| thn_n ?_
        rcases bif_two H with ⟨q26, H⟩ | ⟨q26, H⟩
        · refine W_true (congrArg Value.bool q26) <| W_seq <| W_reg <| L_op (.plain rfl) rfl (ltb rfl) (X_move (v := (.int .i64 x8_1)) rfl) <| L_op (.plain rfl) rfl (ltb rfl) (X_assign (v := (.int .i64 x8_1)) rfl) <| L_nil <| thn_n <| W_ret <| blk_r <| thn_r <| thn_r <| blk_r <| thn_r <| thn_r <| fin_r ?_
          obtain rfl := Option.some.inj H
          obtain rfl := Option.some.inj S17
          have H := C4
          obtain rfl := Option.some.inj H
          exact fin1 rfl (Ext.trans e13 e25)
        · refine W_false (congrArg Value.bool q26) <| W_skip <| blk_n <| thn_n <| W_reg <| L_op (.plain rfl) rfl (ltb rfl) (X_add h15 rfl) <| L_op (.plain rfl) rfl (ltb rfl) (X_move (v := (.int .i64 (IntKind.wrap .i64 (x8_1 + 1)))) rfl) <| L_nil <| thn_n ?_
          obtain rfl := Option.some.inj H
          exact ⟨_, Nat.lt_succ_self _, IntKind.wrap .i64 (x8_1 + 1), (Kp.upd (Kp.upd (Kp.upd (Kp.upd (Kp.upd (Kp.upd (Kp.upd (Kp.upd (Kp.upd (Kp.upd (Kp.upd K12 rfl) rfl) rfl) rfl) rfl) rfl) rfl) rfl) rfl) rfl) rfl), rfl, (Ext.trans e13 e25), S17⟩
      · refine W_false (congrArg Value.bool q18) <| W_exit <| thn_x <| thn_x <| blk_x <| thn_n ?_
        obtain rfl := Option.some.inj H
        obtain rfl := Option.some.inj S17
        exact ⟨(Kp.upd K12 rfl), e13, rfl⟩
  · rintro s6 w5 ⟨K7, e8, y27⟩
    rw [y27] at C4
    have H := C4
    replace H : _ = some _ := H
    refine thn_n <| W_seq <| W_reg <| L_op (.plain rfl) rfl (ltb rfl) (X_assign (v := (.int .i64 (-1))) rfl) <| L_nil <| thn_n <| W_ret <| fin_r ?_
    obtain rfl := Option.some.inj H
    exact fin1 rfl e8
theorem slices_IndexFuncS.calls {w : World} {a0 : List (List UInt8)} {a1 : List UInt8 → Option Bool} {r : Int} {v_a0 : Value} (f_a0 : Rd 1 encS w v_a0 a0) {v_a1 : Value} (f_a1 : ∀ (x0 : List UInt8) (r : Bool), a1 x0 = some r → FnAt Tryd.prog w v_a1 [(S x0)] (.bool r)) (g_a1 : v_a1.cells = #[v_a1]) (h0 : a0.length ≤ 4611686018427387904) (H : (idxO a1 a0) = some r) :
    Calls Tryd.prog 57 #[v_a0, v_a1] w (Rt (RP w (.int .i64 r))) := by
  obtain ⟨k, h⟩ := slices_IndexFuncS.eq a0 a1 h0 H
  exact slices_IndexFuncS.walk f_a0 f_a1 g_a1 h
/-! slices.ContainsFunc(()string,string) -/
theorem slices_ContainsFuncS.walk {w : World} {a0 : List (List UInt8)} {a1 : List UInt8 → Option Bool} {v_a0 : Value} (f_a0 : Rd 1 encS w v_a0 a0) {v_a1 : Value} (f_a1 : ∀ (x0 : List UInt8) (r : Bool), a1 x0 = some r → FnAt Tryd.prog w v_a1 [(S x0)] (.bool r)) (g_a1 : v_a1.cells = #[v_a1]) {r : Bool} (H : slices_ContainsFuncS.sh a0 a1 = some r) :
    Calls Tryd.prog 50 #[v_a0, v_a1] w (Rt (RP w (.bool r))) := by
  unfold slices_ContainsFuncS.sh at H
  refine calls_of_W Tryd.func50 rfl (Nat.le_of_ble_eq_true rfl) Tryd.ntmps50 rfl ?_
  refine W_seq <| W_reg <| L_op (.plain rfl) rfl (ltb rfl) (X_assign (v := (.bool false)) rfl) <| L_nil <| thn_n <| W_seq <| W_reg <| L_op (.plain rfl) rfl (ltb rfl) (X_move (v := v_a0) rfl) <| L_op (.plain rfl) rfl (ltb rfl) (X_move (v := v_a1) rfl) ?_
  obtain ⟨c1, H⟩ := bif_some H
  obtain ⟨z2, x3, H⟩ := bind_some H
  refine L_callP (.plain rfl) rfl (ltb rfl) rfl Tryd.call57 (slices_IndexFuncS.calls (w := w) (a0 := a0) (a1 := a1) f_a0 (fun x0 r h => FnAt.ext (f_a1 x0 r h) (Ext.refl w)) g_a1 (of_decide_eq_true c1) x3) rfl <| fun w4 e5 => L_op (.plain rfl) rfl (ltb rfl) (X_geq rfl rfl) <| L_op (.plain rfl) rfl (ltb rfl) (X_assign (v := (.bool (decide (0 ≤ z2)))) rfl) <| L_nil <| thn_n <| W_ret <| fin_r ?_
  obtain rfl := Option.some.inj H
  exact fin1 rfl e5
theorem slices_ContainsFuncS.calls {w : World} {a0 : List (List UInt8)} {a1 : List UInt8 → Option Bool} {r : Bool} {v_a0 : Value} (f_a0 : Rd 1 encS w v_a0 a0) {v_a1 : Value} (f_a1 : ∀ (x0 : List UInt8) (r : Bool), a1 x0 = some r → FnAt Tryd.prog w v_a1 [(S x0)] (.bool r)) (g_a1 : v_a1.cells = #[v_a1]) (h0 : a0.length ≤ 4611686018427387904) (H : (anyO a1 a0) = some r) :
    Calls Tryd.prog 50 #[v_a0, v_a1] w (Rt (RP w (.bool r))) := slices_ContainsFuncS.walk f_a0 f_a1 g_a1 (slices_ContainsFuncS.eq a0 a1 h0 H)
/-! impl.all(string) -/
theorem impl_allS.walk {w : World} {a0 : List (List UInt8)} {a1 : List UInt8 → Option Bool} {v_a0 : Value} (f_a0 : Rd 1 encS w v_a0 a0) {v_a1 : Value} (f_a1 : ∀ (x0 : List UInt8) (r : Bool), a1 x0 = some r → FnAt Tryd.prog w v_a1 [(S x0)] (.bool r)) (g_a1 : v_a1.cells = #[v_a1]) {r : Bool} (H : impl_allS.sh a0 a1 = some r) :
    Calls Tryd.prog 31 #[v_a0, v_a1] w (Rt (RP w (.bool r))) := by
  unfold impl_allS.sh at H
  refine calls_of_W Tryd.func31 rfl (Nat.le_of_ble_eq_true rfl) Tryd.ntmps31 rfl ?_
  refine W_seq <| W_reg <| L_box (.plain rfl) rfl (ltb rfl) rfl rfl <| fun b1 w2 z3 z4 e5 k6 => L_op (.plain rfl) rfl (ltb rfl) (X_assign (v := (.bool false)) rfl) <| L_nil <| thn_n <| W_seq <| W_reg <| L_op (.plain rfl) rfl (ltb rfl) (X_move (v := v_a0) rfl) <| L_op (.plain rfl) rfl (ltb rfl) (X_makeFunc (vs := #[]) (us := #[.pointer (some ⟨b1, 0, none⟩)]) rfl rfl) ?_
  obtain ⟨c9, H⟩ := bif_some H
  obtain ⟨z10, x11, H⟩ := bind_some H
  refine L_callP (.plain rfl) rfl (ltb rfl) rfl Tryd.call50 (slices_ContainsFuncS.calls (w := w2) (a0 := a0) (a1 := (fun (x0_ : List UInt8) => ((a1 x0_).map (!·)))) (Rd.ext f_a0 e5) (fun x0_ r h => by exact FnAt.mk Tryd.call51 (by rfl) fun w7 k8 => impl_allS_1.calls (w := w7) (a0 := x0_) (a1 := a1) (fun x0 r h => FnAt.ext (f_a1 x0 r h) (Ext.trans e5 k8)) g_a1 (Blk.ext (Blk.cs k6 g_a1) k8) h) rfl (of_decide_eq_true c9) x11) rfl <| fun w12 e13 => L_op (.plain rfl) rfl (ltb rfl) (X_not rfl) <| L_op (.plain rfl) rfl (ltb rfl) (X_assign (v := (.bool (!z10))) rfl) <| L_nil <| thn_n <| W_ret <| fin_r ?_
  obtain rfl := Option.some.inj H
  exact fin1 rfl (Ext.trans e5 e13)
theorem impl_allS.calls {w : World} {a0 : List (List UInt8)} {a1 : List UInt8 → Option Bool} {r : Bool} {v_a0 : Value} (f_a0 : Rd 1 encS w v_a0 a0) {v_a1 : Value} (f_a1 : ∀ (x0 : List UInt8) (r : Bool), a1 x0 = some r → FnAt Tryd.prog w v_a1 [(S x0)] (.bool r)) (g_a1 : v_a1.cells = #[v_a1]) (h0 : a0.length ≤ 4611686018427387904) (H : (allO a1 a0) = some r) :
    Calls Tryd.prog 31 #[v_a0, v_a1] w (Rt (RP w (.bool r))) := impl_allS.walk f_a0 f_a1 g_a1 (impl_allS.eq a0 a1 h0 H)
/-! impl.PathOK -/
theorem impl_PathOK.walk {w : World} {a0 : List UInt8} (gv : GV 0 w) {r : Bool} (H : impl_PathOK.sh a0 = some r) :
    Calls Tryd.prog 11 #[S a0] w (Rt (RP w (.bool r))) := by
  unfold impl_PathOK.sh at H
  refine calls_of_W Tryd.func11 rfl (Nat.le_of_ble_eq_true rfl) Tryd.ntmps11 rfl ?_
  refine W_seq <| W_reg <| L_op (.plain rfl) rfl (ltb rfl) (X_assign (v := (.bool false)) rfl) <| L_nil <| thn_n <| W_seq <| W_reg <| L_op (.plain rfl) rfl (ltb rfl) (X_move (v := (S a0)) rfl) <| L_op (.plain rfl) rfl (ltb rfl) (X_lenS Tryd.underlying9 rfl) <| L_op (.plain rfl) rfl (ltb rfl) (X_lss rfl rfl) <| L_op (.plain rfl) rfl (ltb rfl) (X_move (v := (.bool (decide ((a0.length : Int) < 36)))) rfl) ?_
  obtain ⟨z2, x3, H⟩ := bind_some H
  refine L_grpE 5 [(7, 12)] 11 (fun q => q = z2) ?_ ?_
  · rcases bif_two x3 with ⟨b0_, H⟩ | ⟨b0_, H⟩
    · refine L_op (.guard 3 true 6 rfl rfl (ltb rfl) (congrArg Value.bool b0_)) rfl (ltb rfl) (X_move (v := (S a0)) rfl) ?_
      obtain ⟨c2, H⟩ := bif_some H
      refine L_callO (.guard 3 true 6 rfl rfl (ltb rfl) (congrArg Value.bool b0_)) rfl (ltb rfl) rfl Tryd.call30 (impl_parts.calls (w := w) (a0 := a0) gv (of_decide_eq_true c2)) rfl <| fun v5 w3 e4 o6 => L_op (.guard 3 true 6 rfl rfl (ltb rfl) (congrArg Value.bool b0_)) rfl (ltb rfl) (X_lenR Tryd.underlying34 rfl (Own.rd o6)) <| L_op (.guard 3 true 6 rfl rfl (ltb rfl) (congrArg Value.bool b0_)) rfl (ltb rfl) (X_leq rfl rfl) <| L_op (.plain rfl) rfl (ltb rfl) (X_pick (b := true) (v := (.bool (decide (((cut 47 a0).length : Int) ≤ 4)))) (congrArg Value.bool b0_) rfl) ?_
      obtain rfl := Option.some.inj H
      exact L_nil <| thn_n ⟨(Kp.upd (Kp.upd (Kp.upd (Kp.upd (Kp.upd (Kp.refl _ _) rfl) rfl) rfl) rfl) rfl), ⟨_, rfl, rfl⟩, e4⟩
    · refine L_skip rfl rfl (ltb rfl) (congrArg Value.bool b0_) rfl rfl (ltb rfl) <| L_skip rfl rfl (ltb rfl) (congrArg Value.bool b0_) rfl rfl (ltb rfl) <| L_skip rfl rfl (ltb rfl) (congrArg Value.bool b0_) rfl rfl (ltb rfl) <| L_skip rfl rfl (ltb rfl) (congrArg Value.bool b0_) rfl rfl (ltb rfl) <| L_op (.plain rfl) rfl (ltb rfl) (X_pick (b := false) (v := (.bool false)) (congrArg Value.bool b0_) rfl) ?_
      obtain rfl := Option.some.inj H
      exact L_nil <| thn_n ⟨(Kp.upd (Kp.upd (Kp.upd (Kp.upd (Kp.upd (Kp.refl _ _) rfl) rfl) rfl) rfl) rfl), ⟨_, rfl, rfl⟩, (Ext.refl w)⟩
  intro s8 w4 z9 K5 hq h6 e7
  rw [hq] at h6; clear hq
  refine L_op (.plain rfl) rfl (ltb rfl) (X_move (v := (.bool z2)) h6) ?_
  obtain ⟨z11, x12, H⟩ := bind_some H
  refine L_grpE 4 [(13, 17)] 16 (fun q => q = z11) ?_ ?_
  · rcases bif_two x12 with ⟨b9_, H⟩ | ⟨b9_, H⟩
    · refine L_op (.guard 9 true 12 rfl rfl (ltb rfl) (congrArg Value.bool b9_)) rfl (ltb rfl) (X_move (v := (S a0)) (K5 0 rfl)) ?_
      obtain ⟨c11, H⟩ := bif_some H
      refine L_callO (.guard 9 true 12 rfl rfl (ltb rfl) (congrArg Value.bool b9_)) rfl (ltb rfl) rfl Tryd.call30 (impl_parts.calls (w := w4) (a0 := a0) (GV.ext gv e7) (of_decide_eq_true c11)) rfl <| fun v14 w12 e13 o15 => ?_
      obtain ⟨c18, H⟩ := bif_some H
      obtain ⟨z19, x20, H⟩ := bind_some H
      refine L_callP (.guard 9 true 12 rfl rfl (ltb rfl) (congrArg Value.bool b9_)) rfl (ltb rfl) rfl Tryd.call31 (impl_allS.calls (w := w12) (a0 := (cut 47 a0)) (a1 := (fun (x0_ : List UInt8) => bif decide (x0_.length ≤ 4611686018427387904) then (some (partOK x0_)) else none)) (Own.rd o15) (fun x0_ r h => by obtain ⟨q0, h⟩ := bif_some h; have h := Option.some.inj h; subst h; exact FnAt.mk Tryd.call32 (by rfl) fun w16 k17 => impl_PartOK.calls (w := w16) (a0 := x0_) (of_decide_eq_true q0)) rfl (of_decide_eq_true c18) x20) rfl <| fun w21 e22 => L_op (.plain rfl) rfl (ltb rfl) (X_pick (b := true) (v := (.bool z19)) (congrArg Value.bool b9_) rfl) ?_
      obtain rfl := Option.some.inj H
      exact L_nil <| thn_n ⟨(Kp.upd (Kp.upd (Kp.upd (Kp.upd (Kp.refl _ _) rfl) rfl) rfl) rfl), ⟨_, rfl, rfl⟩, (Ext.trans e13 e22)⟩
    · refine L_skip rfl rfl (ltb rfl) (congrArg Value.bool b9_) rfl rfl (ltb rfl) <| L_skip rfl rfl (ltb rfl) (congrArg Value.bool b9_) rfl rfl (ltb rfl) <| L_skip rfl rfl (ltb rfl) (congrArg Value.bool b9_) rfl rfl (ltb rfl) <| L_op (.plain rfl) rfl (ltb rfl) (X_pick (b := false) (v := (.bool false)) (congrArg Value.bool b9_) rfl) ?_
      obtain rfl := Option.some.inj H
      exact L_nil <| thn_n ⟨(Kp.upd (Kp.upd (Kp.upd (Kp.upd (Kp.refl _ _) rfl) rfl) rfl) rfl), ⟨_, rfl, rfl⟩, (Ext.refl w4)⟩
  intro s23 w13 z24 K14 hq h15 e16
  rw [hq] at h15; clear hq
  refine L_op (.plain rfl) rfl (ltb rfl) (X_assign (v := (.bool z11)) h15) <| L_nil <| thn_n <| W_ret <| fin_r ?_
  obtain rfl := Option.some.inj H
  exact fin1 rfl (Ext.trans e7 e16)
theorem impl_PathOK.calls {w : World} {a0 : List UInt8} (gv : GV 0 w) :
    Calls Tryd.prog 11 #[S a0] w (Rt (RP w (.bool (pathOK a0)))) := impl_PathOK.walk gv (impl_PathOK.eq a0)
/-! impl.isLong$1 -/
theorem impl_isLong_1.walk {w : World} {a0 : List UInt8} {r : Bool} (H : impl_isLong_1.sh a0 = some r) :
    Calls Tryd.prog 54 #[S a0] w (Rt (RP w (.bool r))) := by
  unfold impl_isLong_1.sh at H
  refine calls_of_W Tryd.func54 rfl (Nat.le_of_ble_eq_true rfl) Tryd.ntmps54 rfl ?_
  refine W_seq <| W_reg <| L_op (.plain rfl) rfl (ltb rfl) (X_assign (v := (.bool false)) rfl) <| L_nil <| thn_n <| W_seq <| W_reg <| L_op (.plain rfl) rfl (ltb rfl) (X_move (v := (S a0)) rfl) <| L_op (.plain rfl) rfl (ltb rfl) (X_lenS Tryd.underlying9 rfl) <| L_op (.plain rfl) rfl (ltb rfl) (X_leq rfl rfl) <| L_op (.plain rfl) rfl (ltb rfl) (X_assign (v := (.bool (decide ((a0.length : Int) ≤ 65536)))) rfl) <| L_nil <| thn_n <| W_ret <| fin_r ?_
  obtain rfl := Option.some.inj H
  exact fin1 rfl (Ext.refl w)
theorem impl_isLong_1.calls {w : World} {a0 : List UInt8} :
    Calls Tryd.prog 54 #[S a0] w (Rt (RP w (.bool (decide (a0.length ≤ 65536))))) := impl_isLong_1.walk (impl_isLong_1.eq a0)
/-! impl.isLong -/
theorem impl_isLong.walk {w : World} {a0 : List (List UInt8)} {v_a0 : Value} (f_a0 : Rd 1 encS w v_a0 a0) {r : Bool} (H : impl_isLong.sh a0 = some r) :
    Calls Tryd.prog 40 #[v_a0] w (Rt (RP w (.bool r))) := by
  unfold impl_isLong.sh at H
  refine calls_of_W Tryd.func40 rfl (Nat.le_of_ble_eq_true rfl) Tryd.ntmps40 rfl ?_
  refine W_seq <| W_reg <| L_op (.plain rfl) rfl (ltb rfl) (X_assign (v := (.bool false)) rfl) <| L_nil <| thn_n <| W_seq <| W_reg <| L_op (.plain rfl) rfl (ltb rfl) (X_move (v := v_a0) rfl) ?_
  obtain ⟨c3, H⟩ := bif_some H
  obtain ⟨z4, x5, H⟩ := bind_some H
  refine L_callP (.plain rfl) rfl (ltb rfl) rfl Tryd.call31 (impl_allS.calls (w := w) (a0 := a0) (a1 := (fun (x0_ : List UInt8) => some (decide (x0_.length ≤ 65536)))) f_a0 (fun x0_ r h => by have h := Option.some.inj h; subst h; exact FnAt.mk Tryd.call54 (by rfl) fun w1 k2 => impl_isLong_1.calls (w := w1) (a0 := x0_)) rfl (of_decide_eq_true c3) x5) rfl <| fun w6 e7 => L_op (.plain rfl) rfl (ltb rfl) (X_not rfl) <| L_op (.plain rfl) rfl (ltb rfl) (X_assign (v := (.bool (!z4))) rfl) <| L_nil <| thn_n <| W_ret <| fin_r ?_
  obtain rfl := Option.some.inj H
  exact fin1 rfl e7
theorem impl_isLong.calls {w : World} {a0 : List (List UInt8)} {v_a0 : Value} (f_a0 : Rd 1 encS w v_a0 a0) (h0 : a0.length ≤ 4611686018427387904) :
    Calls Tryd.prog 40 #[v_a0] w (Rt (RP w (.bool (a0.any fun t => decide (65536 < t.length))))) := impl_isLong.walk f_a0 (impl_isLong.eq a0 h0)
/-! impl.first -/
theorem impl_first.walk {k : Nat} {w : World} {a0 : List (Bool ⊕ Int)} {v_a0 : Value} (f_a0 : Rd 1 (encAny 4 3) w v_a0 a0) {r : Int} (H : impl_first.sh k a0 = some r) :
    Calls Tryd.prog 39 #[v_a0] w (Rt (RP w (.int .i64 r))) := by
  unfold impl_first.sh at H
  refine calls_of_W Tryd.func39 rfl (Nat.le_of_ble_eq_true rfl) Tryd.ntmps39 rfl ?_
  refine W_seq <| W_reg <| L_op (.plain rfl) rfl (ltb rfl) (X_assign (v := (.int .i64 0)) rfl) <| L_nil <| thn_n <| W_seq <| W_seq <| W_reg <| L_op (.plain rfl) rfl (ltb rfl) (X_assign (v := (.int .i64 0)) rfl) <| L_nil <| thn_n ?_
  obtain ⟨z2, L3, C4⟩ := bind_some H
  clear H
  refine  W_cutQ (fun s0 s9 w9 => Kp [(2, 34)] s0 s9 ∧ Ext w w9 ∧ z2 = .inr ()) ?_ ?_
  · refine W_block <| W_loopI (fun s0 kk s9 w9 => ∃ (x3_1 : Int), Kp [(2, 34)] s0 s9 ∧ s9 3 = .int .i64 x3_1 ∧ Ext w w9 ∧ loopF (impl_first.b1 a0) kk x3_1 = some z2) k ⟨0, (Kp.refl _ _), rfl, (Ext.refl w), L3⟩ ?_
    rintro k9 s10 w11 ⟨x3_1, K12, h15, e13, L14⟩
    cases k9 with
    | zero => exact absurd L14 (by simp [loopF])
    | succ k9 =>
      obtain ⟨t16, H, S17⟩ := loopF_succ L14
      clear L14
      unfold impl_first.b1 at H
      refine W_seq <| W_seq <| W_reg <| L_op (.plain rfl) rfl (ltb rfl) (X_move (v := (.int .i64 x3_1)) h15) <| L_op (.plain rfl) rfl (ltb rfl) (X_add rfl rfl) <| L_op (.plain rfl) rfl (ltb rfl) (X_move (v := v_a0) (K12 0 rfl)) <| L_op (.plain rfl) rfl (ltb rfl) (X_lenR Tryd.underlying50 rfl (Rd.ext f_a0 e13)) <| L_op (.plain rfl) rfl (ltb rfl) (X_lss rfl rfl) <| L_nil <| thn_n ?_
      rcases bif_two H with ⟨q18, H⟩ | ⟨q18, H⟩
      · refine W_true (congrArg Value.bool q18) <| W_skip <| thn_n <| W_seq <| W_block <| W_seq <| W_reg <| L_op (.plain rfl) rfl (ltb rfl) (X_move (v := v_a0) (K12 0 rfl)) <| L_op (.plain rfl) rfl (ltb rfl) (X_move (v := (.int .i64 x3_1)) h15) ?_
        obtain ⟨c19, H⟩ := bif_some H
        refine L_idx (.plain rfl) rfl (ltb rfl) rfl Tryd.underlying50 Tryd.sizeOf20 rfl (Rd.ext f_a0 e13) rfl c19 <| fun p20 h21 => L_op (.plain rfl) rfl (ltb rfl) (X_loadAt Tryd.isAgg20 rfl h21 rfl) <| L_op (.plain rfl) rfl (ltb rfl) (X_taB Tryd.underlying4 Tryd.zeroValue4 (by decide) rfl) <| L_op (.plain rfl) rfl (ltb rfl) (X_move (v := (.tuple #[(.bool (anyB (gt a0 x3_1))), (.bool (isB (gt a0 x3_1)))])) rfl) <| L_op (.plain rfl) rfl (ltb rfl) (X_extract (v := (.bool (anyB (gt a0 x3_1)))) rfl rfl) <| L_op (.plain rfl) rfl (ltb rfl) (X_extract (v := (.bool (isB (gt a0 x3_1)))) rfl rfl) <| L_op (.plain rfl) rfl (ltb rfl) (X_assign (v := (.bool (anyB (gt a0 x3_1)))) rfl) <| L_op (.plain rfl) rfl (ltb rfl) (X_assign (v := (.bool (isB (gt a0 x3_1)))) rfl) <| L_nil <| thn_n <| W_seq <| W_reg <| L_op (.plain rfl) rfl (ltb rfl) (X_move (v := (.bool (anyB (gt a0 x3_1)))) rfl) <| L_nil <| thn_n ?_
        rcases bif_two H with ⟨q22, H⟩ | ⟨q22, H⟩
        · refine W_true (congrArg Value.bool q22) <| W_seq <| W_reg <| L_op (.plain rfl) rfl (ltb rfl) (X_move (v := v_a0) (K12 0 rfl)) <| L_op (.plain rfl) rfl (ltb rfl) (X_move (v := (.int .i64 x3_1)) h15) <| L_op (.plain rfl) rfl (ltb rfl) (X_add rfl rfl) ?_
          obtain ⟨c23, H⟩ := bif_some H
          refine L_idx (.plain rfl) rfl (ltb rfl) rfl Tryd.underlying50 Tryd.sizeOf20 rfl (Rd.ext f_a0 e13) rfl c23 <| fun p24 h25 => L_op (.plain rfl) rfl (ltb rfl) (X_loadAt Tryd.isAgg20 rfl h25 rfl) <| L_op (.plain rfl) rfl (ltb rfl) (X_taI Tryd.underlying3 Tryd.zeroValue3 (by decide) rfl) <| L_op (.plain rfl) rfl (ltb rfl) (X_move rfl) <| L_op (.plain rfl) rfl (ltb rfl) (X_extract (v := (.int .i64 (anyI (gt a0 (IntKind.wrap .i64 (x3_1 + 1)))))) rfl rfl) <| L_op (.plain rfl) rfl (ltb rfl) (X_extract (v := (.bool (!isB (gt a0 (IntKind.wrap .i64 (x3_1 + 1)))))) rfl rfl) <| L_op (.plain rfl) rfl (ltb rfl) (X_assign (v := (.int .i64 (anyI (gt a0 (IntKind.wrap .i64 (x3_1 + 1)))))) rfl) <| L_op (.plain rfl) rfl (ltb rfl) (X_assign (v := (.bool (!isB (gt a0 (IntKind.wrap .i64 (x3_1 + 1)))))) rfl) <| L_nil <| thn_n <| W_seq <| W_reg <| L_op (.plain rfl) rfl (ltb rfl) (X_move (v := (.int .i64 (anyI (gt a0 (IntKind.wrap .i64 (x3_1 + 1)))))) rfl) <| L_op (.plain rfl) rfl (ltb rfl) (X_assign (v := (.int .i64 (anyI (gt a0 (IntKind.wrap .i64 (x3_1 + 1)))))) rfl) <| L_nil <| thn_n <| W_ret <| blk_r <| thn_r <| thn_r <| blk_r <| thn_r <| thn_r <| fin_r ?_
          obtain rfl := Option.some.inj H
          obtain rfl := Option.some.inj S17
          have H := C4
          obtain rfl := Option.some.inj H
          exact fin1 rfl e13
        · refine W_false (congrArg Value.bool q22) <| W_skip <| blk_n <| thn_n <| W_reg <| L_op (.plain rfl) rfl (ltb rfl) (X_move (v := (.int .i64 x3_1)) h15) <| L_op (.plain rfl) rfl (ltb rfl) (X_add rfl rfl) <| L_op (.plain rfl) rfl (ltb rfl) (X_assign (v := (.int .i64 (IntKind.wrap .i64 (x3_1 + 2)))) rfl) <| L_nil <| thn_n ?_
          obtain rfl := Option.some.inj H
          exact ⟨_, Nat.lt_succ_self _, IntKind.wrap .i64 (x3_1 + 2), (Kp.upd (Kp.upd (Kp.upd (Kp.upd (Kp.upd (Kp.upd (Kp.upd (Kp.upd (Kp.upd (Kp.upd (Kp.upd (Kp.upd (Kp.upd (Kp.upd (Kp.upd (Kp.upd (Kp.upd (Kp.upd (Kp.upd K12 rfl) rfl) rfl) rfl) rfl) rfl) rfl) rfl) rfl) rfl) rfl) rfl) rfl) rfl) rfl) rfl) rfl) rfl) rfl), rfl, e13, S17⟩
      · refine W_false (congrArg Value.bool q18) <| W_exit <| thn_x <| thn_x <| blk_x <| thn_n ?_
        obtain rfl := Option.some.inj H
        obtain rfl := Option.some.inj S17
        exact ⟨(Kp.upd (Kp.upd (Kp.upd (Kp.upd (Kp.upd K12 rfl) rfl) rfl) rfl) rfl), e13, rfl⟩
  · rintro s6 w5 ⟨K7, e8, y26⟩
    rw [y26] at C4
    have H := C4
    replace H : _ = some _ := H
    refine thn_n <| W_seq <| W_reg <| L_op (.plain rfl) rfl (ltb rfl) (X_assign (v := (.int .i64 0)) rfl) <| L_nil <| thn_n <| W_ret <| fin_r ?_
    obtain rfl := Option.some.inj H
    exact fin1 rfl e8
theorem impl_first.calls {w : World} {a0 : List (Bool ⊕ Int)} {v_a0 : Value} (f_a0 : Rd 1 (encAny 4 3) w v_a0 a0) (h0 : a0.length ≤ 4611686018427387904) :
    Calls Tryd.prog 39 #[v_a0] w (Rt (RP w (.int .i64 (firstOf a0)))) := by
  obtain ⟨k, h⟩ := impl_first.eq a0 h0
  exact impl_first.walk f_a0 h
/-! spec.l01OK -/
theorem spec_l01OK.walk {k : Nat} {w : World} {a0 : List UInt8} {r : Bool} (H : spec_l01OK.sh k a0 = some r) :
    Calls Tryd.prog 29 #[S a0] w (Rt (RP w (.bool r))) := by
  unfold spec_l01OK.sh at H
  refine calls_of_W Tryd.func29 rfl (Nat.le_of_ble_eq_true rfl) Tryd.ntmps29 rfl ?_
  refine W_seq <| W_reg <| L_op (.plain rfl) rfl (ltb rfl) (X_assign (v := (.bool false)) rfl) <| L_nil <| thn_n <| W_seq <| W_seq <| W_reg <| L_op (.plain rfl) rfl (ltb rfl) (X_move (v := (S a0)) rfl) <| L_op (.plain rfl) rfl (ltb rfl) (X_lenS Tryd.underlying9 rfl) <| L_op (.plain rfl) rfl (ltb rfl) (X_gtr rfl rfl) <| L_nil <| thn_n ?_
  rcases bif_two H with ⟨q1, H⟩ | ⟨q1, H⟩
  · refine W_true (congrArg Value.bool q1) <| W_seq <| W_reg <| L_op (.plain rfl) rfl (ltb rfl) (X_assign (v := (.bool false)) rfl) <| L_nil <| thn_n <| W_ret <| thn_r <| fin_r ?_
    obtain rfl := Option.some.inj H
    exact fin1 rfl (Ext.refl w)
  · refine W_false (congrArg Value.bool q1) <| W_skip <| thn_n <| W_seq <| W_reg <| L_op (.plain rfl) rfl (ltb rfl) (X_move (v := (S a0)) rfl) ?_
    obtain ⟨c2, H⟩ := bif_some H
    refine L_callO (.plain rfl) rfl (ltb rfl) rfl Tryd.call47 (spec_l00Cut.calls (w := w) (a0 := a0) (a1 := 47) (of_decide_eq_true c2)) rfl <| fun v5 w3 e4 o6 => L_op (.plain rfl) rfl (ltb rfl) (X_assign (v := v5) rfl) <| L_nil <| thn_n <| W_seq <| W_seq <| W_reg <| L_op (.plain rfl) rfl (ltb rfl) (X_move (v := v5) rfl) <| L_op (.plain rfl) rfl (ltb rfl) (X_lenR Tryd.underlying34 rfl (Own.rd o6)) <| L_op (.plain rfl) rfl (ltb rfl) (X_gtr rfl rfl) <| L_nil <| thn_n ?_
    rcases bif_two H with ⟨q7, H⟩ | ⟨q7, H⟩
    · refine W_true (congrArg Value.bool q7) <| W_seq <| W_reg <| L_op (.plain rfl) rfl (ltb rfl) (X_assign (v := (.bool false)) rfl) <| L_nil <| thn_n <| W_ret <| thn_r <| fin_r ?_
      obtain rfl := Option.some.inj H
      exact fin1 rfl e4
    · refine W_false (congrArg Value.bool q7) <| W_skip <| thn_n <| W_seq <| W_seq <| W_reg <| L_op (.plain rfl) rfl (ltb rfl) (X_assign (v := (.int .i64 0)) rfl) <| L_nil <| thn_n ?_
      obtain ⟨z9, L10, C11⟩ := bind_some H
      clear H
      refine  W_cutQ (fun s0 s9 w9 => Kp [(2, 3), (4, 5), (13, 25)] s0 s9 ∧ Ext w3 w9 ∧ z9 = .inr ()) ?_ ?_
      · refine W_block <| W_loopI (fun s0 kk s9 w9 => ∃ (x4_8 : Int), Kp [(2, 3), (4, 5), (13, 25)] s0 s9 ∧ s9 4 = .int .i64 x4_8 ∧ Ext w3 w9 ∧ loopF (spec_l01OK.b1 a0) kk x4_8 = some z9) k ⟨0, (Kp.refl _ _), rfl, (Ext.refl w3), L10⟩ ?_
        rintro k16 s17 w18 ⟨x4_8, K19, h22, e20, L21⟩
        cases k16 with
        | zero => exact absurd L21 (by simp [loopF])
        | succ k16 =>
          obtain ⟨t23, H, S24⟩ := loopF_succ L21
          clear L21
          unfold spec_l01OK.b1 at H
          refine W_seq <| W_seq <| W_reg <| L_op (.plain rfl) rfl (ltb rfl) (X_move (v := (.int .i64 x4_8)) h22) <| L_op (.plain rfl) rfl (ltb rfl) (X_move (v := v5) (K19 3 rfl)) <| L_op (.plain rfl) rfl (ltb rfl) (X_lenR Tryd.underlying34 rfl (Own.rd (Own.ext o6 e20))) <| L_op (.plain rfl) rfl (ltb rfl) (X_lss rfl rfl) <| L_nil <| thn_n ?_
          rcases bif_two H with ⟨q25, H⟩ | ⟨q25, H⟩
          · refine W_true (congrArg Value.bool q25) <| W_skip <| thn_n <| W_seq <| W_block <| W_seq <| W_reg <| L_op (.plain rfl) rfl (ltb rfl) (X_move (v := v5) (K19 3 rfl)) <| L_op (.plain rfl) rfl (ltb rfl) (X_move (v := (.int .i64 x4_8)) h22) ?_
            obtain ⟨c26, H⟩ := bif_some H
            refine L_idx (.plain rfl) rfl (ltb rfl) rfl Tryd.underlying34 Tryd.sizeOf9 rfl (Own.rd (Own.ext o6 e20)) rfl c26 <| fun p27 h28 => L_op (.plain rfl) rfl (ltb rfl) (X_loadAt Tryd.isAgg9 rfl h28 rfl) <| L_callP (.plain rfl) rfl (ltb rfl) rfl Tryd.call36 (spec_l01Part.calls (w := w18) (a0 := gt (cut 47 a0) x4_8)) rfl <| fun w29 e30 => L_op (.plain rfl) rfl (ltb rfl) (X_not rfl) <| L_nil <| thn_n ?_
            rcases bif_two H with ⟨q31, H⟩ | ⟨q31, H⟩
            · refine W_true (congrArg Value.bool q31) <| W_seq <| W_reg <| L_op (.plain rfl) rfl (ltb rfl) (X_assign (v := (.bool false)) rfl) <| L_nil <| thn_n <| W_ret <| blk_r <| thn_r <| thn_r <| blk_r <| thn_r <| thn_r <| fin_r ?_
              obtain rfl := Option.some.inj H
              obtain rfl := Option.some.inj S24
              have H := C11
              obtain rfl := Option.some.inj H
              exact fin1 rfl (Ext.trans (Ext.trans e4 e20) e30)
            · refine W_false (congrArg Value.bool q31) <| W_skip <| blk_n <| thn_n <| W_reg <| L_op (.plain rfl) rfl (ltb rfl) (X_move (v := (.int .i64 x4_8)) h22) <| L_op (.plain rfl) rfl (ltb rfl) (X_add rfl rfl) <| L_op (.plain rfl) rfl (ltb rfl) (X_assign (v := (.int .i64 (IntKind.wrap .i64 (x4_8 + 1)))) rfl) <| L_nil <| thn_n ?_
              obtain rfl := Option.some.inj H
              exact ⟨_, Nat.lt_succ_self _, IntKind.wrap .i64 (x4_8 + 1), (Kp.upd (Kp.upd (Kp.upd (Kp.upd (Kp.upd (Kp.upd (Kp.upd (Kp.upd (Kp.upd (Kp.upd (Kp.upd (Kp.upd (Kp.upd K19 rfl) rfl) rfl) rfl) rfl) rfl) rfl) rfl) rfl) rfl) rfl) rfl) rfl), rfl, (Ext.trans e20 e30), S24⟩
          · refine W_false (congrArg Value.bool q25) <| W_exit <| thn_x <| thn_x <| blk_x <| thn_n ?_
            obtain rfl := Option.some.inj H
            obtain rfl := Option.some.inj S24
            exact ⟨(Kp.upd (Kp.upd (Kp.upd (Kp.upd K19 rfl) rfl) rfl) rfl), e20, rfl⟩
      · rintro s13 w12 ⟨K14, e15, y32⟩
        rw [y32] at C11
        have H := C11
        replace H : _ = some _ := H
        refine thn_n <| W_seq <| W_reg <| L_op (.plain rfl) rfl (ltb rfl) (X_assign (v := (.bool true)) rfl) <| L_nil <| thn_n <| W_ret <| fin_r ?_
        obtain rfl := Option.some.inj H
        exact fin1 rfl (Ext.trans e4 e15)
theorem spec_l01OK.calls {w : World} {a0 : List UInt8} :
    Calls Tryd.prog 29 #[S a0] w (Rt (RP w (.bool (pathOK a0)))) := by
  obtain ⟨k, h⟩ := spec_l01OK.eq a0
  exact spec_l01OK.walk h
/-! spec.PathOK -/
theorem spec_PathOK.walk {w : World} {a0 : List UInt8} {r : Bool} (H : spec_PathOK.sh a0 = some r) :
    Calls Tryd.prog 10 #[S a0] w (Rt (RP w (.bool r))) := by
  unfold spec_PathOK.sh at H
  refine calls_of_W Tryd.func10 rfl (Nat.le_of_ble_eq_true rfl) Tryd.ntmps10 rfl ?_
  refine W_seq <| W_reg <| L_op (.plain rfl) rfl (ltb rfl) (X_assign (v := (.bool false)) rfl) <| L_nil <| thn_n <| W_seq <| W_seq <| W_reg <| L_op (.plain rfl) rfl (ltb rfl) (X_move (v := (S a0)) rfl) <| L_op (.plain rfl) rfl (ltb rfl) (X_lenS Tryd.underlying9 rfl) <| L_op (.plain rfl) rfl (ltb rfl) (X_gtr rfl rfl) <| L_nil <| thn_n ?_
  rcases bif_two H with ⟨q1, H⟩ | ⟨q1, H⟩
  · refine W_true (congrArg Value.bool q1) <| W_seq <| W_reg <| L_op (.plain rfl) rfl (ltb rfl) (X_assign (v := (.bool false)) rfl) <| L_nil <| thn_n <| W_ret <| thn_r <| fin_r ?_
    obtain rfl := Option.some.inj H
    exact fin1 rfl (Ext.refl w)
  · refine W_false (congrArg Value.bool q1) <| W_skip <| thn_n <| W_seq <| W_reg <| L_op (.plain rfl) rfl (ltb rfl) (X_move (v := (S a0)) rfl) <| L_callP (.plain rfl) rfl (ltb rfl) rfl Tryd.call29 (spec_l01OK.calls (w := w) (a0 := a0)) rfl <| fun w2 e3 => L_op (.plain rfl) rfl (ltb rfl) (X_assign (v := (.bool (pathOK a0))) rfl) <| L_nil <| thn_n <| W_ret <| fin_r ?_
    obtain rfl := Option.some.inj H
    exact fin1 rfl e3
theorem spec_PathOK.calls {w : World} {a0 : List UInt8} :
    Calls Tryd.prog 10 #[S a0] w (Rt (RP w (.bool (pathOK a0)))) := spec_PathOK.walk (spec_PathOK.eq a0)
/-! laws.FnExactPathOK -/
theorem law_PathOK.walk {w : World} {a0 : List UInt8} (gv : GV 0 w) {r : Bool} (H : law_PathOK.sh a0 = some r) :
    Calls Tryd.prog 3 #[S a0] w (Rt (RP w (.bool r))) := by
  unfold law_PathOK.sh at H
  refine calls_of_W Tryd.func3 rfl (Nat.le_of_ble_eq_true rfl) Tryd.ntmps3 rfl ?_
  refine W_seq <| W_reg <| L_op (.plain rfl) rfl (ltb rfl) (X_assign (v := (.bool false)) rfl) <| L_nil <| thn_n <| W_seq <| W_seq <| W_reg <| L_op (.plain rfl) rfl (ltb rfl) (X_move (v := (S a0)) rfl) <| L_op (.plain rfl) rfl (ltb rfl) (X_lenS Tryd.underlying9 rfl) <| L_op (.plain rfl) rfl (ltb rfl) (X_gtr rfl rfl) <| L_nil <| thn_n ?_
  rcases bif_two H with ⟨q1, H⟩ | ⟨q1, H⟩
  · refine W_true (congrArg Value.bool q1) <| W_seq <| W_reg <| L_op (.plain rfl) rfl (ltb rfl) (X_assign (v := (.bool true)) rfl) <| L_nil <| thn_n <| W_ret <| thn_r <| fin_r ?_
    obtain rfl := Option.some.inj H
    exact fin1 rfl (Ext.refl w)
  · refine W_false (congrArg Value.bool q1) <| W_skip <| thn_n <| W_seq <| W_reg <| L_op (.plain rfl) rfl (ltb rfl) (X_move (v := (S a0)) rfl) <| L_callP (.plain rfl) rfl (ltb rfl) rfl Tryd.call10 (spec_PathOK.calls (w := w) (a0 := a0)) rfl <| fun w2 e3 => L_op (.plain rfl) rfl (ltb rfl) (X_assign (v := (.bool (pathOK a0))) rfl) <| L_nil <| thn_n <| W_seq <| W_reg <| L_op (.plain rfl) rfl (ltb rfl) (X_move (v := (S a0)) rfl) <| L_callP (.plain rfl) rfl (ltb rfl) rfl Tryd.call11 (impl_PathOK.calls (w := w2) (a0 := a0) (GV.ext gv e3)) rfl <| fun w4 e5 => L_op (.plain rfl) rfl (ltb rfl) (X_assign (v := (.bool (pathOK a0))) rfl) <| L_nil <| thn_n <| W_seq <| W_seq <| W_reg <| L_op (.plain rfl) rfl (ltb rfl) (X_move (v := (.bool (pathOK a0))) rfl) <| L_op (.plain rfl) rfl (ltb rfl) (X_move (v := (.bool (pathOK a0))) rfl) <| L_op (.plain rfl) rfl (ltb rfl) (X_bne Tryd.underlying4 rfl rfl) <| L_nil <| thn_n ?_
    rcases bif_two H with ⟨q6, H⟩ | ⟨q6, H⟩
    · refine W_true (congrArg Value.bool q6) <| W_seq <| W_reg <| L_op (.plain rfl) rfl (ltb rfl) (X_assign (v := (.bool false)) rfl) <| L_nil <| thn_n <| W_ret <| thn_r <| fin_r ?_
      obtain rfl := Option.some.inj H
      exact fin1 rfl (Ext.trans e3 e5)
    · refine W_false (congrArg Value.bool q6) <| W_skip <| thn_n <| W_seq <| W_reg <| L_op (.plain rfl) rfl (ltb rfl) (X_assign (v := (.bool true)) rfl) <| L_nil <| thn_n <| W_ret <| fin_r ?_
      obtain rfl := Option.some.inj H
      exact fin1 rfl (Ext.trans e3 e5)
theorem law_PathOK.calls {w : World} {a0 : List UInt8} (gv : GV 0 w) :
    Calls Tryd.prog 3 #[S a0] w (Rt (RP w (.bool true))) := law_PathOK.walk gv (law_PathOK.eq a0)
/-! laws.eqStringS -/
theorem laws_eqStringS.walk {k : Nat} {w : World} {a0 : List (List UInt8)} {a1 : List (List UInt8)} {v_a0 : Value} (f_a0 : Rd 1 encS w v_a0 a0) {v_a1 : Value} (f_a1 : Rd 1 encS w v_a1 a1) {r : Bool} (H : laws_eqStringS.sh k a0 a1 = some r) :
    Calls Tryd.prog 26 #[v_a0, v_a1] w (Rt (RP w (.bool r))) := by
  unfold laws_eqStringS.sh at H
  refine calls_of_W Tryd.func26 rfl (Nat.le_of_ble_eq_true rfl) Tryd.ntmps26 rfl ?_
  refine W_seq <| W_reg <| L_op (.plain rfl) rfl (ltb rfl) (X_assign (v := (.bool false)) rfl) <| L_nil <| thn_n <| W_seq <| W_seq <| W_reg <| L_op (.plain rfl) rfl (ltb rfl) (X_move (v := v_a0) rfl) <| L_op (.plain rfl) rfl (ltb rfl) (X_lenR Tryd.underlying34 rfl f_a0) <| L_op (.plain rfl) rfl (ltb rfl) (X_move (v := v_a1) rfl) <| L_op (.plain rfl) rfl (ltb rfl) (X_lenR Tryd.underlying34 rfl f_a1) <| L_op (.plain rfl) rfl (ltb rfl) (X_neq rfl rfl) <| L_nil <| thn_n ?_
  rcases bif_two H with ⟨q1, H⟩ | ⟨q1, H⟩
  · refine W_true (congrArg Value.bool q1) <| W_seq <| W_reg <| L_op (.plain rfl) rfl (ltb rfl) (X_assign (v := (.bool false)) rfl) <| L_nil <| thn_n <| W_ret <| thn_r <| fin_r ?_
    obtain rfl := Option.some.inj H
    exact fin1 rfl (Ext.refl w)
  · refine W_false (congrArg Value.bool q1) <| W_skip <| thn_n <| W_seq <| W_seq <| W_reg <| L_op (.plain rfl) rfl (ltb rfl) (X_assign (v := (.int .i64 0)) rfl) <| L_nil <| thn_n ?_
    obtain ⟨z3, L4, C5⟩ := bind_some H
    clear H
    refine  W_cutQ (fun s0 s9 w9 => Kp [(4, 6), (11, 26)] s0 s9 ∧ Ext w w9 ∧ z3 = .inr ()) ?_ ?_
    · refine W_block <| W_loopI (fun s0 kk s9 w9 => ∃ (x5_2 : Int), Kp [(4, 6), (11, 26)] s0 s9 ∧ s9 5 = .int .i64 x5_2 ∧ Ext w w9 ∧ loopF (laws_eqStringS.b1 a0 a1) kk x5_2 = some z3) k ⟨0, (Kp.refl _ _), rfl, (Ext.refl w), L4⟩ ?_
      rintro k10 s11 w12 ⟨x5_2, K13, h16, e14, L15⟩
      cases k10 with
      | zero => exact absurd L15 (by simp [loopF])
      | succ k10 =>
        obtain ⟨t17, H, S18⟩ := loopF_succ L15
        clear L15
        unfold laws_eqStringS.b1 at H
        refine W_seq <| W_seq <| W_reg <| L_op (.plain rfl) rfl (ltb rfl) (X_move (v := (.int .i64 x5_2)) h16) <| L_op (.plain rfl) rfl (ltb rfl) (X_move (v := v_a0) (K13 0 rfl)) <| L_op (.plain rfl) rfl (ltb rfl) (X_lenR Tryd.underlying34 rfl (Rd.ext f_a0 e14)) <| L_op (.plain rfl) rfl (ltb rfl) (X_lss rfl rfl) <| L_nil <| thn_n ?_
        rcases bif_two H with ⟨q19, H⟩ | ⟨q19, H⟩
        · refine W_true (congrArg Value.bool q19) <| W_skip <| thn_n <| W_seq <| W_block <| W_seq ?_
          obtain ⟨c20, H⟩ := bif_some H
          obtain ⟨c23, H⟩ := bif_some H
          refine W_drawM [LEq v_a0, LEq (.int .i64 x5_2), LAt0 (encS (gt a0 x5_2)), LEq (S (gt a0 x5_2)), LEq v_a1, LEq (.int .i64 x5_2), LAt0 (encS (gt a1 x5_2)), LEq (S (gt a1 x5_2)), LEq (.bool (!decide ((gt a0 x5_2) = (gt a1 x5_2))))] (by kernel_rfl) (by kernel_rfl) ⟨LEq.mono, LEq.mono, LAt0.mono, LEq.mono, LEq.mono, LEq.mono, LAt0.mono, LEq.mono, LEq.mono, trivial⟩ ⟨?_, ?_, ?_, ?_, ?_, ?_, ?_, ?_, ?_, trivial⟩ ?_
          · intro s26 w27 e28 hf29 hd30 _
            exact L_op (.plain rfl) rfl (ltb rfl) (X_move (v := v_a0) ((hf29 0 rfl).trans (K13 0 rfl))) <| L_nil <| stepEnd rfl rfl (Ext.refl w27) rfl
          · intro s31 w32 e33 hf34 hd35 _
            exact L_op (.plain rfl) rfl (ltb rfl) (X_move (v := (.int .i64 x5_2)) ((hf34 5 rfl).trans h16)) <| L_nil <| stepEnd rfl rfl (Ext.refl w32) rfl
          · intro s36 w37 e38 hf39 hd40 _
            have d41 : s36 17 = v_a0 := (hd40 0 rfl)
            have d42 : s36 18 = (.int .i64 x5_2) := (hd40 1 rfl)
            have c43 := c20
            exact L_idx (.plain rfl) rfl (ltb rfl) rfl Tryd.underlying34 Tryd.sizeOf9 d41 (Rd.ext f_a0 (Ext.trans e14 e38)) d42 c43 <| fun p44 h45 => L_nil <| stepEnd rfl rfl (Ext.refl w37) ⟨_, rfl, h45⟩
          · intro s46 w47 e48 hf49 hd50 _
            obtain ⟨p51, h52, h53⟩ := (hd50 2 rfl)
            exact L_op (.plain rfl) rfl (ltb rfl) (X_loadAt Tryd.isAgg9 h52 h53 rfl) <| L_nil <| stepEnd rfl rfl (Ext.refl w47) rfl
          · intro s54 w55 e56 hf57 hd58 _
            exact L_op (.plain rfl) rfl (ltb rfl) (X_move (v := v_a1) ((hf57 1 rfl).trans (K13 1 rfl))) <| L_nil <| stepEnd rfl rfl (Ext.refl w55) rfl
          · intro s59 w60 e61 hf62 hd63 _
            exact L_op (.plain rfl) rfl (ltb rfl) (X_move (v := (.int .i64 x5_2)) ((hf62 5 rfl).trans h16)) <| L_nil <| stepEnd rfl rfl (Ext.refl w60) rfl
          · intro s64 w65 e66 hf67 hd68 _
            have d69 : s64 21 = v_a1 := (hd68 4 rfl)
            have d70 : s64 22 = (.int .i64 x5_2) := (hd68 5 rfl)
            have c71 := c23
            exact L_idx (.plain rfl) rfl (ltb rfl) rfl Tryd.underlying34 Tryd.sizeOf9 d69 (Rd.ext f_a1 (Ext.trans e14 e66)) d70 c71 <| fun p72 h73 => L_nil <| stepEnd rfl rfl (Ext.refl w65) ⟨_, rfl, h73⟩
          · intro s74 w75 e76 hf77 hd78 _
            obtain ⟨p79, h80, h81⟩ := (hd78 6 rfl)
            exact L_op (.plain rfl) rfl (ltb rfl) (X_loadAt Tryd.isAgg9 h80 h81 rfl) <| L_nil <| stepEnd rfl rfl (Ext.refl w75) rfl
          · intro s82 w83 e84 hf85 hd86 _
            have d87 : s82 20 = (S (gt a0 x5_2)) := (hd86 3 rfl)
            have d88 : s82 24 = (S (gt a1 x5_2)) := (hd86 7 rfl)
            exact L_op (.plain rfl) rfl (ltb rfl) (X_sne d87 d88) <| L_nil <| stepEnd rfl rfl (Ext.refl w83) rfl
          intro s89 w90 e91 hf92 ha93
          have K94 := Kp.ofD (kp := [(17, 26)]) rfl hf92
          have d95 : s89 25 = (.bool (!decide ((gt a0 x5_2) = (gt a1 x5_2)))) := ha93 8 rfl
          clear ha93 hf92
          refine thn_n ?_
          rcases bif_two H with ⟨q96, H⟩ | ⟨q96, H⟩
          · refine W_true (d95.trans (congrArg Value.bool q96)) <| W_seq <| W_reg <| L_op (.plain rfl) rfl (ltb rfl) (X_assign (v := (.bool false)) rfl) <| L_nil <| thn_n <| W_ret <| blk_r <| thn_r <| thn_r <| blk_r <| thn_r <| thn_r <| fin_r ?_
            obtain rfl := Option.some.inj H
            obtain rfl := Option.some.inj S18
            have H := C5
            obtain rfl := Option.some.inj H
            exact fin1 rfl (Ext.trans e14 e91)
          · refine W_false (d95.trans (congrArg Value.bool q96)) <| W_skip <| blk_n <| thn_n <| W_reg <| L_op (.plain rfl) rfl (ltb rfl) (X_move (v := (.int .i64 x5_2)) ((K94 5 rfl).trans h16)) <| L_op (.plain rfl) rfl (ltb rfl) (X_add rfl rfl) <| L_op (.plain rfl) rfl (ltb rfl) (X_assign (v := (.int .i64 (IntKind.wrap .i64 (x5_2 + 1)))) rfl) <| L_nil <| thn_n ?_
            obtain rfl := Option.some.inj H
            exact ⟨_, Nat.lt_succ_self _, IntKind.wrap .i64 (x5_2 + 1), (Kp.upd (Kp.upd (Kp.upd (Kp.cut (Kp.upd (Kp.upd (Kp.upd (Kp.upd K13 rfl) rfl) rfl) rfl) K94 rfl) rfl) rfl) rfl), rfl, (Ext.trans e14 e91), S18⟩
        · refine W_false (congrArg Value.bool q19) <| W_exit <| thn_x <| thn_x <| blk_x <| thn_n ?_
          obtain rfl := Option.some.inj H
          obtain rfl := Option.some.inj S18
          exact ⟨(Kp.upd (Kp.upd (Kp.upd (Kp.upd K13 rfl) rfl) rfl) rfl), e14, rfl⟩
    · rintro s7 w6 ⟨K8, e9, y97⟩
      rw [y97] at C5
      have H := C5
      replace H : _ = some _ := H
      refine thn_n <| W_seq <| W_reg <| L_op (.plain rfl) rfl (ltb rfl) (X_assign (v := (.bool true)) rfl) <| L_nil <| thn_n <| W_ret <| fin_r ?_
      obtain rfl := Option.some.inj H
      exact fin1 rfl e9
theorem laws_eqStringS.calls {w : World} {a0 : List (List UInt8)} {a1 : List (List UInt8)} {v_a0 : Value} (f_a0 : Rd 1 encS w v_a0 a0) {v_a1 : Value} (f_a1 : Rd 1 encS w v_a1 a1) (h0 : a0.length ≤ 4611686018427387904) :
    Calls Tryd.prog 26 #[v_a0, v_a1] w (Rt (RP w (.bool (decide (a0 = a1))))) := by
  obtain ⟨k, h⟩ := laws_eqStringS.eq a0 a1 h0
  exact laws_eqStringS.walk f_a0 f_a1 h
/-! laws.szRecord -/
theorem laws_szRecord.walk {w : World} {a0 : Rec} {a1 : Int} {r : Int} (H : laws_szRecord.sh a0 a1 = some r) :
    Calls Tryd.prog 16 #[.agg (encRec a0).toArray, .int .i64 a1] w (Rt (RP w (.int .i64 r))) := by
  unfold laws_szRecord.sh at H
  refine calls_of_W Tryd.func16 rfl (Nat.le_of_ble_eq_true rfl) Tryd.ntmps16 rfl ?_
  refine W_seq <| W_reg <| L_box (.plain rfl) rfl (ltb rfl) rfl rfl <| fun b1 w2 z3 z4 e5 k6 => L_op (.plain rfl) rfl (ltb rfl) (X_assign (v := (.int .i64 0)) rfl) <| L_nil <| thn_n <| W_seq <| W_reg <| L_op (.plain rfl) rfl (ltb rfl) (X_move (v := (.int .i64 a1)) rfl) <| L_op (.plain rfl) rfl (ltb rfl) (X_fieldAddr Tryd.underlying27 rfl Tryd.sizeOf9 rfl rfl) <| L_op (.plain rfl) rfl (ltb rfl) (X_loadB Tryd.isAgg9 k6 rfl rfl) <| L_op (.plain rfl) rfl (ltb rfl) (X_lenS Tryd.underlying9 rfl) <| L_op (.plain rfl) rfl (ltb rfl) (X_sub rfl rfl) <| L_op (.plain rfl) rfl (ltb rfl) (X_assign (v := (.int .i64 (IntKind.wrap .i64 (a1 - (a0.path.length : Int))))) rfl) <| L_nil <| thn_n <| W_seq <| W_seq <| W_reg <| L_op (.plain rfl) rfl (ltb rfl) (X_move (v := (.int .i64 (IntKind.wrap .i64 (a1 - (a0.path.length : Int))))) rfl) <| L_op (.plain rfl) rfl (ltb rfl) (X_lss rfl rfl) <| L_nil <| thn_n ?_
  rcases bif_two H with ⟨q7, H⟩ | ⟨q7, H⟩
  · refine W_true (congrArg Value.bool q7) <| W_seq <| W_reg <| L_op (.plain rfl) rfl (ltb rfl) (X_assign (v := (.int .i64 (-1))) rfl) <| L_nil <| thn_n <| W_ret <| thn_r <| fin_r ?_
    obtain rfl := Option.some.inj H
    exact fin1 rfl e5
  · refine W_false (congrArg Value.bool q7) <| W_skip <| thn_n <| W_seq <| W_reg <| L_op (.plain rfl) rfl (ltb rfl) (X_move (v := (.int .i64 (IntKind.wrap .i64 (a1 - (a0.path.length : Int))))) rfl) <| L_op (.plain rfl) rfl (ltb rfl) (X_fieldAddr Tryd.underlying27 rfl Tryd.sizeOf9 rfl rfl) <| L_op (.plain rfl) rfl (ltb rfl) (X_loadB Tryd.isAgg9 k6 rfl rfl) <| L_op (.plain rfl) rfl (ltb rfl) (X_lenS Tryd.underlying9 rfl) <| L_op (.plain rfl) rfl (ltb rfl) (X_sub rfl rfl) <| L_op (.plain rfl) rfl (ltb rfl) (X_assign rfl) <| L_nil <| thn_n <| W_seq <| W_seq <| W_reg <| L_op (.plain rfl) rfl (ltb rfl) (X_move rfl) <| L_op (.plain rfl) rfl (ltb rfl) (X_lss rfl rfl) <| L_nil <| thn_n ?_
    rcases bif_two H with ⟨q8, H⟩ | ⟨q8, H⟩
    · refine W_true (congrArg Value.bool q8) <| W_seq <| W_reg <| L_op (.plain rfl) rfl (ltb rfl) (X_assign (v := (.int .i64 (-1))) rfl) <| L_nil <| thn_n <| W_ret <| thn_r <| fin_r ?_
      obtain rfl := Option.some.inj H
      exact fin1 rfl e5
    · refine W_false (congrArg Value.bool q8) <| W_skip <| thn_n <| W_seq <| W_reg <| L_op (.plain rfl) rfl (ltb rfl) (X_move rfl) <| L_op (.plain rfl) rfl (ltb rfl) (X_assign rfl) <| L_nil <| thn_n <| W_ret <| fin_r ?_
      obtain rfl := Option.some.inj H
      exact fin1 rfl e5
theorem laws_szRecord.calls {w : World} {a0 : Rec} {a1 : Int} (h0 : (0 : Int) ≤ a1) (h1 : (a1 : Int) ≤ 1048576) (h2 : a0.path.length ≤ 9223372036854775807) (h3 : a0.body.length ≤ 9223372036854775807) :
    Calls Tryd.prog 16 #[.agg (encRec a0).toArray, .int .i64 a1] w (Rt (RP w (.int .i64 (szRec a0 a1)))) := laws_szRecord.walk (laws_szRecord.eq a0 a1 h0 h1 h2 h3)
/-! laws.toRecord -/
theorem laws_toRecord.walk {w : World} {a0 : Rec} {r : Rec} (H : laws_toRecord.sh a0 = some r) :
    Calls Tryd.prog 18 #[.agg (encRec a0).toArray] w (Rt (RP w (.agg (encRec r).toArray))) := by
  unfold laws_toRecord.sh at H
  refine calls_of_WG Tryd.func18 rfl (Nat.le_of_ble_eq_true rfl) Tryd.ntmps18 ?_
  refine W_seq <| W_reg <| L_box (.plain rfl) rfl (ltb rfl) rfl rfl <| fun b1 w2 z3 z4 e5 k6 => L_alloc (.plain rfl) rfl (ltb rfl) rfl Tryd.zeroValue30 <| fun b7 w8 z9 z10 e11 k12 => L_nil <| thn_n <| W_seq <| W_reg <| L_alloc (.plain rfl) rfl (ltb rfl) rfl Tryd.zeroValue30 <| fun b13 w14 z15 z16 e17 k18 => L_nil <| thn_n <| W_seq <| W_reg <| L_op (.plain rfl) rfl (ltb rfl) (X_fieldAddr Tryd.underlying27 rfl Tryd.sizeOf3 rfl rfl) <| L_op (.plain rfl) rfl (ltb rfl) (X_loadB Tryd.isAgg3 (Blk.ext k6 (Ext.trans e11 e17)) rfl rfl) <| L_op (.plain rfl) rfl (ltb rfl) (X_fieldAddr Tryd.underlying30 rfl Tryd.sizeOf3 rfl rfl) <| L_store1 (.plain rfl) rfl rfl Tryd.sizeOf3 rfl rfl rfl k18 (ltb rfl) <| fun w19 h20 k21 => L_nil <| thn_n <| W_seq <| W_reg <| L_op (.plain rfl) rfl (ltb rfl) (X_fieldAddr Tryd.underlying27 rfl Tryd.sizeOf9 rfl rfl) <| L_op (.plain rfl) rfl (ltb rfl) (X_loadB Tryd.isAgg9 (Blk.ext k6 (Ext.trans e11 (Below.trans e17 (Wr.below h20 (Nat.le_of_eq z15))))) rfl rfl) <| L_op (.plain rfl) rfl (ltb rfl) (X_fieldAddr Tryd.underlying30 rfl Tryd.sizeOf9 rfl rfl) <| L_store1 (.plain rfl) rfl rfl Tryd.sizeOf9 rfl rfl rfl k21 (ltb rfl) <| fun w22 h23 k24 => L_nil <| thn_n <| W_seq <| W_reg <| L_op (.plain rfl) rfl (ltb rfl) (X_fieldAddr Tryd.underlying27 rfl Tryd.sizeOf9 rfl rfl) <| L_op (.plain rfl) rfl (ltb rfl) (X_loadB Tryd.isAgg9 (Blk.ext k6 (Ext.trans e11 (Below.trans (Below.trans e17 (Wr.below h20 (Nat.le_of_eq z15))) (Wr.below h23 (Nat.le_of_eq z15))))) rfl rfl) <| L_op (.plain rfl) rfl (ltb rfl) (X_fieldAddr Tryd.underlying30 rfl Tryd.sizeOf9 rfl rfl) <| L_store1 (.plain rfl) rfl rfl Tryd.sizeOf9 rfl rfl rfl k24 (ltb rfl) <| fun w25 h26 k27 => L_nil <| thn_n <| W_seq <| W_reg <| L_op (.plain rfl) rfl (ltb rfl) (X_fieldAddr Tryd.underlying27 rfl Tryd.sizeOf3 rfl rfl) <| L_op (.plain rfl) rfl (ltb rfl) (X_loadB Tryd.isAgg3 (Blk.ext k6 (Ext.trans e11 (Below.trans (Below.trans (Below.trans e17 (Wr.below h20 (Nat.le_of_eq z15))) (Wr.below h23 (Nat.le_of_eq z15))) (Wr.below h26 (Nat.le_of_eq z15))))) rfl rfl) <| L_op (.plain rfl) rfl (ltb rfl) (X_fieldAddr Tryd.underlying30 rfl Tryd.sizeOf3 rfl rfl) <| L_store1 (.plain rfl) rfl rfl Tryd.sizeOf3 rfl rfl rfl k27 (ltb rfl) <| fun w28 h29 k30 => L_nil <| thn_n <| W_seq <| W_reg <| L_op (.plain rfl) rfl (ltb rfl) (X_fieldAddr Tryd.underlying27 rfl Tryd.sizeOf4 rfl rfl) <| L_op (.plain rfl) rfl (ltb rfl) (X_loadB Tryd.isAgg4 (Blk.ext k6 (Ext.trans e11 (Below.trans (Below.trans (Below.trans (Below.trans e17 (Wr.below h20 (Nat.le_of_eq z15))) (Wr.below h23 (Nat.le_of_eq z15))) (Wr.below h26 (Nat.le_of_eq z15))) (Wr.below h29 (Nat.le_of_eq z15))))) rfl rfl) <| L_op (.plain rfl) rfl (ltb rfl) (X_fieldAddr Tryd.underlying30 rfl Tryd.sizeOf4 rfl rfl) <| L_store1 (.plain rfl) rfl rfl Tryd.sizeOf4 rfl rfl rfl k30 (ltb rfl) <| fun w31 h32 k33 => L_nil <| thn_n <| W_seq <| W_reg <| L_op (.plain rfl) rfl (ltb rfl) (X_loadS Tryd.isAgg30 Tryd.sizeOf30 rfl rfl (Blk.at0 k33)) <| L_storeA (.plain rfl) rfl rfl Tryd.sizeOf30 rfl rfl rfl rfl rfl (Blk.ext k12 (Below.trans (Below.trans (Below.trans (Below.trans (Below.trans e17 (Wr.below h20 (Nat.le_of_eq z15))) (Wr.below h23 (Nat.le_of_eq z15))) (Wr.below h26 (Nat.le_of_eq z15))) (Wr.below h29 (Nat.le_of_eq z15))) (Wr.below h32 (Nat.le_of_eq z15)))) <| fun w34 h35 k36 => L_nil <| thn_n <| W_ret <| finG_r ?_
  obtain rfl := Option.some.inj H
  exact finC1 rfl rfl k36 Tryd.isAgg30 Tryd.sizeOf30 rfl (Ext.trans e5 (Below.trans (Ext.trans e11 (Below.trans (Below.trans (Below.trans (Below.trans (Below.trans e17 (Wr.below h20 (Nat.le_of_eq z15))) (Wr.below h23 (Nat.le_of_eq z15))) (Wr.below h26 (Nat.le_of_eq z15))) (Wr.below h29 (Nat.le_of_eq z15))) (Wr.below h32 (Nat.le_of_eq z15)))) (Wr.below h35 (Nat.le_of_eq z9))))
theorem laws_toRecord.calls {w : World} {a0 : Rec} :
    Calls Tryd.prog 18 #[.agg (encRec a0).toArray] w (Rt (RP w (.agg (encRec a0).toArray))) := laws_toRecord.walk (laws_toRecord.eq a0)
/-! spec.l02Fault -/
theorem spec_l02Fault.walk {w : World} {a0 : Rec} {r : Int} (H : spec_l02Fault.sh a0 = some r) :
    Calls Tryd.prog 41 #[.agg (encRec a0).toArray] w (Rt (RP w (.int .i64 r))) := by
  unfold spec_l02Fault.sh at H
  refine calls_of_W Tryd.func41 rfl (Nat.le_of_ble_eq_true rfl) Tryd.ntmps41 rfl ?_
  refine W_seq <| W_reg <| L_box (.plain rfl) rfl (ltb rfl) rfl rfl <| fun b1 w2 z3 z4 e5 k6 => L_op (.plain rfl) rfl (ltb rfl) (X_assign (v := (.int .i64 0)) rfl) <| L_nil <| thn_n <| W_seq <| W_reg <| L_op (.plain rfl) rfl (ltb rfl) (X_fieldAddr Tryd.underlying30 rfl Tryd.sizeOf3 rfl rfl) <| L_op (.plain rfl) rfl (ltb rfl) (X_loadB Tryd.isAgg3 k6 rfl rfl) <| L_op (.plain rfl) rfl (ltb rfl) (X_eql rfl rfl) <| L_op (.plain rfl) rfl (ltb rfl) (X_assign (v := (.bool (decide (a0.kind = 3)))) rfl) <| L_nil <| thn_n <| W_seq <| W_block <| W_seq <| W_reg <| L_op (.plain rfl) rfl (ltb rfl) (X_fieldAddr Tryd.underlying30 rfl Tryd.sizeOf3 rfl rfl) <| L_op (.plain rfl) rfl (ltb rfl) (X_loadB Tryd.isAgg3 k6 rfl rfl) <| L_callP (.plain rfl) rfl (ltb rfl) rfl Tryd.call53 (spec_l01In.calls (w := w2) (a0 := a0.kind) (a1 := 1) (a2 := 4)) rfl <| fun w7 e8 => L_op (.plain rfl) rfl (ltb rfl) (X_not rfl) <| L_op (.plain rfl) rfl (ltb rfl) (X_assign (v := (.bool (!(within a0.kind 1 4)))) rfl) <| L_nil <| thn_n ?_
  rcases bif_two H with ⟨q9, H⟩ | ⟨q9, H⟩
  · refine W_true (congrArg Value.bool q9) <| W_seq <| W_reg <| L_op (.plain rfl) rfl (ltb rfl) (X_assign (v := (.int .i64 9)) rfl) <| L_nil <| thn_n <| W_ret <| blk_r <| thn_r <| fin_r ?_
    obtain rfl := Option.some.inj H
    exact fin1 rfl (Ext.trans e5 e8)
  · refine W_false (congrArg Value.bool q9) <| W_seq <| W_reg <| L_op (.plain rfl) rfl (ltb rfl) (X_fieldAddr Tryd.underlying30 rfl Tryd.sizeOf9 rfl rfl) <| L_op (.plain rfl) rfl (ltb rfl) (X_loadB Tryd.isAgg9 (Blk.ext k6 e8) rfl rfl) <| L_callP (.plain rfl) rfl (ltb rfl) rfl Tryd.call29 (spec_l01OK.calls (w := w7) (a0 := a0.path)) rfl <| fun w10 e11 => L_op (.plain rfl) rfl (ltb rfl) (X_not rfl) <| L_op (.plain rfl) rfl (ltb rfl) (X_assign (v := (.bool (!(pathOK a0.path)))) rfl) <| L_nil <| thn_n ?_
    rcases bif_two H with ⟨q12, H⟩ | ⟨q12, H⟩
    · refine W_true (congrArg Value.bool q12) <| W_seq <| W_reg <| L_op (.plain rfl) rfl (ltb rfl) (X_assign (v := (.int .i64 10)) rfl) <| L_nil <| thn_n <| W_ret <| blk_r <| thn_r <| fin_r ?_
      obtain rfl := Option.some.inj H
      exact fin1 rfl (Ext.trans (Ext.trans e5 e8) e11)
    · refine W_false (congrArg Value.bool q12) <| W_seq <| W_reg <| L_op (.plain rfl) rfl (ltb rfl) (X_fieldAddr Tryd.underlying30 rfl Tryd.sizeOf9 rfl rfl) <| L_op (.plain rfl) rfl (ltb rfl) (X_loadB Tryd.isAgg9 (Blk.ext k6 (Ext.trans e8 e11)) rfl rfl) <| L_op (.plain rfl) rfl (ltb rfl) (X_lenS Tryd.underlying9 rfl) <| L_op (.plain rfl) rfl (ltb rfl) (X_gtr rfl rfl) <| L_op (.plain rfl) rfl (ltb rfl) (X_move (v := (.bool (decide (20 < (a0.body.length : Int))))) rfl) <| L_grp 9 [(23, 32)] 31 (.bool ((decide (20 < (a0.body.length : Int))) || ((decide (a0.kind = 2)) && (decide (a0.body = ([] : List UInt8)))))) ?_ ?_
      · rcases bool_two (decide (20 < (a0.body.length : Int))) with b12_ | b12_
        · exact L_skip rfl rfl (ltb rfl) (congrArg Value.bool b12_) rfl rfl (ltb rfl) <| L_skip rfl rfl (ltb rfl) (congrArg Value.bool b12_) rfl rfl (ltb rfl) <| L_skip rfl rfl (ltb rfl) (congrArg Value.bool b12_) rfl rfl (ltb rfl) <| L_skip rfl rfl (ltb rfl) (congrArg Value.bool b12_) rfl rfl (ltb rfl) <| L_skipU rfl rfl (ltb rfl) rfl rfl (ltb rfl) <| L_skipU rfl rfl (ltb rfl) rfl rfl (ltb rfl) <| L_skipU rfl rfl (ltb rfl) rfl rfl (ltb rfl) <| L_skip rfl rfl (ltb rfl) (congrArg Value.bool b12_) rfl rfl (ltb rfl) <| L_op (.plain rfl) rfl (ltb rfl) (X_pick (b := true) (v := (.bool true)) (congrArg Value.bool b12_) rfl) <| L_nil <| thn_n ⟨(Kp.upd (Kp.upd (Kp.upd (Kp.upd (Kp.upd (Kp.upd (Kp.upd (Kp.upd (Kp.upd (Kp.refl _ _) rfl) rfl) rfl) rfl) rfl) rfl) rfl) rfl) rfl), (or_t b12_), (Ext.refl w10)⟩
        · refine L_op (.guard 4 false 22 rfl rfl (ltb rfl) (congrArg Value.bool b12_)) rfl (ltb rfl) (X_fieldAddr Tryd.underlying30 rfl Tryd.sizeOf3 rfl rfl) <| L_op (.guard 4 false 22 rfl rfl (ltb rfl) (congrArg Value.bool b12_)) rfl (ltb rfl) (X_loadB Tryd.isAgg3 (Blk.ext k6 (Ext.trans e8 e11)) rfl rfl) <| L_op (.guard 4 false 22 rfl rfl (ltb rfl) (congrArg Value.bool b12_)) rfl (ltb rfl) (X_eql rfl rfl) <| L_op (.guard 4 false 22 rfl rfl (ltb rfl) (congrArg Value.bool b12_)) rfl (ltb rfl) (X_move (v := (.bool (decide (a0.kind = 2)))) rfl) <| L_grp 4 [(27, 31)] 30 (.bool ((decide (a0.kind = 2)) && (decide (a0.body = ([] : List UInt8))))) ?_ ?_
          · rcases bool_two (decide (a0.kind = 2)) with b13_ | b13_
            · exact L_op (.guard 8 true 26 rfl rfl (ltb rfl) (congrArg Value.bool b13_)) rfl (ltb rfl) (X_fieldAddr Tryd.underlying30 rfl Tryd.sizeOf9 rfl rfl) <| L_op (.guard 8 true 26 rfl rfl (ltb rfl) (congrArg Value.bool b13_)) rfl (ltb rfl) (X_loadB Tryd.isAgg9 (Blk.ext k6 (Ext.trans e8 e11)) rfl rfl) <| L_op (.guard 8 true 26 rfl rfl (ltb rfl) (congrArg Value.bool b13_)) rfl (ltb rfl) (X_seq rfl rfl) <| L_op (.guard 4 false 22 rfl rfl (ltb rfl) (congrArg Value.bool b12_)) rfl (ltb rfl) (X_pick (b := true) (v := (.bool (decide (a0.body = ([] : List UInt8))))) (congrArg Value.bool b13_) rfl) <| L_nil <| thn_n ⟨(Kp.upd (Kp.upd (Kp.upd (Kp.upd (Kp.refl _ _) rfl) rfl) rfl) rfl), (and_t b13_), (Ext.refl w10)⟩
            · exact L_skip rfl rfl (ltb rfl) (congrArg Value.bool b13_) rfl rfl (ltb rfl) <| L_skip rfl rfl (ltb rfl) (congrArg Value.bool b13_) rfl rfl (ltb rfl) <| L_skip rfl rfl (ltb rfl) (congrArg Value.bool b13_) rfl rfl (ltb rfl) <| L_op (.guard 4 false 22 rfl rfl (ltb rfl) (congrArg Value.bool b12_)) rfl (ltb rfl) (X_pick (b := false) (v := (.bool false)) (congrArg Value.bool b13_) rfl) <| L_nil <| thn_n ⟨(Kp.upd (Kp.upd (Kp.upd (Kp.upd (Kp.refl _ _) rfl) rfl) rfl) rfl), (and_f b13_), (Ext.refl w10)⟩
          intro s19 w15 K16 h17 e18
          exact L_op (.plain rfl) rfl (ltb rfl) (X_pick (b := false) (v := (.bool ((decide (a0.kind = 2)) && (decide (a0.body = ([] : List UInt8)))))) ((K16 22 rfl).trans (congrArg Value.bool b12_)) h17) <| L_nil <| thn_n ⟨(Kp.upd (Kp.cut (Kp.upd (Kp.upd (Kp.upd (Kp.upd (Kp.refl _ _) rfl) rfl) rfl) rfl) K16 rfl) rfl), (or_f b12_), e18⟩
      intro s20 w14 K15 h16 e17
      refine L_op (.plain rfl) rfl (ltb rfl) (X_assign h16) <| L_nil <| thn_n ?_
      rcases bif_two H with ⟨q21, H⟩ | ⟨q21, H⟩
      · refine W_true (congrArg Value.bool q21) <| W_seq <| W_reg <| L_op (.plain rfl) rfl (ltb rfl) (X_assign (v := (.int .i64 8)) rfl) <| L_nil <| thn_n <| W_ret <| blk_r <| thn_r <| fin_r ?_
        obtain rfl := Option.some.inj H
        exact fin1 rfl (Ext.trans (Ext.trans (Ext.trans e5 e8) e11) e17)
      · refine W_false (congrArg Value.bool q21) <| W_seq <| W_reg <| L_op (.plain rfl) rfl (ltb rfl) (X_fieldAddr Tryd.underlying30 rfl Tryd.sizeOf9 rfl (K15 1 rfl)) <| L_op (.plain rfl) rfl (ltb rfl) (X_loadB Tryd.isAgg9 (Blk.ext k6 (Ext.trans (Ext.trans e8 e11) e17)) rfl rfl) <| L_op (.plain rfl) rfl (ltb rfl) (X_sne rfl rfl) <| L_op (.plain rfl) rfl (ltb rfl) (X_move (v := (.bool (!decide (a0.body = ([] : List UInt8))))) rfl) <| L_grp 7 [(37, 44)] 43 (.bool ((!decide (a0.body = ([] : List UInt8))) && ((decide (a0.kind = 3)) || (decide (a0.kind = 4))))) ?_ ?_
        · rcases bool_two (!decide (a0.body = ([] : List UInt8))) with b21_ | b21_
          · refine L_op (.guard 3 true 36 rfl rfl (ltb rfl) (congrArg Value.bool b21_)) rfl (ltb rfl) (X_move (v := (.bool (decide (a0.kind = 3)))) (K15 3 rfl)) <| L_op (.guard 3 true 36 rfl rfl (ltb rfl) (congrArg Value.bool b21_)) rfl (ltb rfl) (X_move (v := (.bool (decide (a0.kind = 3)))) rfl) <| L_grp 4 [(39, 43)] 42 (.bool ((decide (a0.kind = 3)) || (decide (a0.kind = 4)))) ?_ ?_
            · rcases bool_two (decide (a0.kind = 3)) with b22_ | b22_
              · exact L_skip rfl rfl (ltb rfl) (congrArg Value.bool b22_) rfl rfl (ltb rfl) <| L_skip rfl rfl (ltb rfl) (congrArg Value.bool b22_) rfl rfl (ltb rfl) <| L_skip rfl rfl (ltb rfl) (congrArg Value.bool b22_) rfl rfl (ltb rfl) <| L_op (.guard 3 true 36 rfl rfl (ltb rfl) (congrArg Value.bool b21_)) rfl (ltb rfl) (X_pick (b := true) (v := (.bool true)) (congrArg Value.bool b22_) rfl) <| L_nil <| thn_n ⟨(Kp.upd (Kp.upd (Kp.upd (Kp.upd (Kp.refl _ _) rfl) rfl) rfl) rfl), (or_t b22_), (Ext.refl w14)⟩
              · exact L_op (.guard 5 false 38 rfl rfl (ltb rfl) (congrArg Value.bool b22_)) rfl (ltb rfl) (X_fieldAddr Tryd.underlying30 rfl Tryd.sizeOf3 rfl (K15 1 rfl)) <| L_op (.guard 5 false 38 rfl rfl (ltb rfl) (congrArg Value.bool b22_)) rfl (ltb rfl) (X_loadB Tryd.isAgg3 (Blk.ext k6 (Ext.trans (Ext.trans e8 e11) e17)) rfl rfl) <| L_op (.guard 5 false 38 rfl rfl (ltb rfl) (congrArg Value.bool b22_)) rfl (ltb rfl) (X_eql rfl rfl) <| L_op (.guard 3 true 36 rfl rfl (ltb rfl) (congrArg Value.bool b21_)) rfl (ltb rfl) (X_pick (b := false) (v := (.bool (decide (a0.kind = 4)))) (congrArg Value.bool b22_) rfl) <| L_nil <| thn_n ⟨(Kp.upd (Kp.upd (Kp.upd (Kp.upd (Kp.refl _ _) rfl) rfl) rfl) rfl), (or_f b22_), (Ext.refl w14)⟩
            intro s28 w24 K25 h26 e27
            exact L_op (.plain rfl) rfl (ltb rfl) (X_pick (b := true) (v := (.bool ((decide (a0.kind = 3)) || (decide (a0.kind = 4))))) ((K25 36 rfl).trans (congrArg Value.bool b21_)) h26) <| L_nil <| thn_n ⟨(Kp.upd (Kp.cut (Kp.upd (Kp.upd (Kp.refl _ _) rfl) rfl) K25 rfl) rfl), (and_t b21_), e27⟩
          · exact L_skip rfl rfl (ltb rfl) (congrArg Value.bool b21_) rfl rfl (ltb rfl) <| L_skip rfl rfl (ltb rfl) (congrArg Value.bool b21_) rfl rfl (ltb rfl) <| L_skipU rfl rfl (ltb rfl) rfl rfl (ltb rfl) <| L_skipU rfl rfl (ltb rfl) rfl rfl (ltb rfl) <| L_skipU rfl rfl (ltb rfl) rfl rfl (ltb rfl) <| L_skip rfl rfl (ltb rfl) (congrArg Value.bool b21_) rfl rfl (ltb rfl) <| L_op (.plain rfl) rfl (ltb rfl) (X_pick (b := false) (v := (.bool false)) (congrArg Value.bool b21_) rfl) <| L_nil <| thn_n ⟨(Kp.upd (Kp.upd (Kp.upd (Kp.upd (Kp.upd (Kp.upd (Kp.upd (Kp.refl _ _) rfl) rfl) rfl) rfl) rfl) rfl) rfl), (and_f b21_), (Ext.refl w14)⟩
        intro s29 w23 K24 h25 e26
        refine L_op (.plain rfl) rfl (ltb rfl) (X_move h25) <| L_grp 7 [(45, 52)] 51 (.bool (((!decide (a0.body = ([] : List UInt8))) && ((decide (a0.kind = 3)) || (decide (a0.kind = 4)))) || (a0.opq && (!(decide (a0.kind = 3)))))) ?_ ?_
        · rcases bool_two ((!decide (a0.body = ([] : List UInt8))) && ((decide (a0.kind = 3)) || (decide (a0.kind = 4)))) with b29_ | b29_
          · exact L_skip rfl rfl (ltb rfl) (congrArg Value.bool b29_) rfl rfl (ltb rfl) <| L_skip rfl rfl (ltb rfl) (congrArg Value.bool b29_) rfl rfl (ltb rfl) <| L_skip rfl rfl (ltb rfl) (congrArg Value.bool b29_) rfl rfl (ltb rfl) <| L_skipU rfl rfl (ltb rfl) rfl rfl (ltb rfl) <| L_skipU rfl rfl (ltb rfl) rfl rfl (ltb rfl) <| L_skip rfl rfl (ltb rfl) (congrArg Value.bool b29_) rfl rfl (ltb rfl) <| L_op (.plain rfl) rfl (ltb rfl) (X_pick (b := true) (v := (.bool true)) (congrArg Value.bool b29_) rfl) <| L_nil <| thn_n ⟨(Kp.upd (Kp.upd (Kp.upd (Kp.upd (Kp.upd (Kp.upd (Kp.upd (Kp.refl _ _) rfl) rfl) rfl) rfl) rfl) rfl) rfl), (or_t b29_), (Ext.refl w23)⟩
          · refine L_op (.guard 11 false 44 rfl rfl (ltb rfl) (congrArg Value.bool b29_)) rfl (ltb rfl) (X_fieldAddr Tryd.underlying30 rfl Tryd.sizeOf4 rfl ((K24 1 rfl).trans (K15 1 rfl))) <| L_op (.guard 11 false 44 rfl rfl (ltb rfl) (congrArg Value.bool b29_)) rfl (ltb rfl) (X_loadB Tryd.isAgg4 (Blk.ext k6 (Ext.trans (Ext.trans (Ext.trans e8 e11) e17) e26)) rfl rfl) <| L_op (.guard 11 false 44 rfl rfl (ltb rfl) (congrArg Value.bool b29_)) rfl (ltb rfl) (X_move (v := (.bool a0.opq)) rfl) <| L_grp 3 [(48, 51)] 50 (.bool (a0.opq && (!(decide (a0.kind = 3))))) ?_ ?_
            · rcases bool_two a0.opq with b30_ | b30_
              · exact L_op (.guard 14 true 47 rfl rfl (ltb rfl) (congrArg Value.bool b30_)) rfl (ltb rfl) (X_move (v := (.bool (decide (a0.kind = 3)))) ((K24 3 rfl).trans (K15 3 rfl))) <| L_op (.guard 14 true 47 rfl rfl (ltb rfl) (congrArg Value.bool b30_)) rfl (ltb rfl) (X_not rfl) <| L_op (.guard 11 false 44 rfl rfl (ltb rfl) (congrArg Value.bool b29_)) rfl (ltb rfl) (X_pick (b := true) (v := (.bool (!(decide (a0.kind = 3))))) (congrArg Value.bool b30_) rfl) <| L_nil <| thn_n ⟨(Kp.upd (Kp.upd (Kp.upd (Kp.refl _ _) rfl) rfl) rfl), (and_t b30_), (Ext.refl w23)⟩
              · exact L_skip rfl rfl (ltb rfl) (congrArg Value.bool b30_) rfl rfl (ltb rfl) <| L_skip rfl rfl (ltb rfl) (congrArg Value.bool b30_) rfl rfl (ltb rfl) <| L_op (.guard 11 false 44 rfl rfl (ltb rfl) (congrArg Value.bool b29_)) rfl (ltb rfl) (X_pick (b := false) (v := (.bool false)) (congrArg Value.bool b30_) rfl) <| L_nil <| thn_n ⟨(Kp.upd (Kp.upd (Kp.upd (Kp.refl _ _) rfl) rfl) rfl), (and_f b30_), (Ext.refl w23)⟩
            intro s36 w32 K33 h34 e35
            exact L_op (.plain rfl) rfl (ltb rfl) (X_pick (b := false) (v := (.bool (a0.opq && (!(decide (a0.kind = 3)))))) ((K33 44 rfl).trans (congrArg Value.bool b29_)) h34) <| L_nil <| thn_n ⟨(Kp.upd (Kp.cut (Kp.upd (Kp.upd (Kp.upd (Kp.refl _ _) rfl) rfl) rfl) K33 rfl) rfl), (or_f b29_), e35⟩
        intro s37 w31 K32 h33 e34
        refine L_op (.plain rfl) rfl (ltb rfl) (X_assign h33) <| L_nil <| thn_n ?_
        rcases bif_two H with ⟨q38, H⟩ | ⟨q38, H⟩
        · refine W_true (congrArg Value.bool q38) <| W_seq <| W_reg <| L_op (.plain rfl) rfl (ltb rfl) (X_assign (v := (.int .i64 3)) rfl) <| L_nil <| thn_n <| W_ret <| blk_r <| thn_r <| fin_r ?_
          obtain rfl := Option.some.inj H
          exact fin1 rfl (Ext.trans (Ext.trans (Ext.trans (Ext.trans (Ext.trans e5 e8) e11) e17) e26) e34)
        · refine W_false (congrArg Value.bool q38) <| W_seq <| W_reg <| L_op (.plain rfl) rfl (ltb rfl) (X_fieldAddr Tryd.underlying30 rfl Tryd.sizeOf3 rfl ((K32 1 rfl).trans ((K24 1 rfl).trans (K15 1 rfl)))) <| L_op (.plain rfl) rfl (ltb rfl) (X_loadB Tryd.isAgg3 (Blk.ext k6 (Ext.trans (Ext.trans (Ext.trans (Ext.trans e8 e11) e17) e26) e34)) rfl rfl) <| L_callP (.plain rfl) rfl (ltb rfl) rfl Tryd.call53 (spec_l01In.calls (w := w31) (a0 := a0.mode) (a1 := 0) (a2 := 511)) rfl <| fun w39 e40 => L_op (.plain rfl) rfl (ltb rfl) (X_not rfl) <| L_op (.plain rfl) rfl (ltb rfl) (X_move (v := (.bool (!(within a0.mode 0 511)))) rfl) <| L_grp 14 [(58, 72)] 71 (.bool ((!(within a0.mode 0 511)) || ((!decide (a0.mode = 0)) && ((decide (a0.kind = 4)) || (decide (a0.kind = 2)))))) ?_ ?_
          · rcases bool_two (!(within a0.mode 0 511)) with b40_ | b40_
            · exact L_skip rfl rfl (ltb rfl) (congrArg Value.bool b40_) rfl rfl (ltb rfl) <| L_skip rfl rfl (ltb rfl) (congrArg Value.bool b40_) rfl rfl (ltb rfl) <| L_skip rfl rfl (ltb rfl) (congrArg Value.bool b40_) rfl rfl (ltb rfl) <| L_skip rfl rfl (ltb rfl) (congrArg Value.bool b40_) rfl rfl (ltb rfl) <| L_skipU rfl rfl (ltb rfl) rfl rfl (ltb rfl) <| L_skipU rfl rfl (ltb rfl) rfl rfl (ltb rfl) <| L_skipU rfl rfl (ltb rfl) rfl rfl (ltb rfl) <| L_skipU rfl rfl (ltb rfl) rfl rfl (ltb rfl) <| L_skipU rfl rfl (ltb rfl) rfl rfl (ltb rfl) <| L_skipU rfl rfl (ltb rfl) rfl rfl (ltb rfl) <| L_skipU rfl rfl (ltb rfl) rfl rfl (ltb rfl) <| L_skipU rfl rfl (ltb rfl) rfl rfl (ltb rfl) <| L_skip rfl rfl (ltb rfl) (congrArg Value.bool b40_) rfl rfl (ltb rfl) <| L_op (.plain rfl) rfl (ltb rfl) (X_pick (b := true) (v := (.bool true)) (congrArg Value.bool b40_) rfl) <| L_nil <| thn_n ⟨(Kp.upd (Kp.upd (Kp.upd (Kp.upd (Kp.upd (Kp.upd (Kp.upd (Kp.upd (Kp.upd (Kp.upd (Kp.upd (Kp.upd (Kp.upd (Kp.upd (Kp.refl _ _) rfl) rfl) rfl) rfl) rfl) rfl) rfl) rfl) rfl) rfl) rfl) rfl) rfl) rfl), (or_t b40_), (Ext.refl w39)⟩
            · refine L_op (.guard 4 false 57 rfl rfl (ltb rfl) (congrArg Value.bool b40_)) rfl (ltb rfl) (X_fieldAddr Tryd.underlying30 rfl Tryd.sizeOf3 rfl ((K32 1 rfl).trans ((K24 1 rfl).trans (K15 1 rfl)))) <| L_op (.guard 4 false 57 rfl rfl (ltb rfl) (congrArg Value.bool b40_)) rfl (ltb rfl) (X_loadB Tryd.isAgg3 (Blk.ext k6 (Ext.trans (Ext.trans (Ext.trans (Ext.trans (Ext.trans e8 e11) e17) e26) e34) e40)) rfl rfl) <| L_op (.guard 4 false 57 rfl rfl (ltb rfl) (congrArg Value.bool b40_)) rfl (ltb rfl) (X_neq rfl rfl) <| L_op (.guard 4 false 57 rfl rfl (ltb rfl) (congrArg Value.bool b40_)) rfl (ltb rfl) (X_move (v := (.bool (!decide (a0.mode = 0)))) rfl) <| L_grp 9 [(62, 71)] 70 (.bool ((!decide (a0.mode = 0)) && ((decide (a0.kind = 4)) || (decide (a0.kind = 2))))) ?_ ?_
              · rcases bool_two (!decide (a0.mode = 0)) with b41_ | b41_
                · refine L_op (.guard 8 true 61 rfl rfl (ltb rfl) (congrArg Value.bool b41_)) rfl (ltb rfl) (X_fieldAddr Tryd.underlying30 rfl Tryd.sizeOf3 rfl ((K32 1 rfl).trans ((K24 1 rfl).trans (K15 1 rfl)))) <| L_op (.guard 8 true 61 rfl rfl (ltb rfl) (congrArg Value.bool b41_)) rfl (ltb rfl) (X_loadB Tryd.isAgg3 (Blk.ext k6 (Ext.trans (Ext.trans (Ext.trans (Ext.trans (Ext.trans e8 e11) e17) e26) e34) e40)) rfl rfl) <| L_op (.guard 8 true 61 rfl rfl (ltb rfl) (congrArg Value.bool b41_)) rfl (ltb rfl) (X_eql rfl rfl) <| L_op (.guard 8 true 61 rfl rfl (ltb rfl) (congrArg Value.bool b41_)) rfl (ltb rfl) (X_move (v := (.bool (decide (a0.kind = 4)))) rfl) <| L_grp 4 [(66, 70)] 69 (.bool ((decide (a0.kind = 4)) || (decide (a0.kind = 2)))) ?_ ?_
                  · rcases bool_two (decide (a0.kind = 4)) with b42_ | b42_
                    · exact L_skip rfl rfl (ltb rfl) (congrArg Value.bool b42_) rfl rfl (ltb rfl) <| L_skip rfl rfl (ltb rfl) (congrArg Value.bool b42_) rfl rfl (ltb rfl) <| L_skip rfl rfl (ltb rfl) (congrArg Value.bool b42_) rfl rfl (ltb rfl) <| L_op (.guard 8 true 61 rfl rfl (ltb rfl) (congrArg Value.bool b41_)) rfl (ltb rfl) (X_pick (b := true) (v := (.bool true)) (congrArg Value.bool b42_) rfl) <| L_nil <| thn_n ⟨(Kp.upd (Kp.upd (Kp.upd (Kp.upd (Kp.refl _ _) rfl) rfl) rfl) rfl), (or_t b42_), (Ext.refl w39)⟩
                    · exact L_op (.guard 12 false 65 rfl rfl (ltb rfl) (congrArg Value.bool b42_)) rfl (ltb rfl) (X_fieldAddr Tryd.underlying30 rfl Tryd.sizeOf3 rfl ((K32 1 rfl).trans ((K24 1 rfl).trans (K15 1 rfl)))) <| L_op (.guard 12 false 65 rfl rfl (ltb rfl) (congrArg Value.bool b42_)) rfl (ltb rfl) (X_loadB Tryd.isAgg3 (Blk.ext k6 (Ext.trans (Ext.trans (Ext.trans (Ext.trans (Ext.trans e8 e11) e17) e26) e34) e40)) rfl rfl) <| L_op (.guard 12 false 65 rfl rfl (ltb rfl) (congrArg Value.bool b42_)) rfl (ltb rfl) (X_eql rfl rfl) <| L_op (.guard 8 true 61 rfl rfl (ltb rfl) (congrArg Value.bool b41_)) rfl (ltb rfl) (X_pick (b := false) (v := (.bool (decide (a0.kind = 2)))) (congrArg Value.bool b42_) rfl) <| L_nil <| thn_n ⟨(Kp.upd (Kp.upd (Kp.upd (Kp.upd (Kp.refl _ _) rfl) rfl) rfl) rfl), (or_f b42_), (Ext.refl w39)⟩
                  intro s48 w44 K45 h46 e47
                  exact L_op (.guard 4 false 57 rfl rfl (ltb rfl) ((K45 57 rfl).trans (congrArg Value.bool b40_))) rfl (ltb rfl) (X_pick (b := true) (v := (.bool ((decide (a0.kind = 4)) || (decide (a0.kind = 2))))) ((K45 61 rfl).trans (congrArg Value.bool b41_)) h46) <| L_nil <| thn_n ⟨(Kp.upd (Kp.cut (Kp.upd (Kp.upd (Kp.upd (Kp.upd (Kp.refl _ _) rfl) rfl) rfl) rfl) K45 rfl) rfl), (and_t b41_), e47⟩
                · exact L_skip rfl rfl (ltb rfl) (congrArg Value.bool b41_) rfl rfl (ltb rfl) <| L_skip rfl rfl (ltb rfl) (congrArg Value.bool b41_) rfl rfl (ltb rfl) <| L_skip rfl rfl (ltb rfl) (congrArg Value.bool b41_) rfl rfl (ltb rfl) <| L_skip rfl rfl (ltb rfl) (congrArg Value.bool b41_) rfl rfl (ltb rfl) <| L_skipU rfl rfl (ltb rfl) rfl rfl (ltb rfl) <| L_skipU rfl rfl (ltb rfl) rfl rfl (ltb rfl) <| L_skipU rfl rfl (ltb rfl) rfl rfl (ltb rfl) <| L_skip rfl rfl (ltb rfl) (congrArg Value.bool b41_) rfl rfl (ltb rfl) <| L_op (.guard 4 false 57 rfl rfl (ltb rfl) (congrArg Value.bool b40_)) rfl (ltb rfl) (X_pick (b := false) (v := (.bool false)) (congrArg Value.bool b41_) rfl) <| L_nil <| thn_n ⟨(Kp.upd (Kp.upd (Kp.upd (Kp.upd (Kp.upd (Kp.upd (Kp.upd (Kp.upd (Kp.upd (Kp.refl _ _) rfl) rfl) rfl) rfl) rfl) rfl) rfl) rfl) rfl), (and_f b41_), (Ext.refl w39)⟩
              intro s49 w43 K44 h45 e46
              exact L_op (.plain rfl) rfl (ltb rfl) (X_pick (b := false) (v := (.bool ((!decide (a0.mode = 0)) && ((decide (a0.kind = 4)) || (decide (a0.kind = 2)))))) ((K44 57 rfl).trans (congrArg Value.bool b40_)) h45) <| L_nil <| thn_n ⟨(Kp.upd (Kp.cut (Kp.upd (Kp.upd (Kp.upd (Kp.upd (Kp.refl _ _) rfl) rfl) rfl) rfl) K44 rfl) rfl), (or_f b40_), e46⟩
          intro s50 w42 K43 h44 e45
          refine L_op (.plain rfl) rfl (ltb rfl) (X_assign h44) <| L_nil <| thn_n ?_
          rcases bif_two H with ⟨q51, H⟩ | ⟨q51, H⟩
          · refine W_true (congrArg Value.bool q51) <| W_seq <| W_reg <| L_op (.plain rfl) rfl (ltb rfl) (X_assign (v := (.int .i64 4)) rfl) <| L_nil <| thn_n <| W_ret <| blk_r <| thn_r <| fin_r ?_
            obtain rfl := Option.some.inj H
            exact fin1 rfl (Ext.trans (Ext.trans (Ext.trans (Ext.trans (Ext.trans (Ext.trans (Ext.trans e5 e8) e11) e17) e26) e34) e40) e45)
          · refine W_false (congrArg Value.bool q51) <| W_skip <| blk_n <| thn_n <| W_seq <| W_reg <| L_op (.plain rfl) rfl (ltb rfl) (X_assign (v := (.int .i64 0)) rfl) <| L_nil <| thn_n <| W_ret <| fin_r ?_
            obtain rfl := Option.some.inj H
            exact fin1 rfl (Ext.trans (Ext.trans (Ext.trans (Ext.trans (Ext.trans (Ext.trans (Ext.trans e5 e8) e11) e17) e26) e34) e40) e45)
theorem spec_l02Fault.calls {w : World} {a0 : Rec} :
    Calls Tryd.prog 41 #[.agg (encRec a0).toArray] w (Rt (RP w (.int .i64 (recFault a0)))) := spec_l02Fault.walk (spec_l02Fault.eq a0)
/-! spec.RecordFault -/
theorem spec_RecordFault.walk {w : World} {a0 : Rec} {r : Int} (H : spec_RecordFault.sh a0 = some r) :
    Calls Tryd.prog 17 #[.agg (encRec a0).toArray] w (Rt (RP w (.int .i64 r))) := by
  unfold spec_RecordFault.sh at H
  refine calls_of_W Tryd.func17 rfl (Nat.le_of_ble_eq_true rfl) Tryd.ntmps17 rfl ?_
  refine W_seq <| W_reg <| L_box (.plain rfl) rfl (ltb rfl) rfl rfl <| fun b1 w2 z3 z4 e5 k6 => L_op (.plain rfl) rfl (ltb rfl) (X_assign (v := (.int .i64 0)) rfl) <| L_nil <| thn_n <| W_seq <| W_reg <| L_op (.plain rfl) rfl (ltb rfl) (X_loadS Tryd.isAgg30 Tryd.sizeOf30 rfl rfl (Blk.at0 k6)) <| L_callP (.plain rfl) rfl (ltb rfl) rfl Tryd.call41 (spec_l02Fault.calls (w := w2) (a0 := (⟨a0.kind, a0.path, a0.body, a0.mode, a0.opq⟩ : Rec))) rfl <| fun w7 e8 => L_op (.plain rfl) rfl (ltb rfl) (X_assign rfl) <| L_nil <| thn_n <| W_ret <| fin_r ?_
  obtain rfl := Option.some.inj H
  exact fin1 rfl (Ext.trans e5 e8)
theorem spec_RecordFault.calls {w : World} {a0 : Rec} :
    Calls Tryd.prog 17 #[.agg (encRec a0).toArray] w (Rt (RP w (.int .i64 (recFault a0)))) := spec_RecordFault.walk (spec_RecordFault.eq a0)
/-! spec.l02OK -/
theorem spec_l02OK.walk {w : World} {a0 : Rec} {r : Bool} (H : spec_l02OK.sh a0 = some r) :
    Calls Tryd.prog 45 #[.agg (encRec a0).toArray] w (Rt (RP w (.bool r))) := by
  unfold spec_l02OK.sh at H
  refine calls_of_W Tryd.func45 rfl (Nat.le_of_ble_eq_true rfl) Tryd.ntmps45 rfl ?_
  refine W_seq <| W_reg <| L_box (.plain rfl) rfl (ltb rfl) rfl rfl <| fun b1 w2 z3 z4 e5 k6 => L_op (.plain rfl) rfl (ltb rfl) (X_assign (v := (.bool false)) rfl) <| L_nil <| thn_n <| W_seq <| W_reg <| L_op (.plain rfl) rfl (ltb rfl) (X_loadS Tryd.isAgg30 Tryd.sizeOf30 rfl rfl (Blk.at0 k6)) <| L_callP (.plain rfl) rfl (ltb rfl) rfl Tryd.call41 (spec_l02Fault.calls (w := w2) (a0 := (⟨a0.kind, a0.path, a0.body, a0.mode, a0.opq⟩ : Rec))) rfl <| fun w7 e8 => L_op (.plain rfl) rfl (ltb rfl) (X_eql rfl rfl) <| L_op (.plain rfl) rfl (ltb rfl) (X_assign rfl) <| L_nil <| thn_n <| W_ret <| fin_r ?_
  obtain rfl := Option.some.inj H
  exact fin1 rfl (Ext.trans e5 e8)
theorem spec_l02OK.calls {w : World} {a0 : Rec} :
    Calls Tryd.prog 45 #[.agg (encRec a0).toArray] w (Rt (RP w (.bool (decide (recFault a0 = 0))))) := spec_l02OK.walk (spec_l02OK.eq a0)
/-! spec.RecordOK -/
theorem spec_RecordOK.walk {w : World} {a0 : Rec} {r : Bool} (H : spec_RecordOK.sh a0 = some r) :
    Calls Tryd.prog 22 #[.agg (encRec a0).toArray] w (Rt (RP w (.bool r))) := by
  unfold spec_RecordOK.sh at H
  refine calls_of_W Tryd.func22 rfl (Nat.le_of_ble_eq_true rfl) Tryd.ntmps22 rfl ?_
  refine W_seq <| W_reg <| L_box (.plain rfl) rfl (ltb rfl) rfl rfl <| fun b1 w2 z3 z4 e5 k6 => L_op (.plain rfl) rfl (ltb rfl) (X_assign (v := (.bool false)) rfl) <| L_nil <| thn_n <| W_seq <| W_reg <| L_op (.plain rfl) rfl (ltb rfl) (X_loadS Tryd.isAgg30 Tryd.sizeOf30 rfl rfl (Blk.at0 k6)) <| L_callP (.plain rfl) rfl (ltb rfl) rfl Tryd.call45 (spec_l02OK.calls (w := w2) (a0 := (⟨a0.kind, a0.path, a0.body, a0.mode, a0.opq⟩ : Rec))) rfl <| fun w7 e8 => L_op (.plain rfl) rfl (ltb rfl) (X_assign rfl) <| L_nil <| thn_n <| W_ret <| fin_r ?_
  obtain rfl := Option.some.inj H
  exact fin1 rfl (Ext.trans e5 e8)
theorem spec_RecordOK.calls {w : World} {a0 : Rec} :
    Calls Tryd.prog 22 #[.agg (encRec a0).toArray] w (Rt (RP w (.bool (decide (recFault a0 = 0))))) := spec_RecordOK.walk (spec_RecordOK.eq a0)
/-! impl.RecordFault -/
theorem impl_RecordFault.walk {w : World} {a0 : Rec} (gv : GV 0 w) {r : Int} (H : impl_RecordFault.sh a0 = some r) :
    Calls Tryd.prog 19 #[.agg (encRec a0).toArray] w (Rt (RP w (.int .i64 r))) := by
  unfold impl_RecordFault.sh at H
  refine calls_of_W Tryd.func19 rfl (Nat.le_of_ble_eq_true rfl) Tryd.ntmps19 rfl ?_
  refine W_seq <| W_reg <| L_box (.plain rfl) rfl (ltb rfl) rfl rfl <| fun b1 w2 z3 z4 e5 k6 => L_op (.plain rfl) rfl (ltb rfl) (X_assign (v := (.int .i64 0)) rfl) <| L_nil <| thn_n <| W_seq <| W_reg <| L_op (.plain rfl) rfl (ltb rfl) (X_fieldAddr Tryd.underlying30 rfl Tryd.sizeOf3 rfl rfl) <| L_op (.plain rfl) rfl (ltb rfl) (X_loadB Tryd.isAgg3 k6 rfl rfl) <| L_op (.plain rfl) rfl (ltb rfl) (X_eql rfl rfl) <| L_op (.plain rfl) rfl (ltb rfl) (X_move (v := (.bool (decide (a0.kind = 3)))) rfl) <| L_grp 4 [(8, 12)] 11 (.bool ((decide (a0.kind = 3)) || (decide (a0.kind = 4)))) ?_ ?_
  · rcases bool_two (decide (a0.kind = 3)) with b6_ | b6_
    · exact L_skip rfl rfl (ltb rfl) (congrArg Value.bool b6_) rfl rfl (ltb rfl) <| L_skip rfl rfl (ltb rfl) (congrArg Value.bool b6_) rfl rfl (ltb rfl) <| L_skip rfl rfl (ltb rfl) (congrArg Value.bool b6_) rfl rfl (ltb rfl) <| L_op (.plain rfl) rfl (ltb rfl) (X_pick (b := true) (v := (.bool true)) (congrArg Value.bool b6_) rfl) <| L_nil <| thn_n ⟨(Kp.upd (Kp.upd (Kp.upd (Kp.upd (Kp.refl _ _) rfl) rfl) rfl) rfl), (or_t b6_), (Ext.refl w2)⟩
    · exact L_op (.guard 3 false 7 rfl rfl (ltb rfl) (congrArg Value.bool b6_)) rfl (ltb rfl) (X_fieldAddr Tryd.underlying30 rfl Tryd.sizeOf3 rfl rfl) <| L_op (.guard 3 false 7 rfl rfl (ltb rfl) (congrArg Value.bool b6_)) rfl (ltb rfl) (X_loadB Tryd.isAgg3 k6 rfl rfl) <| L_op (.guard 3 false 7 rfl rfl (ltb rfl) (congrArg Value.bool b6_)) rfl (ltb rfl) (X_eql rfl rfl) <| L_op (.plain rfl) rfl (ltb rfl) (X_pick (b := false) (v := (.bool (decide (a0.kind = 4)))) (congrArg Value.bool b6_) rfl) <| L_nil <| thn_n ⟨(Kp.upd (Kp.upd (Kp.upd (Kp.upd (Kp.refl _ _) rfl) rfl) rfl) rfl), (or_f b6_), (Ext.refl w2)⟩
  intro s12 w8 K9 h10 e11
  refine L_op (.plain rfl) rfl (ltb rfl) (X_assign (v := (.bool ((decide (a0.kind = 3)) || (decide (a0.kind = 4))))) h10) <| L_nil <| thn_n <| W_seq ?_
  obtain ⟨c25, H⟩ := bif_some H
  refine W_drawM [LEq (.pointer (some ⟨b1, 0, none⟩)), LEq (.int .i64 a0.kind), LEq (.bool (within a0.kind 1 4)), LEq (.bool (!(within a0.kind 1 4))), LEq (.iface 4 (.bool (!(within a0.kind 1 4)))), LEq (.iface 3 (.int .i64 9)), LEq (.pointer (some ⟨b1, 1, none⟩)), LEq (S a0.path), LEq (.bool (pathOK a0.path)), LEq (.bool (!(pathOK a0.path))), LEq (.iface 4 (.bool (!(pathOK a0.path)))), LEq (.iface 3 (.int .i64 10)), LEq (.pointer (some ⟨b1, 2, none⟩)), LEq (S a0.body), LEq (.int .i64 (a0.body.length : Int)), LEq (.bool (decide (20 < (a0.body.length : Int)))), LEq (.bool (decide (20 < (a0.body.length : Int)))), LIf (!(decide (20 < (a0.body.length : Int)))) (LEq (.pointer (some ⟨b1, 0, none⟩))), LIf (!(decide (20 < (a0.body.length : Int)))) (LEq (.int .i64 a0.kind)), LIf (!(decide (20 < (a0.body.length : Int)))) (LEq (.bool (decide (a0.kind = 2)))), LIf (!(decide (20 < (a0.body.length : Int)))) (LEq (.bool (decide (a0.kind = 2)))), LIf ((!(decide (20 < (a0.body.length : Int)))) && (decide (a0.kind = 2))) (LEq (.pointer (some ⟨b1, 2, none⟩))), LIf ((!(decide (20 < (a0.body.length : Int)))) && (decide (a0.kind = 2))) (LEq (S a0.body)), LIf ((!(decide (20 < (a0.body.length : Int)))) && (decide (a0.kind = 2))) (LEq (.bool (decide (a0.body = ([] : List UInt8))))), LIf (!(decide (20 < (a0.body.length : Int)))) (LEq (.bool ((decide (a0.kind = 2)) && (decide (a0.body = ([] : List UInt8)))))), LEq (.bool ((decide (20 < (a0.body.length : Int))) || ((decide (a0.kind = 2)) && (decide (a0.body = ([] : List UInt8)))))), LEq (.iface 4 (.bool ((decide (20 < (a0.body.length : Int))) || ((decide (a0.kind = 2)) && (decide (a0.body = ([] : List UInt8))))))), LEq (.iface 3 (.int .i64 8)), LEq (.bool ((decide (a0.kind = 3)) || (decide (a0.kind = 4)))), LEq (.bool ((decide (a0.kind = 3)) || (decide (a0.kind = 4)))), LIf ((decide (a0.kind = 3)) || (decide (a0.kind = 4))) (LEq (.pointer (some ⟨b1, 2, none⟩))), LIf ((decide (a0.kind = 3)) || (decide (a0.kind = 4))) (LEq (S a0.body)), LIf ((decide (a0.kind = 3)) || (decide (a0.kind = 4))) (LEq (.bool (!decide (a0.body = ([] : List UInt8))))), LEq (.bool (((decide (a0.kind = 3)) || (decide (a0.kind = 4))) && (!decide (a0.body = ([] : List UInt8))))), LEq (.bool (((decide (a0.kind = 3)) || (decide (a0.kind = 4))) && (!decide (a0.body = ([] : List UInt8))))), LIf (!(((decide (a0.kind = 3)) || (decide (a0.kind = 4))) && (!decide (a0.body = ([] : List UInt8))))) (LEq (.pointer (some ⟨b1, 0, none⟩))), LIf (!(((decide (a0.kind = 3)) || (decide (a0.kind = 4))) && (!decide (a0.body = ([] : List UInt8))))) (LEq (.int .i64 a0.kind)), LIf (!(((decide (a0.kind = 3)) || (decide (a0.kind = 4))) && (!decide (a0.body = ([] : List UInt8))))) (LEq (.bool (!decide (a0.kind = 3)))), LIf (!(((decide (a0.kind = 3)) || (decide (a0.kind = 4))) && (!decide (a0.body = ([] : List UInt8))))) (LEq (.bool (!decide (a0.kind = 3)))), LIf ((!(((decide (a0.kind = 3)) || (decide (a0.kind = 4))) && (!decide (a0.body = ([] : List UInt8))))) && (!decide (a0.kind = 3))) (LEq (.pointer (some ⟨b1, 4, none⟩))), LIf ((!(((decide (a0.kind = 3)) || (decide (a0.kind = 4))) && (!decide (a0.body = ([] : List UInt8))))) && (!decide (a0.kind = 3))) (LEq (.bool a0.opq)), LIf (!(((decide (a0.kind = 3)) || (decide (a0.kind = 4))) && (!decide (a0.body = ([] : List UInt8))))) (LEq (.bool ((!decide (a0.kind = 3)) && a0.opq))), LEq (.bool ((((decide (a0.kind = 3)) || (decide (a0.kind = 4))) && (!decide (a0.body = ([] : List UInt8)))) || ((!decide (a0.kind = 3)) && a0.opq))), LEq (.iface 4 (.bool ((((decide (a0.kind = 3)) || (decide (a0.kind = 4))) && (!decide (a0.body = ([] : List UInt8)))) || ((!decide (a0.kind = 3)) && a0.opq)))), LEq (.iface 3 (.int .i64 3)), LEq (.pointer (some ⟨b1, 3, none⟩)), LEq (.int .i64 a0.mode), LEq (.bool (within a0.mode 0 511)), LEq (.bool (!(within a0.mode 0 511))), LEq (.bool (!(within a0.mode 0 511))), LIf (!(!(within a0.mode 0 511))) (LEq (.pointer (some ⟨b1, 0, none⟩))), LIf (!(!(within a0.mode 0 511))) (LEq (.int .i64 a0.kind)), LIf (!(!(within a0.mode 0 511))) (LEq (.bool (decide (a0.kind = 2)))), LIf (!(!(within a0.mode 0 511))) (LEq (.bool (decide (a0.kind = 2)))), LIf ((!(!(within a0.mode 0 511))) && (!(decide (a0.kind = 2)))) (LEq (.pointer (some ⟨b1, 0, none⟩))), LIf ((!(!(within a0.mode 0 511))) && (!(decide (a0.kind = 2)))) (LEq (.int .i64 a0.kind)), LIf ((!(!(within a0.mode 0 511))) && (!(decide (a0.kind = 2)))) (LEq (.bool (decide (a0.kind = 4)))), LIf (!(!(within a0.mode 0 511))) (LEq (.bool ((decide (a0.kind = 2)) || (decide (a0.kind = 4))))), LIf (!(!(within a0.mode 0 511))) (LEq (.bool ((decide (a0.kind = 2)) || (decide (a0.kind = 4))))), LIf ((!(!(within a0.mode 0 511))) && ((decide (a0.kind = 2)) || (decide (a0.kind = 4)))) (LEq (.pointer (some ⟨b1, 3, none⟩))), LIf ((!(!(within a0.mode 0 511))) && ((decide (a0.kind = 2)) || (decide (a0.kind = 4)))) (LEq (.int .i64 a0.mode)), LIf ((!(!(within a0.mode 0 511))) && ((decide (a0.kind = 2)) || (decide (a0.kind = 4)))) (LEq (.bool (!decide (a0.mode = 0)))), LIf (!(!(within a0.mode 0 511))) (LEq (.bool (((decide (a0.kind = 2)) || (decide (a0.kind = 4))) && (!decide (a0.mode = 0))))), LEq (.bool ((!(within a0.mode 0 511)) || (((decide (a0.kind = 2)) || (decide (a0.kind = 4))) && (!decide (a0.mode = 0))))), LEq (.iface 4 (.bool ((!(within a0.mode 0 511)) || (((decide (a0.kind = 2)) || (decide (a0.kind = 4))) && (!decide (a0.mode = 0)))))), LEq (.iface 3 (.int .i64 4)), LRd 1 (encAny 4 3) ([.inl (!(within a0.kind 1 4)), .inr 9, .inl (!(pathOK a0.path)), .inr 10, .inl ((decide (20 < (a0.body.length : Int))) || ((decide (a0.kind = 2)) && (decide (a0.body = ([] : List UInt8))))), .inr 8, .inl ((((decide (a0.kind = 3)) || (decide (a0.kind = 4))) && (!decide (a0.body = ([] : List UInt8)))) || ((!decide (a0.kind = 3)) && a0.opq)), .inr 3, .inl ((!(within a0.mode 0 511)) || (((decide (a0.kind = 2)) || (decide (a0.kind = 4))) && (!decide (a0.mode = 0)))), .inr 4] : List (Bool ⊕ Int)), LEq (.int .i64 (firstOf ([.inl (!(within a0.kind 1 4)), .inr 9, .inl (!(pathOK a0.path)), .inr 10, .inl ((decide (20 < (a0.body.length : Int))) || ((decide (a0.kind = 2)) && (decide (a0.body = ([] : List UInt8))))), .inr 8, .inl ((((decide (a0.kind = 3)) || (decide (a0.kind = 4))) && (!decide (a0.body = ([] : List UInt8)))) || ((!decide (a0.kind = 3)) && a0.opq)), .inr 3, .inl ((!(within a0.mode 0 511)) || (((decide (a0.kind = 2)) || (decide (a0.kind = 4))) && (!decide (a0.mode = 0)))), .inr 4] : List (Bool ⊕ Int)))), LEq (.int .i64 (firstOf ([.inl (!(within a0.kind 1 4)), .inr 9, .inl (!(pathOK a0.path)), .inr 10, .inl ((decide (20 < (a0.body.length : Int))) || ((decide (a0.kind = 2)) && (decide (a0.body = ([] : List UInt8))))), .inr 8, .inl ((((decide (a0.kind = 3)) || (decide (a0.kind = 4))) && (!decide (a0.body = ([] : List UInt8)))) || ((!decide (a0.kind = 3)) && a0.opq)), .inr 3, .inl ((!(within a0.mode 0 511)) || (((decide (a0.kind = 2)) || (decide (a0.kind = 4))) && (!decide (a0.mode = 0)))), .inr 4] : List (Bool ⊕ Int))))] (by kernel_rfl) (by kernel_rfl) ⟨LEq.mono, LEq.mono, LEq.mono, LEq.mono, LEq.mono, LEq.mono, LEq.mono, LEq.mono, LEq.mono, LEq.mono, LEq.mono, LEq.mono, LEq.mono, LEq.mono, LEq.mono, LEq.mono, LEq.mono, (LIf.mono LEq.mono), (LIf.mono LEq.mono), (LIf.mono LEq.mono), (LIf.mono LEq.mono), (LIf.mono LEq.mono), (LIf.mono LEq.mono), (LIf.mono LEq.mono), (LIf.mono LEq.mono), LEq.mono, LEq.mono, LEq.mono, LEq.mono, LEq.mono, (LIf.mono LEq.mono), (LIf.mono LEq.mono), (LIf.mono LEq.mono), LEq.mono, LEq.mono, (LIf.mono LEq.mono), (LIf.mono LEq.mono), (LIf.mono LEq.mono), (LIf.mono LEq.mono), (LIf.mono LEq.mono), (LIf.mono LEq.mono), (LIf.mono LEq.mono), LEq.mono, LEq.mono, LEq.mono, LEq.mono, LEq.mono, LEq.mono, LEq.mono, LEq.mono, (LIf.mono LEq.mono), (LIf.mono LEq.mono), (LIf.mono LEq.mono), (LIf.mono LEq.mono), (LIf.mono LEq.mono), (LIf.mono LEq.mono), (LIf.mono LEq.mono), (LIf.mono LEq.mono), (LIf.mono LEq.mono), (LIf.mono LEq.mono), (LIf.mono LEq.mono), (LIf.mono LEq.mono), (LIf.mono LEq.mono), LEq.mono, LEq.mono, LEq.mono, LRd.mono, LEq.mono, LEq.mono, trivial⟩ ⟨?_, ?_, ?_, ?_, ?_, ?_, ?_, ?_, ?_, ?_, ?_, ?_, ?_, ?_, ?_, ?_, ?_, ?_, ?_, ?_, ?_, ?_, ?_, ?_, ?_, ?_, ?_, ?_, ?_, ?_, ?_, ?_, ?_, ?_, ?_, ?_, ?_, ?_, ?_, ?_, ?_, ?_, ?_, ?_, ?_, ?_, ?_, ?_, ?_, ?_, ?_, ?_, ?_, ?_, ?_, ?_, ?_, ?_, ?_, ?_, ?_, ?_, ?_, ?_, ?_, ?_, ?_, ?_, ?_, trivial⟩ ?_
  · intro s28 w29 e30 hf31 hd32 _
    exact L_op (.plain rfl) rfl (ltb rfl) (X_fieldAddr Tryd.underlying30 rfl Tryd.sizeOf3 rfl ((hf31 1 rfl).trans (K9 1 rfl))) <| L_nil <| stepEnd rfl rfl (Ext.refl w29) rfl
  · intro s33 w34 e35 hf36 hd37 _
    have d38 : s33 12 = (.pointer (some ⟨b1, 0, none⟩)) := (hd37 0 rfl)
    exact L_op (.plain rfl) rfl (ltb rfl) (X_loadB Tryd.isAgg3 (Blk.ext k6 (Ext.trans e11 e35)) d38 rfl) <| L_nil <| stepEnd rfl rfl (Ext.refl w34) rfl
  · intro s39 w40 e41 hf42 hd43 _
    have d44 : s39 13 = (.int .i64 a0.kind) := (hd43 1 rfl)
    exact L_callP (.plain rfl) rfl (ltb rfl) rfl Tryd.call42 (impl_within.calls (w := w40) (a0 := a0.kind) (a1 := 1) (a2 := 4)) (cons2 d44 (cons2 rfl (cons2 rfl rfl))) <| fun w45 e46 => L_nil <| stepEnd rfl rfl e46 rfl
  · intro s47 w48 e49 hf50 hd51 _
    have d52 : s47 14 = (.bool (within a0.kind 1 4)) := (hd51 2 rfl)
    exact L_op (.plain rfl) rfl (ltb rfl) (X_not d52) <| L_nil <| stepEnd rfl rfl (Ext.refl w48) rfl
  · intro s53 w54 e55 hf56 hd57 _
    have d58 : s53 15 = (.bool (!(within a0.kind 1 4))) := (hd57 3 rfl)
    exact L_op (.plain rfl) rfl (ltb rfl) (X_mkiface Tryd.underlying4 rfl d58) <| L_nil <| stepEnd rfl rfl (Ext.refl w54) rfl
  · intro s59 w60 e61 hf62 hd63 _
    exact L_op (.plain rfl) rfl (ltb rfl) (X_mkiface Tryd.underlying3 rfl rfl) <| L_nil <| stepEnd rfl rfl (Ext.refl w60) rfl
  · intro s64 w65 e66 hf67 hd68 _
    exact L_op (.plain rfl) rfl (ltb rfl) (X_fieldAddr Tryd.underlying30 rfl Tryd.sizeOf9 rfl ((hf67 1 rfl).trans (K9 1 rfl))) <| L_nil <| stepEnd rfl rfl (Ext.refl w65) rfl
  · intro s69 w70 e71 hf72 hd73 _
    have d74 : s69 18 = (.pointer (some ⟨b1, 1, none⟩)) := (hd73 6 rfl)
    exact L_op (.plain rfl) rfl (ltb rfl) (X_loadB Tryd.isAgg9 (Blk.ext k6 (Ext.trans e11 e71)) d74 rfl) <| L_nil <| stepEnd rfl rfl (Ext.refl w70) rfl
  · intro s75 w76 e77 hf78 hd79 _
    have d80 : s75 19 = (S a0.path) := (hd79 7 rfl)
    exact L_callP (.plain rfl) rfl (ltb rfl) rfl Tryd.call11 (impl_PathOK.calls (w := w76) (a0 := a0.path) (GV.ext gv (Ext.trans (Ext.trans e5 e11) e77))) (cons2 d80 rfl) <| fun w81 e82 => L_nil <| stepEnd rfl rfl e82 rfl
  · intro s83 w84 e85 hf86 hd87 _
    have d88 : s83 20 = (.bool (pathOK a0.path)) := (hd87 8 rfl)
    exact L_op (.plain rfl) rfl (ltb rfl) (X_not d88) <| L_nil <| stepEnd rfl rfl (Ext.refl w84) rfl
  · intro s89 w90 e91 hf92 hd93 _
    have d94 : s89 21 = (.bool (!(pathOK a0.path))) := (hd93 9 rfl)
    exact L_op (.plain rfl) rfl (ltb rfl) (X_mkiface Tryd.underlying4 rfl d94) <| L_nil <| stepEnd rfl rfl (Ext.refl w90) rfl
  · intro s95 w96 e97 hf98 hd99 _
    exact L_op (.plain rfl) rfl (ltb rfl) (X_mkiface Tryd.underlying3 rfl rfl) <| L_nil <| stepEnd rfl rfl (Ext.refl w96) rfl
  · intro s100 w101 e102 hf103 hd104 _
    exact L_op (.plain rfl) rfl (ltb rfl) (X_fieldAddr Tryd.underlying30 rfl Tryd.sizeOf9 rfl ((hf103 1 rfl).trans (K9 1 rfl))) <| L_nil <| stepEnd rfl rfl (Ext.refl w101) rfl
  · intro s105 w106 e107 hf108 hd109 _
    have d110 : s105 24 = (.pointer (some ⟨b1, 2, none⟩)) := (hd109 12 rfl)
    exact L_op (.plain rfl) rfl (ltb rfl) (X_loadB Tryd.isAgg9 (Blk.ext k6 (Ext.trans e11 e107)) d110 rfl) <| L_nil <| stepEnd rfl rfl (Ext.refl w106) rfl
  · intro s111 w112 e113 hf114 hd115 _
    have d116 : s111 25 = (S a0.body) := (hd115 13 rfl)
    exact L_op (.plain rfl) rfl (ltb rfl) (X_lenS Tryd.underlying9 d116) <| L_nil <| stepEnd rfl rfl (Ext.refl w112) rfl
  · intro s117 w118 e119 hf120 hd121 _
    have d122 : s117 26 = (.int .i64 (a0.body.length : Int)) := (hd121 14 rfl)
    exact L_op (.plain rfl) rfl (ltb rfl) (X_gtr d122 rfl) <| L_nil <| stepEnd rfl rfl (Ext.refl w118) rfl
  · intro s123 w124 e125 hf126 hd127 _
    have d128 : s123 27 = (.bool (decide (20 < (a0.body.length : Int)))) := (hd127 15 rfl)
    exact L_op (.plain rfl) rfl (ltb rfl) (X_move (v := (.bool (decide (20 < (a0.body.length : Int))))) d128) <| L_nil <| stepEnd rfl rfl (Ext.refl w124) rfl
  · intro s129 w130 e131 hf132 hd133 _
    rcases bool_two (!(decide (20 < (a0.body.length : Int)))) with b134 | b134
    · have g135 : (decide (20 < (a0.body.length : Int))) = false := (not_f b134)
      have d136 : s129 28 = (.bool (decide (20 < (a0.body.length : Int)))) := (hd133 16 rfl)
      have d137 : s129 28 = (.bool (decide (20 < (a0.body.length : Int)))) := (hd133 16 rfl)
      exact L_op (.guard 16 false 28 rfl rfl (ltb rfl) (d136.trans (congrArg Value.bool g135))) rfl (ltb rfl) (X_fieldAddr Tryd.underlying30 rfl Tryd.sizeOf3 rfl ((hf132 1 rfl).trans (K9 1 rfl))) <| L_nil <| stepEnd rfl rfl (Ext.refl w130) ⟨fun _ => rfl, fun h => absurd (b134.symm.trans h) (by decide)⟩
    · have d138 : s129 28 = (.bool (decide (20 < (a0.body.length : Int)))) := (hd133 16 rfl)
      have g139 : (decide (20 < (a0.body.length : Int))) = true := (not_ff b134)
      exact L_skip rfl rfl (ltb rfl) (d138.trans (congrArg Value.bool g139)) rfl rfl (ltb rfl) <| L_nil <| stepEnd rfl rfl (Ext.refl w130) ⟨fun h => absurd (b134.symm.trans h) (by decide), fun _ => rfl⟩
  · intro s140 w141 e142 hf143 hd144 _
    rcases bool_two (!(decide (20 < (a0.body.length : Int)))) with b145 | b145
    · have g146 : (decide (20 < (a0.body.length : Int))) = false := (not_f b145)
      have d147 : s140 28 = (.bool (decide (20 < (a0.body.length : Int)))) := (hd144 16 rfl)
      have d148 : s140 28 = (.bool (decide (20 < (a0.body.length : Int)))) := (hd144 16 rfl)
      have d149 : s140 29 = (.pointer (some ⟨b1, 0, none⟩)) := ((hd144 17 rfl).1 (not_mk (not_f b145)))
      exact L_op (.guard 16 false 28 rfl rfl (ltb rfl) (d147.trans (congrArg Value.bool g146))) rfl (ltb rfl) (X_loadB Tryd.isAgg3 (Blk.ext k6 (Ext.trans e11 e142)) d149 rfl) <| L_nil <| stepEnd rfl rfl (Ext.refl w141) ⟨fun _ => rfl, fun h => absurd (b145.symm.trans h) (by decide)⟩
    · have d150 : s140 28 = (.bool (decide (20 < (a0.body.length : Int)))) := (hd144 16 rfl)
      have g151 : (decide (20 < (a0.body.length : Int))) = true := (not_ff b145)
      exact L_skip rfl rfl (ltb rfl) (d150.trans (congrArg Value.bool g151)) rfl rfl (ltb rfl) <| L_nil <| stepEnd rfl rfl (Ext.refl w141) ⟨fun h => absurd (b145.symm.trans h) (by decide), fun _ => rfl⟩
  · intro s152 w153 e154 hf155 hd156 _
    rcases bool_two (!(decide (20 < (a0.body.length : Int)))) with b157 | b157
    · have g158 : (decide (20 < (a0.body.length : Int))) = false := (not_f b157)
      have d159 : s152 28 = (.bool (decide (20 < (a0.body.length : Int)))) := (hd156 16 rfl)
      have d160 : s152 28 = (.bool (decide (20 < (a0.body.length : Int)))) := (hd156 16 rfl)
      have d161 : s152 30 = (.int .i64 a0.kind) := ((hd156 18 rfl).1 (not_mk (not_f b157)))
      exact L_op (.guard 16 false 28 rfl rfl (ltb rfl) (d159.trans (congrArg Value.bool g158))) rfl (ltb rfl) (X_eql d161 rfl) <| L_nil <| stepEnd rfl rfl (Ext.refl w153) ⟨fun _ => rfl, fun h => absurd (b157.symm.trans h) (by decide)⟩
    · have d162 : s152 28 = (.bool (decide (20 < (a0.body.length : Int)))) := (hd156 16 rfl)
      have g163 : (decide (20 < (a0.body.length : Int))) = true := (not_ff b157)
      exact L_skip rfl rfl (ltb rfl) (d162.trans (congrArg Value.bool g163)) rfl rfl (ltb rfl) <| L_nil <| stepEnd rfl rfl (Ext.refl w153) ⟨fun h => absurd (b157.symm.trans h) (by decide), fun _ => rfl⟩
  · intro s164 w165 e166 hf167 hd168 _
    rcases bool_two (!(decide (20 < (a0.body.length : Int)))) with b169 | b169
    · have g170 : (decide (20 < (a0.body.length : Int))) = false := (not_f b169)
      have d171 : s164 28 = (.bool (decide (20 < (a0.body.length : Int)))) := (hd168 16 rfl)
      have d172 : s164 28 = (.bool (decide (20 < (a0.body.length : Int)))) := (hd168 16 rfl)
      have d173 : s164 31 = (.bool (decide (a0.kind = 2))) := ((hd168 19 rfl).1 (not_mk (not_f b169)))
      exact L_op (.guard 16 false 28 rfl rfl (ltb rfl) (d171.trans (congrArg Value.bool g170))) rfl (ltb rfl) (X_move (v := (.bool (decide (a0.kind = 2)))) d173) <| L_nil <| stepEnd rfl rfl (Ext.refl w165) ⟨fun _ => rfl, fun h => absurd (b169.symm.trans h) (by decide)⟩
    · have d174 : s164 28 = (.bool (decide (20 < (a0.body.length : Int)))) := (hd168 16 rfl)
      have g175 : (decide (20 < (a0.body.length : Int))) = true := (not_ff b169)
      exact L_skip rfl rfl (ltb rfl) (d174.trans (congrArg Value.bool g175)) rfl rfl (ltb rfl) <| L_nil <| stepEnd rfl rfl (Ext.refl w165) ⟨fun h => absurd (b169.symm.trans h) (by decide), fun _ => rfl⟩
  · intro s176 w177 e178 hf179 hd180 _
    rcases bool_two ((!(decide (20 < (a0.body.length : Int)))) && (decide (a0.kind = 2))) with b181 | b181
    · have g182 : (decide (a0.kind = 2)) = true := (and_r b181)
      have d183 : s176 32 = (.bool (decide (a0.kind = 2))) := ((hd180 20 rfl).1 (not_mk (not_f (and_l b181))))
      have d184 : s176 32 = (.bool (decide (a0.kind = 2))) := ((hd180 20 rfl).1 (not_mk (not_f (and_l b181))))
      exact L_op (.guard 20 true 32 rfl rfl (ltb rfl) (d183.trans (congrArg Value.bool g182))) rfl (ltb rfl) (X_fieldAddr Tryd.underlying30 rfl Tryd.sizeOf9 rfl ((hf179 1 rfl).trans (K9 1 rfl))) <| L_nil <| stepEnd rfl rfl (Ext.refl w177) ⟨fun _ => rfl, fun h => absurd (b181.symm.trans h) (by decide)⟩
    · rcases bool_two (!(decide (20 < (a0.body.length : Int)))) with b185 | b185
      · have d186 : s176 32 = (.bool (decide (a0.kind = 2))) := ((hd180 20 rfl).1 (not_mk (not_f b185)))
        have g187 : (decide (a0.kind = 2)) = false := (and_fr b181 b185)
        exact L_skip rfl rfl (ltb rfl) (d186.trans (congrArg Value.bool g187)) rfl rfl (ltb rfl) <| L_nil <| stepEnd rfl rfl (Ext.refl w177) ⟨fun h => absurd (b181.symm.trans h) (by decide), fun _ => rfl⟩
      · exact L_skipU rfl rfl (ltb rfl) ((hd180 20 rfl).2 b185) rfl (ltb rfl) <| L_nil <| stepEnd rfl rfl (Ext.refl w177) ⟨fun h => absurd (b181.symm.trans h) (by decide), fun _ => rfl⟩
  · intro s188 w189 e190 hf191 hd192 _
    rcases bool_two ((!(decide (20 < (a0.body.length : Int)))) && (decide (a0.kind = 2))) with b193 | b193
    · have g194 : (decide (a0.kind = 2)) = true := (and_r b193)
      have d195 : s188 32 = (.bool (decide (a0.kind = 2))) := ((hd192 20 rfl).1 (not_mk (not_f (and_l b193))))
      have d196 : s188 32 = (.bool (decide (a0.kind = 2))) := ((hd192 20 rfl).1 (not_mk (not_f (and_l b193))))
      have d197 : s188 33 = (.pointer (some ⟨b1, 2, none⟩)) := ((hd192 21 rfl).1 (and_mk (not_mk (not_f (and_l b193))) (and_r b193)))
      exact L_op (.guard 20 true 32 rfl rfl (ltb rfl) (d195.trans (congrArg Value.bool g194))) rfl (ltb rfl) (X_loadB Tryd.isAgg9 (Blk.ext k6 (Ext.trans e11 e190)) d197 rfl) <| L_nil <| stepEnd rfl rfl (Ext.refl w189) ⟨fun _ => rfl, fun h => absurd (b193.symm.trans h) (by decide)⟩
    · rcases bool_two (!(decide (20 < (a0.body.length : Int)))) with b198 | b198
      · have d199 : s188 32 = (.bool (decide (a0.kind = 2))) := ((hd192 20 rfl).1 (not_mk (not_f b198)))
        have g200 : (decide (a0.kind = 2)) = false := (and_fr b193 b198)
        exact L_skip rfl rfl (ltb rfl) (d199.trans (congrArg Value.bool g200)) rfl rfl (ltb rfl) <| L_nil <| stepEnd rfl rfl (Ext.refl w189) ⟨fun h => absurd (b193.symm.trans h) (by decide), fun _ => rfl⟩
      · exact L_skipU rfl rfl (ltb rfl) ((hd192 20 rfl).2 b198) rfl (ltb rfl) <| L_nil <| stepEnd rfl rfl (Ext.refl w189) ⟨fun h => absurd (b193.symm.trans h) (by decide), fun _ => rfl⟩
  · intro s201 w202 e203 hf204 hd205 _
    rcases bool_two ((!(decide (20 < (a0.body.length : Int)))) && (decide (a0.kind = 2))) with b206 | b206
    · have g207 : (decide (a0.kind = 2)) = true := (and_r b206)
      have d208 : s201 32 = (.bool (decide (a0.kind = 2))) := ((hd205 20 rfl).1 (not_mk (not_f (and_l b206))))
      have d209 : s201 32 = (.bool (decide (a0.kind = 2))) := ((hd205 20 rfl).1 (not_mk (not_f (and_l b206))))
      have d210 : s201 34 = (S a0.body) := ((hd205 22 rfl).1 (and_mk (not_mk (not_f (and_l b206))) (and_r b206)))
      exact L_op (.guard 20 true 32 rfl rfl (ltb rfl) (d208.trans (congrArg Value.bool g207))) rfl (ltb rfl) (X_seq d210 rfl) <| L_nil <| stepEnd rfl rfl (Ext.refl w202) ⟨fun _ => rfl, fun h => absurd (b206.symm.trans h) (by decide)⟩
    · rcases bool_two (!(decide (20 < (a0.body.length : Int)))) with b211 | b211
      · have d212 : s201 32 = (.bool (decide (a0.kind = 2))) := ((hd205 20 rfl).1 (not_mk (not_f b211)))
        have g213 : (decide (a0.kind = 2)) = false := (and_fr b206 b211)
        exact L_skip rfl rfl (ltb rfl) (d212.trans (congrArg Value.bool g213)) rfl rfl (ltb rfl) <| L_nil <| stepEnd rfl rfl (Ext.refl w202) ⟨fun h => absurd (b206.symm.trans h) (by decide), fun _ => rfl⟩
      · exact L_skipU rfl rfl (ltb rfl) ((hd205 20 rfl).2 b211) rfl (ltb rfl) <| L_nil <| stepEnd rfl rfl (Ext.refl w202) ⟨fun h => absurd (b206.symm.trans h) (by decide), fun _ => rfl⟩
  · intro s214 w215 e216 hf217 hd218 _
    rcases bool_two (!(decide (20 < (a0.body.length : Int)))) with b219 | b219
    · have g220 : (decide (20 < (a0.body.length : Int))) = false := (not_f b219)
      have d221 : s214 28 = (.bool (decide (20 < (a0.body.length : Int)))) := (hd218 16 rfl)
      rcases bool_two (decide (a0.kind = 2)) with b222 | b222
      · have d223 : s214 32 = (.bool (decide (a0.kind = 2))) := ((hd218 20 rfl).1 (not_mk (not_f b219)))
        have d224 : s214 35 = (.bool (decide (a0.body = ([] : List UInt8)))) := ((hd218 23 rfl).1 (and_mk (not_mk (not_f b219)) b222))
        exact L_op (.guard 16 false 28 rfl rfl (ltb rfl) (d221.trans (congrArg Value.bool g220))) rfl (ltb rfl) (X_pick (b := true) (v := (.bool (decide (a0.body = ([] : List UInt8))))) (d223.trans (congrArg Value.bool b222)) d224) <| L_nil <| stepEnd rfl rfl (Ext.refl w215) ⟨fun _ => (by show _ = _; rw [b222]; rfl), fun h => absurd (b219.symm.trans h) (by decide)⟩
      · have d225 : s214 32 = (.bool (decide (a0.kind = 2))) := ((hd218 20 rfl).1 (not_mk (not_f b219)))
        exact L_op (.guard 16 false 28 rfl rfl (ltb rfl) (d221.trans (congrArg Value.bool g220))) rfl (ltb rfl) (X_pick (b := false) (v := (.bool false)) (d225.trans (congrArg Value.bool b222)) rfl) <| L_nil <| stepEnd rfl rfl (Ext.refl w215) ⟨fun _ => (by show _ = _; rw [b222]; rfl), fun h => absurd (b219.symm.trans h) (by decide)⟩
    · have d226 : s214 28 = (.bool (decide (20 < (a0.body.length : Int)))) := (hd218 16 rfl)
      have g227 : (decide (20 < (a0.body.length : Int))) = true := (not_ff b219)
      exact L_skip rfl rfl (ltb rfl) (d226.trans (congrArg Value.bool g227)) rfl rfl (ltb rfl) <| L_nil <| stepEnd rfl rfl (Ext.refl w215) ⟨fun h => absurd (b219.symm.trans h) (by decide), fun _ => rfl⟩
  · intro s228 w229 e230 hf231 hd232 _
    rcases bool_two (decide (20 < (a0.body.length : Int))) with b233 | b233
    · have d234 : s228 28 = (.bool (decide (20 < (a0.body.length : Int)))) := (hd232 16 rfl)
      exact L_op (.plain rfl) rfl (ltb rfl) (X_pick (b := true) (v := (.bool true)) (d234.trans (congrArg Value.bool b233)) rfl) <| L_nil <| stepEnd rfl rfl (Ext.refl w229) (by show _ = _; rw [b233]; rfl)
    · have d235 : s228 28 = (.bool (decide (20 < (a0.body.length : Int)))) := (hd232 16 rfl)
      have d236 : s228 36 = (.bool ((decide (a0.kind = 2)) && (decide (a0.body = ([] : List UInt8))))) := ((hd232 24 rfl).1 (not_mk b233))
      exact L_op (.plain rfl) rfl (ltb rfl) (X_pick (b := false) (v := (.bool ((decide (a0.kind = 2)) && (decide (a0.body = ([] : List UInt8)))))) (d235.trans (congrArg Value.bool b233)) d236) <| L_nil <| stepEnd rfl rfl (Ext.refl w229) (by show _ = _; rw [b233]; rfl)
  · intro s237 w238 e239 hf240 hd241 _
    have d242 : s237 37 = (.bool ((decide (20 < (a0.body.length : Int))) || ((decide (a0.kind = 2)) && (decide (a0.body = ([] : List UInt8)))))) := (hd241 25 rfl)
    exact L_op (.plain rfl) rfl (ltb rfl) (X_mkiface Tryd.underlying4 rfl d242) <| L_nil <| stepEnd rfl rfl (Ext.refl w238) rfl
  · intro s243 w244 e245 hf246 hd247 _
    exact L_op (.plain rfl) rfl (ltb rfl) (X_mkiface Tryd.underlying3 rfl rfl) <| L_nil <| stepEnd rfl rfl (Ext.refl w244) rfl
  · intro s248 w249 e250 hf251 hd252 _
    exact L_op (.plain rfl) rfl (ltb rfl) (X_move (v := (.bool ((decide (a0.kind = 3)) || (decide (a0.kind = 4))))) (hf251 3 rfl)) <| L_nil <| stepEnd rfl rfl (Ext.refl w249) rfl
  · intro s253 w254 e255 hf256 hd257 _
    have d258 : s253 40 = (.bool ((decide (a0.kind = 3)) || (decide (a0.kind = 4)))) := (hd257 28 rfl)
    exact L_op (.plain rfl) rfl (ltb rfl) (X_move (v := (.bool ((decide (a0.kind = 3)) || (decide (a0.kind = 4))))) d258) <| L_nil <| stepEnd rfl rfl (Ext.refl w254) rfl
  · intro s259 w260 e261 hf262 hd263 _
    rcases bool_two ((decide (a0.kind = 3)) || (decide (a0.kind = 4))) with b264 | b264
    · have g265 : ((decide (a0.kind = 3)) || (decide (a0.kind = 4))) = true := b264
      have d266 : s259 41 = (.bool ((decide (a0.kind = 3)) || (decide (a0.kind = 4)))) := (hd263 29 rfl)
      have d267 : s259 41 = (.bool ((decide (a0.kind = 3)) || (decide (a0.kind = 4)))) := (hd263 29 rfl)
      exact L_op (.guard 29 true 41 rfl rfl (ltb rfl) (d266.trans (congrArg Value.bool g265))) rfl (ltb rfl) (X_fieldAddr Tryd.underlying30 rfl Tryd.sizeOf9 rfl ((hf262 1 rfl).trans (K9 1 rfl))) <| L_nil <| stepEnd rfl rfl (Ext.refl w260) ⟨fun _ => rfl, fun h => absurd (b264.symm.trans h) (by decide)⟩
    · have d268 : s259 41 = (.bool ((decide (a0.kind = 3)) || (decide (a0.kind = 4)))) := (hd263 29 rfl)
      have g269 : ((decide (a0.kind = 3)) || (decide (a0.kind = 4))) = false := b264
      exact L_skip rfl rfl (ltb rfl) (d268.trans (congrArg Value.bool g269)) rfl rfl (ltb rfl) <| L_nil <| stepEnd rfl rfl (Ext.refl w260) ⟨fun h => absurd (b264.symm.trans h) (by decide), fun _ => rfl⟩
  · intro s270 w271 e272 hf273 hd274 _
    rcases bool_two ((decide (a0.kind = 3)) || (decide (a0.kind = 4))) with b275 | b275
    · have g276 : ((decide (a0.kind = 3)) || (decide (a0.kind = 4))) = true := b275
      have d277 : s270 41 = (.bool ((decide (a0.kind = 3)) || (decide (a0.kind = 4)))) := (hd274 29 rfl)
      have d278 : s270 41 = (.bool ((decide (a0.kind = 3)) || (decide (a0.kind = 4)))) := (hd274 29 rfl)
      have d279 : s270 42 = (.pointer (some ⟨b1, 2, none⟩)) := ((hd274 30 rfl).1 b275)
      exact L_op (.guard 29 true 41 rfl rfl (ltb rfl) (d277.trans (congrArg Value.bool g276))) rfl (ltb rfl) (X_loadB Tryd.isAgg9 (Blk.ext k6 (Ext.trans e11 e272)) d279 rfl) <| L_nil <| stepEnd rfl rfl (Ext.refl w271) ⟨fun _ => rfl, fun h => absurd (b275.symm.trans h) (by decide)⟩
    · have d280 : s270 41 = (.bool ((decide (a0.kind = 3)) || (decide (a0.kind = 4)))) := (hd274 29 rfl)
      have g281 : ((decide (a0.kind = 3)) || (decide (a0.kind = 4))) = false := b275
      exact L_skip rfl rfl (ltb rfl) (d280.trans (congrArg Value.bool g281)) rfl rfl (ltb rfl) <| L_nil <| stepEnd rfl rfl (Ext.refl w271) ⟨fun h => absurd (b275.symm.trans h) (by decide), fun _ => rfl⟩
  · intro s282 w283 e284 hf285 hd286 _
    rcases bool_two ((decide (a0.kind = 3)) || (decide (a0.kind = 4))) with b287 | b287
    · have g288 : ((decide (a0.kind = 3)) || (decide (a0.kind = 4))) = true := b287
      have d289 : s282 41 = (.bool ((decide (a0.kind = 3)) || (decide (a0.kind = 4)))) := (hd286 29 rfl)
      have d290 : s282 41 = (.bool ((decide (a0.kind = 3)) || (decide (a0.kind = 4)))) := (hd286 29 rfl)
      have d291 : s282 43 = (S a0.body) := ((hd286 31 rfl).1 b287)
      exact L_op (.guard 29 true 41 rfl rfl (ltb rfl) (d289.trans (congrArg Value.bool g288))) rfl (ltb rfl) (X_sne d291 rfl) <| L_nil <| stepEnd rfl rfl (Ext.refl w283) ⟨fun _ => rfl, fun h => absurd (b287.symm.trans h) (by decide)⟩
    · have d292 : s282 41 = (.bool ((decide (a0.kind = 3)) || (decide (a0.kind = 4)))) := (hd286 29 rfl)
      have g293 : ((decide (a0.kind = 3)) || (decide (a0.kind = 4))) = false := b287
      exact L_skip rfl rfl (ltb rfl) (d292.trans (congrArg Value.bool g293)) rfl rfl (ltb rfl) <| L_nil <| stepEnd rfl rfl (Ext.refl w283) ⟨fun h => absurd (b287.symm.trans h) (by decide), fun _ => rfl⟩
  · intro s294 w295 e296 hf297 hd298 _
    rcases bool_two ((decide (a0.kind = 3)) || (decide (a0.kind = 4))) with b299 | b299
    · have d300 : s294 41 = (.bool ((decide (a0.kind = 3)) || (decide (a0.kind = 4)))) := (hd298 29 rfl)
      have d301 : s294 44 = (.bool (!decide (a0.body = ([] : List UInt8)))) := ((hd298 32 rfl).1 b299)
      exact L_op (.plain rfl) rfl (ltb rfl) (X_pick (b := true) (v := (.bool (!decide (a0.body = ([] : List UInt8))))) (d300.trans (congrArg Value.bool b299)) d301) <| L_nil <| stepEnd rfl rfl (Ext.refl w295) (by show _ = _; rw [b299]; rfl)
    · have d302 : s294 41 = (.bool ((decide (a0.kind = 3)) || (decide (a0.kind = 4)))) := (hd298 29 rfl)
      exact L_op (.plain rfl) rfl (ltb rfl) (X_pick (b := false) (v := (.bool false)) (d302.trans (congrArg Value.bool b299)) rfl) <| L_nil <| stepEnd rfl rfl (Ext.refl w295) (by show _ = _; rw [b299]; rfl)
  · intro s303 w304 e305 hf306 hd307 _
    have d308 : s303 45 = (.bool (((decide (a0.kind = 3)) || (decide (a0.kind = 4))) && (!decide (a0.body = ([] : List UInt8))))) := (hd307 33 rfl)
    exact L_op (.plain rfl) rfl (ltb rfl) (X_move d308) <| L_nil <| stepEnd rfl rfl (Ext.refl w304) rfl
  · intro s309 w310 e311 hf312 hd313 _
    rcases bool_two (!(((decide (a0.kind = 3)) || (decide (a0.kind = 4))) && (!decide (a0.body = ([] : List UInt8))))) with b314 | b314
    · have g315 : (((decide (a0.kind = 3)) || (decide (a0.kind = 4))) && (!decide (a0.body = ([] : List UInt8)))) = false := (not_f b314)
      have d316 : s309 46 = (.bool (((decide (a0.kind = 3)) || (decide (a0.kind = 4))) && (!decide (a0.body = ([] : List UInt8))))) := (hd313 34 rfl)
      have d317 : s309 46 = (.bool (((decide (a0.kind = 3)) || (decide (a0.kind = 4))) && (!decide (a0.body = ([] : List UInt8))))) := (hd313 34 rfl)
      exact L_op (.guard 34 false 46 rfl rfl (ltb rfl) (d316.trans (congrArg Value.bool g315))) rfl (ltb rfl) (X_fieldAddr Tryd.underlying30 rfl Tryd.sizeOf3 rfl ((hf312 1 rfl).trans (K9 1 rfl))) <| L_nil <| stepEnd rfl rfl (Ext.refl w310) ⟨fun _ => rfl, fun h => absurd (b314.symm.trans h) (by decide)⟩
    · have d318 : s309 46 = (.bool (((decide (a0.kind = 3)) || (decide (a0.kind = 4))) && (!decide (a0.body = ([] : List UInt8))))) := (hd313 34 rfl)
      have g319 : (((decide (a0.kind = 3)) || (decide (a0.kind = 4))) && (!decide (a0.body = ([] : List UInt8)))) = true := (not_ff b314)
      exact L_skip rfl rfl (ltb rfl) (d318.trans (congrArg Value.bool g319)) rfl rfl (ltb rfl) <| L_nil <| stepEnd rfl rfl (Ext.refl w310) ⟨fun h => absurd (b314.symm.trans h) (by decide), fun _ => rfl⟩
  · intro s320 w321 e322 hf323 hd324 _
    rcases bool_two (!(((decide (a0.kind = 3)) || (decide (a0.kind = 4))) && (!decide (a0.body = ([] : List UInt8))))) with b325 | b325
    · have g326 : (((decide (a0.kind = 3)) || (decide (a0.kind = 4))) && (!decide (a0.body = ([] : List UInt8)))) = false := (not_f b325)
      have d327 : s320 46 = (.bool (((decide (a0.kind = 3)) || (decide (a0.kind = 4))) && (!decide (a0.body = ([] : List UInt8))))) := (hd324 34 rfl)
      have d328 : s320 46 = (.bool (((decide (a0.kind = 3)) || (decide (a0.kind = 4))) && (!decide (a0.body = ([] : List UInt8))))) := (hd324 34 rfl)
      have d329 : s320 47 = (.pointer (some ⟨b1, 0, none⟩)) := ((hd324 35 rfl).1 (not_mk (not_f b325)))
      exact L_op (.guard 34 false 46 rfl rfl (ltb rfl) (d327.trans (congrArg Value.bool g326))) rfl (ltb rfl) (X_loadB Tryd.isAgg3 (Blk.ext k6 (Ext.trans e11 e322)) d329 rfl) <| L_nil <| stepEnd rfl rfl (Ext.refl w321) ⟨fun _ => rfl, fun h => absurd (b325.symm.trans h) (by decide)⟩
    · have d330 : s320 46 = (.bool (((decide (a0.kind = 3)) || (decide (a0.kind = 4))) && (!decide (a0.body = ([] : List UInt8))))) := (hd324 34 rfl)
      have g331 : (((decide (a0.kind = 3)) || (decide (a0.kind = 4))) && (!decide (a0.body = ([] : List UInt8)))) = true := (not_ff b325)
      exact L_skip rfl rfl (ltb rfl) (d330.trans (congrArg Value.bool g331)) rfl rfl (ltb rfl) <| L_nil <| stepEnd rfl rfl (Ext.refl w321) ⟨fun h => absurd (b325.symm.trans h) (by decide), fun _ => rfl⟩
  · intro s332 w333 e334 hf335 hd336 _
    rcases bool_two (!(((decide (a0.kind = 3)) || (decide (a0.kind = 4))) && (!decide (a0.body = ([] : List UInt8))))) with b337 | b337
    · have g338 : (((decide (a0.kind = 3)) || (decide (a0.kind = 4))) && (!decide (a0.body = ([] : List UInt8)))) = false := (not_f b337)
      have d339 : s332 46 = (.bool (((decide (a0.kind = 3)) || (decide (a0.kind = 4))) && (!decide (a0.body = ([] : List UInt8))))) := (hd336 34 rfl)
      have d340 : s332 46 = (.bool (((decide (a0.kind = 3)) || (decide (a0.kind = 4))) && (!decide (a0.body = ([] : List UInt8))))) := (hd336 34 rfl)
      have d341 : s332 48 = (.int .i64 a0.kind) := ((hd336 36 rfl).1 (not_mk (not_f b337)))
      exact L_op (.guard 34 false 46 rfl rfl (ltb rfl) (d339.trans (congrArg Value.bool g338))) rfl (ltb rfl) (X_neq d341 rfl) <| L_nil <| stepEnd rfl rfl (Ext.refl w333) ⟨fun _ => rfl, fun h => absurd (b337.symm.trans h) (by decide)⟩
    · have d342 : s332 46 = (.bool (((decide (a0.kind = 3)) || (decide (a0.kind = 4))) && (!decide (a0.body = ([] : List UInt8))))) := (hd336 34 rfl)
      have g343 : (((decide (a0.kind = 3)) || (decide (a0.kind = 4))) && (!decide (a0.body = ([] : List UInt8)))) = true := (not_ff b337)
      exact L_skip rfl rfl (ltb rfl) (d342.trans (congrArg Value.bool g343)) rfl rfl (ltb rfl) <| L_nil <| stepEnd rfl rfl (Ext.refl w333) ⟨fun h => absurd (b337.symm.trans h) (by decide), fun _ => rfl⟩
  · intro s344 w345 e346 hf347 hd348 _
    rcases bool_two (!(((decide (a0.kind = 3)) || (decide (a0.kind = 4))) && (!decide (a0.body = ([] : List UInt8))))) with b349 | b349
    · have g350 : (((decide (a0.kind = 3)) || (decide (a0.kind = 4))) && (!decide (a0.body = ([] : List UInt8)))) = false := (not_f b349)
      have d351 : s344 46 = (.bool (((decide (a0.kind = 3)) || (decide (a0.kind = 4))) && (!decide (a0.body = ([] : List UInt8))))) := (hd348 34 rfl)
      have d352 : s344 46 = (.bool (((decide (a0.kind = 3)) || (decide (a0.kind = 4))) && (!decide (a0.body = ([] : List UInt8))))) := (hd348 34 rfl)
      have d353 : s344 49 = (.bool (!decide (a0.kind = 3))) := ((hd348 37 rfl).1 (not_mk (not_f b349)))
      exact L_op (.guard 34 false 46 rfl rfl (ltb rfl) (d351.trans (congrArg Value.bool g350))) rfl (ltb rfl) (X_move (v := (.bool (!decide (a0.kind = 3)))) d353) <| L_nil <| stepEnd rfl rfl (Ext.refl w345) ⟨fun _ => rfl, fun h => absurd (b349.symm.trans h) (by decide)⟩
    · have d354 : s344 46 = (.bool (((decide (a0.kind = 3)) || (decide (a0.kind = 4))) && (!decide (a0.body = ([] : List UInt8))))) := (hd348 34 rfl)
      have g355 : (((decide (a0.kind = 3)) || (decide (a0.kind = 4))) && (!decide (a0.body = ([] : List UInt8)))) = true := (not_ff b349)
      exact L_skip rfl rfl (ltb rfl) (d354.trans (congrArg Value.bool g355)) rfl rfl (ltb rfl) <| L_nil <| stepEnd rfl rfl (Ext.refl w345) ⟨fun h => absurd (b349.symm.trans h) (by decide), fun _ => rfl⟩
  · intro s356 w357 e358 hf359 hd360 _
    rcases bool_two ((!(((decide (a0.kind = 3)) || (decide (a0.kind = 4))) && (!decide (a0.body = ([] : List UInt8))))) && (!decide (a0.kind = 3))) with b361 | b361
    · have g362 : (!decide (a0.kind = 3)) = true := (and_r b361)
      have d363 : s356 50 = (.bool (!decide (a0.kind = 3))) := ((hd360 38 rfl).1 (not_mk (not_f (and_l b361))))
      have d364 : s356 50 = (.bool (!decide (a0.kind = 3))) := ((hd360 38 rfl).1 (not_mk (not_f (and_l b361))))
      exact L_op (.guard 38 true 50 rfl rfl (ltb rfl) (d363.trans (congrArg Value.bool g362))) rfl (ltb rfl) (X_fieldAddr Tryd.underlying30 rfl Tryd.sizeOf4 rfl ((hf359 1 rfl).trans (K9 1 rfl))) <| L_nil <| stepEnd rfl rfl (Ext.refl w357) ⟨fun _ => rfl, fun h => absurd (b361.symm.trans h) (by decide)⟩
    · rcases bool_two (!(((decide (a0.kind = 3)) || (decide (a0.kind = 4))) && (!decide (a0.body = ([] : List UInt8))))) with b365 | b365
      · have d366 : s356 50 = (.bool (!decide (a0.kind = 3))) := ((hd360 38 rfl).1 (not_mk (not_f b365)))
        have g367 : (!decide (a0.kind = 3)) = false := (and_fr b361 b365)
        exact L_skip rfl rfl (ltb rfl) (d366.trans (congrArg Value.bool g367)) rfl rfl (ltb rfl) <| L_nil <| stepEnd rfl rfl (Ext.refl w357) ⟨fun h => absurd (b361.symm.trans h) (by decide), fun _ => rfl⟩
      · exact L_skipU rfl rfl (ltb rfl) ((hd360 38 rfl).2 b365) rfl (ltb rfl) <| L_nil <| stepEnd rfl rfl (Ext.refl w357) ⟨fun h => absurd (b361.symm.trans h) (by decide), fun _ => rfl⟩
  · intro s368 w369 e370 hf371 hd372 _
    rcases bool_two ((!(((decide (a0.kind = 3)) || (decide (a0.kind = 4))) && (!decide (a0.body = ([] : List UInt8))))) && (!decide (a0.kind = 3))) with b373 | b373
    · have g374 : (!decide (a0.kind = 3)) = true := (and_r b373)
      have d375 : s368 50 = (.bool (!decide (a0.kind = 3))) := ((hd372 38 rfl).1 (not_mk (not_f (and_l b373))))
      have d376 : s368 50 = (.bool (!decide (a0.kind = 3))) := ((hd372 38 rfl).1 (not_mk (not_f (and_l b373))))
      have d377 : s368 51 = (.pointer (some ⟨b1, 4, none⟩)) := ((hd372 39 rfl).1 (and_mk (not_mk (not_f (and_l b373))) (and_r b373)))
      exact L_op (.guard 38 true 50 rfl rfl (ltb rfl) (d375.trans (congrArg Value.bool g374))) rfl (ltb rfl) (X_loadB Tryd.isAgg4 (Blk.ext k6 (Ext.trans e11 e370)) d377 rfl) <| L_nil <| stepEnd rfl rfl (Ext.refl w369) ⟨fun _ => rfl, fun h => absurd (b373.symm.trans h) (by decide)⟩
    · rcases bool_two (!(((decide (a0.kind = 3)) || (decide (a0.kind = 4))) && (!decide (a0.body = ([] : List UInt8))))) with b378 | b378
      · have d379 : s368 50 = (.bool (!decide (a0.kind = 3))) := ((hd372 38 rfl).1 (not_mk (not_f b378)))
        have g380 : (!decide (a0.kind = 3)) = false := (and_fr b373 b378)
        exact L_skip rfl rfl (ltb rfl) (d379.trans (congrArg Value.bool g380)) rfl rfl (ltb rfl) <| L_nil <| stepEnd rfl rfl (Ext.refl w369) ⟨fun h => absurd (b373.symm.trans h) (by decide), fun _ => rfl⟩
      · exact L_skipU rfl rfl (ltb rfl) ((hd372 38 rfl).2 b378) rfl (ltb rfl) <| L_nil <| stepEnd rfl rfl (Ext.refl w369) ⟨fun h => absurd (b373.symm.trans h) (by decide), fun _ => rfl⟩
  · intro s381 w382 e383 hf384 hd385 _
    rcases bool_two (!(((decide (a0.kind = 3)) || (decide (a0.kind = 4))) && (!decide (a0.body = ([] : List UInt8))))) with b386 | b386
    · have g387 : (((decide (a0.kind = 3)) || (decide (a0.kind = 4))) && (!decide (a0.body = ([] : List UInt8)))) = false := (not_f b386)
      have d388 : s381 46 = (.bool (((decide (a0.kind = 3)) || (decide (a0.kind = 4))) && (!decide (a0.body = ([] : List UInt8))))) := (hd385 34 rfl)
      rcases bool_two (!decide (a0.kind = 3)) with b389 | b389
      · have d390 : s381 50 = (.bool (!decide (a0.kind = 3))) := ((hd385 38 rfl).1 (not_mk (not_f b386)))
        have d391 : s381 52 = (.bool a0.opq) := ((hd385 40 rfl).1 (and_mk (not_mk (not_f b386)) b389))
        exact L_op (.guard 34 false 46 rfl rfl (ltb rfl) (d388.trans (congrArg Value.bool g387))) rfl (ltb rfl) (X_pick (b := true) (v := (.bool a0.opq)) (d390.trans (congrArg Value.bool b389)) d391) <| L_nil <| stepEnd rfl rfl (Ext.refl w382) ⟨fun _ => (by show _ = _; rw [b389]; rfl), fun h => absurd (b386.symm.trans h) (by decide)⟩
      · have d392 : s381 50 = (.bool (!decide (a0.kind = 3))) := ((hd385 38 rfl).1 (not_mk (not_f b386)))
        exact L_op (.guard 34 false 46 rfl rfl (ltb rfl) (d388.trans (congrArg Value.bool g387))) rfl (ltb rfl) (X_pick (b := false) (v := (.bool false)) (d392.trans (congrArg Value.bool b389)) rfl) <| L_nil <| stepEnd rfl rfl (Ext.refl w382) ⟨fun _ => (by show _ = _; rw [b389]; rfl), fun h => absurd (b386.symm.trans h) (by decide)⟩
    · have d393 : s381 46 = (.bool (((decide (a0.kind = 3)) || (decide (a0.kind = 4))) && (!decide (a0.body = ([] : List UInt8))))) := (hd385 34 rfl)
      have g394 : (((decide (a0.kind = 3)) || (decide (a0.kind = 4))) && (!decide (a0.body = ([] : List UInt8)))) = true := (not_ff b386)
      exact L_skip rfl rfl (ltb rfl) (d393.trans (congrArg Value.bool g394)) rfl rfl (ltb rfl) <| L_nil <| stepEnd rfl rfl (Ext.refl w382) ⟨fun h => absurd (b386.symm.trans h) (by decide), fun _ => rfl⟩
  · intro s395 w396 e397 hf398 hd399 _
    rcases bool_two (((decide (a0.kind = 3)) || (decide (a0.kind = 4))) && (!decide (a0.body = ([] : List UInt8)))) with b400 | b400
    · have d401 : s395 46 = (.bool (((decide (a0.kind = 3)) || (decide (a0.kind = 4))) && (!decide (a0.body = ([] : List UInt8))))) := (hd399 34 rfl)
      exact L_op (.plain rfl) rfl (ltb rfl) (X_pick (b := true) (v := (.bool true)) (d401.trans (congrArg Value.bool b400)) rfl) <| L_nil <| stepEnd rfl rfl (Ext.refl w396) (by show _ = _; rw [b400]; rfl)
    · have d402 : s395 46 = (.bool (((decide (a0.kind = 3)) || (decide (a0.kind = 4))) && (!decide (a0.body = ([] : List UInt8))))) := (hd399 34 rfl)
      have d403 : s395 53 = (.bool ((!decide (a0.kind = 3)) && a0.opq)) := ((hd399 41 rfl).1 (not_mk b400))
      exact L_op (.plain rfl) rfl (ltb rfl) (X_pick (b := false) (v := (.bool ((!decide (a0.kind = 3)) && a0.opq))) (d402.trans (congrArg Value.bool b400)) d403) <| L_nil <| stepEnd rfl rfl (Ext.refl w396) (by show _ = _; rw [b400]; rfl)
  · intro s404 w405 e406 hf407 hd408 _
    have d409 : s404 54 = (.bool ((((decide (a0.kind = 3)) || (decide (a0.kind = 4))) && (!decide (a0.body = ([] : List UInt8)))) || ((!decide (a0.kind = 3)) && a0.opq))) := (hd408 42 rfl)
    exact L_op (.plain rfl) rfl (ltb rfl) (X_mkiface Tryd.underlying4 rfl d409) <| L_nil <| stepEnd rfl rfl (Ext.refl w405) rfl
  · intro s410 w411 e412 hf413 hd414 _
    exact L_op (.plain rfl) rfl (ltb rfl) (X_mkiface Tryd.underlying3 rfl rfl) <| L_nil <| stepEnd rfl rfl (Ext.refl w411) rfl
  · intro s415 w416 e417 hf418 hd419 _
    exact L_op (.plain rfl) rfl (ltb rfl) (X_fieldAddr Tryd.underlying30 rfl Tryd.sizeOf3 rfl ((hf418 1 rfl).trans (K9 1 rfl))) <| L_nil <| stepEnd rfl rfl (Ext.refl w416) rfl
  · intro s420 w421 e422 hf423 hd424 _
    have d425 : s420 57 = (.pointer (some ⟨b1, 3, none⟩)) := (hd424 45 rfl)
    exact L_op (.plain rfl) rfl (ltb rfl) (X_loadB Tryd.isAgg3 (Blk.ext k6 (Ext.trans e11 e422)) d425 rfl) <| L_nil <| stepEnd rfl rfl (Ext.refl w421) rfl
  · intro s426 w427 e428 hf429 hd430 _
    have d431 : s426 58 = (.int .i64 a0.mode) := (hd430 46 rfl)
    exact L_callP (.plain rfl) rfl (ltb rfl) rfl Tryd.call42 (impl_within.calls (w := w427) (a0 := a0.mode) (a1 := 0) (a2 := 511)) (cons2 d431 (cons2 rfl (cons2 rfl rfl))) <| fun w432 e433 => L_nil <| stepEnd rfl rfl e433 rfl
  · intro s434 w435 e436 hf437 hd438 _
    have d439 : s434 59 = (.bool (within a0.mode 0 511)) := (hd438 47 rfl)
    exact L_op (.plain rfl) rfl (ltb rfl) (X_not d439) <| L_nil <| stepEnd rfl rfl (Ext.refl w435) rfl
  · intro s440 w441 e442 hf443 hd444 _
    have d445 : s440 60 = (.bool (!(within a0.mode 0 511))) := (hd444 48 rfl)
    exact L_op (.plain rfl) rfl (ltb rfl) (X_move (v := (.bool (!(within a0.mode 0 511)))) d445) <| L_nil <| stepEnd rfl rfl (Ext.refl w441) rfl
  · intro s446 w447 e448 hf449 hd450 _
    rcases bool_two (!(!(within a0.mode 0 511))) with b451 | b451
    · have g452 : (!(within a0.mode 0 511)) = false := (not_f b451)
      have d453 : s446 61 = (.bool (!(within a0.mode 0 511))) := (hd450 49 rfl)
      have d454 : s446 61 = (.bool (!(within a0.mode 0 511))) := (hd450 49 rfl)
      exact L_op (.guard 49 false 61 rfl rfl (ltb rfl) (d453.trans (congrArg Value.bool g452))) rfl (ltb rfl) (X_fieldAddr Tryd.underlying30 rfl Tryd.sizeOf3 rfl ((hf449 1 rfl).trans (K9 1 rfl))) <| L_nil <| stepEnd rfl rfl (Ext.refl w447) ⟨fun _ => rfl, fun h => absurd (b451.symm.trans h) (by decide)⟩
    · have d455 : s446 61 = (.bool (!(within a0.mode 0 511))) := (hd450 49 rfl)
      have g456 : (!(within a0.mode 0 511)) = true := (not_ff b451)
      exact L_skip rfl rfl (ltb rfl) (d455.trans (congrArg Value.bool g456)) rfl rfl (ltb rfl) <| L_nil <| stepEnd rfl rfl (Ext.refl w447) ⟨fun h => absurd (b451.symm.trans h) (by decide), fun _ => rfl⟩
  · intro s457 w458 e459 hf460 hd461 _
    rcases bool_two (!(!(within a0.mode 0 511))) with b462 | b462
    · have g463 : (!(within a0.mode 0 511)) = false := (not_f b462)
      have d464 : s457 61 = (.bool (!(within a0.mode 0 511))) := (hd461 49 rfl)
      have d465 : s457 61 = (.bool (!(within a0.mode 0 511))) := (hd461 49 rfl)
      have d466 : s457 62 = (.pointer (some ⟨b1, 0, none⟩)) := ((hd461 50 rfl).1 (not_mk (not_f b462)))
      exact L_op (.guard 49 false 61 rfl rfl (ltb rfl) (d464.trans (congrArg Value.bool g463))) rfl (ltb rfl) (X_loadB Tryd.isAgg3 (Blk.ext k6 (Ext.trans e11 e459)) d466 rfl) <| L_nil <| stepEnd rfl rfl (Ext.refl w458) ⟨fun _ => rfl, fun h => absurd (b462.symm.trans h) (by decide)⟩
    · have d467 : s457 61 = (.bool (!(within a0.mode 0 511))) := (hd461 49 rfl)
      have g468 : (!(within a0.mode 0 511)) = true := (not_ff b462)
      exact L_skip rfl rfl (ltb rfl) (d467.trans (congrArg Value.bool g468)) rfl rfl (ltb rfl) <| L_nil <| stepEnd rfl rfl (Ext.refl w458) ⟨fun h => absurd (b462.symm.trans h) (by decide), fun _ => rfl⟩
  · intro s469 w470 e471 hf472 hd473 _
    rcases bool_two (!(!(within a0.mode 0 511))) with b474 | b474
    · have g475 : (!(within a0.mode 0 511)) = false := (not_f b474)
      have d476 : s469 61 = (.bool (!(within a0.mode 0 511))) := (hd473 49 rfl)
      have d477 : s469 61 = (.bool (!(within a0.mode 0 511))) := (hd473 49 rfl)
      have d478 : s469 63 = (.int .i64 a0.kind) := ((hd473 51 rfl).1 (not_mk (not_f b474)))
      exact L_op (.guard 49 false 61 rfl rfl (ltb rfl) (d476.trans (congrArg Value.bool g475))) rfl (ltb rfl) (X_eql d478 rfl) <| L_nil <| stepEnd rfl rfl (Ext.refl w470) ⟨fun _ => rfl, fun h => absurd (b474.symm.trans h) (by decide)⟩
    · have d479 : s469 61 = (.bool (!(within a0.mode 0 511))) := (hd473 49 rfl)
      have g480 : (!(within a0.mode 0 511)) = true := (not_ff b474)
      exact L_skip rfl rfl (ltb rfl) (d479.trans (congrArg Value.bool g480)) rfl rfl (ltb rfl) <| L_nil <| stepEnd rfl rfl (Ext.refl w470) ⟨fun h => absurd (b474.symm.trans h) (by decide), fun _ => rfl⟩
  · intro s481 w482 e483 hf484 hd485 _
    rcases bool_two (!(!(within a0.mode 0 511))) with b486 | b486
    · have g487 : (!(within a0.mode 0 511)) = false := (not_f b486)
      have d488 : s481 61 = (.bool (!(within a0.mode 0 511))) := (hd485 49 rfl)
      have d489 : s481 61 = (.bool (!(within a0.mode 0 511))) := (hd485 49 rfl)
      have d490 : s481 64 = (.bool (decide (a0.kind = 2))) := ((hd485 52 rfl).1 (not_mk (not_f b486)))
      exact L_op (.guard 49 false 61 rfl rfl (ltb rfl) (d488.trans (congrArg Value.bool g487))) rfl (ltb rfl) (X_move (v := (.bool (decide (a0.kind = 2)))) d490) <| L_nil <| stepEnd rfl rfl (Ext.refl w482) ⟨fun _ => rfl, fun h => absurd (b486.symm.trans h) (by decide)⟩
    · have d491 : s481 61 = (.bool (!(within a0.mode 0 511))) := (hd485 49 rfl)
      have g492 : (!(within a0.mode 0 511)) = true := (not_ff b486)
      exact L_skip rfl rfl (ltb rfl) (d491.trans (congrArg Value.bool g492)) rfl rfl (ltb rfl) <| L_nil <| stepEnd rfl rfl (Ext.refl w482) ⟨fun h => absurd (b486.symm.trans h) (by decide), fun _ => rfl⟩
  · intro s493 w494 e495 hf496 hd497 _
    rcases bool_two ((!(!(within a0.mode 0 511))) && (!(decide (a0.kind = 2)))) with b498 | b498
    · have g499 : (decide (a0.kind = 2)) = false := (not_f (and_r b498))
      have d500 : s493 65 = (.bool (decide (a0.kind = 2))) := ((hd497 53 rfl).1 (not_mk (not_f (and_l b498))))
      have d501 : s493 65 = (.bool (decide (a0.kind = 2))) := ((hd497 53 rfl).1 (not_mk (not_f (and_l b498))))
      exact L_op (.guard 53 false 65 rfl rfl (ltb rfl) (d500.trans (congrArg Value.bool g499))) rfl (ltb rfl) (X_fieldAddr Tryd.underlying30 rfl Tryd.sizeOf3 rfl ((hf496 1 rfl).trans (K9 1 rfl))) <| L_nil <| stepEnd rfl rfl (Ext.refl w494) ⟨fun _ => rfl, fun h => absurd (b498.symm.trans h) (by decide)⟩
    · rcases bool_two (!(!(within a0.mode 0 511))) with b502 | b502
      · have d503 : s493 65 = (.bool (decide (a0.kind = 2))) := ((hd497 53 rfl).1 (not_mk (not_f b502)))
        have g504 : (decide (a0.kind = 2)) = true := (not_ff (and_fr b498 b502))
        exact L_skip rfl rfl (ltb rfl) (d503.trans (congrArg Value.bool g504)) rfl rfl (ltb rfl) <| L_nil <| stepEnd rfl rfl (Ext.refl w494) ⟨fun h => absurd (b498.symm.trans h) (by decide), fun _ => rfl⟩
      · exact L_skipU rfl rfl (ltb rfl) ((hd497 53 rfl).2 b502) rfl (ltb rfl) <| L_nil <| stepEnd rfl rfl (Ext.refl w494) ⟨fun h => absurd (b498.symm.trans h) (by decide), fun _ => rfl⟩
  · intro s505 w506 e507 hf508 hd509 _
    rcases bool_two ((!(!(within a0.mode 0 511))) && (!(decide (a0.kind = 2)))) with b510 | b510
    · have g511 : (decide (a0.kind = 2)) = false := (not_f (and_r b510))
      have d512 : s505 65 = (.bool (decide (a0.kind = 2))) := ((hd509 53 rfl).1 (not_mk (not_f (and_l b510))))
      have d513 : s505 65 = (.bool (decide (a0.kind = 2))) := ((hd509 53 rfl).1 (not_mk (not_f (and_l b510))))
      have d514 : s505 66 = (.pointer (some ⟨b1, 0, none⟩)) := ((hd509 54 rfl).1 (and_mk (not_mk (not_f (and_l b510))) (not_mk (not_f (and_r b510)))))
      exact L_op (.guard 53 false 65 rfl rfl (ltb rfl) (d512.trans (congrArg Value.bool g511))) rfl (ltb rfl) (X_loadB Tryd.isAgg3 (Blk.ext k6 (Ext.trans e11 e507)) d514 rfl) <| L_nil <| stepEnd rfl rfl (Ext.refl w506) ⟨fun _ => rfl, fun h => absurd (b510.symm.trans h) (by decide)⟩
    · rcases bool_two (!(!(within a0.mode 0 511))) with b515 | b515
      · have d516 : s505 65 = (.bool (decide (a0.kind = 2))) := ((hd509 53 rfl).1 (not_mk (not_f b515)))
        have g517 : (decide (a0.kind = 2)) = true := (not_ff (and_fr b510 b515))
        exact L_skip rfl rfl (ltb rfl) (d516.trans (congrArg Value.bool g517)) rfl rfl (ltb rfl) <| L_nil <| stepEnd rfl rfl (Ext.refl w506) ⟨fun h => absurd (b510.symm.trans h) (by decide), fun _ => rfl⟩
      · exact L_skipU rfl rfl (ltb rfl) ((hd509 53 rfl).2 b515) rfl (ltb rfl) <| L_nil <| stepEnd rfl rfl (Ext.refl w506) ⟨fun h => absurd (b510.symm.trans h) (by decide), fun _ => rfl⟩
  · intro s518 w519 e520 hf521 hd522 _
    rcases bool_two ((!(!(within a0.mode 0 511))) && (!(decide (a0.kind = 2)))) with b523 | b523
    · have g524 : (decide (a0.kind = 2)) = false := (not_f (and_r b523))
      have d525 : s518 65 = (.bool (decide (a0.kind = 2))) := ((hd522 53 rfl).1 (not_mk (not_f (and_l b523))))
      have d526 : s518 65 = (.bool (decide (a0.kind = 2))) := ((hd522 53 rfl).1 (not_mk (not_f (and_l b523))))
      have d527 : s518 67 = (.int .i64 a0.kind) := ((hd522 55 rfl).1 (and_mk (not_mk (not_f (and_l b523))) (not_mk (not_f (and_r b523)))))
      exact L_op (.guard 53 false 65 rfl rfl (ltb rfl) (d525.trans (congrArg Value.bool g524))) rfl (ltb rfl) (X_eql d527 rfl) <| L_nil <| stepEnd rfl rfl (Ext.refl w519) ⟨fun _ => rfl, fun h => absurd (b523.symm.trans h) (by decide)⟩
    · rcases bool_two (!(!(within a0.mode 0 511))) with b528 | b528
      · have d529 : s518 65 = (.bool (decide (a0.kind = 2))) := ((hd522 53 rfl).1 (not_mk (not_f b528)))
        have g530 : (decide (a0.kind = 2)) = true := (not_ff (and_fr b523 b528))
        exact L_skip rfl rfl (ltb rfl) (d529.trans (congrArg Value.bool g530)) rfl rfl (ltb rfl) <| L_nil <| stepEnd rfl rfl (Ext.refl w519) ⟨fun h => absurd (b523.symm.trans h) (by decide), fun _ => rfl⟩
      · exact L_skipU rfl rfl (ltb rfl) ((hd522 53 rfl).2 b528) rfl (ltb rfl) <| L_nil <| stepEnd rfl rfl (Ext.refl w519) ⟨fun h => absurd (b523.symm.trans h) (by decide), fun _ => rfl⟩
  · intro s531 w532 e533 hf534 hd535 _
    rcases bool_two (!(!(within a0.mode 0 511))) with b536 | b536
    · have g537 : (!(within a0.mode 0 511)) = false := (not_f b536)
      have d538 : s531 61 = (.bool (!(within a0.mode 0 511))) := (hd535 49 rfl)
      rcases bool_two (decide (a0.kind = 2)) with b539 | b539
      · have d540 : s531 65 = (.bool (decide (a0.kind = 2))) := ((hd535 53 rfl).1 (not_mk (not_f b536)))
        exact L_op (.guard 49 false 61 rfl rfl (ltb rfl) (d538.trans (congrArg Value.bool g537))) rfl (ltb rfl) (X_pick (b := true) (v := (.bool true)) (d540.trans (congrArg Value.bool b539)) rfl) <| L_nil <| stepEnd rfl rfl (Ext.refl w532) ⟨fun _ => (by show _ = _; rw [b539]; rfl), fun h => absurd (b536.symm.trans h) (by decide)⟩
      · have d541 : s531 65 = (.bool (decide (a0.kind = 2))) := ((hd535 53 rfl).1 (not_mk (not_f b536)))
        have d542 : s531 68 = (.bool (decide (a0.kind = 4))) := ((hd535 56 rfl).1 (and_mk (not_mk (not_f b536)) (not_mk b539)))
        exact L_op (.guard 49 false 61 rfl rfl (ltb rfl) (d538.trans (congrArg Value.bool g537))) rfl (ltb rfl) (X_pick (b := false) (v := (.bool (decide (a0.kind = 4)))) (d541.trans (congrArg Value.bool b539)) d542) <| L_nil <| stepEnd rfl rfl (Ext.refl w532) ⟨fun _ => (by show _ = _; rw [b539]; rfl), fun h => absurd (b536.symm.trans h) (by decide)⟩
    · have d543 : s531 61 = (.bool (!(within a0.mode 0 511))) := (hd535 49 rfl)
      have g544 : (!(within a0.mode 0 511)) = true := (not_ff b536)
      exact L_skip rfl rfl (ltb rfl) (d543.trans (congrArg Value.bool g544)) rfl rfl (ltb rfl) <| L_nil <| stepEnd rfl rfl (Ext.refl w532) ⟨fun h => absurd (b536.symm.trans h) (by decide), fun _ => rfl⟩
  · intro s545 w546 e547 hf548 hd549 _
    rcases bool_two (!(!(within a0.mode 0 511))) with b550 | b550
    · have g551 : (!(within a0.mode 0 511)) = false := (not_f b550)
      have d552 : s545 61 = (.bool (!(within a0.mode 0 511))) := (hd549 49 rfl)
      have d553 : s545 61 = (.bool (!(within a0.mode 0 511))) := (hd549 49 rfl)
      have d554 : s545 69 = (.bool ((decide (a0.kind = 2)) || (decide (a0.kind = 4)))) := ((hd549 57 rfl).1 (not_mk (not_f b550)))
      exact L_op (.guard 49 false 61 rfl rfl (ltb rfl) (d552.trans (congrArg Value.bool g551))) rfl (ltb rfl) (X_move (v := (.bool ((decide (a0.kind = 2)) || (decide (a0.kind = 4))))) d554) <| L_nil <| stepEnd rfl rfl (Ext.refl w546) ⟨fun _ => rfl, fun h => absurd (b550.symm.trans h) (by decide)⟩
    · have d555 : s545 61 = (.bool (!(within a0.mode 0 511))) := (hd549 49 rfl)
      have g556 : (!(within a0.mode 0 511)) = true := (not_ff b550)
      exact L_skip rfl rfl (ltb rfl) (d555.trans (congrArg Value.bool g556)) rfl rfl (ltb rfl) <| L_nil <| stepEnd rfl rfl (Ext.refl w546) ⟨fun h => absurd (b550.symm.trans h) (by decide), fun _ => rfl⟩
  · intro s557 w558 e559 hf560 hd561 _
    rcases bool_two ((!(!(within a0.mode 0 511))) && ((decide (a0.kind = 2)) || (decide (a0.kind = 4)))) with b562 | b562
    · have g563 : ((decide (a0.kind = 2)) || (decide (a0.kind = 4))) = true := (and_r b562)
      have d564 : s557 70 = (.bool ((decide (a0.kind = 2)) || (decide (a0.kind = 4)))) := ((hd561 58 rfl).1 (not_mk (not_f (and_l b562))))
      have d565 : s557 70 = (.bool ((decide (a0.kind = 2)) || (decide (a0.kind = 4)))) := ((hd561 58 rfl).1 (not_mk (not_f (and_l b562))))
      exact L_op (.guard 58 true 70 rfl rfl (ltb rfl) (d564.trans (congrArg Value.bool g563))) rfl (ltb rfl) (X_fieldAddr Tryd.underlying30 rfl Tryd.sizeOf3 rfl ((hf560 1 rfl).trans (K9 1 rfl))) <| L_nil <| stepEnd rfl rfl (Ext.refl w558) ⟨fun _ => rfl, fun h => absurd (b562.symm.trans h) (by decide)⟩
    · rcases bool_two (!(!(within a0.mode 0 511))) with b566 | b566
      · have d567 : s557 70 = (.bool ((decide (a0.kind = 2)) || (decide (a0.kind = 4)))) := ((hd561 58 rfl).1 (not_mk (not_f b566)))
        have g568 : ((decide (a0.kind = 2)) || (decide (a0.kind = 4))) = false := (and_fr b562 b566)
        exact L_skip rfl rfl (ltb rfl) (d567.trans (congrArg Value.bool g568)) rfl rfl (ltb rfl) <| L_nil <| stepEnd rfl rfl (Ext.refl w558) ⟨fun h => absurd (b562.symm.trans h) (by decide), fun _ => rfl⟩
      · exact L_skipU rfl rfl (ltb rfl) ((hd561 58 rfl).2 b566) rfl (ltb rfl) <| L_nil <| stepEnd rfl rfl (Ext.refl w558) ⟨fun h => absurd (b562.symm.trans h) (by decide), fun _ => rfl⟩
  · intro s569 w570 e571 hf572 hd573 _
    rcases bool_two ((!(!(within a0.mode 0 511))) && ((decide (a0.kind = 2)) || (decide (a0.kind = 4)))) with b574 | b574
    · have g575 : ((decide (a0.kind = 2)) || (decide (a0.kind = 4))) = true := (and_r b574)
      have d576 : s569 70 = (.bool ((decide (a0.kind = 2)) || (decide (a0.kind = 4)))) := ((hd573 58 rfl).1 (not_mk (not_f (and_l b574))))
      have d577 : s569 70 = (.bool ((decide (a0.kind = 2)) || (decide (a0.kind = 4)))) := ((hd573 58 rfl).1 (not_mk (not_f (and_l b574))))
      have d578 : s569 71 = (.pointer (some ⟨b1, 3, none⟩)) := ((hd573 59 rfl).1 (and_mk (not_mk (not_f (and_l b574))) (and_r b574)))
      exact L_op (.guard 58 true 70 rfl rfl (ltb rfl) (d576.trans (congrArg Value.bool g575))) rfl (ltb rfl) (X_loadB Tryd.isAgg3 (Blk.ext k6 (Ext.trans e11 e571)) d578 rfl) <| L_nil <| stepEnd rfl rfl (Ext.refl w570) ⟨fun _ => rfl, fun h => absurd (b574.symm.trans h) (by decide)⟩
    · rcases bool_two (!(!(within a0.mode 0 511))) with b579 | b579
      · have d580 : s569 70 = (.bool ((decide (a0.kind = 2)) || (decide (a0.kind = 4)))) := ((hd573 58 rfl).1 (not_mk (not_f b579)))
        have g581 : ((decide (a0.kind = 2)) || (decide (a0.kind = 4))) = false := (and_fr b574 b579)
        exact L_skip rfl rfl (ltb rfl) (d580.trans (congrArg Value.bool g581)) rfl rfl (ltb rfl) <| L_nil <| stepEnd rfl rfl (Ext.refl w570) ⟨fun h => absurd (b574.symm.trans h) (by decide), fun _ => rfl⟩
      · exact L_skipU rfl rfl (ltb rfl) ((hd573 58 rfl).2 b579) rfl (ltb rfl) <| L_nil <| stepEnd rfl rfl (Ext.refl w570) ⟨fun h => absurd (b574.symm.trans h) (by decide), fun _ => rfl⟩
  · intro s582 w583 e584 hf585 hd586 _
    rcases bool_two ((!(!(within a0.mode 0 511))) && ((decide (a0.kind = 2)) || (decide (a0.kind = 4)))) with b587 | b587
    · have g588 : ((decide (a0.kind = 2)) || (decide (a0.kind = 4))) = true := (and_r b587)
      have d589 : s582 70 = (.bool ((decide (a0.kind = 2)) || (decide (a0.kind = 4)))) := ((hd586 58 rfl).1 (not_mk (not_f (and_l b587))))
      have d590 : s582 70 = (.bool ((decide (a0.kind = 2)) || (decide (a0.kind = 4)))) := ((hd586 58 rfl).1 (not_mk (not_f (and_l b587))))
      have d591 : s582 72 = (.int .i64 a0.mode) := ((hd586 60 rfl).1 (and_mk (not_mk (not_f (and_l b587))) (and_r b587)))
      exact L_op (.guard 58 true 70 rfl rfl (ltb rfl) (d589.trans (congrArg Value.bool g588))) rfl (ltb rfl) (X_neq d591 rfl) <| L_nil <| stepEnd rfl rfl (Ext.refl w583) ⟨fun _ => rfl, fun h => absurd (b587.symm.trans h) (by decide)⟩
    · rcases bool_two (!(!(within a0.mode 0 511))) with b592 | b592
      · have d593 : s582 70 = (.bool ((decide (a0.kind = 2)) || (decide (a0.kind = 4)))) := ((hd586 58 rfl).1 (not_mk (not_f b592)))
        have g594 : ((decide (a0.kind = 2)) || (decide (a0.kind = 4))) = false := (and_fr b587 b592)
        exact L_skip rfl rfl (ltb rfl) (d593.trans (congrArg Value.bool g594)) rfl rfl (ltb rfl) <| L_nil <| stepEnd rfl rfl (Ext.refl w583) ⟨fun h => absurd (b587.symm.trans h) (by decide), fun _ => rfl⟩
      · exact L_skipU rfl rfl (ltb rfl) ((hd586 58 rfl).2 b592) rfl (ltb rfl) <| L_nil <| stepEnd rfl rfl (Ext.refl w583) ⟨fun h => absurd (b587.symm.trans h) (by decide), fun _ => rfl⟩
  · intro s595 w596 e597 hf598 hd599 _
    rcases bool_two (!(!(within a0.mode 0 511))) with b600 | b600
    · have g601 : (!(within a0.mode 0 511)) = false := (not_f b600)
      have d602 : s595 61 = (.bool (!(within a0.mode 0 511))) := (hd599 49 rfl)
      rcases bool_two ((decide (a0.kind = 2)) || (decide (a0.kind = 4))) with b603 | b603
      · have d604 : s595 70 = (.bool ((decide (a0.kind = 2)) || (decide (a0.kind = 4)))) := ((hd599 58 rfl).1 (not_mk (not_f b600)))
        have d605 : s595 73 = (.bool (!decide (a0.mode = 0))) := ((hd599 61 rfl).1 (and_mk (not_mk (not_f b600)) b603))
        exact L_op (.guard 49 false 61 rfl rfl (ltb rfl) (d602.trans (congrArg Value.bool g601))) rfl (ltb rfl) (X_pick (b := true) (v := (.bool (!decide (a0.mode = 0)))) (d604.trans (congrArg Value.bool b603)) d605) <| L_nil <| stepEnd rfl rfl (Ext.refl w596) ⟨fun _ => (by show _ = _; rw [b603]; rfl), fun h => absurd (b600.symm.trans h) (by decide)⟩
      · have d606 : s595 70 = (.bool ((decide (a0.kind = 2)) || (decide (a0.kind = 4)))) := ((hd599 58 rfl).1 (not_mk (not_f b600)))
        exact L_op (.guard 49 false 61 rfl rfl (ltb rfl) (d602.trans (congrArg Value.bool g601))) rfl (ltb rfl) (X_pick (b := false) (v := (.bool false)) (d606.trans (congrArg Value.bool b603)) rfl) <| L_nil <| stepEnd rfl rfl (Ext.refl w596) ⟨fun _ => (by show _ = _; rw [b603]; rfl), fun h => absurd (b600.symm.trans h) (by decide)⟩
    · have d607 : s595 61 = (.bool (!(within a0.mode 0 511))) := (hd599 49 rfl)
      have g608 : (!(within a0.mode 0 511)) = true := (not_ff b600)
      exact L_skip rfl rfl (ltb rfl) (d607.trans (congrArg Value.bool g608)) rfl rfl (ltb rfl) <| L_nil <| stepEnd rfl rfl (Ext.refl w596) ⟨fun h => absurd (b600.symm.trans h) (by decide), fun _ => rfl⟩
  · intro s609 w610 e611 hf612 hd613 _
    rcases bool_two (!(within a0.mode 0 511)) with b614 | b614
    · have d615 : s609 61 = (.bool (!(within a0.mode 0 511))) := (hd613 49 rfl)
      exact L_op (.plain rfl) rfl (ltb rfl) (X_pick (b := true) (v := (.bool true)) (d615.trans (congrArg Value.bool b614)) rfl) <| L_nil <| stepEnd rfl rfl (Ext.refl w610) (by show _ = _; rw [b614]; rfl)
    · have d616 : s609 61 = (.bool (!(within a0.mode 0 511))) := (hd613 49 rfl)
      have d617 : s609 74 = (.bool (((decide (a0.kind = 2)) || (decide (a0.kind = 4))) && (!decide (a0.mode = 0)))) := ((hd613 62 rfl).1 (not_mk b614))
      exact L_op (.plain rfl) rfl (ltb rfl) (X_pick (b := false) (v := (.bool (((decide (a0.kind = 2)) || (decide (a0.kind = 4))) && (!decide (a0.mode = 0))))) (d616.trans (congrArg Value.bool b614)) d617) <| L_nil <| stepEnd rfl rfl (Ext.refl w610) (by show _ = _; rw [b614]; rfl)
  · intro s618 w619 e620 hf621 hd622 _
    have d623 : s618 75 = (.bool ((!(within a0.mode 0 511)) || (((decide (a0.kind = 2)) || (decide (a0.kind = 4))) && (!decide (a0.mode = 0))))) := (hd622 63 rfl)
    exact L_op (.plain rfl) rfl (ltb rfl) (X_mkiface Tryd.underlying4 rfl d623) <| L_nil <| stepEnd rfl rfl (Ext.refl w619) rfl
  · intro s624 w625 e626 hf627 hd628 _
    exact L_op (.plain rfl) rfl (ltb rfl) (X_mkiface Tryd.underlying3 rfl rfl) <| L_nil <| stepEnd rfl rfl (Ext.refl w625) rfl
  · intro s629 w630 e631 hf632 hd633 _
    have d634 : s629 16 = (.iface 4 (.bool (!(within a0.kind 1 4)))) := (hd633 4 rfl)
    have d635 : s629 17 = (.iface 3 (.int .i64 9)) := (hd633 5 rfl)
    have d636 : s629 22 = (.iface 4 (.bool (!(pathOK a0.path)))) := (hd633 10 rfl)
    have d637 : s629 23 = (.iface 3 (.int .i64 10)) := (hd633 11 rfl)
    have d638 : s629 38 = (.iface 4 (.bool ((decide (20 < (a0.body.length : Int))) || ((decide (a0.kind = 2)) && (decide (a0.body = ([] : List UInt8))))))) := (hd633 26 rfl)
    have d639 : s629 39 = (.iface 3 (.int .i64 8)) := (hd633 27 rfl)
    have d640 : s629 55 = (.iface 4 (.bool ((((decide (a0.kind = 3)) || (decide (a0.kind = 4))) && (!decide (a0.body = ([] : List UInt8)))) || ((!decide (a0.kind = 3)) && a0.opq)))) := (hd633 43 rfl)
    have d641 : s629 56 = (.iface 3 (.int .i64 3)) := (hd633 44 rfl)
    have d642 : s629 76 = (.iface 4 (.bool ((!(within a0.mode 0 511)) || (((decide (a0.kind = 2)) || (decide (a0.kind = 4))) && (!decide (a0.mode = 0)))))) := (hd633 64 rfl)
    have d643 : s629 77 = (.iface 3 (.int .i64 4)) := (hd633 65 rfl)
    exact L_lit (.plain rfl) rfl (ltb rfl) rfl Tryd.underlying50 Tryd.sizeOf20 Tryd.zeroValue20 rfl rfl rfl (vs := [(.iface 4 (.bool (!(within a0.kind 1 4)))), (.iface 3 (.int .i64 9)), (.iface 4 (.bool (!(pathOK a0.path)))), (.iface 3 (.int .i64 10)), (.iface 4 (.bool ((decide (20 < (a0.body.length : Int))) || ((decide (a0.kind = 2)) && (decide (a0.body = ([] : List UInt8))))))), (.iface 3 (.int .i64 8)), (.iface 4 (.bool ((((decide (a0.kind = 3)) || (decide (a0.kind = 4))) && (!decide (a0.body = ([] : List UInt8)))) || ((!decide (a0.kind = 3)) && a0.opq)))), (.iface 3 (.int .i64 3)), (.iface 4 (.bool ((!(within a0.mode 0 511)) || (((decide (a0.kind = 2)) || (decide (a0.kind = 4))) && (!decide (a0.mode = 0)))))), (.iface 3 (.int .i64 4))]) (cons2 d634 (cons2 d635 (cons2 d636 (cons2 d637 (cons2 d638 (cons2 d639 (cons2 d640 (cons2 d641 (cons2 d642 (cons2 d643 rfl)))))))))) (lit_all rfl) <| fun b644 w645 z646 z647 e648 k649 => L_nil <| stepEnd rfl rfl e648 (Own.rd (Own.new (xs := [.inl (!(within a0.kind 1 4)), .inr 9, .inl (!(pathOK a0.path)), .inr 10, .inl ((decide (20 < (a0.body.length : Int))) || ((decide (a0.kind = 2)) && (decide (a0.body = ([] : List UInt8))))), .inr 8, .inl ((((decide (a0.kind = 3)) || (decide (a0.kind = 4))) && (!decide (a0.body = ([] : List UInt8)))) || ((!decide (a0.kind = 3)) && a0.opq)), .inr 3, .inl ((!(within a0.mode 0 511)) || (((decide (a0.kind = 2)) || (decide (a0.kind = 4))) && (!decide (a0.mode = 0)))), .inr 4]) (sz := 1) (enc := (encAny 4 3)) (base := w630.heap.size) k649 (Nat.le_of_eq z646) rfl (fun _ _ => by first | rfl | exact encAny_len _ _ _) (Nat.le_of_ble_eq_true rfl)))
  · intro s650 w651 e652 hf653 hd654 _
    have d655 : Rd 1 (encAny 4 3) w651 (s650 78) ([.inl (!(within a0.kind 1 4)), .inr 9, .inl (!(pathOK a0.path)), .inr 10, .inl ((decide (20 < (a0.body.length : Int))) || ((decide (a0.kind = 2)) && (decide (a0.body = ([] : List UInt8))))), .inr 8, .inl ((((decide (a0.kind = 3)) || (decide (a0.kind = 4))) && (!decide (a0.body = ([] : List UInt8)))) || ((!decide (a0.kind = 3)) && a0.opq)), .inr 3, .inl ((!(within a0.mode 0 511)) || (((decide (a0.kind = 2)) || (decide (a0.kind = 4))) && (!decide (a0.mode = 0)))), .inr 4] : List (Bool ⊕ Int)) := (hd654 66 rfl)
    have c656 := c25
    exact L_callP (.plain rfl) rfl (ltb rfl) rfl Tryd.call39 (impl_first.calls (w := w651) (a0 := ([.inl (!(within a0.kind 1 4)), .inr 9, .inl (!(pathOK a0.path)), .inr 10, .inl ((decide (20 < (a0.body.length : Int))) || ((decide (a0.kind = 2)) && (decide (a0.body = ([] : List UInt8))))), .inr 8, .inl ((((decide (a0.kind = 3)) || (decide (a0.kind = 4))) && (!decide (a0.body = ([] : List UInt8)))) || ((!decide (a0.kind = 3)) && a0.opq)), .inr 3, .inl ((!(within a0.mode 0 511)) || (((decide (a0.kind = 2)) || (decide (a0.kind = 4))) && (!decide (a0.mode = 0)))), .inr 4] : List (Bool ⊕ Int))) d655 (of_decide_eq_true c656)) rfl <| fun w657 e658 => L_nil <| stepEnd rfl rfl e658 rfl
  · intro s659 w660 e661 hf662 hd663 _
    have d664 : s659 79 = (.int .i64 (firstOf ([.inl (!(within a0.kind 1 4)), .inr 9, .inl (!(pathOK a0.path)), .inr 10, .inl ((decide (20 < (a0.body.length : Int))) || ((decide (a0.kind = 2)) && (decide (a0.body = ([] : List UInt8))))), .inr 8, .inl ((((decide (a0.kind = 3)) || (decide (a0.kind = 4))) && (!decide (a0.body = ([] : List UInt8)))) || ((!decide (a0.kind = 3)) && a0.opq)), .inr 3, .inl ((!(within a0.mode 0 511)) || (((decide (a0.kind = 2)) || (decide (a0.kind = 4))) && (!decide (a0.mode = 0)))), .inr 4] : List (Bool ⊕ Int)))) := (hd663 67 rfl)
    exact L_op (.plain rfl) rfl (ltb rfl) (X_assign d664) <| L_nil <| stepEnd rfl rfl (Ext.refl w660) rfl
  intro s665 w666 e667 hf668 ha669
  have K670 := Kp.ofD (kp := [(2, 3), (12, 80)]) rfl hf668
  have d671 : s665 2 = (.int .i64 (firstOf ([.inl (!(within a0.kind 1 4)), .inr 9, .inl (!(pathOK a0.path)), .inr 10, .inl ((decide (20 < (a0.body.length : Int))) || ((decide (a0.kind = 2)) && (decide (a0.body = ([] : List UInt8))))), .inr 8, .inl ((((decide (a0.kind = 3)) || (decide (a0.kind = 4))) && (!decide (a0.body = ([] : List UInt8)))) || ((!decide (a0.kind = 3)) && a0.opq)), .inr 3, .inl ((!(within a0.mode 0 511)) || (((decide (a0.kind = 2)) || (decide (a0.kind = 4))) && (!decide (a0.mode = 0)))), .inr 4] : List (Bool ⊕ Int)))) := ha669 68 rfl
  clear ha669 hf668
  refine thn_n <| W_ret <| fin_r ?_
  obtain rfl := Option.some.inj H
  exact fin1 d671 (Ext.trans (Ext.trans e5 e11) e667)
theorem impl_RecordFault.calls {w : World} {a0 : Rec} (gv : GV 0 w) :
    Calls Tryd.prog 19 #[.agg (encRec a0).toArray] w (Rt (RP w (.int .i64 (recFault a0)))) := impl_RecordFault.walk gv (impl_RecordFault.eq a0)
/-! impl.RecordOK -/
theorem impl_RecordOK.walk {w : World} {a0 : Rec} (gv : GV 0 w) {r : Bool} (H : impl_RecordOK.sh a0 = some r) :
    Calls Tryd.prog 23 #[.agg (encRec a0).toArray] w (Rt (RP w (.bool r))) := by
  unfold impl_RecordOK.sh at H
  refine calls_of_W Tryd.func23 rfl (Nat.le_of_ble_eq_true rfl) Tryd.ntmps23 rfl ?_
  refine W_seq <| W_reg <| L_box (.plain rfl) rfl (ltb rfl) rfl rfl <| fun b1 w2 z3 z4 e5 k6 => L_op (.plain rfl) rfl (ltb rfl) (X_assign (v := (.bool false)) rfl) <| L_nil <| thn_n <| W_seq <| W_reg <| L_op (.plain rfl) rfl (ltb rfl) (X_loadS Tryd.isAgg30 Tryd.sizeOf30 rfl rfl (Blk.at0 k6)) <| L_callP (.plain rfl) rfl (ltb rfl) rfl Tryd.call19 (impl_RecordFault.calls (w := w2) (a0 := (⟨a0.kind, a0.path, a0.body, a0.mode, a0.opq⟩ : Rec)) (GV.ext gv e5)) rfl <| fun w7 e8 => L_op (.plain rfl) rfl (ltb rfl) (X_eql rfl rfl) <| L_op (.plain rfl) rfl (ltb rfl) (X_assign rfl) <| L_nil <| thn_n <| W_ret <| fin_r ?_
  obtain rfl := Option.some.inj H
  exact fin1 rfl (Ext.trans e5 e8)
theorem impl_RecordOK.calls {w : World} {a0 : Rec} (gv : GV 0 w) :
    Calls Tryd.prog 23 #[.agg (encRec a0).toArray] w (Rt (RP w (.bool (decide (recFault a0 = 0))))) := impl_RecordOK.walk gv (impl_RecordOK.eq a0)
/-! laws.FnExactRecordFault -/
theorem law_RecordFault.walk {w : World} {a0 : Rec} (gv : GV 0 w) {r : Bool} (H : law_RecordFault.sh a0 = some r) :
    Calls Tryd.prog 6 #[.agg (encRec a0).toArray] w (Rt (RP w (.bool r))) := by
  unfold law_RecordFault.sh at H
  refine calls_of_W Tryd.func6 rfl (Nat.le_of_ble_eq_true rfl) Tryd.ntmps6 rfl ?_
  refine W_seq <| W_reg <| L_box (.plain rfl) rfl (ltb rfl) rfl rfl <| fun b1 w2 z3 z4 e5 k6 => L_op (.plain rfl) rfl (ltb rfl) (X_assign (v := (.bool false)) rfl) <| L_nil <| thn_n <| W_seq <| W_reg <| L_op (.plain rfl) rfl (ltb rfl) (X_assign (v := (.int .i64 1048576)) rfl) <| L_nil <| thn_n <| W_seq <| W_reg <| L_op (.plain rfl) rfl (ltb rfl) (X_loadS Tryd.isAgg27 Tryd.sizeOf27 rfl rfl (Blk.at0 k6)) <| L_op (.plain rfl) rfl (ltb rfl) (X_move (v := (.int .i64 1048576)) rfl) ?_
  obtain ⟨c7, H⟩ := bif_some H
  obtain ⟨c8, H⟩ := bif_some H
  obtain ⟨c9, H⟩ := bif_some H
  obtain ⟨c10, H⟩ := bif_some H
  refine L_callP (.plain rfl) rfl (ltb rfl) rfl Tryd.call16 (laws_szRecord.calls (w := w2) (a0 := (⟨a0.kind, a0.path, a0.body, a0.mode, a0.opq⟩ : Rec)) (a1 := 1048576) (of_decide_eq_true c7) (of_decide_eq_true c8) (of_decide_eq_true c9) (of_decide_eq_true c10)) rfl <| fun w11 e12 => L_op (.plain rfl) rfl (ltb rfl) (X_assign rfl) <| L_nil <| thn_n <| W_seq <| W_seq <| W_reg <| L_op (.plain rfl) rfl (ltb rfl) (X_move rfl) <| L_op (.plain rfl) rfl (ltb rfl) (X_lss rfl rfl) <| L_nil <| thn_n ?_
  rcases bif_two H with ⟨q13, H⟩ | ⟨q13, H⟩
  · refine W_true (congrArg Value.bool q13) <| W_seq <| W_reg <| L_op (.plain rfl) rfl (ltb rfl) (X_assign (v := (.bool true)) rfl) <| L_nil <| thn_n <| W_ret <| thn_r <| fin_r ?_
    obtain rfl := Option.some.inj H
    exact fin1 rfl (Ext.trans e5 e12)
  · refine W_false (congrArg Value.bool q13) <| W_skip <| thn_n <| W_seq <| W_reg <| L_op (.plain rfl) rfl (ltb rfl) (X_loadS Tryd.isAgg27 Tryd.sizeOf27 rfl rfl (Blk.at0 (Blk.ext k6 e12))) <| L_callP (.plain rfl) rfl (ltb rfl) rfl Tryd.call18 (laws_toRecord.calls (w := w11) (a0 := (⟨a0.kind, a0.path, a0.body, a0.mode, a0.opq⟩ : Rec))) rfl <| fun w14 e15 => L_callP (.plain rfl) rfl (ltb rfl) rfl Tryd.call17 (spec_RecordFault.calls (w := w14) (a0 := (⟨a0.kind, a0.path, a0.body, a0.mode, a0.opq⟩ : Rec))) rfl <| fun w16 e17 => L_op (.plain rfl) rfl (ltb rfl) (X_assign rfl) <| L_nil <| thn_n <| W_seq <| W_reg <| L_op (.plain rfl) rfl (ltb rfl) (X_loadS Tryd.isAgg27 Tryd.sizeOf27 rfl rfl (Blk.at0 (Blk.ext k6 (Ext.trans (Ext.trans e12 e15) e17)))) <| L_callP (.plain rfl) rfl (ltb rfl) rfl Tryd.call18 (laws_toRecord.calls (w := w16) (a0 := (⟨a0.kind, a0.path, a0.body, a0.mode, a0.opq⟩ : Rec))) rfl <| fun w18 e19 => L_callP (.plain rfl) rfl (ltb rfl) rfl Tryd.call19 (impl_RecordFault.calls (w := w18) (a0 := (⟨a0.kind, a0.path, a0.body, a0.mode, a0.opq⟩ : Rec)) (GV.ext gv (Ext.trans (Ext.trans (Ext.trans (Ext.trans e5 e12) e15) e17) e19))) rfl <| fun w20 e21 => L_op (.plain rfl) rfl (ltb rfl) (X_assign rfl) <| L_nil <| thn_n <| W_seq <| W_seq <| W_reg <| L_op (.plain rfl) rfl (ltb rfl) (X_move rfl) <| L_op (.plain rfl) rfl (ltb rfl) (X_move rfl) <| L_op (.plain rfl) rfl (ltb rfl) (X_neq rfl rfl) <| L_nil <| thn_n ?_
    rcases bif_two H with ⟨q22, H⟩ | ⟨q22, H⟩
    · refine W_true (congrArg Value.bool q22) <| W_seq <| W_reg <| L_op (.plain rfl) rfl (ltb rfl) (X_assign (v := (.bool false)) rfl) <| L_nil <| thn_n <| W_ret <| thn_r <| fin_r ?_
      obtain rfl := Option.some.inj H
      exact fin1 rfl (Ext.trans (Ext.trans (Ext.trans (Ext.trans (Ext.trans e5 e12) e15) e17) e19) e21)
    · refine W_false (congrArg Value.bool q22) <| W_skip <| thn_n <| W_seq <| W_reg <| L_op (.plain rfl) rfl (ltb rfl) (X_assign (v := (.bool true)) rfl) <| L_nil <| thn_n <| W_ret <| fin_r ?_
      obtain rfl := Option.some.inj H
      exact fin1 rfl (Ext.trans (Ext.trans (Ext.trans (Ext.trans (Ext.trans e5 e12) e15) e17) e19) e21)
theorem law_RecordFault.calls {w : World} {a0 : Rec} (gv : GV 0 w) (h0 : a0.path.length ≤ 9223372036854775807) (h1 : a0.body.length ≤ 9223372036854775807) :
    Calls Tryd.prog 6 #[.agg (encRec a0).toArray] w (Rt (RP w (.bool true))) := law_RecordFault.walk gv (law_RecordFault.eq a0 h0 h1)
/-! laws.FnExactRecordOK -/
theorem law_RecordOK.walk {w : World} {a0 : Rec} (gv : GV 0 w) {r : Bool} (H : law_RecordOK.sh a0 = some r) :
    Calls Tryd.prog 8 #[.agg (encRec a0).toArray] w (Rt (RP w (.bool r))) := by
  unfold law_RecordOK.sh at H
  refine calls_of_W Tryd.func8 rfl (Nat.le_of_ble_eq_true rfl) Tryd.ntmps8 rfl ?_
  refine W_seq <| W_reg <| L_box (.plain rfl) rfl (ltb rfl) rfl rfl <| fun b1 w2 z3 z4 e5 k6 => L_op (.plain rfl) rfl (ltb rfl) (X_assign (v := (.bool false)) rfl) <| L_nil <| thn_n <| W_seq <| W_reg <| L_op (.plain rfl) rfl (ltb rfl) (X_assign (v := (.int .i64 1048576)) rfl) <| L_nil <| thn_n <| W_seq <| W_reg <| L_op (.plain rfl) rfl (ltb rfl) (X_loadS Tryd.isAgg27 Tryd.sizeOf27 rfl rfl (Blk.at0 k6)) <| L_op (.plain rfl) rfl (ltb rfl) (X_move (v := (.int .i64 1048576)) rfl) ?_
  obtain ⟨c7, H⟩ := bif_some H
  obtain ⟨c8, H⟩ := bif_some H
  obtain ⟨c9, H⟩ := bif_some H
  obtain ⟨c10, H⟩ := bif_some H
  refine L_callP (.plain rfl) rfl (ltb rfl) rfl Tryd.call16 (laws_szRecord.calls (w := w2) (a0 := (⟨a0.kind, a0.path, a0.body, a0.mode, a0.opq⟩ : Rec)) (a1 := 1048576) (of_decide_eq_true c7) (of_decide_eq_true c8) (of_decide_eq_true c9) (of_decide_eq_true c10)) rfl <| fun w11 e12 => L_op (.plain rfl) rfl (ltb rfl) (X_assign rfl) <| L_nil <| thn_n <| W_seq <| W_seq <| W_reg <| L_op (.plain rfl) rfl (ltb rfl) (X_move rfl) <| L_op (.plain rfl) rfl (ltb rfl) (X_lss rfl rfl) <| L_nil <| thn_n ?_
  rcases bif_two H with ⟨q13, H⟩ | ⟨q13, H⟩
  · refine W_true (congrArg Value.bool q13) <| W_seq <| W_reg <| L_op (.plain rfl) rfl (ltb rfl) (X_assign (v := (.bool true)) rfl) <| L_nil <| thn_n <| W_ret <| thn_r <| fin_r ?_
    obtain rfl := Option.some.inj H
    exact fin1 rfl (Ext.trans e5 e12)
  · refine W_false (congrArg Value.bool q13) <| W_skip <| thn_n <| W_seq <| W_reg <| L_op (.plain rfl) rfl (ltb rfl) (X_loadS Tryd.isAgg27 Tryd.sizeOf27 rfl rfl (Blk.at0 (Blk.ext k6 e12))) <| L_callP (.plain rfl) rfl (ltb rfl) rfl Tryd.call18 (laws_toRecord.calls (w := w11) (a0 := (⟨a0.kind, a0.path, a0.body, a0.mode, a0.opq⟩ : Rec))) rfl <| fun w14 e15 => L_callP (.plain rfl) rfl (ltb rfl) rfl Tryd.call22 (spec_RecordOK.calls (w := w14) (a0 := (⟨a0.kind, a0.path, a0.body, a0.mode, a0.opq⟩ : Rec))) rfl <| fun w16 e17 => L_op (.plain rfl) rfl (ltb rfl) (X_assign rfl) <| L_nil <| thn_n <| W_seq <| W_reg <| L_op (.plain rfl) rfl (ltb rfl) (X_loadS Tryd.isAgg27 Tryd.sizeOf27 rfl rfl (Blk.at0 (Blk.ext k6 (Ext.trans (Ext.trans e12 e15) e17)))) <| L_callP (.plain rfl) rfl (ltb rfl) rfl Tryd.call18 (laws_toRecord.calls (w := w16) (a0 := (⟨a0.kind, a0.path, a0.body, a0.mode, a0.opq⟩ : Rec))) rfl <| fun w18 e19 => L_callP (.plain rfl) rfl (ltb rfl) rfl Tryd.call23 (impl_RecordOK.calls (w := w18) (a0 := (⟨a0.kind, a0.path, a0.body, a0.mode, a0.opq⟩ : Rec)) (GV.ext gv (Ext.trans (Ext.trans (Ext.trans (Ext.trans e5 e12) e15) e17) e19))) rfl <| fun w20 e21 => L_op (.plain rfl) rfl (ltb rfl) (X_assign rfl) <| L_nil <| thn_n <| W_seq <| W_seq <| W_reg <| L_op (.plain rfl) rfl (ltb rfl) (X_move rfl) <| L_op (.plain rfl) rfl (ltb rfl) (X_move rfl) <| L_op (.plain rfl) rfl (ltb rfl) (X_bne Tryd.underlying4 rfl rfl) <| L_nil <| thn_n ?_
    rcases bif_two H with ⟨q22, H⟩ | ⟨q22, H⟩
    · refine W_true (congrArg Value.bool q22) <| W_seq <| W_reg <| L_op (.plain rfl) rfl (ltb rfl) (X_assign (v := (.bool false)) rfl) <| L_nil <| thn_n <| W_ret <| thn_r <| fin_r ?_
      obtain rfl := Option.some.inj H
      exact fin1 rfl (Ext.trans (Ext.trans (Ext.trans (Ext.trans (Ext.trans e5 e12) e15) e17) e19) e21)
    · refine W_false (congrArg Value.bool q22) <| W_skip <| thn_n <| W_seq <| W_reg <| L_op (.plain rfl) rfl (ltb rfl) (X_assign (v := (.bool true)) rfl) <| L_nil <| thn_n <| W_ret <| fin_r ?_
      obtain rfl := Option.some.inj H
      exact fin1 rfl (Ext.trans (Ext.trans (Ext.trans (Ext.trans (Ext.trans e5 e12) e15) e17) e19) e21)
theorem law_RecordOK.calls {w : World} {a0 : Rec} (gv : GV 0 w) (h0 : a0.path.length ≤ 9223372036854775807) (h1 : a0.body.length ≤ 9223372036854775807) :
    Calls Tryd.prog 8 #[.agg (encRec a0).toArray] w (Rt (RP w (.bool true))) := law_RecordOK.walk gv (law_RecordOK.eq a0 h0 h1)
/-! spec.l01Below -/
theorem spec_l01Below.walk {w : World} {a0 : List UInt8} {a1 : List UInt8} {r : Bool} (H : spec_l01Below.sh a0 a1 = some r) :
    Calls Tryd.prog 33 #[S a0, S a1] w (Rt (RP w (.bool r))) := by
  unfold spec_l01Below.sh at H
  refine calls_of_W Tryd.func33 rfl (Nat.le_of_ble_eq_true rfl) Tryd.ntmps33 rfl ?_
  refine W_seq <| W_reg <| L_op (.plain rfl) rfl (ltb rfl) (X_assign (v := (.bool false)) rfl) <| L_nil <| thn_n <| W_seq <| W_reg <| L_op (.plain rfl) rfl (ltb rfl) (X_move (v := (S a1)) rfl) <| L_op (.plain rfl) rfl (ltb rfl) (X_lenS Tryd.underlying9 rfl) <| L_op (.plain rfl) rfl (ltb rfl) (X_assign (v := (.int .i64 (a1.length : Int))) rfl) <| L_nil <| thn_n <| W_seq <| W_reg <| L_op (.plain rfl) rfl (ltb rfl) (X_move (v := (S a1)) rfl) <| L_op (.plain rfl) rfl (ltb rfl) (X_seq rfl rfl) <| L_op (.plain rfl) rfl (ltb rfl) (X_move (v := (.bool (decide (a1 = ([] : List UInt8))))) rfl) <| L_grp 3 [(11, 14)] 13 (.bool ((decide (a1 = ([] : List UInt8))) && (!decide (a0 = ([] : List UInt8))))) ?_ ?_
  · rcases bool_two (decide (a1 = ([] : List UInt8))) with b0_ | b0_
    · exact L_op (.guard 2 true 10 rfl rfl (ltb rfl) (congrArg Value.bool b0_)) rfl (ltb rfl) (X_move (v := (S a0)) rfl) <| L_op (.guard 2 true 10 rfl rfl (ltb rfl) (congrArg Value.bool b0_)) rfl (ltb rfl) (X_sne rfl rfl) <| L_op (.plain rfl) rfl (ltb rfl) (X_pick (b := true) (v := (.bool (!decide (a0 = ([] : List UInt8))))) (congrArg Value.bool b0_) rfl) <| L_nil <| thn_n ⟨(Kp.upd (Kp.upd (Kp.upd (Kp.refl _ _) rfl) rfl) rfl), (and_t b0_), (Ext.refl w)⟩
    · exact L_skip rfl rfl (ltb rfl) (congrArg Value.bool b0_) rfl rfl (ltb rfl) <| L_skip rfl rfl (ltb rfl) (congrArg Value.bool b0_) rfl rfl (ltb rfl) <| L_op (.plain rfl) rfl (ltb rfl) (X_pick (b := false) (v := (.bool false)) (congrArg Value.bool b0_) rfl) <| L_nil <| thn_n ⟨(Kp.upd (Kp.upd (Kp.upd (Kp.refl _ _) rfl) rfl) rfl), (and_f b0_), (Ext.refl w)⟩
  intro s6 w2 K3 h4 e5
  refine L_op (.plain rfl) rfl (ltb rfl) (X_move h4) ?_
  obtain ⟨z8, x9, H⟩ := bind_some H
  refine L_grpE 18 [(15, 33)] 32 (fun q => q = z8) ?_ ?_
  · rcases bif_two x9 with ⟨b6_, H⟩ | ⟨b6_, H⟩
    · refine L_skip rfl rfl (ltb rfl) (congrArg Value.bool b6_) rfl rfl (ltb rfl) <| L_skip rfl rfl (ltb rfl) (congrArg Value.bool b6_) rfl rfl (ltb rfl) <| L_skip rfl rfl (ltb rfl) (congrArg Value.bool b6_) rfl rfl (ltb rfl) <| L_skip rfl rfl (ltb rfl) (congrArg Value.bool b6_) rfl rfl (ltb rfl) <| L_skip rfl rfl (ltb rfl) (congrArg Value.bool b6_) rfl rfl (ltb rfl) <| L_skipU rfl rfl (ltb rfl) rfl rfl (ltb rfl) <| L_skipU rfl rfl (ltb rfl) rfl rfl (ltb rfl) <| L_skipU rfl rfl (ltb rfl) rfl rfl (ltb rfl) <| L_skipU rfl rfl (ltb rfl) rfl rfl (ltb rfl) <| L_skipU rfl rfl (ltb rfl) rfl rfl (ltb rfl) <| L_skip rfl rfl (ltb rfl) (congrArg Value.bool b6_) rfl rfl (ltb rfl) <| L_skip rfl rfl (ltb rfl) (congrArg Value.bool b6_) rfl rfl (ltb rfl) <| L_skipU rfl rfl (ltb rfl) rfl rfl (ltb rfl) <| L_skipU rfl rfl (ltb rfl) rfl rfl (ltb rfl) <| L_skipU rfl rfl (ltb rfl) rfl rfl (ltb rfl) <| L_skipU rfl rfl (ltb rfl) rfl rfl (ltb rfl) <| L_skip rfl rfl (ltb rfl) (congrArg Value.bool b6_) rfl rfl (ltb rfl) <| L_op (.plain rfl) rfl (ltb rfl) (X_pick (b := true) (v := (.bool true)) (congrArg Value.bool b6_) rfl) ?_
      obtain rfl := Option.some.inj H
      exact L_nil <| thn_n ⟨(Kp.upd (Kp.upd (Kp.upd (Kp.upd (Kp.upd (Kp.upd (Kp.upd (Kp.upd (Kp.upd (Kp.upd (Kp.upd (Kp.upd (Kp.upd (Kp.upd (Kp.upd (Kp.upd (Kp.upd (Kp.upd (Kp.refl _ _) rfl) rfl) rfl) rfl) rfl) rfl) rfl) rfl) rfl) rfl) rfl) rfl) rfl) rfl) rfl) rfl) rfl) rfl), ⟨_, rfl, rfl⟩, (Ext.refl w2)⟩
    · refine L_op (.guard 6 false 14 rfl rfl (ltb rfl) (congrArg Value.bool b6_)) rfl (ltb rfl) (X_move (v := (S a0)) (K3 0 rfl)) <| L_op (.guard 6 false 14 rfl rfl (ltb rfl) (congrArg Value.bool b6_)) rfl (ltb rfl) (X_lenS Tryd.underlying9 rfl) <| L_op (.guard 6 false 14 rfl rfl (ltb rfl) (congrArg Value.bool b6_)) rfl (ltb rfl) (X_move (v := (.int .i64 (a1.length : Int))) (K3 5 rfl)) <| L_op (.guard 6 false 14 rfl rfl (ltb rfl) (congrArg Value.bool b6_)) rfl (ltb rfl) (X_gtr rfl rfl) <| L_op (.guard 6 false 14 rfl rfl (ltb rfl) (congrArg Value.bool b6_)) rfl (ltb rfl) (X_move (v := (.bool (decide ((a1.length : Int) < (a0.length : Int))))) rfl) ?_
      obtain ⟨z9, x10, H⟩ := bind_some H
      refine L_grpE 6 [(20, 26)] 25 (fun q => q = z9) ?_ ?_
      · rcases bif_two x10 with ⟨b7_, H⟩ | ⟨b7_, H⟩
        · refine L_op (.guard 11 true 19 rfl rfl (ltb rfl) (congrArg Value.bool b7_)) rfl (ltb rfl) (X_move (v := (S a0)) (K3 0 rfl)) <| L_op (.guard 11 true 19 rfl rfl (ltb rfl) (congrArg Value.bool b7_)) rfl (ltb rfl) (X_move (v := (.int .i64 (a1.length : Int))) (K3 5 rfl)) ?_
          obtain ⟨c9, H⟩ := bif_some H
          refine L_op (.guard 11 true 19 rfl rfl (ltb rfl) (congrArg Value.bool b7_)) rfl (ltb rfl) (X_sliceS Tryd.underlying9 rfl (l := 0) (h := (a1.length : Int)) rfl ⟨_, rfl⟩ (inS_1 c9) (inS_2 c9) (inS_3 c9)) <| L_op (.guard 11 true 19 rfl rfl (ltb rfl) (congrArg Value.bool b7_)) rfl (ltb rfl) (X_move (v := (S a1)) (K3 1 rfl)) <| L_op (.guard 11 true 19 rfl rfl (ltb rfl) (congrArg Value.bool b7_)) rfl (ltb rfl) (X_seq rfl rfl) <| L_op (.guard 6 false 14 rfl rfl (ltb rfl) (congrArg Value.bool b6_)) rfl (ltb rfl) (X_pick (b := true) (v := (.bool (decide ((sub a0 0 (a1.length : Int)) = a1)))) (congrArg Value.bool b7_) rfl) ?_
          obtain rfl := Option.some.inj H
          exact L_nil <| thn_n ⟨(Kp.upd (Kp.upd (Kp.upd (Kp.upd (Kp.upd (Kp.upd (Kp.refl _ _) rfl) rfl) rfl) rfl) rfl) rfl), ⟨_, rfl, rfl⟩, (Ext.refl w2)⟩
        · refine L_skip rfl rfl (ltb rfl) (congrArg Value.bool b7_) rfl rfl (ltb rfl) <| L_skip rfl rfl (ltb rfl) (congrArg Value.bool b7_) rfl rfl (ltb rfl) <| L_skip rfl rfl (ltb rfl) (congrArg Value.bool b7_) rfl rfl (ltb rfl) <| L_skip rfl rfl (ltb rfl) (congrArg Value.bool b7_) rfl rfl (ltb rfl) <| L_skip rfl rfl (ltb rfl) (congrArg Value.bool b7_) rfl rfl (ltb rfl) <| L_op (.guard 6 false 14 rfl rfl (ltb rfl) (congrArg Value.bool b6_)) rfl (ltb rfl) (X_pick (b := false) (v := (.bool false)) (congrArg Value.bool b7_) rfl) ?_
          obtain rfl := Option.some.inj H
          exact L_nil <| thn_n ⟨(Kp.upd (Kp.upd (Kp.upd (Kp.upd (Kp.upd (Kp.upd (Kp.refl _ _) rfl) rfl) rfl) rfl) rfl) rfl), ⟨_, rfl, rfl⟩, (Ext.refl w2)⟩
      intro s15 w11 z16 K12 hq h13 e14
      rw [hq] at h13; clear hq
      refine L_op (.guard 6 false 14 rfl rfl (ltb rfl) ((K12 14 rfl).trans (congrArg Value.bool b6_))) rfl (ltb rfl) (X_move (v := (.bool z9)) h13) ?_
      obtain ⟨z18, x19, H⟩ := bind_some H
      refine L_grpE 5 [(27, 32)] 31 (fun q => q = z18) ?_ ?_
      · rcases bif_two x19 with ⟨b16_, H⟩ | ⟨b16_, H⟩
        · refine L_op (.guard 18 true 26 rfl rfl (ltb rfl) (congrArg Value.bool b16_)) rfl (ltb rfl) (X_move (v := (S a0)) ((K12 0 rfl).trans (K3 0 rfl))) <| L_op (.guard 18 true 26 rfl rfl (ltb rfl) (congrArg Value.bool b16_)) rfl (ltb rfl) (X_move (v := (.int .i64 (a1.length : Int))) ((K12 5 rfl).trans (K3 5 rfl))) ?_
          obtain ⟨c18, H⟩ := bif_some H
          refine L_op (.guard 18 true 26 rfl rfl (ltb rfl) (congrArg Value.bool b16_)) rfl (ltb rfl) (X_indexS Tryd.underlying9 rfl rfl (inR_lo c18) (inR_hi c18)) <| L_op (.guard 18 true 26 rfl rfl (ltb rfl) (congrArg Value.bool b16_)) rfl (ltb rfl) (X_eql rfl rfl) <| L_op (.guard 6 false 14 rfl rfl (ltb rfl) ((K12 14 rfl).trans (congrArg Value.bool b6_))) rfl (ltb rfl) (X_pick (b := true) (v := (.bool (decide ((byt a0 (a1.length : Int)) = 47)))) (congrArg Value.bool b16_) rfl) ?_
          obtain rfl := Option.some.inj H
          exact L_nil <| thn_n ⟨(Kp.upd (Kp.upd (Kp.upd (Kp.upd (Kp.upd (Kp.refl _ _) rfl) rfl) rfl) rfl) rfl), ⟨_, rfl, rfl⟩, (Ext.refl w11)⟩
        · refine L_skip rfl rfl (ltb rfl) (congrArg Value.bool b16_) rfl rfl (ltb rfl) <| L_skip rfl rfl (ltb rfl) (congrArg Value.bool b16_) rfl rfl (ltb rfl) <| L_skip rfl rfl (ltb rfl) (congrArg Value.bool b16_) rfl rfl (ltb rfl) <| L_skip rfl rfl (ltb rfl) (congrArg Value.bool b16_) rfl rfl (ltb rfl) <| L_op (.guard 6 false 14 rfl rfl (ltb rfl) ((K12 14 rfl).trans (congrArg Value.bool b6_))) rfl (ltb rfl) (X_pick (b := false) (v := (.bool false)) (congrArg Value.bool b16_) rfl) ?_
          obtain rfl := Option.some.inj H
          exact L_nil <| thn_n ⟨(Kp.upd (Kp.upd (Kp.upd (Kp.upd (Kp.upd (Kp.refl _ _) rfl) rfl) rfl) rfl) rfl), ⟨_, rfl, rfl⟩, (Ext.refl w11)⟩
      intro s24 w20 z25 K21 hq h22 e23
      rw [hq] at h22; clear hq
      refine L_op (.plain rfl) rfl (ltb rfl) (X_pick (b := false) (v := (.bool z18)) (((K21 14 rfl).trans (K12 14 rfl)).trans (congrArg Value.bool b6_)) h22) ?_
      obtain rfl := Option.some.inj H
      exact L_nil <| thn_n ⟨(Kp.upd (Kp.cut (Kp.upd (Kp.cut (Kp.upd (Kp.upd (Kp.upd (Kp.upd (Kp.upd (Kp.refl _ _) rfl) rfl) rfl) rfl) rfl) K12 rfl) rfl) K21 rfl) rfl), ⟨_, rfl, rfl⟩, (Ext.trans e14 e23)⟩
  intro s26 w10 z27 K11 hq h12 e13
  rw [hq] at h12; clear hq
  refine L_op (.plain rfl) rfl (ltb rfl) (X_assign (v := (.bool z8)) h12) <| L_nil <| thn_n <| W_ret <| fin_r ?_
  obtain rfl := Option.some.inj H
  exact fin1 rfl (Ext.trans e5 e13)
theorem spec_l01Below.calls {w : World} {a0 : List UInt8} {a1 : List UInt8} :
    Calls Tryd.prog 33 #[S a0, S a1] w (Rt (RP w (.bool ((decide (a1 = []) && !decide (a0 = [])) || belowP a0 a1)))) := spec_l01Below.walk (spec_l01Below.eq a0 a1)
/-! spec.IsBelow -/
theorem spec_IsBelow.walk {w : World} {a0 : List UInt8} {a1 : List UInt8} {r : Bool} (H : spec_IsBelow.sh a0 a1 = some r) :
    Calls Tryd.prog 12 #[S a0, S a1] w (Rt (RP w (.bool r))) := by
  unfold spec_IsBelow.sh at H
  refine calls_of_W Tryd.func12 rfl (Nat.le_of_ble_eq_true rfl) Tryd.ntmps12 rfl ?_
  refine W_seq <| W_reg <| L_op (.plain rfl) rfl (ltb rfl) (X_assign (v := (.bool false)) rfl) <| L_nil <| thn_n <| W_seq <| W_seq <| W_reg <| L_op (.plain rfl) rfl (ltb rfl) (X_move (v := (S a0)) rfl) <| L_op (.plain rfl) rfl (ltb rfl) (X_lenS Tryd.underlying9 rfl) <| L_op (.plain rfl) rfl (ltb rfl) (X_gtr rfl rfl) <| L_op (.plain rfl) rfl (ltb rfl) (X_move (v := (.bool (decide (65536 < (a0.length : Int))))) rfl) <| L_grp 4 [(9, 13)] 12 (.bool ((decide (65536 < (a0.length : Int))) || (decide (65536 < (a1.length : Int))))) ?_ ?_
  · rcases bool_two (decide (65536 < (a0.length : Int))) with b0_ | b0_
    · exact L_skip rfl rfl (ltb rfl) (congrArg Value.bool b0_) rfl rfl (ltb rfl) <| L_skip rfl rfl (ltb rfl) (congrArg Value.bool b0_) rfl rfl (ltb rfl) <| L_skip rfl rfl (ltb rfl) (congrArg Value.bool b0_) rfl rfl (ltb rfl) <| L_op (.plain rfl) rfl (ltb rfl) (X_pick (b := true) (v := (.bool true)) (congrArg Value.bool b0_) rfl) <| L_nil <| thn_n ⟨(Kp.upd (Kp.upd (Kp.upd (Kp.upd (Kp.refl _ _) rfl) rfl) rfl) rfl), (or_t b0_), (Ext.refl w)⟩
    · exact L_op (.guard 3 false 8 rfl rfl (ltb rfl) (congrArg Value.bool b0_)) rfl (ltb rfl) (X_move (v := (S a1)) rfl) <| L_op (.guard 3 false 8 rfl rfl (ltb rfl) (congrArg Value.bool b0_)) rfl (ltb rfl) (X_lenS Tryd.underlying9 rfl) <| L_op (.guard 3 false 8 rfl rfl (ltb rfl) (congrArg Value.bool b0_)) rfl (ltb rfl) (X_gtr rfl rfl) <| L_op (.plain rfl) rfl (ltb rfl) (X_pick (b := false) (v := (.bool (decide (65536 < (a1.length : Int))))) (congrArg Value.bool b0_) rfl) <| L_nil <| thn_n ⟨(Kp.upd (Kp.upd (Kp.upd (Kp.upd (Kp.refl _ _) rfl) rfl) rfl) rfl), (or_f b0_), (Ext.refl w)⟩
  intro s6 w2 K3 h4 e5
  refine L_nil <| thn_n ?_
  rcases bif_two H with ⟨q7, H⟩ | ⟨q7, H⟩
  · refine W_true (h4.trans (congrArg Value.bool q7)) <| W_seq <| W_reg <| L_op (.plain rfl) rfl (ltb rfl) (X_assign (v := (.bool false)) rfl) <| L_nil <| thn_n <| W_ret <| thn_r <| fin_r ?_
    obtain rfl := Option.some.inj H
    exact fin1 rfl e5
  · refine W_false (h4.trans (congrArg Value.bool q7)) <| W_skip <| thn_n <| W_seq <| W_reg <| L_op (.plain rfl) rfl (ltb rfl) (X_move (v := (S a0)) (K3 0 rfl)) <| L_callP (.plain rfl) rfl (ltb rfl) rfl Tryd.call29 (spec_l01OK.calls (w := w2) (a0 := a0)) rfl <| fun w8 e9 => L_op (.plain rfl) rfl (ltb rfl) (X_move (v := (.bool (pathOK a0))) rfl) <| L_grp 7 [(16, 23)] 22 (.bool ((pathOK a0) && ((decide (a1 = ([] : List UInt8))) || (pathOK a1)))) ?_ ?_
    · rcases bool_two (pathOK a0) with b9_ | b9_
      · refine L_op (.guard 2 true 15 rfl rfl (ltb rfl) (congrArg Value.bool b9_)) rfl (ltb rfl) (X_move (v := (S a1)) (K3 1 rfl)) <| L_op (.guard 2 true 15 rfl rfl (ltb rfl) (congrArg Value.bool b9_)) rfl (ltb rfl) (X_seq rfl rfl) <| L_op (.guard 2 true 15 rfl rfl (ltb rfl) (congrArg Value.bool b9_)) rfl (ltb rfl) (X_move (v := (.bool (decide (a1 = ([] : List UInt8))))) rfl) <| L_grp 3 [(19, 22)] 21 (.bool ((decide (a1 = ([] : List UInt8))) || (pathOK a1))) ?_ ?_
        · rcases bool_two (decide (a1 = ([] : List UInt8))) with b10_ | b10_
          · exact L_skip rfl rfl (ltb rfl) (congrArg Value.bool b10_) rfl rfl (ltb rfl) <| L_skip rfl rfl (ltb rfl) (congrArg Value.bool b10_) rfl rfl (ltb rfl) <| L_op (.guard 2 true 15 rfl rfl (ltb rfl) (congrArg Value.bool b9_)) rfl (ltb rfl) (X_pick (b := true) (v := (.bool true)) (congrArg Value.bool b10_) rfl) <| L_nil <| thn_n ⟨(Kp.upd (Kp.upd (Kp.upd (Kp.refl _ _) rfl) rfl) rfl), (or_t b10_), (Ext.refl w8)⟩
          · exact L_op (.guard 5 false 18 rfl rfl (ltb rfl) (congrArg Value.bool b10_)) rfl (ltb rfl) (X_move (v := (S a1)) (K3 1 rfl)) <| L_callP (.guard 5 false 18 rfl rfl (ltb rfl) (congrArg Value.bool b10_)) rfl (ltb rfl) rfl Tryd.call29 (spec_l01OK.calls (w := w8) (a0 := a1)) rfl <| fun w12 e13 => L_op (.guard 2 true 15 rfl rfl (ltb rfl) (congrArg Value.bool b9_)) rfl (ltb rfl) (X_pick (b := false) (v := (.bool (pathOK a1))) (congrArg Value.bool b10_) rfl) <| L_nil <| thn_n ⟨(Kp.upd (Kp.upd (Kp.upd (Kp.refl _ _) rfl) rfl) rfl), (or_f b10_), e13⟩
        intro s16 w12 K13 h14 e15
        exact L_op (.plain rfl) rfl (ltb rfl) (X_pick (b := true) (v := (.bool ((decide (a1 = ([] : List UInt8))) || (pathOK a1)))) ((K13 15 rfl).trans (congrArg Value.bool b9_)) h14) <| L_nil <| thn_n ⟨(Kp.upd (Kp.cut (Kp.upd (Kp.upd (Kp.upd (Kp.refl _ _) rfl) rfl) rfl) K13 rfl) rfl), (and_t b9_), e15⟩
      · exact L_skip rfl rfl (ltb rfl) (congrArg Value.bool b9_) rfl rfl (ltb rfl) <| L_skip rfl rfl (ltb rfl) (congrArg Value.bool b9_) rfl rfl (ltb rfl) <| L_skip rfl rfl (ltb rfl) (congrArg Value.bool b9_) rfl rfl (ltb rfl) <| L_skipU rfl rfl (ltb rfl) rfl rfl (ltb rfl) <| L_skipU rfl rfl (ltb rfl) rfl rfl (ltb rfl) <| L_skip rfl rfl (ltb rfl) (congrArg Value.bool b9_) rfl rfl (ltb rfl) <| L_op (.plain rfl) rfl (ltb rfl) (X_pick (b := false) (v := (.bool false)) (congrArg Value.bool b9_) rfl) <| L_nil <| thn_n ⟨(Kp.upd (Kp.upd (Kp.upd (Kp.upd (Kp.upd (Kp.upd (Kp.upd (Kp.refl _ _) rfl) rfl) rfl) rfl) rfl) rfl) rfl), (and_f b9_), (Ext.refl w8)⟩
    intro s17 w11 K12 h13 e14
    refine L_op (.plain rfl) rfl (ltb rfl) (X_move h13) <| L_grp 4 [(24, 28)] 27 (.bool (((pathOK a0) && ((decide (a1 = ([] : List UInt8))) || (pathOK a1))) && ((decide (a1 = []) && !decide (a0 = [])) || belowP a0 a1))) ?_ ?_
    · rcases bool_two ((pathOK a0) && ((decide (a1 = ([] : List UInt8))) || (pathOK a1))) with b17_ | b17_
      · exact L_op (.guard 10 true 23 rfl rfl (ltb rfl) (congrArg Value.bool b17_)) rfl (ltb rfl) (X_move (v := (S a0)) ((K12 0 rfl).trans (K3 0 rfl))) <| L_op (.guard 10 true 23 rfl rfl (ltb rfl) (congrArg Value.bool b17_)) rfl (ltb rfl) (X_move (v := (S a1)) ((K12 1 rfl).trans (K3 1 rfl))) <| L_callP (.guard 10 true 23 rfl rfl (ltb rfl) (congrArg Value.bool b17_)) rfl (ltb rfl) rfl Tryd.call33 (spec_l01Below.calls (w := w11) (a0 := a0) (a1 := a1)) rfl <| fun w19 e20 => L_op (.plain rfl) rfl (ltb rfl) (X_pick (b := true) (v := (.bool ((decide (a1 = []) && !decide (a0 = [])) || belowP a0 a1))) (congrArg Value.bool b17_) rfl) <| L_nil <| thn_n ⟨(Kp.upd (Kp.upd (Kp.upd (Kp.upd (Kp.refl _ _) rfl) rfl) rfl) rfl), (and_t b17_), e20⟩
      · exact L_skip rfl rfl (ltb rfl) (congrArg Value.bool b17_) rfl rfl (ltb rfl) <| L_skip rfl rfl (ltb rfl) (congrArg Value.bool b17_) rfl rfl (ltb rfl) <| L_skip rfl rfl (ltb rfl) (congrArg Value.bool b17_) rfl rfl (ltb rfl) <| L_op (.plain rfl) rfl (ltb rfl) (X_pick (b := false) (v := (.bool false)) (congrArg Value.bool b17_) rfl) <| L_nil <| thn_n ⟨(Kp.upd (Kp.upd (Kp.upd (Kp.upd (Kp.refl _ _) rfl) rfl) rfl) rfl), (and_f b17_), (Ext.refl w11)⟩
    intro s23 w19 K20 h21 e22
    refine L_op (.plain rfl) rfl (ltb rfl) (X_assign h21) <| L_nil <| thn_n <| W_ret <| fin_r ?_
    obtain rfl := Option.some.inj H
    exact fin1 rfl (Ext.trans (Ext.trans (Ext.trans e5 e9) e14) e22)
theorem spec_IsBelow.calls {w : World} {a0 : List UInt8} {a1 : List UInt8} :
    Calls Tryd.prog 12 #[S a0, S a1] w (Rt (RP w (.bool (isBelow a0 a1)))) := spec_IsBelow.walk (spec_IsBelow.eq a0 a1)
/-! impl.isPlace -/
theorem impl_isPlace.walk {w : World} {a0 : List UInt8} (gv : GV 0 w) {r : Bool} (H : impl_isPlace.sh a0 = some r) :
    Calls Tryd.prog 34 #[S a0] w (Rt (RP w (.bool r))) := by
  unfold impl_isPlace.sh at H
  refine calls_of_W Tryd.func34 rfl (Nat.le_of_ble_eq_true rfl) Tryd.ntmps34 rfl ?_
  refine W_seq <| W_reg <| L_op (.plain rfl) rfl (ltb rfl) (X_assign (v := (.bool false)) rfl) <| L_nil <| thn_n <| W_seq <| W_reg <| L_op (.plain rfl) rfl (ltb rfl) (X_move (v := (S a0)) rfl) <| L_op (.plain rfl) rfl (ltb rfl) (X_seq rfl rfl) <| L_op (.plain rfl) rfl (ltb rfl) (X_move (v := (.bool (decide (a0 = ([] : List UInt8))))) rfl) <| L_grp 3 [(6, 9)] 8 (.bool ((decide (a0 = ([] : List UInt8))) || (pathOK a0))) ?_ ?_
  · rcases bool_two (decide (a0 = ([] : List UInt8))) with b0_ | b0_
    · exact L_skip rfl rfl (ltb rfl) (congrArg Value.bool b0_) rfl rfl (ltb rfl) <| L_skip rfl rfl (ltb rfl) (congrArg Value.bool b0_) rfl rfl (ltb rfl) <| L_op (.plain rfl) rfl (ltb rfl) (X_pick (b := true) (v := (.bool true)) (congrArg Value.bool b0_) rfl) <| L_nil <| thn_n ⟨(Kp.upd (Kp.upd (Kp.upd (Kp.refl _ _) rfl) rfl) rfl), (or_t b0_), (Ext.refl w)⟩
    · exact L_op (.guard 2 false 5 rfl rfl (ltb rfl) (congrArg Value.bool b0_)) rfl (ltb rfl) (X_move (v := (S a0)) rfl) <| L_callP (.guard 2 false 5 rfl rfl (ltb rfl) (congrArg Value.bool b0_)) rfl (ltb rfl) rfl Tryd.call11 (impl_PathOK.calls (w := w) (a0 := a0) gv) rfl <| fun w2 e3 => L_op (.plain rfl) rfl (ltb rfl) (X_pick (b := false) (v := (.bool (pathOK a0))) (congrArg Value.bool b0_) rfl) <| L_nil <| thn_n ⟨(Kp.upd (Kp.upd (Kp.upd (Kp.refl _ _) rfl) rfl) rfl), (or_f b0_), e3⟩
  intro s6 w2 K3 h4 e5
  refine L_op (.plain rfl) rfl (ltb rfl) (X_assign (v := (.bool ((decide (a0 = ([] : List UInt8))) || (pathOK a0)))) h4) <| L_nil <| thn_n <| W_ret <| fin_r ?_
  obtain rfl := Option.some.inj H
  exact fin1 rfl e5
theorem impl_isPlace.calls {w : World} {a0 : List UInt8} (gv : GV 0 w) :
    Calls Tryd.prog 34 #[S a0] w (Rt (RP w (.bool (decide (a0 = []) || pathOK a0)))) := impl_isPlace.walk gv (impl_isPlace.eq a0)
/-! internal/stringslite.HasPrefix -/
theorem strings_HasPrefixL.walk {w : World} {a0 : List UInt8} {a1 : List UInt8} {r : Bool} (H : strings_HasPrefixL.sh a0 a1 = some r) :
    Calls Tryd.prog 58 #[S a0, S a1] w (Rt (RP w (.bool r))) := by
  unfold strings_HasPrefixL.sh at H
  refine calls_of_W Tryd.func58 rfl (Nat.le_of_ble_eq_true rfl) Tryd.ntmps58 rfl ?_
  refine W_seq <| W_reg <| L_op (.plain rfl) rfl (ltb rfl) (X_assign (v := (.bool false)) rfl) <| L_nil <| thn_n <| W_seq <| W_reg <| L_op (.plain rfl) rfl (ltb rfl) (X_move (v := (S a0)) rfl) <| L_op (.plain rfl) rfl (ltb rfl) (X_lenS Tryd.underlying9 rfl) <| L_op (.plain rfl) rfl (ltb rfl) (X_move (v := (S a1)) rfl) <| L_op (.plain rfl) rfl (ltb rfl) (X_lenS Tryd.underlying9 rfl) <| L_op (.plain rfl) rfl (ltb rfl) (X_geq rfl rfl) <| L_op (.plain rfl) rfl (ltb rfl) (X_move (v := (.bool (decide ((a1.length : Int) ≤ (a0.length : Int))))) rfl) ?_
  obtain ⟨z2, x3, H⟩ := bind_some H
  refine L_grpE 7 [(11, 18)] 17 (fun q => q = z2) ?_ ?_
  · rcases bif_two x3 with ⟨b0_, H⟩ | ⟨b0_, H⟩
    · refine L_op (.guard 5 true 10 rfl rfl (ltb rfl) (congrArg Value.bool b0_)) rfl (ltb rfl) (X_move (v := (S a0)) rfl) <| L_op (.guard 5 true 10 rfl rfl (ltb rfl) (congrArg Value.bool b0_)) rfl (ltb rfl) (X_move (v := (S a1)) rfl) <| L_op (.guard 5 true 10 rfl rfl (ltb rfl) (congrArg Value.bool b0_)) rfl (ltb rfl) (X_lenS Tryd.underlying9 rfl) ?_
      obtain ⟨c2, H⟩ := bif_some H
      refine L_op (.guard 5 true 10 rfl rfl (ltb rfl) (congrArg Value.bool b0_)) rfl (ltb rfl) (X_sliceS Tryd.underlying9 rfl (l := 0) (h := (a1.length : Int)) rfl ⟨_, rfl⟩ (inS_1 c2) (inS_2 c2) (inS_3 c2)) <| L_op (.guard 5 true 10 rfl rfl (ltb rfl) (congrArg Value.bool b0_)) rfl (ltb rfl) (X_move (v := (S a1)) rfl) <| L_op (.guard 5 true 10 rfl rfl (ltb rfl) (congrArg Value.bool b0_)) rfl (ltb rfl) (X_seq rfl rfl) <| L_op (.plain rfl) rfl (ltb rfl) (X_pick (b := true) (v := (.bool (decide ((sub a0 0 (a1.length : Int)) = a1)))) (congrArg Value.bool b0_) rfl) ?_
      obtain rfl := Option.some.inj H
      exact L_nil <| thn_n ⟨(Kp.upd (Kp.upd (Kp.upd (Kp.upd (Kp.upd (Kp.upd (Kp.upd (Kp.refl _ _) rfl) rfl) rfl) rfl) rfl) rfl) rfl), ⟨_, rfl, rfl⟩, (Ext.refl w)⟩
    · refine L_skip rfl rfl (ltb rfl) (congrArg Value.bool b0_) rfl rfl (ltb rfl) <| L_skip rfl rfl (ltb rfl) (congrArg Value.bool b0_) rfl rfl (ltb rfl) <| L_skip rfl rfl (ltb rfl) (congrArg Value.bool b0_) rfl rfl (ltb rfl) <| L_skip rfl rfl (ltb rfl) (congrArg Value.bool b0_) rfl rfl (ltb rfl) <| L_skip rfl rfl (ltb rfl) (congrArg Value.bool b0_) rfl rfl (ltb rfl) <| L_skip rfl rfl (ltb rfl) (congrArg Value.bool b0_) rfl rfl (ltb rfl) <| L_op (.plain rfl) rfl (ltb rfl) (X_pick (b := false) (v := (.bool false)) (congrArg Value.bool b0_) rfl) ?_
      obtain rfl := Option.some.inj H
      exact L_nil <| thn_n ⟨(Kp.upd (Kp.upd (Kp.upd (Kp.upd (Kp.upd (Kp.upd (Kp.upd (Kp.refl _ _) rfl) rfl) rfl) rfl) rfl) rfl) rfl), ⟨_, rfl, rfl⟩, (Ext.refl w)⟩
  intro s8 w4 z9 K5 hq h6 e7
  rw [hq] at h6; clear hq
  refine L_op (.plain rfl) rfl (ltb rfl) (X_assign (v := (.bool z2)) h6) <| L_nil <| thn_n <| W_ret <| fin_r ?_
  obtain rfl := Option.some.inj H
  exact fin1 rfl e7
theorem strings_HasPrefixL.calls {w : World} {a0 : List UInt8} {a1 : List UInt8} :
    Calls Tryd.prog 58 #[S a0, S a1] w (Rt (RP w (.bool (List.isPrefixOf a1 a0)))) := strings_HasPrefixL.walk (strings_HasPrefixL.eq a0 a1)
/-! strings.HasPrefix -/
theorem strings_HasPrefix.walk {w : World} {a0 : List UInt8} {a1 : List UInt8} {r : Bool} (H : strings_HasPrefix.sh a0 a1 = some r) :
    Calls Tryd.prog 52 #[S a0, S a1] w (Rt (RP w (.bool r))) := by
  unfold strings_HasPrefix.sh at H
  refine calls_of_W Tryd.func52 rfl (Nat.le_of_ble_eq_true rfl) Tryd.ntmps52 rfl ?_
  refine W_seq <| W_reg <| L_op (.plain rfl) rfl (ltb rfl) (X_assign (v := (.bool false)) rfl) <| L_nil <| thn_n <| W_seq <| W_reg <| L_op (.plain rfl) rfl (ltb rfl) (X_move (v := (S a0)) rfl) <| L_op (.plain rfl) rfl (ltb rfl) (X_move (v := (S a1)) rfl) <| L_callP (.plain rfl) rfl (ltb rfl) rfl Tryd.call58 (strings_HasPrefixL.calls (w := w) (a0 := a0) (a1 := a1)) rfl <| fun w1 e2 => L_op (.plain rfl) rfl (ltb rfl) (X_assign (v := (.bool (List.isPrefixOf a1 a0))) rfl) <| L_nil <| thn_n <| W_ret <| fin_r ?_
  obtain rfl := Option.some.inj H
  exact fin1 rfl e2
theorem strings_HasPrefix.calls {w : World} {a0 : List UInt8} {a1 : List UInt8} :
    Calls Tryd.prog 52 #[S a0, S a1] w (Rt (RP w (.bool (List.isPrefixOf a1 a0)))) := strings_HasPrefix.walk (strings_HasPrefix.eq a0 a1)
/-! impl.below -/
theorem impl_below.walk {w : World} {a0 : List UInt8} {a1 : List UInt8} {r : Bool} (H : impl_below.sh a0 a1 = some r) :
    Calls Tryd.prog 35 #[S a0, S a1] w (Rt (RP w (.bool r))) := by
  unfold impl_below.sh at H
  refine calls_of_W Tryd.func35 rfl (Nat.le_of_ble_eq_true rfl) Tryd.ntmps35 rfl ?_
  refine W_seq <| W_reg <| L_op (.plain rfl) rfl (ltb rfl) (X_assign (v := (.bool false)) rfl) <| L_nil <| thn_n <| W_seq <| W_reg <| L_op (.plain rfl) rfl (ltb rfl) (X_move (v := (S a1)) rfl) <| L_op (.plain rfl) rfl (ltb rfl) (X_seq rfl rfl) <| L_op (.plain rfl) rfl (ltb rfl) (X_move (v := (.bool (decide (a1 = ([] : List UInt8))))) rfl) ?_
  obtain ⟨z2, x3, H⟩ := bind_some H
  refine L_grpE 5 [(8, 13)] 12 (fun q => q = z2) ?_ ?_
  · rcases bif_two x3 with ⟨b0_, H⟩ | ⟨b0_, H⟩
    · refine L_skip rfl rfl (ltb rfl) (congrArg Value.bool b0_) rfl rfl (ltb rfl) <| L_skip rfl rfl (ltb rfl) (congrArg Value.bool b0_) rfl rfl (ltb rfl) <| L_skip rfl rfl (ltb rfl) (congrArg Value.bool b0_) rfl rfl (ltb rfl) <| L_skip rfl rfl (ltb rfl) (congrArg Value.bool b0_) rfl rfl (ltb rfl) <| L_op (.plain rfl) rfl (ltb rfl) (X_pick (b := true) (v := (.bool true)) (congrArg Value.bool b0_) rfl) ?_
      obtain rfl := Option.some.inj H
      exact L_nil <| thn_n ⟨(Kp.upd (Kp.upd (Kp.upd (Kp.upd (Kp.upd (Kp.refl _ _) rfl) rfl) rfl) rfl) rfl), ⟨_, rfl, rfl⟩, (Ext.refl w)⟩
    · refine L_op (.guard 2 false 7 rfl rfl (ltb rfl) (congrArg Value.bool b0_)) rfl (ltb rfl) (X_move (v := (S a0)) rfl) <| L_op (.guard 2 false 7 rfl rfl (ltb rfl) (congrArg Value.bool b0_)) rfl (ltb rfl) (X_move (v := (S a1)) rfl) ?_
      obtain ⟨c2, H⟩ := bif_some H
      refine L_op (.guard 2 false 7 rfl rfl (ltb rfl) (congrArg Value.bool b0_)) rfl (ltb rfl) (X_cat rfl rfl (of_decide_eq_true c2)) <| L_callP (.guard 2 false 7 rfl rfl (ltb rfl) (congrArg Value.bool b0_)) rfl (ltb rfl) rfl Tryd.call52 (strings_HasPrefix.calls (w := w) (a0 := a0) (a1 := a1 ++ ([47] : List UInt8))) rfl <| fun w3 e4 => L_op (.plain rfl) rfl (ltb rfl) (X_pick (b := false) (v := (.bool (List.isPrefixOf (a1 ++ ([47] : List UInt8)) a0))) (congrArg Value.bool b0_) rfl) ?_
      obtain rfl := Option.some.inj H
      exact L_nil <| thn_n ⟨(Kp.upd (Kp.upd (Kp.upd (Kp.upd (Kp.upd (Kp.refl _ _) rfl) rfl) rfl) rfl) rfl), ⟨_, rfl, rfl⟩, e4⟩
  intro s8 w4 z9 K5 hq h6 e7
  rw [hq] at h6; clear hq
  refine L_op (.plain rfl) rfl (ltb rfl) (X_assign (v := (.bool z2)) h6) <| L_nil <| thn_n <| W_ret <| fin_r ?_
  obtain rfl := Option.some.inj H
  exact fin1 rfl e7
theorem impl_below.calls {w : World} {a0 : List UInt8} {a1 : List UInt8} (h0 : a1.length ≤ 1048576) :
    Calls Tryd.prog 35 #[S a0, S a1] w (Rt (RP w (.bool (decide (a1 = []) || belowP a0 a1)))) := impl_below.walk (impl_below.eq a0 a1 h0)
/-! impl.IsBelow -/
theorem impl_IsBelow.walk {w : World} {a0 : List UInt8} {a1 : List UInt8} (gv : GV 0 w) {r : Bool} (H : impl_IsBelow.sh a0 a1 = some r) :
    Calls Tryd.prog 13 #[S a0, S a1] w (Rt (RP w (.bool r))) := by
  unfold impl_IsBelow.sh at H
  refine calls_of_W Tryd.func13 rfl (Nat.le_of_ble_eq_true rfl) Tryd.ntmps13 rfl ?_
  refine W_seq <| W_reg <| L_op (.plain rfl) rfl (ltb rfl) (X_assign (v := (.bool false)) rfl) <| L_nil <| thn_n <| W_seq <| W_reg <| L_op (.plain rfl) rfl (ltb rfl) (X_move (v := (S a0)) rfl) <| L_callP (.plain rfl) rfl (ltb rfl) rfl Tryd.call11 (impl_PathOK.calls (w := w) (a0 := a0) gv) rfl <| fun w1 e2 => L_op (.plain rfl) rfl (ltb rfl) (X_move (v := (.bool (pathOK a0))) rfl) <| L_grp 3 [(8, 11)] 10 (.bool ((pathOK a0) && (decide (a1 = []) || pathOK a1))) ?_ ?_
  · rcases bool_two (pathOK a0) with b2_ | b2_
    · exact L_op (.guard 2 true 7 rfl rfl (ltb rfl) (congrArg Value.bool b2_)) rfl (ltb rfl) (X_move (v := (S a1)) rfl) <| L_callP (.guard 2 true 7 rfl rfl (ltb rfl) (congrArg Value.bool b2_)) rfl (ltb rfl) rfl Tryd.call34 (impl_isPlace.calls (w := w1) (a0 := a1) (GV.ext gv e2)) rfl <| fun w4 e5 => L_op (.plain rfl) rfl (ltb rfl) (X_pick (b := true) (v := (.bool (decide (a1 = []) || pathOK a1))) (congrArg Value.bool b2_) rfl) <| L_nil <| thn_n ⟨(Kp.upd (Kp.upd (Kp.upd (Kp.refl _ _) rfl) rfl) rfl), (and_t b2_), e5⟩
    · exact L_skip rfl rfl (ltb rfl) (congrArg Value.bool b2_) rfl rfl (ltb rfl) <| L_skip rfl rfl (ltb rfl) (congrArg Value.bool b2_) rfl rfl (ltb rfl) <| L_op (.plain rfl) rfl (ltb rfl) (X_pick (b := false) (v := (.bool false)) (congrArg Value.bool b2_) rfl) <| L_nil <| thn_n ⟨(Kp.upd (Kp.upd (Kp.upd (Kp.refl _ _) rfl) rfl) rfl), (and_f b2_), (Ext.refl w1)⟩
  intro s8 w4 K5 h6 e7
  refine L_op (.plain rfl) rfl (ltb rfl) (X_move (v := (.bool ((pathOK a0) && (decide (a1 = []) || pathOK a1)))) h6) ?_
  obtain ⟨z10, x11, H⟩ := bind_some H
  refine L_grpE 4 [(12, 16)] 15 (fun q => q = z10) ?_ ?_
  · rcases bif_two x11 with ⟨b8_, H⟩ | ⟨b8_, H⟩
    · refine L_op (.guard 6 true 11 rfl rfl (ltb rfl) (congrArg Value.bool b8_)) rfl (ltb rfl) (X_move (v := (S a0)) (K5 0 rfl)) <| L_op (.guard 6 true 11 rfl rfl (ltb rfl) (congrArg Value.bool b8_)) rfl (ltb rfl) (X_move (v := (S a1)) (K5 1 rfl)) ?_
      obtain ⟨c10, H⟩ := bif_some H
      refine L_callP (.guard 6 true 11 rfl rfl (ltb rfl) (congrArg Value.bool b8_)) rfl (ltb rfl) rfl Tryd.call35 (impl_below.calls (w := w4) (a0 := a0) (a1 := a1) (of_decide_eq_true c10)) rfl <| fun w11 e12 => L_op (.plain rfl) rfl (ltb rfl) (X_pick (b := true) (v := (.bool (decide (a1 = []) || belowP a0 a1))) (congrArg Value.bool b8_) rfl) ?_
      obtain rfl := Option.some.inj H
      exact L_nil <| thn_n ⟨(Kp.upd (Kp.upd (Kp.upd (Kp.upd (Kp.refl _ _) rfl) rfl) rfl) rfl), ⟨_, rfl, rfl⟩, e12⟩
    · refine L_skip rfl rfl (ltb rfl) (congrArg Value.bool b8_) rfl rfl (ltb rfl) <| L_skip rfl rfl (ltb rfl) (congrArg Value.bool b8_) rfl rfl (ltb rfl) <| L_skip rfl rfl (ltb rfl) (congrArg Value.bool b8_) rfl rfl (ltb rfl) <| L_op (.plain rfl) rfl (ltb rfl) (X_pick (b := false) (v := (.bool false)) (congrArg Value.bool b8_) rfl) ?_
      obtain rfl := Option.some.inj H
      exact L_nil <| thn_n ⟨(Kp.upd (Kp.upd (Kp.upd (Kp.upd (Kp.refl _ _) rfl) rfl) rfl) rfl), ⟨_, rfl, rfl⟩, (Ext.refl w4)⟩
  intro s16 w12 z17 K13 hq h14 e15
  rw [hq] at h14; clear hq
  refine L_op (.plain rfl) rfl (ltb rfl) (X_assign (v := (.bool z10)) h14) <| L_nil <| thn_n <| W_ret <| fin_r ?_
  obtain rfl := Option.some.inj H
  exact fin1 rfl (Ext.trans (Ext.trans e2 e7) e15)
theorem impl_IsBelow.calls {w : World} {a0 : List UInt8} {a1 : List UInt8} (gv : GV 0 w) :
    Calls Tryd.prog 13 #[S a0, S a1] w (Rt (RP w (.bool (isBelow a0 a1)))) := impl_IsBelow.walk gv (impl_IsBelow.eq a0 a1)
/-! laws.FnExactIsBelow -/
theorem law_IsBelow.walk {w : World} {a0 : List UInt8} {a1 : List UInt8} (gv : GV 0 w) {r : Bool} (H : law_IsBelow.sh a0 a1 = some r) :
    Calls Tryd.prog 4 #[S a0, S a1] w (Rt (RP w (.bool r))) := by
  unfold law_IsBelow.sh at H
  refine calls_of_W Tryd.func4 rfl (Nat.le_of_ble_eq_true rfl) Tryd.ntmps4 rfl ?_
  refine W_seq <| W_reg <| L_op (.plain rfl) rfl (ltb rfl) (X_assign (v := (.bool false)) rfl) <| L_nil <| thn_n <| W_seq <| W_seq <| W_reg <| L_op (.plain rfl) rfl (ltb rfl) (X_move (v := (S a0)) rfl) <| L_op (.plain rfl) rfl (ltb rfl) (X_lenS Tryd.underlying9 rfl) <| L_op (.plain rfl) rfl (ltb rfl) (X_gtr rfl rfl) <| L_nil <| thn_n ?_
  rcases bif_two H with ⟨q1, H⟩ | ⟨q1, H⟩
  · refine W_true (congrArg Value.bool q1) <| W_seq <| W_reg <| L_op (.plain rfl) rfl (ltb rfl) (X_assign (v := (.bool true)) rfl) <| L_nil <| thn_n <| W_ret <| thn_r <| fin_r ?_
    obtain rfl := Option.some.inj H
    exact fin1 rfl (Ext.refl w)
  · refine W_false (congrArg Value.bool q1) <| W_skip <| thn_n <| W_seq <| W_seq <| W_reg <| L_op (.plain rfl) rfl (ltb rfl) (X_move (v := (S a1)) rfl) <| L_op (.plain rfl) rfl (ltb rfl) (X_lenS Tryd.underlying9 rfl) <| L_op (.plain rfl) rfl (ltb rfl) (X_gtr rfl rfl) <| L_nil <| thn_n ?_
    rcases bif_two H with ⟨q2, H⟩ | ⟨q2, H⟩
    · refine W_true (congrArg Value.bool q2) <| W_seq <| W_reg <| L_op (.plain rfl) rfl (ltb rfl) (X_assign (v := (.bool true)) rfl) <| L_nil <| thn_n <| W_ret <| thn_r <| fin_r ?_
      obtain rfl := Option.some.inj H
      exact fin1 rfl (Ext.refl w)
    · refine W_false (congrArg Value.bool q2) <| W_skip <| thn_n <| W_seq <| W_reg <| L_op (.plain rfl) rfl (ltb rfl) (X_move (v := (S a0)) rfl) <| L_op (.plain rfl) rfl (ltb rfl) (X_move (v := (S a1)) rfl) <| L_callP (.plain rfl) rfl (ltb rfl) rfl Tryd.call12 (spec_IsBelow.calls (w := w) (a0 := a0) (a1 := a1)) rfl <| fun w3 e4 => L_op (.plain rfl) rfl (ltb rfl) (X_assign (v := (.bool (isBelow a0 a1))) rfl) <| L_nil <| thn_n <| W_seq <| W_reg <| L_op (.plain rfl) rfl (ltb rfl) (X_move (v := (S a0)) rfl) <| L_op (.plain rfl) rfl (ltb rfl) (X_move (v := (S a1)) rfl) <| L_callP (.plain rfl) rfl (ltb rfl) rfl Tryd.call13 (impl_IsBelow.calls (w := w3) (a0 := a0) (a1 := a1) (GV.ext gv e4)) rfl <| fun w5 e6 => L_op (.plain rfl) rfl (ltb rfl) (X_assign (v := (.bool (isBelow a0 a1))) rfl) <| L_nil <| thn_n <| W_seq <| W_seq <| W_reg <| L_op (.plain rfl) rfl (ltb rfl) (X_move (v := (.bool (isBelow a0 a1))) rfl) <| L_op (.plain rfl) rfl (ltb rfl) (X_move (v := (.bool (isBelow a0 a1))) rfl) <| L_op (.plain rfl) rfl (ltb rfl) (X_bne Tryd.underlying4 rfl rfl) <| L_nil <| thn_n ?_
      rcases bif_two H with ⟨q7, H⟩ | ⟨q7, H⟩
      · refine W_true (congrArg Value.bool q7) <| W_seq <| W_reg <| L_op (.plain rfl) rfl (ltb rfl) (X_assign (v := (.bool false)) rfl) <| L_nil <| thn_n <| W_ret <| thn_r <| fin_r ?_
        obtain rfl := Option.some.inj H
        exact fin1 rfl (Ext.trans e4 e6)
      · refine W_false (congrArg Value.bool q7) <| W_skip <| thn_n <| W_seq <| W_reg <| L_op (.plain rfl) rfl (ltb rfl) (X_assign (v := (.bool true)) rfl) <| L_nil <| thn_n <| W_ret <| fin_r ?_
        obtain rfl := Option.some.inj H
        exact fin1 rfl (Ext.trans e4 e6)
theorem law_IsBelow.calls {w : World} {a0 : List UInt8} {a1 : List UInt8} (gv : GV 0 w) :
    Calls Tryd.prog 4 #[S a0, S a1] w (Rt (RP w (.bool true))) := law_IsBelow.walk gv (law_IsBelow.eq a0 a1)
/-! spec.l01Join -/
theorem spec_l01Join.walk {w : World} {a0 : List UInt8} {a1 : List UInt8} {r : List UInt8} (H : spec_l01Join.sh a0 a1 = some r) :
    Calls Tryd.prog 37 #[S a0, S a1] w (Rt (RP w (S r))) := by
  unfold spec_l01Join.sh at H
  refine calls_of_W Tryd.func37 rfl (Nat.le_of_ble_eq_true rfl) Tryd.ntmps37 rfl ?_
  refine W_seq <| W_reg <| L_op (.plain rfl) rfl (ltb rfl) (X_assign (v := (S ([] : List UInt8))) rfl) <| L_nil <| thn_n <| W_seq <| W_seq <| W_reg <| L_op (.plain rfl) rfl (ltb rfl) (X_move (v := (S a0)) rfl) <| L_op (.plain rfl) rfl (ltb rfl) (X_seq rfl rfl) <| L_nil <| thn_n ?_
  rcases bif_two H with ⟨q1, H⟩ | ⟨q1, H⟩
  · refine W_true (congrArg Value.bool q1) <| W_seq <| W_reg <| L_op (.plain rfl) rfl (ltb rfl) (X_move (v := (S a1)) rfl) <| L_op (.plain rfl) rfl (ltb rfl) (X_assign (v := (S a1)) rfl) <| L_nil <| thn_n <| W_ret <| thn_r <| fin_r ?_
    obtain rfl := Option.some.inj H
    exact fin1 rfl (Ext.refl w)
  · refine W_false (congrArg Value.bool q1) <| W_skip <| thn_n <| W_seq <| W_reg <| L_op (.plain rfl) rfl (ltb rfl) (X_move (v := (S a0)) rfl) ?_
    obtain ⟨c2, H⟩ := bif_some H
    refine L_op (.plain rfl) rfl (ltb rfl) (X_cat rfl rfl (of_decide_eq_true c2)) <| L_op (.plain rfl) rfl (ltb rfl) (X_move (v := (S a1)) rfl) ?_
    obtain ⟨c3, H⟩ := bif_some H
    refine L_op (.plain rfl) rfl (ltb rfl) (X_cat rfl rfl (of_decide_eq_true c3)) <| L_op (.plain rfl) rfl (ltb rfl) (X_assign (v := (S ((a0 ++ ([47] : List UInt8)) ++ a1))) rfl) <| L_nil <| thn_n <| W_ret <| fin_r ?_
    obtain rfl := Option.some.inj H
    exact fin1 rfl (Ext.refl w)
theorem spec_l01Join.calls {w : World} {a0 : List UInt8} {a1 : List UInt8} (h0 : a0.length ≤ 1048576) (h1 : a1.length ≤ 1048576) :
    Calls Tryd.prog 37 #[S a0, S a1] w (Rt (RP w (S (joinP a0 a1)))) := spec_l01Join.walk (spec_l01Join.eq a0 a1 h0 h1)
/-! spec.JoinPath -/
theorem spec_JoinPath.walk {w : World} {a0 : List UInt8} {a1 : List UInt8} {r : List UInt8 × Int} (H : spec_JoinPath.sh a0 a1 = some r) :
    Calls Tryd.prog 14 #[S a0, S a1] w (Rt (RP w (.tuple #[S r.1, .int .i64 r.2]))) := by
  unfold spec_JoinPath.sh at H
  refine calls_of_W Tryd.func14 rfl (Nat.le_of_ble_eq_true rfl) Tryd.ntmps14 rfl ?_
  refine W_seq <| W_reg <| L_op (.plain rfl) rfl (ltb rfl) (X_assign (v := (S ([] : List UInt8))) rfl) <| L_op (.plain rfl) rfl (ltb rfl) (X_assign (v := (.int .i64 0)) rfl) <| L_nil <| thn_n <| W_seq <| W_seq <| W_reg <| L_op (.plain rfl) rfl (ltb rfl) (X_move (v := (S a0)) rfl) <| L_op (.plain rfl) rfl (ltb rfl) (X_lenS Tryd.underlying9 rfl) <| L_op (.plain rfl) rfl (ltb rfl) (X_gtr rfl rfl) <| L_op (.plain rfl) rfl (ltb rfl) (X_move (v := (.bool (decide (65536 < (a0.length : Int))))) rfl) <| L_grp 4 [(11, 15)] 14 (.bool ((decide (65536 < (a0.length : Int))) || (decide (65536 < (a1.length : Int))))) ?_ ?_
  · rcases bool_two (decide (65536 < (a0.length : Int))) with b0_ | b0_
    · exact L_skip rfl rfl (ltb rfl) (congrArg Value.bool b0_) rfl rfl (ltb rfl) <| L_skip rfl rfl (ltb rfl) (congrArg Value.bool b0_) rfl rfl (ltb rfl) <| L_skip rfl rfl (ltb rfl) (congrArg Value.bool b0_) rfl rfl (ltb rfl) <| L_op (.plain rfl) rfl (ltb rfl) (X_pick (b := true) (v := (.bool true)) (congrArg Value.bool b0_) rfl) <| L_nil <| thn_n ⟨(Kp.upd (Kp.upd (Kp.upd (Kp.upd (Kp.refl _ _) rfl) rfl) rfl) rfl), (or_t b0_), (Ext.refl w)⟩
    · exact L_op (.guard 3 false 10 rfl rfl (ltb rfl) (congrArg Value.bool b0_)) rfl (ltb rfl) (X_move (v := (S a1)) rfl) <| L_op (.guard 3 false 10 rfl rfl (ltb rfl) (congrArg Value.bool b0_)) rfl (ltb rfl) (X_lenS Tryd.underlying9 rfl) <| L_op (.guard 3 false 10 rfl rfl (ltb rfl) (congrArg Value.bool b0_)) rfl (ltb rfl) (X_gtr rfl rfl) <| L_op (.plain rfl) rfl (ltb rfl) (X_pick (b := false) (v := (.bool (decide (65536 < (a1.length : Int))))) (congrArg Value.bool b0_) rfl) <| L_nil <| thn_n ⟨(Kp.upd (Kp.upd (Kp.upd (Kp.upd (Kp.refl _ _) rfl) rfl) rfl) rfl), (or_f b0_), (Ext.refl w)⟩
  intro s6 w2 K3 h4 e5
  refine L_nil <| thn_n ?_
  rcases bif_two H with ⟨q7, H⟩ | ⟨q7, H⟩
  · refine W_true (h4.trans (congrArg Value.bool q7)) <| W_seq <| W_reg <| L_op (.plain rfl) rfl (ltb rfl) (X_assign (v := (S ([] : List UInt8))) rfl) <| L_op (.plain rfl) rfl (ltb rfl) (X_assign (v := (.int .i64 2)) rfl) <| L_nil <| thn_n <| W_ret <| thn_r <| fin_r ?_
    obtain rfl := Option.some.inj H
    exact fin2 rfl rfl e5
  · refine W_false (h4.trans (congrArg Value.bool q7)) <| W_skip <| thn_n <| W_seq <| W_seq <| W_reg <| L_op (.plain rfl) rfl (ltb rfl) (X_move (v := (S a0)) (K3 0 rfl)) <| L_op (.plain rfl) rfl (ltb rfl) (X_sne rfl rfl) <| L_op (.plain rfl) rfl (ltb rfl) (X_move (v := (.bool (!decide (a0 = ([] : List UInt8))))) rfl) <| L_grp 4 [(18, 22)] 21 (.bool ((!decide (a0 = ([] : List UInt8))) && (!(pathOK a0)))) ?_ ?_
    · rcases bool_two (!decide (a0 = ([] : List UInt8))) with b7_ | b7_
      · exact L_op (.guard 2 true 17 rfl rfl (ltb rfl) (congrArg Value.bool b7_)) rfl (ltb rfl) (X_move (v := (S a0)) (K3 0 rfl)) <| L_callP (.guard 2 true 17 rfl rfl (ltb rfl) (congrArg Value.bool b7_)) rfl (ltb rfl) rfl Tryd.call29 (spec_l01OK.calls (w := w2) (a0 := a0)) rfl <| fun w9 e10 => L_op (.guard 2 true 17 rfl rfl (ltb rfl) (congrArg Value.bool b7_)) rfl (ltb rfl) (X_not rfl) <| L_op (.plain rfl) rfl (ltb rfl) (X_pick (b := true) (v := (.bool (!(pathOK a0)))) (congrArg Value.bool b7_) rfl) <| L_nil <| thn_n ⟨(Kp.upd (Kp.upd (Kp.upd (Kp.upd (Kp.refl _ _) rfl) rfl) rfl) rfl), (and_t b7_), e10⟩
      · exact L_skip rfl rfl (ltb rfl) (congrArg Value.bool b7_) rfl rfl (ltb rfl) <| L_skip rfl rfl (ltb rfl) (congrArg Value.bool b7_) rfl rfl (ltb rfl) <| L_skip rfl rfl (ltb rfl) (congrArg Value.bool b7_) rfl rfl (ltb rfl) <| L_op (.plain rfl) rfl (ltb rfl) (X_pick (b := false) (v := (.bool false)) (congrArg Value.bool b7_) rfl) <| L_nil <| thn_n ⟨(Kp.upd (Kp.upd (Kp.upd (Kp.upd (Kp.refl _ _) rfl) rfl) rfl) rfl), (and_f b7_), (Ext.refl w2)⟩
    intro s13 w9 K10 h11 e12
    refine L_op (.plain rfl) rfl (ltb rfl) (X_move (v := (.bool ((!decide (a0 = ([] : List UInt8))) && (!(pathOK a0))))) h11) <| L_grp 4 [(23, 27)] 26 (.bool (((!decide (a0 = ([] : List UInt8))) && (!(pathOK a0))) || (!(partOK a1)))) ?_ ?_
    · rcases bool_two ((!decide (a0 = ([] : List UInt8))) && (!(pathOK a0))) with b13_ | b13_
      · exact L_skip rfl rfl (ltb rfl) (congrArg Value.bool b13_) rfl rfl (ltb rfl) <| L_skip rfl rfl (ltb rfl) (congrArg Value.bool b13_) rfl rfl (ltb rfl) <| L_skip rfl rfl (ltb rfl) (congrArg Value.bool b13_) rfl rfl (ltb rfl) <| L_op (.plain rfl) rfl (ltb rfl) (X_pick (b := true) (v := (.bool true)) (congrArg Value.bool b13_) rfl) <| L_nil <| thn_n ⟨(Kp.upd (Kp.upd (Kp.upd (Kp.upd (Kp.refl _ _) rfl) rfl) rfl) rfl), (or_t b13_), (Ext.refl w9)⟩
      · exact L_op (.guard 7 false 22 rfl rfl (ltb rfl) (congrArg Value.bool b13_)) rfl (ltb rfl) (X_move (v := (S a1)) ((K10 1 rfl).trans (K3 1 rfl))) <| L_callP (.guard 7 false 22 rfl rfl (ltb rfl) (congrArg Value.bool b13_)) rfl (ltb rfl) rfl Tryd.call36 (spec_l01Part.calls (w := w9) (a0 := a1)) rfl <| fun w15 e16 => L_op (.guard 7 false 22 rfl rfl (ltb rfl) (congrArg Value.bool b13_)) rfl (ltb rfl) (X_not rfl) <| L_op (.plain rfl) rfl (ltb rfl) (X_pick (b := false) (v := (.bool (!(partOK a1)))) (congrArg Value.bool b13_) rfl) <| L_nil <| thn_n ⟨(Kp.upd (Kp.upd (Kp.upd (Kp.upd (Kp.refl _ _) rfl) rfl) rfl) rfl), (or_f b13_), e16⟩
    intro s19 w15 K16 h17 e18
    refine L_nil <| thn_n ?_
    rcases bif_two H with ⟨q20, H⟩ | ⟨q20, H⟩
    · refine W_true (h17.trans (congrArg Value.bool q20)) <| W_seq <| W_reg <| L_op (.plain rfl) rfl (ltb rfl) (X_assign (v := (S ([] : List UInt8))) rfl) <| L_op (.plain rfl) rfl (ltb rfl) (X_assign (v := (.int .i64 10)) rfl) <| L_nil <| thn_n <| W_ret <| thn_r <| fin_r ?_
      obtain rfl := Option.some.inj H
      exact fin2 rfl rfl (Ext.trans (Ext.trans e5 e12) e18)
    · refine W_false (h17.trans (congrArg Value.bool q20)) <| W_skip <| thn_n <| W_seq <| W_reg <| L_op (.plain rfl) rfl (ltb rfl) (X_move (v := (S a0)) ((K16 0 rfl).trans ((K10 0 rfl).trans (K3 0 rfl)))) <| L_op (.plain rfl) rfl (ltb rfl) (X_move (v := (S a1)) ((K16 1 rfl).trans ((K10 1 rfl).trans (K3 1 rfl)))) ?_
      obtain ⟨c21, H⟩ := bif_some H
      obtain ⟨c22, H⟩ := bif_some H
      refine L_callP (.plain rfl) rfl (ltb rfl) rfl Tryd.call37 (spec_l01Join.calls (w := w15) (a0 := a0) (a1 := a1) (of_decide_eq_true c21) (of_decide_eq_true c22)) rfl <| fun w23 e24 => L_op (.plain rfl) rfl (ltb rfl) (X_assign (v := (S (joinP a0 a1))) rfl) <| L_nil <| thn_n <| W_seq <| W_seq <| W_reg <| L_op (.plain rfl) rfl (ltb rfl) (X_move (v := (S (joinP a0 a1))) rfl) <| L_callP (.plain rfl) rfl (ltb rfl) rfl Tryd.call29 (spec_l01OK.calls (w := w23) (a0 := (joinP a0 a1))) rfl <| fun w25 e26 => L_op (.plain rfl) rfl (ltb rfl) (X_not rfl) <| L_nil <| thn_n ?_
      rcases bif_two H with ⟨q27, H⟩ | ⟨q27, H⟩
      · refine W_true (congrArg Value.bool q27) <| W_seq <| W_reg <| L_op (.plain rfl) rfl (ltb rfl) (X_assign (v := (S ([] : List UInt8))) rfl) <| L_op (.plain rfl) rfl (ltb rfl) (X_assign (v := (.int .i64 6)) rfl) <| L_nil <| thn_n <| W_ret <| thn_r <| fin_r ?_
        obtain rfl := Option.some.inj H
        exact fin2 rfl rfl (Ext.trans (Ext.trans (Ext.trans (Ext.trans e5 e12) e18) e24) e26)
      · refine W_false (congrArg Value.bool q27) <| W_skip <| thn_n <| W_seq <| W_reg <| L_op (.plain rfl) rfl (ltb rfl) (X_move (v := (S (joinP a0 a1))) rfl) <| L_op (.plain rfl) rfl (ltb rfl) (X_assign (v := (S (joinP a0 a1))) rfl) <| L_op (.plain rfl) rfl (ltb rfl) (X_assign (v := (.int .i64 0)) rfl) <| L_nil <| thn_n <| W_ret <| fin_r ?_
        obtain rfl := Option.some.inj H
        exact fin2 rfl rfl (Ext.trans (Ext.trans (Ext.trans (Ext.trans e5 e12) e18) e24) e26)
theorem spec_JoinPath.calls {w : World} {a0 : List UInt8} {a1 : List UInt8} :
    Calls Tryd.prog 14 #[S a0, S a1] w (Rt (RP w (.tuple #[S ((joinPath a0 a1).1), .int .i64 ((joinPath a0 a1).2)]))) := spec_JoinPath.walk (spec_JoinPath.eq a0 a1)
/-! impl.join -/
theorem impl_join.walk {w : World} {a0 : List UInt8} {a1 : List UInt8} {r : List UInt8} (H : impl_join.sh a0 a1 = some r) :
    Calls Tryd.prog 38 #[S a0, S a1] w (Rt (RP w (S r))) := by
  unfold impl_join.sh at H
  refine calls_of_W Tryd.func38 rfl (Nat.le_of_ble_eq_true rfl) Tryd.ntmps38 rfl ?_
  refine W_seq <| W_reg <| L_op (.plain rfl) rfl (ltb rfl) (X_assign (v := (S ([] : List UInt8))) rfl) <| L_nil <| thn_n <| W_seq <| W_seq <| W_reg <| L_op (.plain rfl) rfl (ltb rfl) (X_move (v := (S a0)) rfl) <| L_op (.plain rfl) rfl (ltb rfl) (X_seq rfl rfl) <| L_nil <| thn_n ?_
  rcases bif_two H with ⟨q1, H⟩ | ⟨q1, H⟩
  · refine W_true (congrArg Value.bool q1) <| W_seq <| W_reg <| L_op (.plain rfl) rfl (ltb rfl) (X_move (v := (S a1)) rfl) <| L_op (.plain rfl) rfl (ltb rfl) (X_assign (v := (S a1)) rfl) <| L_nil <| thn_n <| W_ret <| thn_r <| fin_r ?_
    obtain rfl := Option.some.inj H
    exact fin1 rfl (Ext.refl w)
  · refine W_false (congrArg Value.bool q1) <| W_skip <| thn_n <| W_seq <| W_reg <| L_op (.plain rfl) rfl (ltb rfl) (X_move (v := (S a0)) rfl) ?_
    obtain ⟨c2, H⟩ := bif_some H
    refine L_op (.plain rfl) rfl (ltb rfl) (X_cat rfl rfl (of_decide_eq_true c2)) <| L_op (.plain rfl) rfl (ltb rfl) (X_move (v := (S a1)) rfl) ?_
    obtain ⟨c3, H⟩ := bif_some H
    refine L_op (.plain rfl) rfl (ltb rfl) (X_cat rfl rfl (of_decide_eq_true c3)) <| L_op (.plain rfl) rfl (ltb rfl) (X_assign (v := (S ((a0 ++ ([47] : List UInt8)) ++ a1))) rfl) <| L_nil <| thn_n <| W_ret <| fin_r ?_
    obtain rfl := Option.some.inj H
    exact fin1 rfl (Ext.refl w)
theorem impl_join.calls {w : World} {a0 : List UInt8} {a1 : List UInt8} (h0 : a0.length ≤ 1048576) (h1 : a1.length ≤ 1048576) :
    Calls Tryd.prog 38 #[S a0, S a1] w (Rt (RP w (S (joinP a0 a1)))) := impl_join.walk (impl_join.eq a0 a1 h0 h1)
/-! impl.JoinPath -/
theorem impl_JoinPath.walk {w : World} {a0 : List UInt8} {a1 : List UInt8} (gv : GV 0 w) {r : List UInt8 × Int} (H : impl_JoinPath.sh a0 a1 = some r) :
    Calls Tryd.prog 15 #[S a0, S a1] w (Rt (RP w (.tuple #[S r.1, .int .i64 r.2]))) := by
  unfold impl_JoinPath.sh at H
  refine calls_of_W Tryd.func15 rfl (Nat.le_of_ble_eq_true rfl) Tryd.ntmps15 rfl ?_
  refine W_seq <| W_reg <| L_op (.plain rfl) rfl (ltb rfl) (X_assign (v := (S ([] : List UInt8))) rfl) <| L_op (.plain rfl) rfl (ltb rfl) (X_assign (v := (.int .i64 0)) rfl) <| L_nil <| thn_n <| W_seq <| W_reg <| L_op (.plain rfl) rfl (ltb rfl) (X_move (v := (S a0)) rfl) <| L_op (.plain rfl) rfl (ltb rfl) (X_move (v := (S a1)) rfl) ?_
  obtain ⟨c1, H⟩ := bif_some H
  obtain ⟨c2, H⟩ := bif_some H
  refine L_callP (.plain rfl) rfl (ltb rfl) rfl Tryd.call38 (impl_join.calls (w := w) (a0 := a0) (a1 := a1) (of_decide_eq_true c1) (of_decide_eq_true c2)) rfl <| fun w3 e4 => L_op (.plain rfl) rfl (ltb rfl) (X_assign (v := (S (joinP a0 a1))) rfl) <| L_nil <| thn_n <| W_seq <| W_seq <| W_reg <| L_op (.plain rfl) rfl (ltb rfl) (X_move (v := (S a0)) rfl) <| L_op (.plain rfl) rfl (ltb rfl) (X_move (v := (S a1)) rfl) <| L_lit (.plain rfl) rfl (ltb rfl) rfl Tryd.underlying34 Tryd.sizeOf9 Tryd.zeroValue9 rfl rfl rfl (vs := [(S a0), (S a1)]) rfl (lit_all rfl) <| fun b5 w6 z7 z8 e9 k10 => ?_
  obtain ⟨c11, H⟩ := bif_some H
  refine L_callP (.plain rfl) rfl (ltb rfl) rfl Tryd.call40 (impl_isLong.calls (w := w6) (a0 := ([a0, a1] : List (List UInt8))) (Own.rd (Own.new (xs := [a0, a1]) (sz := 1) (enc := encS) (base := w3.heap.size) k10 (Nat.le_of_eq z7) rfl (fun _ _ => by rfl) (Nat.le_of_ble_eq_true rfl))) (of_decide_eq_true c11)) rfl <| fun w12 e13 => L_op (.plain rfl) rfl (ltb rfl) (X_mkiface Tryd.underlying4 rfl rfl) <| L_op (.plain rfl) rfl (ltb rfl) (X_mkiface Tryd.underlying3 rfl rfl) <| L_op (.plain rfl) rfl (ltb rfl) (X_move (v := (S a0)) rfl) <| L_callP (.plain rfl) rfl (ltb rfl) rfl Tryd.call34 (impl_isPlace.calls (w := w12) (a0 := a0) (GV.ext gv (Ext.trans (Ext.trans e4 e9) e13))) rfl <| fun w14 e15 => L_op (.plain rfl) rfl (ltb rfl) (X_not rfl) <| L_op (.plain rfl) rfl (ltb rfl) (X_move (v := (.bool (!(decide (a0 = []) || pathOK a0)))) rfl) ?_
  obtain ⟨z17, x18, H⟩ := bind_some H
  refine L_grpE 4 [(21, 25)] 24 (fun q => q = z17) ?_ ?_
  · rcases bif_two x18 with ⟨b15_, H⟩ | ⟨b15_, H⟩
    · refine L_skip rfl rfl (ltb rfl) (congrArg Value.bool b15_) rfl rfl (ltb rfl) <| L_skip rfl rfl (ltb rfl) (congrArg Value.bool b15_) rfl rfl (ltb rfl) <| L_skip rfl rfl (ltb rfl) (congrArg Value.bool b15_) rfl rfl (ltb rfl) <| L_op (.plain rfl) rfl (ltb rfl) (X_pick (b := true) (v := (.bool true)) (congrArg Value.bool b15_) rfl) ?_
      obtain rfl := Option.some.inj H
      exact L_nil <| thn_n ⟨(Kp.upd (Kp.upd (Kp.upd (Kp.upd (Kp.refl _ _) rfl) rfl) rfl) rfl), ⟨_, rfl, rfl⟩, (Ext.refl w14)⟩
    · refine L_op (.guard 9 false 20 rfl rfl (ltb rfl) (congrArg Value.bool b15_)) rfl (ltb rfl) (X_move (v := (S a1)) rfl) ?_
      obtain ⟨c17, H⟩ := bif_some H
      refine L_callP (.guard 9 false 20 rfl rfl (ltb rfl) (congrArg Value.bool b15_)) rfl (ltb rfl) rfl Tryd.call32 (impl_PartOK.calls (w := w14) (a0 := a1) (of_decide_eq_true c17)) rfl <| fun w18 e19 => L_op (.guard 9 false 20 rfl rfl (ltb rfl) (congrArg Value.bool b15_)) rfl (ltb rfl) (X_not rfl) <| L_op (.plain rfl) rfl (ltb rfl) (X_pick (b := false) (v := (.bool (!(partOK a1)))) (congrArg Value.bool b15_) rfl) ?_
      obtain rfl := Option.some.inj H
      exact L_nil <| thn_n ⟨(Kp.upd (Kp.upd (Kp.upd (Kp.upd (Kp.refl _ _) rfl) rfl) rfl) rfl), ⟨_, rfl, rfl⟩, e19⟩
  intro s23 w19 z24 K20 hq h21 e22
  rw [hq] at h21; clear hq
  refine L_op (.plain rfl) rfl (ltb rfl) (X_mkiface Tryd.underlying4 rfl h21) <| L_op (.plain rfl) rfl (ltb rfl) (X_mkiface Tryd.underlying3 rfl rfl) <| L_op (.plain rfl) rfl (ltb rfl) (X_move (v := (S (joinP a0 a1))) (K20 6 rfl)) <| L_callP (.plain rfl) rfl (ltb rfl) rfl Tryd.call11 (impl_PathOK.calls (w := w19) (a0 := (joinP a0 a1)) (GV.ext gv (Ext.trans (Ext.trans (Ext.trans (Ext.trans e4 e9) e13) e15) e22))) rfl <| fun w25 e26 => L_op (.plain rfl) rfl (ltb rfl) (X_not rfl) <| L_op (.plain rfl) rfl (ltb rfl) (X_mkiface Tryd.underlying4 rfl rfl) <| L_op (.plain rfl) rfl (ltb rfl) (X_mkiface Tryd.underlying3 rfl rfl) <| L_lit (.plain rfl) rfl (ltb rfl) rfl Tryd.underlying50 Tryd.sizeOf20 Tryd.zeroValue20 rfl rfl rfl (vs := [(.iface 4 (.bool (([a0, a1] : List (List UInt8)).any fun t => decide (65536 < t.length)))), (.iface 3 (.int .i64 2)), (.iface 4 (.bool z17)), (.iface 3 (.int .i64 10)), (.iface 4 (.bool (!(pathOK (joinP a0 a1))))), (.iface 3 (.int .i64 6))]) (cons2 (K20 15 rfl) (cons2 (K20 16 rfl) (cons2 rfl (cons2 rfl (cons2 rfl (cons2 rfl rfl)))))) (lit_all rfl) <| fun b27 w28 z29 z30 e31 k32 => ?_
  obtain ⟨c33, H⟩ := bif_some H
  refine L_callP (.plain rfl) rfl (ltb rfl) rfl Tryd.call39 (impl_first.calls (w := w28) (a0 := ([.inl (([a0, a1] : List (List UInt8)).any fun t => decide (65536 < t.length)), .inr 2, .inl z17, .inr 10, .inl (!(pathOK (joinP a0 a1))), .inr 6] : List (Bool ⊕ Int))) (Own.rd (Own.new (xs := [.inl (([a0, a1] : List (List UInt8)).any fun t => decide (65536 < t.length)), .inr 2, .inl z17, .inr 10, .inl (!(pathOK (joinP a0 a1))), .inr 6]) (sz := 1) (enc := (encAny 4 3)) (base := w25.heap.size) k32 (Nat.le_of_eq z29) rfl (fun _ _ => by first | rfl | exact encAny_len _ _ _) (Nat.le_of_ble_eq_true rfl))) (of_decide_eq_true c33)) rfl <| fun w34 e35 => L_op (.plain rfl) rfl (ltb rfl) (X_assign rfl) <| L_nil <| thn_n <| W_seq <| W_reg <| L_op (.plain rfl) rfl (ltb rfl) (X_move rfl) <| L_op (.plain rfl) rfl (ltb rfl) (X_neq rfl rfl) <| L_nil <| thn_n ?_
  rcases bif_two H with ⟨q36, H⟩ | ⟨q36, H⟩
  · refine W_true (congrArg Value.bool q36) <| W_seq <| W_reg <| L_op (.plain rfl) rfl (ltb rfl) (X_move rfl) <| L_op (.plain rfl) rfl (ltb rfl) (X_assign (v := (S ([] : List UInt8))) rfl) <| L_op (.plain rfl) rfl (ltb rfl) (X_assign rfl) <| L_nil <| thn_n <| W_ret <| thn_r <| fin_r ?_
    obtain rfl := Option.some.inj H
    exact fin2 rfl rfl (Ext.trans (Ext.trans (Ext.trans (Ext.trans (Ext.trans (Ext.trans (Ext.trans e4 e9) e13) e15) e22) e26) e31) e35)
  · refine W_false (congrArg Value.bool q36) <| W_skip <| thn_n <| W_seq <| W_reg <| L_op (.plain rfl) rfl (ltb rfl) (X_move (v := (S (joinP a0 a1))) (K20 6 rfl)) <| L_op (.plain rfl) rfl (ltb rfl) (X_assign (v := (S (joinP a0 a1))) rfl) <| L_op (.plain rfl) rfl (ltb rfl) (X_assign (v := (.int .i64 0)) rfl) <| L_nil <| thn_n <| W_ret <| fin_r ?_
    obtain rfl := Option.some.inj H
    exact fin2 rfl rfl (Ext.trans (Ext.trans (Ext.trans (Ext.trans (Ext.trans (Ext.trans (Ext.trans e4 e9) e13) e15) e22) e26) e31) e35)
theorem impl_JoinPath.calls {w : World} {a0 : List UInt8} {a1 : List UInt8} (gv : GV 0 w) (h0 : a0.length ≤ 1048576) (h1 : a1.length ≤ 1048576) :
    Calls Tryd.prog 15 #[S a0, S a1] w (Rt (RP w (.tuple #[S ((joinPath a0 a1).1), .int .i64 ((joinPath a0 a1).2)]))) := impl_JoinPath.walk gv (impl_JoinPath.eq a0 a1 h0 h1)
/-! laws.FnExactJoinPath -/
theorem law_JoinPath.walk {w : World} {a0 : List UInt8} {a1 : List UInt8} (gv : GV 0 w) {r : Bool} (H : law_JoinPath.sh a0 a1 = some r) :
    Calls Tryd.prog 5 #[S a0, S a1] w (Rt (RP w (.bool r))) := by
  unfold law_JoinPath.sh at H
  refine calls_of_W Tryd.func5 rfl (Nat.le_of_ble_eq_true rfl) Tryd.ntmps5 rfl ?_
  refine W_seq <| W_reg <| L_op (.plain rfl) rfl (ltb rfl) (X_assign (v := (.bool false)) rfl) <| L_nil <| thn_n <| W_seq <| W_seq <| W_reg <| L_op (.plain rfl) rfl (ltb rfl) (X_move (v := (S a0)) rfl) <| L_op (.plain rfl) rfl (ltb rfl) (X_lenS Tryd.underlying9 rfl) <| L_op (.plain rfl) rfl (ltb rfl) (X_gtr rfl rfl) <| L_nil <| thn_n ?_
  rcases bif_two H with ⟨q1, H⟩ | ⟨q1, H⟩
  · refine W_true (congrArg Value.bool q1) <| W_seq <| W_reg <| L_op (.plain rfl) rfl (ltb rfl) (X_assign (v := (.bool true)) rfl) <| L_nil <| thn_n <| W_ret <| thn_r <| fin_r ?_
    obtain rfl := Option.some.inj H
    exact fin1 rfl (Ext.refl w)
  · refine W_false (congrArg Value.bool q1) <| W_skip <| thn_n <| W_seq <| W_seq <| W_reg <| L_op (.plain rfl) rfl (ltb rfl) (X_move (v := (S a1)) rfl) <| L_op (.plain rfl) rfl (ltb rfl) (X_lenS Tryd.underlying9 rfl) <| L_op (.plain rfl) rfl (ltb rfl) (X_gtr rfl rfl) <| L_nil <| thn_n ?_
    rcases bif_two H with ⟨q2, H⟩ | ⟨q2, H⟩
    · refine W_true (congrArg Value.bool q2) <| W_seq <| W_reg <| L_op (.plain rfl) rfl (ltb rfl) (X_assign (v := (.bool true)) rfl) <| L_nil <| thn_n <| W_ret <| thn_r <| fin_r ?_
      obtain rfl := Option.some.inj H
      exact fin1 rfl (Ext.refl w)
    · refine W_false (congrArg Value.bool q2) <| W_skip <| thn_n <| W_seq <| W_reg <| L_op (.plain rfl) rfl (ltb rfl) (X_move (v := (S a0)) rfl) <| L_op (.plain rfl) rfl (ltb rfl) (X_move (v := (S a1)) rfl) <| L_callP (.plain rfl) rfl (ltb rfl) rfl Tryd.call14 (spec_JoinPath.calls (w := w) (a0 := a0) (a1 := a1)) rfl <| fun w3 e4 => L_op (.plain rfl) rfl (ltb rfl) (X_move rfl) <| L_op (.plain rfl) rfl (ltb rfl) (X_extract (v := (S ((joinPath a0 a1).1))) rfl rfl) <| L_op (.plain rfl) rfl (ltb rfl) (X_extract (v := (.int .i64 ((joinPath a0 a1).2))) rfl rfl) <| L_op (.plain rfl) rfl (ltb rfl) (X_assign (v := (S ((joinPath a0 a1).1))) rfl) <| L_op (.plain rfl) rfl (ltb rfl) (X_assign (v := (.int .i64 ((joinPath a0 a1).2))) rfl) <| L_nil <| thn_n <| W_seq <| W_reg <| L_op (.plain rfl) rfl (ltb rfl) (X_move (v := (S a0)) rfl) <| L_op (.plain rfl) rfl (ltb rfl) (X_move (v := (S a1)) rfl) ?_
      obtain ⟨c5, H⟩ := bif_some H
      obtain ⟨c6, H⟩ := bif_some H
      refine L_callP (.plain rfl) rfl (ltb rfl) rfl Tryd.call15 (impl_JoinPath.calls (w := w3) (a0 := a0) (a1 := a1) (GV.ext gv e4) (of_decide_eq_true c5) (of_decide_eq_true c6)) rfl <| fun w7 e8 => L_op (.plain rfl) rfl (ltb rfl) (X_move rfl) <| L_op (.plain rfl) rfl (ltb rfl) (X_extract (v := (S ((joinPath a0 a1).1))) rfl rfl) <| L_op (.plain rfl) rfl (ltb rfl) (X_extract (v := (.int .i64 ((joinPath a0 a1).2))) rfl rfl) <| L_op (.plain rfl) rfl (ltb rfl) (X_assign (v := (S ((joinPath a0 a1).1))) rfl) <| L_op (.plain rfl) rfl (ltb rfl) (X_assign (v := (.int .i64 ((joinPath a0 a1).2))) rfl) <| L_nil <| thn_n <| W_seq <| W_seq <| W_reg <| L_op (.plain rfl) rfl (ltb rfl) (X_move (v := (S ((joinPath a0 a1).1))) rfl) <| L_op (.plain rfl) rfl (ltb rfl) (X_move (v := (S ((joinPath a0 a1).1))) rfl) <| L_op (.plain rfl) rfl (ltb rfl) (X_sne rfl rfl) <| L_op (.plain rfl) rfl (ltb rfl) (X_move (v := (.bool (!decide (((joinPath a0 a1).1) = ((joinPath a0 a1).1))))) rfl) <| L_grp 4 [(31, 35)] 34 (.bool ((!decide (((joinPath a0 a1).1) = ((joinPath a0 a1).1))) || (!decide (((joinPath a0 a1).2) = ((joinPath a0 a1).2))))) ?_ ?_
      · rcases bool_two (!decide (((joinPath a0 a1).1) = ((joinPath a0 a1).1))) with b8_ | b8_
        · exact L_skip rfl rfl (ltb rfl) (congrArg Value.bool b8_) rfl rfl (ltb rfl) <| L_skip rfl rfl (ltb rfl) (congrArg Value.bool b8_) rfl rfl (ltb rfl) <| L_skip rfl rfl (ltb rfl) (congrArg Value.bool b8_) rfl rfl (ltb rfl) <| L_op (.plain rfl) rfl (ltb rfl) (X_pick (b := true) (v := (.bool true)) (congrArg Value.bool b8_) rfl) <| L_nil <| thn_n ⟨(Kp.upd (Kp.upd (Kp.upd (Kp.upd (Kp.refl _ _) rfl) rfl) rfl) rfl), (or_t b8_), (Ext.refl w7)⟩
        · exact L_op (.guard 3 false 30 rfl rfl (ltb rfl) (congrArg Value.bool b8_)) rfl (ltb rfl) (X_move (v := (.int .i64 ((joinPath a0 a1).2))) rfl) <| L_op (.guard 3 false 30 rfl rfl (ltb rfl) (congrArg Value.bool b8_)) rfl (ltb rfl) (X_move (v := (.int .i64 ((joinPath a0 a1).2))) rfl) <| L_op (.guard 3 false 30 rfl rfl (ltb rfl) (congrArg Value.bool b8_)) rfl (ltb rfl) (X_neq rfl rfl) <| L_op (.plain rfl) rfl (ltb rfl) (X_pick (b := false) (v := (.bool (!decide (((joinPath a0 a1).2) = ((joinPath a0 a1).2))))) (congrArg Value.bool b8_) rfl) <| L_nil <| thn_n ⟨(Kp.upd (Kp.upd (Kp.upd (Kp.upd (Kp.refl _ _) rfl) rfl) rfl) rfl), (or_f b8_), (Ext.refl w7)⟩
      intro s14 w10 K11 h12 e13
      refine L_nil <| thn_n ?_
      rcases bif_two H with ⟨q15, H⟩ | ⟨q15, H⟩
      · refine W_true (h12.trans (congrArg Value.bool q15)) <| W_seq <| W_reg <| L_op (.plain rfl) rfl (ltb rfl) (X_assign (v := (.bool false)) rfl) <| L_nil <| thn_n <| W_ret <| thn_r <| fin_r ?_
        obtain rfl := Option.some.inj H
        exact fin1 rfl (Ext.trans (Ext.trans e4 e8) e13)
      · refine W_false (h12.trans (congrArg Value.bool q15)) <| W_skip <| thn_n <| W_seq <| W_reg <| L_op (.plain rfl) rfl (ltb rfl) (X_assign (v := (.bool true)) rfl) <| L_nil <| thn_n <| W_ret <| fin_r ?_
        obtain rfl := Option.some.inj H
        exact fin1 rfl (Ext.trans (Ext.trans e4 e8) e13)
theorem law_JoinPath.calls {w : World} {a0 : List UInt8} {a1 : List UInt8} (gv : GV 0 w) :
    Calls Tryd.prog 5 #[S a0, S a1] w (Rt (RP w (.bool true))) := law_JoinPath.walk gv (law_JoinPath.eq a0 a1)
end Go.Proofs.YteinfnffodejkaaDoor
