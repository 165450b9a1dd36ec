/- The walks, by program (wip/tools). -/
import Derived.Test.YtfefjaohlhkmaaaDoorProg
import Derived.Test.YtfefjaohlhkmaaaDoorpH
set_option linter.unusedVariables false
set_option linter.unusedSimpArgs false
set_option maxRecDepth 10000
namespace Go.Proofs.YtfefjaohlhkmaaaDoor
open Go.UL Go.RowKit
theorem El.t22 : ElemI Tryd.prog 22 5 1 1 (.int .u8 0) := ElemI.mk' Tryd.underlying22 (by kernel_rfl) rfl rfl rfl
theorem El.t27 : ElemI Tryd.prog 27 9 1 16 (.string ⟨#[]⟩) := ElemI.mk' Tryd.underlying27 (by kernel_rfl) rfl rfl rfl
theorem El.t64 : ElemI Tryd.prog 64 3 1 8 (.int .i64 0) := ElemI.mk' Tryd.underlying64 (by kernel_rfl) rfl rfl rfl
theorem El.t67 : ElemI Tryd.prog 67 20 1 16 (.nilIface) := ElemI.mk' Tryd.underlying67 (by kernel_rfl) rfl rfl rfl
theorem Eqg.t24 : Tryd.prog.eqGuardType Tryd.prog.depth 24 = false := by kernel_rfl
theorem Eqs.t24 (a b : Rec) (w : World) : (Op.equal 24 (.agg (encRec a).toArray) (.agg (encRec b).toArray)).run Tryd.prog w = .ok (decide (a = b)) w := run_eqRec (d := 9998) (ti := 3) (ts := 9) (tb := 4) Tryd.underlying24 rfl Tryd.underlying3 Tryd.underlying9 Tryd.underlying4 Tryd.isAgg3 Tryd.isAgg9 Tryd.isAgg4 (by kernel_rfl)
theorem Eqg.t103 : Tryd.prog.eqGuardType Tryd.prog.depth 103 = false := by kernel_rfl
theorem Eqs.t103 (a b : Nd) (w : World) : (Op.equal 103 (.agg (encNd a).toArray) (.agg (encNd b).toArray)).run Tryd.prog w = .ok (decide (a = b)) w := run_eqNd (d := 9998) (ti := 3) (ts := 9) Tryd.underlying103 rfl Tryd.underlying3 Tryd.underlying9 Tryd.isAgg3 Tryd.isAgg9 (by kernel_rfl)
/-! impl.within -/
theorem impl_within.walk {w : World} {a0 : Int} {a1 : Int} {a2 : Int} {r : Bool} (H : impl_within.sh a0 a1 a2 = some r) :
    Calls Tryd.prog 42 #[.int .i64 a0, .int .i64 a1, .int .i64 a2] w (Rt (RP w (.bool r))) := by
  unfold impl_within.sh at H
  refine calls_of_W Tryd.func42 rfl (Nat.le_of_ble_eq_true rfl) Tryd.ntmps42 rfl ?_
  refine W_seq <| W_reg <| L_op (.plain rfl) rfl (ltb rfl) (X_assign (v := (.bool false)) rfl) <| L_nil <| thn_n <| W_seq <| W_reg <| L_op (.plain rfl) rfl (ltb rfl) (X_move (v := (.int .i64 a1)) rfl) <| L_op (.plain rfl) rfl (ltb rfl) (X_move (v := (.int .i64 a0)) rfl) <| L_op (.plain rfl) rfl (ltb rfl) (X_leq rfl rfl) <| L_op (.plain rfl) rfl (ltb rfl) (X_move (v := (.bool (decide (a1 ≤ a0)))) rfl) <| L_grp 4 [(11, 15)] 14 (.bool ((decide (a1 ≤ a0)) && (decide (a0 ≤ a2)))) ?_ ?_
  · rcases bool_two (decide (a1 ≤ a0)) with b0_ | b0_
    · exact L_op (.guard 3 true 10 rfl rfl (ltb rfl) (congrArg Value.bool b0_)) rfl (ltb rfl) (X_move (v := (.int .i64 a0)) rfl) <| L_op (.guard 3 true 10 rfl rfl (ltb rfl) (congrArg Value.bool b0_)) rfl (ltb rfl) (X_move (v := (.int .i64 a2)) rfl) <| L_op (.guard 3 true 10 rfl rfl (ltb rfl) (congrArg Value.bool b0_)) rfl (ltb rfl) (X_leq rfl rfl) <| L_op (.plain rfl) rfl (ltb rfl) (X_pick (b := true) (v := (.bool (decide (a0 ≤ a2)))) (congrArg Value.bool b0_) rfl) <| L_nil <| thn_n ⟨(Kp.upd (Kp.upd (Kp.upd (Kp.upd (Kp.refl _ _) rfl) rfl) rfl) rfl), (and_t b0_), (Ext.refl w)⟩
    · exact L_skip rfl rfl (ltb rfl) (congrArg Value.bool b0_) rfl rfl (ltb rfl) <| L_skip rfl rfl (ltb rfl) (congrArg Value.bool b0_) rfl rfl (ltb rfl) <| L_skip rfl rfl (ltb rfl) (congrArg Value.bool b0_) rfl rfl (ltb rfl) <| L_op (.plain rfl) rfl (ltb rfl) (X_pick (b := false) (v := (.bool false)) (congrArg Value.bool b0_) rfl) <| L_nil <| thn_n ⟨(Kp.upd (Kp.upd (Kp.upd (Kp.upd (Kp.refl _ _) rfl) rfl) rfl) rfl), (and_f b0_), (Ext.refl w)⟩
  intro s6 w2 K3 h4 e5
  refine L_op (.plain rfl) rfl (ltb rfl) (X_assign (v := (.bool ((decide (a1 ≤ a0)) && (decide (a0 ≤ a2))))) h4) <| L_nil <| thn_n <| W_ret <| fin_r ?_
  obtain rfl := Option.some.inj H
  exact fin1 rfl e5
theorem impl_within.calls {w : World} {a0 : Int} {a1 : Int} {a2 : Int} :
    Calls Tryd.prog 42 #[.int .i64 a0, .int .i64 a1, .int .i64 a2] w (Rt (RP w (.bool (within a0 a1 a2)))) := impl_within.walk (impl_within.eq a0 a1 a2)
/-! spec.l01In -/
theorem spec_l01In.walk {w : World} {a0 : Int} {a1 : Int} {a2 : Int} {r : Bool} (H : spec_l01In.sh a0 a1 a2 = some r) :
    Calls Tryd.prog 64 #[.int .i64 a0, .int .i64 a1, .int .i64 a2] w (Rt (RP w (.bool r))) := by
  unfold spec_l01In.sh at H
  refine calls_of_W Tryd.func64 rfl (Nat.le_of_ble_eq_true rfl) Tryd.ntmps64 rfl ?_
  refine W_seq <| W_reg <| L_op (.plain rfl) rfl (ltb rfl) (X_assign (v := (.bool false)) rfl) <| L_nil <| thn_n <| W_seq <| W_reg <| L_op (.plain rfl) rfl (ltb rfl) (X_move (v := (.int .i64 a0)) rfl) <| L_op (.plain rfl) rfl (ltb rfl) (X_move (v := (.int .i64 a1)) rfl) <| L_op (.plain rfl) rfl (ltb rfl) (X_geq rfl rfl) <| L_op (.plain rfl) rfl (ltb rfl) (X_move (v := (.bool (decide (a1 ≤ a0)))) rfl) <| L_grp 4 [(11, 15)] 14 (.bool ((decide (a1 ≤ a0)) && (decide (a0 ≤ a2)))) ?_ ?_
  · rcases bool_two (decide (a1 ≤ a0)) with b0_ | b0_
    · exact L_op (.guard 3 true 10 rfl rfl (ltb rfl) (congrArg Value.bool b0_)) rfl (ltb rfl) (X_move (v := (.int .i64 a0)) rfl) <| L_op (.guard 3 true 10 rfl rfl (ltb rfl) (congrArg Value.bool b0_)) rfl (ltb rfl) (X_move (v := (.int .i64 a2)) rfl) <| L_op (.guard 3 true 10 rfl rfl (ltb rfl) (congrArg Value.bool b0_)) rfl (ltb rfl) (X_leq rfl rfl) <| L_op (.plain rfl) rfl (ltb rfl) (X_pick (b := true) (v := (.bool (decide (a0 ≤ a2)))) (congrArg Value.bool b0_) rfl) <| L_nil <| thn_n ⟨(Kp.upd (Kp.upd (Kp.upd (Kp.upd (Kp.refl _ _) rfl) rfl) rfl) rfl), (and_t b0_), (Ext.refl w)⟩
    · exact L_skip rfl rfl (ltb rfl) (congrArg Value.bool b0_) rfl rfl (ltb rfl) <| L_skip rfl rfl (ltb rfl) (congrArg Value.bool b0_) rfl rfl (ltb rfl) <| L_skip rfl rfl (ltb rfl) (congrArg Value.bool b0_) rfl rfl (ltb rfl) <| L_op (.plain rfl) rfl (ltb rfl) (X_pick (b := false) (v := (.bool false)) (congrArg Value.bool b0_) rfl) <| L_nil <| thn_n ⟨(Kp.upd (Kp.upd (Kp.upd (Kp.upd (Kp.refl _ _) rfl) rfl) rfl) rfl), (and_f b0_), (Ext.refl w)⟩
  intro s6 w2 K3 h4 e5
  refine L_op (.plain rfl) rfl (ltb rfl) (X_assign (v := (.bool ((decide (a1 ≤ a0)) && (decide (a0 ≤ a2))))) h4) <| L_nil <| thn_n <| W_ret <| fin_r ?_
  obtain rfl := Option.some.inj H
  exact fin1 rfl e5
theorem spec_l01In.calls {w : World} {a0 : Int} {a1 : Int} {a2 : Int} :
    Calls Tryd.prog 64 #[.int .i64 a0, .int .i64 a1, .int .i64 a2] w (Rt (RP w (.bool (within a0 a1 a2)))) := spec_l01In.walk (spec_l01In.eq a0 a1 a2)
/-! spec.l01Part -/
theorem spec_l01Part.walk {k : Nat} {w : World} {a0 : List UInt8} {r : Bool} (H : spec_l01Part.sh k a0 = some r) :
    Calls Tryd.prog 58 #[S a0] w (Rt (RP w (.bool r))) := by
  unfold spec_l01Part.sh at H
  refine calls_of_W Tryd.func58 rfl (Nat.le_of_ble_eq_true rfl) Tryd.ntmps58 rfl ?_
  refine W_seq <| W_reg <| L_op (.plain rfl) rfl (ltb rfl) (X_assign (v := (.bool false)) rfl) <| L_nil <| thn_n <| W_seq <| W_seq <| W_reg <| L_op (.plain rfl) rfl (ltb rfl) (X_move (v := (S a0)) rfl) <| L_op (.plain rfl) rfl (ltb rfl) (X_lenS Tryd.underlying9 rfl) <| L_callP (.plain rfl) rfl (ltb rfl) rfl Tryd.call64 (spec_l01In.calls (w := w) (a0 := (a0.length : Int)) (a1 := 1) (a2 := 8)) rfl <| fun w1 e2 => L_op (.plain rfl) rfl (ltb rfl) (X_not rfl) <| L_op (.plain rfl) rfl (ltb rfl) (X_move (v := (.bool (!(within (a0.length : Int) 1 8)))) rfl) <| L_grp 3 [(9, 12)] 11 (.bool ((!(within (a0.length : Int) 1 8)) || (decide (a0 = ([46] : List UInt8))))) ?_ ?_
  · rcases bool_two (!(within (a0.length : Int) 1 8)) with b2_ | b2_
    · exact L_skip rfl rfl (ltb rfl) (congrArg Value.bool b2_) rfl rfl (ltb rfl) <| L_skip rfl rfl (ltb rfl) (congrArg Value.bool b2_) rfl rfl (ltb rfl) <| L_op (.plain rfl) rfl (ltb rfl) (X_pick (b := true) (v := (.bool true)) (congrArg Value.bool b2_) rfl) <| L_nil <| thn_n ⟨(Kp.upd (Kp.upd (Kp.upd (Kp.refl _ _) rfl) rfl) rfl), (or_t b2_), (Ext.refl w1)⟩
    · exact L_op (.guard 4 false 8 rfl rfl (ltb rfl) (congrArg Value.bool b2_)) rfl (ltb rfl) (X_move (v := (S a0)) rfl) <| L_op (.guard 4 false 8 rfl rfl (ltb rfl) (congrArg Value.bool b2_)) rfl (ltb rfl) (X_seq rfl rfl) <| L_op (.plain rfl) rfl (ltb rfl) (X_pick (b := false) (v := (.bool (decide (a0 = ([46] : List UInt8))))) (congrArg Value.bool b2_) rfl) <| L_nil <| thn_n ⟨(Kp.upd (Kp.upd (Kp.upd (Kp.refl _ _) rfl) rfl) rfl), (or_f b2_), (Ext.refl w1)⟩
  intro s8 w4 K5 h6 e7
  refine L_op (.plain rfl) rfl (ltb rfl) (X_move h6) <| L_grp 3 [(13, 16)] 15 (.bool (((!(within (a0.length : Int) 1 8)) || (decide (a0 = ([46] : List UInt8)))) || (decide (a0 = ([46, 46] : List UInt8))))) ?_ ?_
  · rcases bool_two ((!(within (a0.length : Int) 1 8)) || (decide (a0 = ([46] : List UInt8)))) with b8_ | b8_
    · exact L_skip rfl rfl (ltb rfl) (congrArg Value.bool b8_) rfl rfl (ltb rfl) <| L_skip rfl rfl (ltb rfl) (congrArg Value.bool b8_) rfl rfl (ltb rfl) <| L_op (.plain rfl) rfl (ltb rfl) (X_pick (b := true) (v := (.bool true)) (congrArg Value.bool b8_) rfl) <| L_nil <| thn_n ⟨(Kp.upd (Kp.upd (Kp.upd (Kp.refl _ _) rfl) rfl) rfl), (or_t b8_), (Ext.refl w4)⟩
    · exact L_op (.guard 8 false 12 rfl rfl (ltb rfl) (congrArg Value.bool b8_)) rfl (ltb rfl) (X_move (v := (S a0)) (K5 0 rfl)) <| L_op (.guard 8 false 12 rfl rfl (ltb rfl) (congrArg Value.bool b8_)) rfl (ltb rfl) (X_seq rfl rfl) <| L_op (.plain rfl) rfl (ltb rfl) (X_pick (b := false) (v := (.bool (decide (a0 = ([46, 46] : List UInt8))))) (congrArg Value.bool b8_) rfl) <| L_nil <| thn_n ⟨(Kp.upd (Kp.upd (Kp.upd (Kp.refl _ _) rfl) rfl) rfl), (or_f b8_), (Ext.refl w4)⟩
  intro s14 w10 K11 h12 e13
  refine L_nil <| thn_n ?_
  rcases bif_two H with ⟨q15, H⟩ | ⟨q15, H⟩
  · refine W_true (h12.trans (congrArg Value.bool q15)) <| W_seq <| W_reg <| L_op (.plain rfl) rfl (ltb rfl) (X_assign (v := (.bool false)) rfl) <| L_nil <| thn_n <| W_ret <| thn_r <| fin_r ?_
    obtain rfl := Option.some.inj H
    exact fin1 rfl (Ext.trans (Ext.trans e2 e7) e13)
  · refine W_false (h12.trans (congrArg Value.bool q15)) <| W_skip <| thn_n <| W_seq <| W_seq <| W_reg <| L_op (.plain rfl) rfl (ltb rfl) (X_assign (v := (.int .i64 0)) rfl) <| L_nil <| thn_n ?_
    obtain ⟨z17, L18, C19⟩ := bind_some H
    clear H
    refine  W_cutQ (fun s0 sQ wQ => Kp [(2, 4), (16, 38)] s0 sQ ∧ Ext w10 wQ ∧ z17 = .inr ()) ?_ ?_
    · refine W_block <| W_loopI (fun s0 kk sQ wQ => ∃ (x3_16 : Int), Kp [(2, 4), (16, 38)] s0 sQ ∧ sQ 3 = .int .i64 x3_16 ∧ Ext w10 wQ ∧ loopF (spec_l01Part.b1 a0) kk x3_16 = some z17) k ⟨0, (Kp.refl _ _), rfl, (Ext.refl w10), L18⟩ ?_
      rintro k24 s25 w26 ⟨x3_16, K27, h30, e28, L29⟩
      cases k24 with
      | zero => exact absurd L29 (by simp [loopF])
      | succ k24 =>
        obtain ⟨t31, H, S32⟩ := loopF_succ L29
        clear L29
        unfold spec_l01Part.b1 at H
        refine W_seq <| W_seq <| W_reg <| L_op (.plain rfl) rfl (ltb rfl) (X_move (v := (.int .i64 x3_16)) h30) <| L_op (.plain rfl) rfl (ltb rfl) (X_move (v := (S a0)) ((K27 0 rfl).trans ((K11 0 rfl).trans (K5 0 rfl)))) <| L_op (.plain rfl) rfl (ltb rfl) (X_lenS Tryd.underlying9 rfl) <| L_op (.plain rfl) rfl (ltb rfl) (X_lss rfl rfl) <| L_nil <| thn_n ?_
        rcases bif_two H with ⟨q33, H⟩ | ⟨q33, H⟩
        · refine W_true (congrArg Value.bool q33) <| W_skip <| thn_n <| W_seq <| W_block <| W_seq <| W_reg <| L_op (.plain rfl) rfl (ltb rfl) (X_move (v := (S a0)) ((K27 0 rfl).trans ((K11 0 rfl).trans (K5 0 rfl)))) <| L_op (.plain rfl) rfl (ltb rfl) (X_move (v := (.int .i64 x3_16)) h30) ?_
          obtain ⟨c34, H⟩ := bif_some H
          refine L_op (.plain rfl) rfl (ltb rfl) (X_indexS Tryd.underlying9 rfl rfl (inR_lo c34) (inR_hi c34)) <| L_op (.plain rfl) rfl (ltb rfl) (X_lss rfl rfl) <| L_op (.plain rfl) rfl (ltb rfl) (X_move (v := (.bool (decide ((byt a0 x3_16) < 33)))) rfl) ?_
          obtain ⟨z36, x37, H⟩ := bind_some H
          refine L_grpE 5 [(27, 32)] 31 (fun q => q = z36) ?_ ?_
          · rcases bif_two x37 with ⟨b34_, H⟩ | ⟨b34_, H⟩
            · refine L_skip rfl rfl (ltb rfl) (congrArg Value.bool b34_) rfl rfl (ltb rfl) <| L_skip rfl rfl (ltb rfl) (congrArg Value.bool b34_) rfl rfl (ltb rfl) <| L_skip rfl rfl (ltb rfl) (congrArg Value.bool b34_) rfl rfl (ltb rfl) <| L_skip rfl rfl (ltb rfl) (congrArg Value.bool b34_) rfl rfl (ltb rfl) <| L_op (.plain rfl) rfl (ltb rfl) (X_pick (b := true) (v := (.bool true)) (congrArg Value.bool b34_) rfl) ?_
              obtain rfl := Option.some.inj H
              exact L_nil <| thn_n ⟨(Kp.upd (Kp.upd (Kp.upd (Kp.upd (Kp.upd (Kp.refl _ _) rfl) rfl) rfl) rfl) rfl), ⟨_, rfl, rfl⟩, (Ext.refl w26)⟩
            · refine L_op (.guard 4 false 26 rfl rfl (ltb rfl) (congrArg Value.bool b34_)) rfl (ltb rfl) (X_move (v := (S a0)) ((K27 0 rfl).trans ((K11 0 rfl).trans (K5 0 rfl)))) <| L_op (.guard 4 false 26 rfl rfl (ltb rfl) (congrArg Value.bool b34_)) rfl (ltb rfl) (X_move (v := (.int .i64 x3_16)) h30) ?_
              obtain ⟨c36, H⟩ := bif_some H
              refine L_op (.guard 4 false 26 rfl rfl (ltb rfl) (congrArg Value.bool b34_)) rfl (ltb rfl) (X_indexS Tryd.underlying9 rfl rfl (inR_lo c36) (inR_hi c36)) <| L_op (.guard 4 false 26 rfl rfl (ltb rfl) (congrArg Value.bool b34_)) rfl (ltb rfl) (X_gtr rfl rfl) <| L_op (.plain rfl) rfl (ltb rfl) (X_pick (b := false) (v := (.bool (decide (126 < (byt a0 x3_16))))) (congrArg Value.bool b34_) rfl) ?_
              obtain rfl := Option.some.inj H
              exact L_nil <| thn_n ⟨(Kp.upd (Kp.upd (Kp.upd (Kp.upd (Kp.upd (Kp.refl _ _) rfl) rfl) rfl) rfl) rfl), ⟨_, rfl, rfl⟩, (Ext.refl w26)⟩
          intro s42 w38 z43 K39 hq h40 e41
          rw [hq] at h40; clear hq
          refine L_op (.plain rfl) rfl (ltb rfl) (X_move (v := (.bool z36)) h40) ?_
          obtain ⟨z45, x46, H⟩ := bind_some H
          refine L_grpE 5 [(33, 38)] 37 (fun q => q = z45) ?_ ?_
          · rcases bif_two x46 with ⟨b43_, H⟩ | ⟨b43_, H⟩
            · refine L_skip rfl rfl (ltb rfl) (congrArg Value.bool b43_) rfl rfl (ltb rfl) <| L_skip rfl rfl (ltb rfl) (congrArg Value.bool b43_) rfl rfl (ltb rfl) <| L_skip rfl rfl (ltb rfl) (congrArg Value.bool b43_) rfl rfl (ltb rfl) <| L_skip rfl rfl (ltb rfl) (congrArg Value.bool b43_) rfl rfl (ltb rfl) <| L_op (.plain rfl) rfl (ltb rfl) (X_pick (b := true) (v := (.bool true)) (congrArg Value.bool b43_) rfl) ?_
              obtain rfl := Option.some.inj H
              exact L_nil <| thn_n ⟨(Kp.upd (Kp.upd (Kp.upd (Kp.upd (Kp.upd (Kp.refl _ _) rfl) rfl) rfl) rfl) rfl), ⟨_, rfl, rfl⟩, (Ext.refl w38)⟩
            · refine L_op (.guard 10 false 32 rfl rfl (ltb rfl) (congrArg Value.bool b43_)) rfl (ltb rfl) (X_move (v := (S a0)) ((K39 0 rfl).trans ((K27 0 rfl).trans ((K11 0 rfl).trans (K5 0 rfl))))) <| L_op (.guard 10 false 32 rfl rfl (ltb rfl) (congrArg Value.bool b43_)) rfl (ltb rfl) (X_move (v := (.int .i64 x3_16)) ((K39 3 rfl).trans h30)) ?_
              obtain ⟨c45, H⟩ := bif_some H
              refine L_op (.guard 10 false 32 rfl rfl (ltb rfl) (congrArg Value.bool b43_)) rfl (ltb rfl) (X_indexS Tryd.underlying9 rfl rfl (inR_lo c45) (inR_hi c45)) <| L_op (.guard 10 false 32 rfl rfl (ltb rfl) (congrArg Value.bool b43_)) rfl (ltb rfl) (X_eql rfl rfl) <| L_op (.plain rfl) rfl (ltb rfl) (X_pick (b := false) (v := (.bool (decide ((byt a0 x3_16) = 47)))) (congrArg Value.bool b43_) rfl) ?_
              obtain rfl := Option.some.inj H
              exact L_nil <| thn_n ⟨(Kp.upd (Kp.upd (Kp.upd (Kp.upd (Kp.upd (Kp.refl _ _) rfl) rfl) rfl) rfl) rfl), ⟨_, rfl, rfl⟩, (Ext.refl w38)⟩
          intro s51 w47 z52 K48 hq h49 e50
          rw [hq] at h49; clear hq
          refine L_nil <| thn_n ?_
          rcases bif_two H with ⟨q53, H⟩ | ⟨q53, H⟩
          · refine W_true (h49.trans (congrArg Value.bool q53)) <| W_seq <| W_reg <| L_op (.plain rfl) rfl (ltb rfl) (X_assign (v := (.bool false)) rfl) <| L_nil <| thn_n <| W_ret <| blk_r <| thn_r <| thn_r <| blk_r <| thn_r <| thn_r <| fin_r ?_
            obtain rfl := Option.some.inj H
            obtain rfl := Option.some.inj S32
            have H := C19
            obtain rfl := Option.some.inj H
            exact fin1 rfl (Ext.trans (Ext.trans (Ext.trans (Ext.trans (Ext.trans e2 e7) e13) e28) e41) e50)
          · refine W_false (h49.trans (congrArg Value.bool q53)) <| W_skip <| blk_n <| thn_n <| W_reg <| L_op (.plain rfl) rfl (ltb rfl) (X_move (v := (.int .i64 x3_16)) ((K48 3 rfl).trans ((K39 3 rfl).trans h30))) <| L_op (.plain rfl) rfl (ltb rfl) (X_add rfl rfl) <| L_op (.plain rfl) rfl (ltb rfl) (X_assign (v := (.int .i64 (IntKind.wrap .i64 (x3_16 + 1)))) rfl) <| L_nil <| thn_n ?_
            obtain rfl := Option.some.inj H
            exact ⟨_, Nat.lt_succ_self _, IntKind.wrap .i64 (x3_16 + 1), (Kp.upd (Kp.upd (Kp.upd (Kp.cut (Kp.upd (Kp.cut (Kp.upd (Kp.upd (Kp.upd (Kp.upd (Kp.upd (Kp.upd (Kp.upd (Kp.upd (Kp.upd K27 rfl) rfl) rfl) rfl) rfl) rfl) rfl) rfl) rfl) K39 rfl) rfl) K48 rfl) rfl) rfl) rfl), rfl, (Ext.trans (Ext.trans e28 e41) e50), S32⟩
        · refine W_false (congrArg Value.bool q33) <| W_exit <| thn_x <| thn_x <| blk_x <| thn_n ?_
          obtain rfl := Option.some.inj H
          obtain rfl := Option.some.inj S32
          exact ⟨(Kp.upd (Kp.upd (Kp.upd (Kp.upd K27 rfl) rfl) rfl) rfl), e28, rfl⟩
    · rintro s21 w20 ⟨K22, e23, y54⟩
      rw [y54] at C19
      have H := C19
      replace H : _ = some _ := H
      refine thn_n <| W_seq <| W_reg <| L_op (.plain rfl) rfl (ltb rfl) (X_assign (v := (.bool true)) rfl) <| L_nil <| thn_n <| W_ret <| fin_r ?_
      obtain rfl := Option.some.inj H
      exact fin1 rfl (Ext.trans (Ext.trans (Ext.trans e2 e7) e13) e23)
theorem spec_l01Part.calls {w : World} {a0 : List UInt8} :
    Calls Tryd.prog 58 #[S a0] w (Rt (RP w (.bool (partOK a0)))) := by
  obtain ⟨k, h⟩ := spec_l01Part.eq a0
  exact spec_l01Part.walk h
/-! spec.PartOK -/
theorem spec_PartOK.walk {w : World} {a0 : List UInt8} {r : Bool} (H : spec_PartOK.sh a0 = some r) :
    Calls Tryd.prog 34 #[S a0] w (Rt (RP w (.bool r))) := by
  unfold spec_PartOK.sh at H
  refine calls_of_W Tryd.func34 rfl (Nat.le_of_ble_eq_true rfl) Tryd.ntmps34 rfl ?_
  refine W_seq <| W_reg <| L_op (.plain rfl) rfl (ltb rfl) (X_assign (v := (.bool false)) rfl) <| L_nil <| thn_n <| W_seq <| W_seq <| W_reg <| L_op (.plain rfl) rfl (ltb rfl) (X_move (v := (S a0)) rfl) <| L_op (.plain rfl) rfl (ltb rfl) (X_lenS Tryd.underlying9 rfl) <| L_op (.plain rfl) rfl (ltb rfl) (X_gtr rfl rfl) <| L_nil <| thn_n ?_
  rcases bif_two H with ⟨q1, H⟩ | ⟨q1, H⟩
  · refine W_true (congrArg Value.bool q1) <| W_seq <| W_reg <| L_op (.plain rfl) rfl (ltb rfl) (X_assign (v := (.bool false)) rfl) <| L_nil <| thn_n <| W_ret <| thn_r <| fin_r ?_
    obtain rfl := Option.some.inj H
    exact fin1 rfl (Ext.refl w)
  · refine W_false (congrArg Value.bool q1) <| W_skip <| thn_n <| W_seq <| W_reg <| L_op (.plain rfl) rfl (ltb rfl) (X_move (v := (S a0)) rfl) <| L_callP (.plain rfl) rfl (ltb rfl) rfl Tryd.call58 (spec_l01Part.calls (w := w) (a0 := a0)) rfl <| fun w2 e3 => L_op (.plain rfl) rfl (ltb rfl) (X_assign (v := (.bool (partOK a0))) rfl) <| L_nil <| thn_n <| W_ret <| fin_r ?_
    obtain rfl := Option.some.inj H
    exact fin1 rfl e3
theorem spec_PartOK.calls {w : World} {a0 : List UInt8} :
    Calls Tryd.prog 34 #[S a0] w (Rt (RP w (.bool (partOK a0)))) := spec_PartOK.walk (spec_PartOK.eq a0)
/-! impl.PartOK -/
theorem impl_PartOK.walk {k : Nat} {w : World} {a0 : List UInt8} {r : Bool} (H : impl_PartOK.sh k a0 = some r) :
    Calls Tryd.prog 33 #[S a0] w (Rt (RP w (.bool r))) := by
  unfold impl_PartOK.sh at H
  refine calls_of_W Tryd.func33 rfl (Nat.le_of_ble_eq_true rfl) Tryd.ntmps33 rfl ?_
  refine W_seq <| W_reg <| L_op (.plain rfl) rfl (ltb rfl) (X_assign (v := (.bool false)) rfl) <| L_nil <| thn_n <| W_seq <| W_seq <| W_reg <| L_op (.plain rfl) rfl (ltb rfl) (X_move (v := (S a0)) rfl) <| L_op (.plain rfl) rfl (ltb rfl) (X_lenS Tryd.underlying9 rfl) <| L_op (.plain rfl) rfl (ltb rfl) (X_move (v := (.int .i64 0)) rfl) <| L_nil <| thn_n ?_
  obtain ⟨z2, L3, C4⟩ := bind_some H
  clear H
  refine  W_cutQ (fun s0 sQ wQ => Kp [(2, 4), (6, 22)] s0 sQ ∧ Ext w wQ ∧ z2 = .inr ()) ?_ ?_
  · refine W_block <| W_loopI (fun s0 kk sQ wQ => ∃ (x6_1 : Int), Kp [(2, 4), (6, 22)] s0 sQ ∧ sQ 6 = .int .i64 x6_1 ∧ Ext w wQ ∧ loopF (impl_PartOK.b1 a0) kk x6_1 = some z2) k ⟨0, (Kp.refl _ _), rfl, (Ext.refl w), L3⟩ ?_
    rintro k9 s10 w11 ⟨x6_1, K12, h15, e13, L14⟩
    cases k9 with
    | zero => exact absurd L14 (by simp [loopF])
    | succ k9 =>
      obtain ⟨t16, H, S17⟩ := loopF_succ L14
      clear L14
      unfold impl_PartOK.b1 at H
      refine W_seq <| W_reg <| L_op (.plain rfl) rfl (ltb rfl) (X_lss h15 (K12 5 rfl)) <| L_nil <| thn_n <| W_seq ?_
      rcases bif_two H with ⟨q18, H⟩ | ⟨q18, H⟩
      · refine W_true (congrArg Value.bool q18) <| W_skip <| thn_n <| W_seq <| W_block <| W_seq <| W_reg <| L_op (.plain rfl) rfl (ltb rfl) (X_move (v := (.int .i64 x6_1)) h15) <| L_op (.plain rfl) rfl (ltb rfl) (X_assign (v := (.int .i64 x6_1)) rfl) <| L_nil <| thn_n <| W_seq <| W_reg <| L_op (.plain rfl) rfl (ltb rfl) (X_move (v := (S a0)) (K12 0 rfl)) <| L_op (.plain rfl) rfl (ltb rfl) (X_move (v := (.int .i64 x6_1)) rfl) ?_
        obtain ⟨c19, H⟩ := bif_some H
        refine L_op (.plain rfl) rfl (ltb rfl) (X_indexS Tryd.underlying9 rfl rfl (inR_lo c19) (inR_hi c19)) <| L_op (.plain rfl) rfl (ltb rfl) (X_convInt Tryd.underlying5 Tryd.underlying3 rfl) <| L_callP (.plain rfl) rfl (ltb rfl) rfl Tryd.call42 (impl_within.calls (w := w11) (a0 := IntKind.wrap .i64 (byt a0 x6_1)) (a1 := 33) (a2 := 126)) rfl <| fun w20 e21 => L_op (.plain rfl) rfl (ltb rfl) (X_not rfl) <| L_op (.plain rfl) rfl (ltb rfl) (X_move (v := (.bool (!(within (IntKind.wrap .i64 (byt a0 x6_1)) 33 126)))) rfl) ?_
        obtain ⟨z23, x24, H⟩ := bind_some H
        refine L_grpE 5 [(16, 21)] 20 (fun q => q = z23) ?_ ?_
        · rcases bif_two x24 with ⟨b21_, H⟩ | ⟨b21_, H⟩
          · refine L_skip rfl rfl (ltb rfl) (congrArg Value.bool b21_) rfl rfl (ltb rfl) <| L_skip rfl rfl (ltb rfl) (congrArg Value.bool b21_) rfl rfl (ltb rfl) <| L_skip rfl rfl (ltb rfl) (congrArg Value.bool b21_) rfl rfl (ltb rfl) <| L_skip rfl rfl (ltb rfl) (congrArg Value.bool b21_) rfl rfl (ltb rfl) <| L_op (.plain rfl) rfl (ltb rfl) (X_pick (b := true) (v := (.bool true)) (congrArg Value.bool b21_) rfl) ?_
            obtain rfl := Option.some.inj H
            exact L_nil <| thn_n ⟨(Kp.upd (Kp.upd (Kp.upd (Kp.upd (Kp.upd (Kp.refl _ _) rfl) rfl) rfl) rfl) rfl), ⟨_, rfl, rfl⟩, (Ext.refl w20)⟩
          · refine L_op (.guard 6 false 15 rfl rfl (ltb rfl) (congrArg Value.bool b21_)) rfl (ltb rfl) (X_move (v := (S a0)) (K12 0 rfl)) <| L_op (.guard 6 false 15 rfl rfl (ltb rfl) (congrArg Value.bool b21_)) rfl (ltb rfl) (X_move (v := (.int .i64 x6_1)) rfl) ?_
            obtain ⟨c23, H⟩ := bif_some H
            refine L_op (.guard 6 false 15 rfl rfl (ltb rfl) (congrArg Value.bool b21_)) rfl (ltb rfl) (X_indexS Tryd.underlying9 rfl rfl (inR_lo c23) (inR_hi c23)) <| L_op (.guard 6 false 15 rfl rfl (ltb rfl) (congrArg Value.bool b21_)) rfl (ltb rfl) (X_eql rfl rfl) <| L_op (.plain rfl) rfl (ltb rfl) (X_pick (b := false) (v := (.bool (decide ((byt a0 x6_1) = 47)))) (congrArg Value.bool b21_) rfl) ?_
            obtain rfl := Option.some.inj H
            exact L_nil <| thn_n ⟨(Kp.upd (Kp.upd (Kp.upd (Kp.upd (Kp.upd (Kp.refl _ _) rfl) rfl) rfl) rfl) rfl), ⟨_, rfl, rfl⟩, (Ext.refl w20)⟩
        intro s29 w25 z30 K26 hq h27 e28
        rw [hq] at h27; clear hq
        refine L_nil <| thn_n ?_
        rcases bif_two H with ⟨q31, H⟩ | ⟨q31, H⟩
        · refine W_true (h27.trans (congrArg Value.bool q31)) <| W_seq <| W_reg <| L_op (.plain rfl) rfl (ltb rfl) (X_assign (v := (.bool false)) rfl) <| L_nil <| thn_n <| W_ret <| blk_r <| thn_r <| thn_r <| blk_r <| thn_r <| thn_r <| fin_r ?_
          obtain rfl := Option.some.inj H
          obtain rfl := Option.some.inj S17
          have H := C4
          obtain rfl := Option.some.inj H
          exact fin1 rfl (Ext.trans (Ext.trans e13 e21) e28)
        · refine W_false (h27.trans (congrArg Value.bool q31)) <| W_skip <| blk_n <| thn_n <| W_reg <| L_op (.plain rfl) rfl (ltb rfl) (X_add ((K26 6 rfl).trans h15) rfl) <| L_op (.plain rfl) rfl (ltb rfl) (X_move (v := (.int .i64 (IntKind.wrap .i64 (x6_1 + 1)))) rfl) <| L_nil <| thn_n ?_
          obtain rfl := Option.some.inj H
          exact ⟨_, Nat.lt_succ_self _, IntKind.wrap .i64 (x6_1 + 1), (Kp.upd (Kp.upd (Kp.cut (Kp.upd (Kp.upd (Kp.upd (Kp.upd (Kp.upd (Kp.upd (Kp.upd (Kp.upd (Kp.upd (Kp.upd K12 rfl) rfl) rfl) rfl) rfl) rfl) rfl) rfl) rfl) rfl) K26 rfl) rfl) rfl), rfl, (Ext.trans (Ext.trans e13 e21) e28), S17⟩
      · refine W_false (congrArg Value.bool q18) <| W_exit <| thn_x <| thn_x <| blk_x <| thn_n ?_
        obtain rfl := Option.some.inj H
        obtain rfl := Option.some.inj S17
        exact ⟨(Kp.upd K12 rfl), e13, rfl⟩
  · rintro s6 w5 ⟨K7, e8, y32⟩
    rw [y32] at C4
    have H := C4
    replace H : _ = some _ := H
    refine thn_n <| W_seq <| W_reg <| L_op (.plain rfl) rfl (ltb rfl) (X_move (v := (S a0)) (K7 0 rfl)) <| L_op (.plain rfl) rfl (ltb rfl) (X_lenS Tryd.underlying9 rfl) <| L_callP (.plain rfl) rfl (ltb rfl) rfl Tryd.call42 (impl_within.calls (w := w5) (a0 := (a0.length : Int)) (a1 := 1) (a2 := 8)) rfl <| fun w33 e34 => L_op (.plain rfl) rfl (ltb rfl) (X_move (v := (.bool (within (a0.length : Int) 1 8))) rfl) <| L_grp 3 [(26, 29)] 28 (.bool ((within (a0.length : Int) 1 8) && (!decide (a0 = ([46] : List UInt8))))) ?_ ?_
    · rcases bool_two (within (a0.length : Int) 1 8) with b34_ | b34_
      · exact L_op (.guard 3 true 25 rfl rfl (ltb rfl) (congrArg Value.bool b34_)) rfl (ltb rfl) (X_move (v := (S a0)) (K7 0 rfl)) <| L_op (.guard 3 true 25 rfl rfl (ltb rfl) (congrArg Value.bool b34_)) rfl (ltb rfl) (X_sne rfl rfl) <| L_op (.plain rfl) rfl (ltb rfl) (X_pick (b := true) (v := (.bool (!decide (a0 = ([46] : List UInt8))))) (congrArg Value.bool b34_) rfl) <| L_nil <| thn_n ⟨(Kp.upd (Kp.upd (Kp.upd (Kp.refl _ _) rfl) rfl) rfl), (and_t b34_), (Ext.refl w33)⟩
      · exact L_skip rfl rfl (ltb rfl) (congrArg Value.bool b34_) rfl rfl (ltb rfl) <| L_skip rfl rfl (ltb rfl) (congrArg Value.bool b34_) rfl rfl (ltb rfl) <| L_op (.plain rfl) rfl (ltb rfl) (X_pick (b := false) (v := (.bool false)) (congrArg Value.bool b34_) rfl) <| L_nil <| thn_n ⟨(Kp.upd (Kp.upd (Kp.upd (Kp.refl _ _) rfl) rfl) rfl), (and_f b34_), (Ext.refl w33)⟩
    intro s40 w36 K37 h38 e39
    refine L_op (.plain rfl) rfl (ltb rfl) (X_move h38) <| L_grp 3 [(30, 33)] 32 (.bool (((within (a0.length : Int) 1 8) && (!decide (a0 = ([46] : List UInt8)))) && (!decide (a0 = ([46, 46] : List UInt8))))) ?_ ?_
    · rcases bool_two ((within (a0.length : Int) 1 8) && (!decide (a0 = ([46] : List UInt8)))) with b40_ | b40_
      · exact L_op (.guard 7 true 29 rfl rfl (ltb rfl) (congrArg Value.bool b40_)) rfl (ltb rfl) (X_move (v := (S a0)) ((K37 0 rfl).trans (K7 0 rfl))) <| L_op (.guard 7 true 29 rfl rfl (ltb rfl) (congrArg Value.bool b40_)) rfl (ltb rfl) (X_sne rfl rfl) <| L_op (.plain rfl) rfl (ltb rfl) (X_pick (b := true) (v := (.bool (!decide (a0 = ([46, 46] : List UInt8))))) (congrArg Value.bool b40_) rfl) <| L_nil <| thn_n ⟨(Kp.upd (Kp.upd (Kp.upd (Kp.refl _ _) rfl) rfl) rfl), (and_t b40_), (Ext.refl w36)⟩
      · exact L_skip rfl rfl (ltb rfl) (congrArg Value.bool b40_) rfl rfl (ltb rfl) <| L_skip rfl rfl (ltb rfl) (congrArg Value.bool b40_) rfl rfl (ltb rfl) <| L_op (.plain rfl) rfl (ltb rfl) (X_pick (b := false) (v := (.bool false)) (congrArg Value.bool b40_) rfl) <| L_nil <| thn_n ⟨(Kp.upd (Kp.upd (Kp.upd (Kp.refl _ _) rfl) rfl) rfl), (and_f b40_), (Ext.refl w36)⟩
    intro s46 w42 K43 h44 e45
    refine L_op (.plain rfl) rfl (ltb rfl) (X_assign h44) <| L_nil <| thn_n <| W_ret <| fin_r ?_
    obtain rfl := Option.some.inj H
    exact fin1 rfl (Ext.trans (Ext.trans (Ext.trans e8 e34) e39) e45)
theorem impl_PartOK.calls {w : World} {a0 : List UInt8} (h0 : a0.length ≤ 4611686018427387904) :
    Calls Tryd.prog 33 #[S a0] w (Rt (RP w (.bool (partOK a0)))) := by
  obtain ⟨k, h⟩ := impl_PartOK.eq a0 h0
  exact impl_PartOK.walk h
/-! spec.l00Cut -/
theorem spec_l00Cut.walk {k : Nat} {w : World} {a0 : List UInt8} {a1 : Int} {r : List (List UInt8)} (H : spec_l00Cut.sh k a0 a1 = some r) :
    Calls Tryd.prog 47 #[S a0, .int .u8 a1] w (Rt (RO 9 1 encS w r)) := by
  unfold spec_l00Cut.sh at H
  refine calls_of_W Tryd.func47 rfl (Nat.le_of_ble_eq_true rfl) Tryd.ntmps47 rfl ?_
  refine W_seq <| W_reg <| L_op (.plain rfl) rfl (ltb rfl) (X_assign (v := (.slice none 0 0)) rfl) <| L_nil <| thn_n <| W_seq <| W_reg <| L_lit (.plain rfl) rfl (ltb rfl) rfl Tryd.underlying27 Tryd.sizeOf9 Tryd.zeroValue9 rfl rfl rfl (vs := []) rfl (lit_all rfl) <| fun b1 w2 z3 z4 e5 k6 => L_op (.plain rfl) rfl (ltb rfl) (X_assign (v := (.slice (some ⟨b1, 0, none⟩) 0 0)) rfl) <| L_nil <| thn_n <| W_seq <| W_reg <| L_op (.plain rfl) rfl (ltb rfl) (X_assign (v := (.int .i64 0)) rfl) <| L_nil <| thn_n <| W_seq <| W_seq <| W_reg <| L_op (.plain rfl) rfl (ltb rfl) (X_assign (v := (.int .i64 0)) rfl) <| L_nil <| thn_n ?_
  obtain ⟨z11, L12, C13⟩ := bind_some H
  clear H
  refine  W_cutQ (fun s0 sQ wQ => ∃ (x5_14 : List (List UInt8)) (v15 : Value) (x6_16 : Int), Kp [(5, 8), (9, 29)] s0 sQ ∧ sQ 5 = v15 ∧ Ow 9 1 encS w2.heap.size wQ v15 x5_14 ∧ sQ 6 = .int .i64 x6_16 ∧ Ext w2 wQ ∧ z11 = .inr (x5_14, x6_16)) ?_ ?_
  · refine W_block <| W_loopI (fun s0 kk sQ wQ => ∃ (x5_7 : List (List UInt8)) (v8 : Value) (x6_9 : Int) (x7_10 : Int), Kp [(5, 8), (9, 29)] s0 sQ ∧ sQ 5 = v8 ∧ Ow 9 1 encS w2.heap.size wQ v8 x5_7 ∧ sQ 6 = .int .i64 x6_9 ∧ sQ 7 = .int .i64 x7_10 ∧ Ext w2 wQ ∧ loopF (spec_l00Cut.b1 a0 a1) kk (x5_7, x6_9, x7_10) = some z11) k ⟨([] : List (List UInt8)), (.slice (some ⟨b1, 0, none⟩) 0 0), 0, 0, (Kp.refl _ _), rfl, (Ow.zero), rfl, rfl, (Ext.refl w2), L12⟩ ?_
    rintro k21 s22 w23 ⟨x5_7, v8, x6_9, x7_10, K24, h27, h28, h29, h30, e25, L26⟩
    cases k21 with
    | zero => exact absurd L26 (by simp [loopF])
    | succ k21 =>
      obtain ⟨t31, H, S32⟩ := loopF_succ L26
      clear L26
      unfold spec_l00Cut.b1 at H
      refine W_seq <| W_seq <| W_reg <| L_op (.plain rfl) rfl (ltb rfl) (X_move (v := (.int .i64 x7_10)) h30) <| L_op (.plain rfl) rfl (ltb rfl) (X_move (v := (S a0)) (K24 0 rfl)) <| L_op (.plain rfl) rfl (ltb rfl) (X_lenS Tryd.underlying9 rfl) <| L_op (.plain rfl) rfl (ltb rfl) (X_lss rfl rfl) <| L_nil <| thn_n ?_
      rcases bif_two H with ⟨q33, H⟩ | ⟨q33, H⟩
      · refine W_true (congrArg Value.bool q33) <| W_skip <| thn_n <| W_seq <| W_block <| W_seq <| W_reg <| L_op (.plain rfl) rfl (ltb rfl) (X_move (v := (S a0)) (K24 0 rfl)) <| L_op (.plain rfl) rfl (ltb rfl) (X_move (v := (.int .i64 x7_10)) h30) ?_
        obtain ⟨c34, H⟩ := bif_some H
        refine L_op (.plain rfl) rfl (ltb rfl) (X_indexS Tryd.underlying9 rfl rfl (inR_lo c34) (inR_hi c34)) <| L_op (.plain rfl) rfl (ltb rfl) (X_move (v := (.int .u8 a1)) (K24 1 rfl)) <| L_op (.plain rfl) rfl (ltb rfl) (X_eql rfl rfl) <| L_nil <| thn_n ?_
        rcases bif_two H with ⟨q35, H⟩ | ⟨q35, H⟩
        · refine W_true (congrArg Value.bool q35) <| W_seq <| W_reg <| L_op (.plain rfl) rfl (ltb rfl) (X_move (v := v8) h27) <| L_op (.plain rfl) rfl (ltb rfl) (X_move (v := (S a0)) (K24 0 rfl)) <| L_op (.plain rfl) rfl (ltb rfl) (X_move (v := (.int .i64 x6_9)) h29) <| L_op (.plain rfl) rfl (ltb rfl) (X_move (v := (.int .i64 x7_10)) h30) ?_
          obtain ⟨c36, H⟩ := bif_some H
          refine L_op (.plain rfl) rfl (ltb rfl) (X_sliceS Tryd.underlying9 rfl (l := x6_9) (h := x7_10) ⟨_, rfl⟩ ⟨_, rfl⟩ (inS_1 c36) (inS_2 c36) (inS_3 c36)) <| L_lit (.plain rfl) rfl (ltb rfl) rfl Tryd.underlying27 Tryd.sizeOf9 Tryd.zeroValue9 rfl rfl rfl (vs := [(S (sub a0 x6_9 x7_10))]) rfl (lit_all rfl) <| fun b37 w38 z39 z40 e41 k42 => ?_
          obtain ⟨c43, H⟩ := bif_some H
          refine L_append (enc := encS) (.plain rfl) rfl (ltb rfl) rfl El.t27 rfl rfl (Ow.ext h28 e41) (Ow.rd (Ow.new (xs := [sub a0 x6_9 x7_10]) (sz := 1) (enc := encS) (base := w23.heap.size) k42 (Nat.le_of_eq z39) rfl (fun _ _ => by rfl) (Nat.le_of_ble_eq_true rfl))) (ones_S _) (of_decide_eq_true c43) ((Ext.trans e25 e41)).size <| fun v44 w45 o46 z47 g48 => L_op (.plain rfl) rfl (ltb rfl) (X_assign (v := v44) rfl) <| L_nil <| thn_n <| W_reg <| L_op (.plain rfl) rfl (ltb rfl) (X_move (v := (.int .i64 x7_10)) h30) <| L_op (.plain rfl) rfl (ltb rfl) (X_add rfl rfl) <| L_op (.plain rfl) rfl (ltb rfl) (X_assign (v := (.int .i64 (IntKind.wrap .i64 (x7_10 + 1)))) rfl) <| L_nil <| blk_n <| thn_n <| W_reg <| L_op (.plain rfl) rfl (ltb rfl) (X_move (v := (.int .i64 x7_10)) h30) <| L_op (.plain rfl) rfl (ltb rfl) (X_add rfl rfl) <| L_op (.plain rfl) rfl (ltb rfl) (X_assign (v := (.int .i64 (IntKind.wrap .i64 (x7_10 + 1)))) rfl) <| L_nil <| thn_n ?_
          obtain rfl := Option.some.inj H
          exact ⟨_, Nat.lt_succ_self _, x5_7 ++ ([sub a0 x6_9 x7_10] : List (List UInt8)), v44, IntKind.wrap .i64 (x7_10 + 1), IntKind.wrap .i64 (x7_10 + 1), (Kp.upd (Kp.upd (Kp.upd (Kp.upd (Kp.upd (Kp.upd (Kp.upd (Kp.upd (Kp.upd (Kp.upd (Kp.upd (Kp.upd (Kp.upd (Kp.upd (Kp.upd (Kp.upd (Kp.upd (Kp.upd (Kp.upd (Kp.upd (Kp.upd (Kp.upd (Kp.upd K24 rfl) rfl) rfl) rfl) rfl) rfl) rfl) rfl) rfl) rfl) rfl) rfl) rfl) rfl) rfl) rfl) rfl) rfl) rfl) rfl) rfl) rfl) rfl), rfl, o46, rfl, rfl, (g48 _ (Ext.trans e25 e41)), S32⟩
        · refine W_false (congrArg Value.bool q35) <| W_skip <| blk_n <| thn_n <| W_reg <| L_op (.plain rfl) rfl (ltb rfl) (X_move (v := (.int .i64 x7_10)) h30) <| L_op (.plain rfl) rfl (ltb rfl) (X_add rfl rfl) <| L_op (.plain rfl) rfl (ltb rfl) (X_assign (v := (.int .i64 (IntKind.wrap .i64 (x7_10 + 1)))) rfl) <| L_nil <| thn_n ?_
          obtain rfl := Option.some.inj H
          exact ⟨_, Nat.lt_succ_self _, x5_7, v8, x6_9, IntKind.wrap .i64 (x7_10 + 1), (Kp.upd (Kp.upd (Kp.upd (Kp.upd (Kp.upd (Kp.upd (Kp.upd (Kp.upd (Kp.upd (Kp.upd (Kp.upd (Kp.upd K24 rfl) rfl) rfl) rfl) rfl) rfl) rfl) rfl) rfl) rfl) rfl) rfl), h27, h28, h29, rfl, e25, S32⟩
      · refine W_false (congrArg Value.bool q33) <| W_exit <| thn_x <| thn_x <| blk_x <| thn_n ?_
        obtain rfl := Option.some.inj H
        obtain rfl := Option.some.inj S32
        exact ⟨x5_7, v8, x6_9, (Kp.upd (Kp.upd (Kp.upd (Kp.upd K24 rfl) rfl) rfl) rfl), h27, h28, h29, e25, rfl⟩
  · rintro s18 w17 ⟨x5_14, v15, x6_16, K19, h49, h50, h51, e20, y52⟩
    rw [y52] at C13
    have H := C13
    replace H : _ = some _ := H
    refine thn_n <| W_seq <| W_reg <| L_op (.plain rfl) rfl (ltb rfl) (X_move (v := v15) h49) <| L_op (.plain rfl) rfl (ltb rfl) (X_move (v := (S a0)) (K19 0 rfl)) <| L_op (.plain rfl) rfl (ltb rfl) (X_move (v := (.int .i64 x6_16)) h51) ?_
    obtain ⟨c53, H⟩ := bif_some H
    refine L_op (.plain rfl) rfl (ltb rfl) (X_sliceS Tryd.underlying9 rfl (l := x6_16) (h := (a0.length : Int)) ⟨_, rfl⟩ rfl (inS_1 c53) (inS_2 c53) (inS_3 c53)) <| L_lit (.plain rfl) rfl (ltb rfl) rfl Tryd.underlying27 Tryd.sizeOf9 Tryd.zeroValue9 rfl rfl rfl (vs := [(S (sub a0 x6_16 (a0.length : Int)))]) rfl (lit_all rfl) <| fun b54 w55 z56 z57 e58 k59 => ?_
    obtain ⟨c60, H⟩ := bif_some H
    refine L_append (enc := encS) (.plain rfl) rfl (ltb rfl) rfl El.t27 rfl rfl (Ow.ext h50 e58) (Ow.rd (Ow.new (xs := [sub a0 x6_16 (a0.length : Int)]) (sz := 1) (enc := encS) (base := w17.heap.size) k59 (Nat.le_of_eq z56) rfl (fun _ _ => by rfl) (Nat.le_of_ble_eq_true rfl))) (ones_S _) (of_decide_eq_true c60) ((Ext.trans e20 e58)).size <| fun v61 w62 o63 z64 g65 => L_op (.plain rfl) rfl (ltb rfl) (X_assign (v := v61) rfl) <| L_nil <| thn_n <| W_ret <| fin_r ?_
    obtain rfl := Option.some.inj H
    exact fin1o rfl (Ext.trans e5 (g65 _ (Ext.trans e20 e58))) o63 (e5).size
theorem spec_l00Cut.calls {w : World} {a0 : List UInt8} {a1 : Int} (h0 : a0.length ≤ 1048576) :
    Calls Tryd.prog 47 #[S a0, .int .u8 a1] w (Rt (RO 9 1 encS w (cut a1 a0))) := by
  obtain ⟨k, h⟩ := spec_l00Cut.eq a0 a1 h0
  exact spec_l00Cut.walk h
/-! impl.parts -/
theorem impl_parts.walk {w : World} {a0 : List UInt8} (gv : GV 0 w) {r : List (List UInt8)} (H : impl_parts.sh a0 = some r) :
    Calls Tryd.prog 45 #[S a0] w (Rt (RO 9 1 encS w r)) := by
  unfold impl_parts.sh at H
  refine calls_of_W Tryd.func45 rfl (Nat.le_of_ble_eq_true rfl) Tryd.ntmps45 rfl ?_
  refine W_seq <| W_reg <| L_op (.plain rfl) rfl (ltb rfl) (X_assign (v := (.slice none 0 0)) rfl) <| L_nil <| thn_n <| W_seq <| W_reg <| L_op (.plain rfl) rfl (ltb rfl) (X_move (v := (S a0)) rfl) ?_
  obtain ⟨c1, H⟩ := bif_some H
  obtain ⟨c2, H⟩ := bif_some H
  refine L_callO (.plain rfl) rfl (ltb rfl) rfl Tryd.call66 (strings_Split.calls (w := w) (a0 := a0) (a1 := ([47] : List UInt8)) gv (of_decide_eq_true c1) (of_decide_eq_true c2)) rfl <| fun v5 w3 e4 o6 => L_op (.plain rfl) rfl (ltb rfl) (X_assign (v := v5) rfl) <| L_nil <| thn_n <| W_ret <| fin_r ?_
  obtain rfl := Option.some.inj H
  exact fin1o rfl e4 o6 ((Ext.refl w)).size
theorem impl_parts.calls {w : World} {a0 : List UInt8} (gv : GV 0 w) (h0 : a0.length ≤ 1048576) :
    Calls Tryd.prog 45 #[S a0] w (Rt (RO 9 1 encS w (cut 47 a0))) := impl_parts.walk gv (impl_parts.eq a0 h0)
/-! impl.all(string)$1 -/
theorem impl_allS_1.walk {w : World} {a0 : List UInt8} {a1 : List UInt8 → Option Bool} {v_a1 : Value} (f_a1 : ∀ (x0 : List UInt8) (r : Bool), a1 x0 = some r → FnAt Tryd.prog w v_a1 [(S x0)] (.bool r)) (g_a1 : v_a1.cells = #[v_a1]) {b_a1 : Nat} (k_a1 : Blk w b_a1 #[v_a1] 42) {r : Bool} (H : impl_allS_1.sh a0 a1 = some r) :
    Calls Tryd.prog 69 #[S a0, .pointer (some ⟨b_a1, 0, none⟩)] w (Rt (RP w (.bool r))) := by
  unfold impl_allS_1.sh at H
  refine calls_of_W Tryd.func69 rfl (Nat.le_of_ble_eq_true rfl) Tryd.ntmps69 rfl ?_
  refine W_seq <| W_reg <| L_op (.plain rfl) rfl (ltb rfl) (X_assign (v := (.bool false)) rfl) <| L_nil <| thn_n <| W_seq <| W_reg <| L_op (.plain rfl) rfl (ltb rfl) (X_loadB Tryd.isAgg42 k_a1 rfl rfl) <| L_op (.plain rfl) rfl (ltb rfl) (X_move (v := (S a0)) rfl) ?_
  obtain ⟨z1, x2, H⟩ := bind_some H
  refine L_callF (.plain rfl) rfl (ltb rfl) rfl rfl (FnAt.ext (f_a1 _ _ x2) (Ext.refl w)) rfl <| fun w3 e4 => L_op (.plain rfl) rfl (ltb rfl) (X_not rfl) <| L_op (.plain rfl) rfl (ltb rfl) (X_assign (v := (.bool (!z1))) rfl) <| L_nil <| thn_n <| W_ret <| fin_r ?_
  obtain rfl := Option.some.inj H
  exact fin1 rfl e4
theorem impl_allS_1.calls {w : World} {a0 : List UInt8} {a1 : List UInt8 → Option Bool} {r : Bool} {v_a1 : Value} (f_a1 : ∀ (x0 : List UInt8) (r : Bool), a1 x0 = some r → FnAt Tryd.prog w v_a1 [(S x0)] (.bool r)) (g_a1 : v_a1.cells = #[v_a1]) {b_a1 : Nat} (k_a1 : Blk w b_a1 #[v_a1] 42) (H : ((a1 a0).map (!·)) = some r) :
    Calls Tryd.prog 69 #[S a0, .pointer (some ⟨b_a1, 0, none⟩)] w (Rt (RP w (.bool r))) := impl_allS_1.walk f_a1 g_a1 k_a1 (impl_allS_1.eq a0 a1 H)
/-! slices.IndexFunc(()string,string) -/
theorem slices_IndexFuncS.walk {k : Nat} {w : World} {a0 : List (List UInt8)} {a1 : List UInt8 → Option Bool} {v_a0 : Value} (f_a0 : Rd 1 encS w v_a0 a0) {v_a1 : Value} (f_a1 : ∀ (x0 : List UInt8) (r : Bool), a1 x0 = some r → FnAt Tryd.prog w v_a1 [(S x0)] (.bool r)) (g_a1 : v_a1.cells = #[v_a1]) {r : Int} (H : slices_IndexFuncS.sh k a0 a1 = some r) :
    Calls Tryd.prog 76 #[v_a0, v_a1] w (Rt (RP w (.int .i64 r))) := by
  unfold slices_IndexFuncS.sh at H
  refine calls_of_W Tryd.func76 rfl (Nat.le_of_ble_eq_true rfl) Tryd.ntmps76 rfl ?_
  refine W_seq <| W_reg <| L_op (.plain rfl) rfl (ltb rfl) (X_assign (v := (.int .i64 0)) rfl) <| L_nil <| thn_n <| W_seq <| W_seq <| W_reg <| L_op (.plain rfl) rfl (ltb rfl) (X_move (v := v_a0) rfl) <| L_op (.plain rfl) rfl (ltb rfl) (X_lenR Tryd.underlying27 rfl f_a0) <| L_op (.plain rfl) rfl (ltb rfl) (X_move (v := (.int .i64 0)) rfl) <| L_nil <| thn_n ?_
  obtain ⟨z2, L3, C4⟩ := bind_some H
  clear H
  refine  W_cutQ (fun s0 sQ wQ => Kp [(4, 6), (8, 19)] s0 sQ ∧ Ext w wQ ∧ z2 = .inr ()) ?_ ?_
  · refine W_block <| W_loopI (fun s0 kk sQ wQ => ∃ (x8_1 : Int), Kp [(4, 6), (8, 19)] s0 sQ ∧ sQ 8 = .int .i64 x8_1 ∧ Ext w wQ ∧ loopF (slices_IndexFuncS.b1 a0 a1) kk x8_1 = some z2) k ⟨0, (Kp.refl _ _), rfl, (Ext.refl w), L3⟩ ?_
    rintro k9 s10 w11 ⟨x8_1, K12, h15, e13, L14⟩
    cases k9 with
    | zero => exact absurd L14 (by simp [loopF])
    | succ k9 =>
      obtain ⟨t16, H, S17⟩ := loopF_succ L14
      clear L14
      unfold slices_IndexFuncS.b1 at H
      refine W_seq <| W_reg <| L_op (.plain rfl) rfl (ltb rfl) (X_lss h15 (K12 7 rfl)) <| L_nil <| thn_n <| W_seq ?_
      rcases bif_two H with ⟨q18, H⟩ | ⟨q18, H⟩
      · refine W_true (congrArg Value.bool q18) <| W_skip <| thn_n <| W_seq <| W_block <| W_seq <| W_reg <| L_op (.plain rfl) rfl (ltb rfl) (X_move (v := (.int .i64 x8_1)) h15) <| L_op (.plain rfl) rfl (ltb rfl) (X_assign (v := (.int .i64 x8_1)) rfl) <| L_nil <| thn_n <| W_seq <| W_reg <| L_op (.plain rfl) rfl (ltb rfl) (X_move (v := v_a1) (K12 1 rfl)) <| L_op (.plain rfl) rfl (ltb rfl) (X_move (v := v_a0) (K12 0 rfl)) <| L_op (.plain rfl) rfl (ltb rfl) (X_move (v := (.int .i64 x8_1)) rfl) ?_
        obtain ⟨c19, H⟩ := bif_some H
        refine L_idx (.plain rfl) rfl (ltb rfl) rfl Tryd.underlying27 Tryd.sizeOf9 rfl (Rd.ext f_a0 e13) rfl c19 <| fun p20 h21 => L_op (.plain rfl) rfl (ltb rfl) (X_loadAt Tryd.isAgg9 rfl h21 rfl) ?_
        obtain ⟨z22, x23, H⟩ := bind_some H
        refine L_callF (.plain rfl) rfl (ltb rfl) rfl rfl (FnAt.ext (f_a1 _ _ x23) e13) rfl <| fun w24 e25 => L_nil <| thn_n ?_
        rcases bif_two H with ⟨q26, H⟩ | ⟨q26, H⟩
        · refine W_true (congrArg Value.bool q26) <| W_seq <| W_reg <| L_op (.plain rfl) rfl (ltb rfl) (X_move (v := (.int .i64 x8_1)) rfl) <| L_op (.plain rfl) rfl (ltb rfl) (X_assign (v := (.int .i64 x8_1)) rfl) <| L_nil <| thn_n <| W_ret <| blk_r <| thn_r <| thn_r <| blk_r <| thn_r <| thn_r <| fin_r ?_
          obtain rfl := Option.some.inj H
          obtain rfl := Option.some.inj S17
          have H := C4
          obtain rfl := Option.some.inj H
          exact fin1 rfl (Ext.trans e13 e25)
        · refine W_false (congrArg Value.bool q26) <| W_skip <| blk_n <| thn_n <| W_reg <| L_op (.plain rfl) rfl (ltb rfl) (X_add h15 rfl) <| L_op (.plain rfl) rfl (ltb rfl) (X_move (v := (.int .i64 (IntKind.wrap .i64 (x8_1 + 1)))) rfl) <| L_nil <| thn_n ?_
          obtain rfl := Option.some.inj H
          exact ⟨_, Nat.lt_succ_self _, IntKind.wrap .i64 (x8_1 + 1), (Kp.upd (Kp.upd (Kp.upd (Kp.upd (Kp.upd (Kp.upd (Kp.upd (Kp.upd (Kp.upd (Kp.upd (Kp.upd K12 rfl) rfl) rfl) rfl) rfl) rfl) rfl) rfl) rfl) rfl) rfl), rfl, (Ext.trans e13 e25), S17⟩
      · refine W_false (congrArg Value.bool q18) <| W_exit <| thn_x <| thn_x <| blk_x <| thn_n ?_
        obtain rfl := Option.some.inj H
        obtain rfl := Option.some.inj S17
        exact ⟨(Kp.upd K12 rfl), e13, rfl⟩
  · rintro s6 w5 ⟨K7, e8, y27⟩
    rw [y27] at C4
    have H := C4
    replace H : _ = some _ := H
    refine thn_n <| W_seq <| W_reg <| L_op (.plain rfl) rfl (ltb rfl) (X_assign (v := (.int .i64 (-1))) rfl) <| L_nil <| thn_n <| W_ret <| fin_r ?_
    obtain rfl := Option.some.inj H
    exact fin1 rfl e8
theorem slices_IndexFuncS.calls {w : World} {a0 : List (List UInt8)} {a1 : List UInt8 → Option Bool} {r : Int} {v_a0 : Value} (f_a0 : Rd 1 encS w v_a0 a0) {v_a1 : Value} (f_a1 : ∀ (x0 : List UInt8) (r : Bool), a1 x0 = some r → FnAt Tryd.prog w v_a1 [(S x0)] (.bool r)) (g_a1 : v_a1.cells = #[v_a1]) (h0 : a0.length ≤ 4611686018427387904) (H : (idxO a1 a0) = some r) :
    Calls Tryd.prog 76 #[v_a0, v_a1] w (Rt (RP w (.int .i64 r))) := by
  obtain ⟨k, h⟩ := slices_IndexFuncS.eq a0 a1 h0 H
  exact slices_IndexFuncS.walk f_a0 f_a1 g_a1 h
/-! slices.ContainsFunc(()string,string) -/
theorem slices_ContainsFuncS.walk {w : World} {a0 : List (List UInt8)} {a1 : List UInt8 → Option Bool} {v_a0 : Value} (f_a0 : Rd 1 encS w v_a0 a0) {v_a1 : Value} (f_a1 : ∀ (x0 : List UInt8) (r : Bool), a1 x0 = some r → FnAt Tryd.prog w v_a1 [(S x0)] (.bool r)) (g_a1 : v_a1.cells = #[v_a1]) {r : Bool} (H : slices_ContainsFuncS.sh a0 a1 = some r) :
    Calls Tryd.prog 68 #[v_a0, v_a1] w (Rt (RP w (.bool r))) := by
  unfold slices_ContainsFuncS.sh at H
  refine calls_of_W Tryd.func68 rfl (Nat.le_of_ble_eq_true rfl) Tryd.ntmps68 rfl ?_
  refine W_seq <| W_reg <| L_op (.plain rfl) rfl (ltb rfl) (X_assign (v := (.bool false)) rfl) <| L_nil <| thn_n <| W_seq <| W_reg <| L_op (.plain rfl) rfl (ltb rfl) (X_move (v := v_a0) rfl) <| L_op (.plain rfl) rfl (ltb rfl) (X_move (v := v_a1) rfl) ?_
  obtain ⟨c1, H⟩ := bif_some H
  obtain ⟨z2, x3, H⟩ := bind_some H
  refine L_callP (.plain rfl) rfl (ltb rfl) rfl Tryd.call76 (slices_IndexFuncS.calls (w := w) (a0 := a0) (a1 := a1) f_a0 (fun x0 r h => FnAt.ext (f_a1 x0 r h) (Ext.refl w)) g_a1 (of_decide_eq_true c1) x3) rfl <| fun w4 e5 => L_op (.plain rfl) rfl (ltb rfl) (X_geq rfl rfl) <| L_op (.plain rfl) rfl (ltb rfl) (X_assign (v := (.bool (decide (0 ≤ z2)))) rfl) <| L_nil <| thn_n <| W_ret <| fin_r ?_
  obtain rfl := Option.some.inj H
  exact fin1 rfl e5
theorem slices_ContainsFuncS.calls {w : World} {a0 : List (List UInt8)} {a1 : List UInt8 → Option Bool} {r : Bool} {v_a0 : Value} (f_a0 : Rd 1 encS w v_a0 a0) {v_a1 : Value} (f_a1 : ∀ (x0 : List UInt8) (r : Bool), a1 x0 = some r → FnAt Tryd.prog w v_a1 [(S x0)] (.bool r)) (g_a1 : v_a1.cells = #[v_a1]) (h0 : a0.length ≤ 4611686018427387904) (H : (anyO a1 a0) = some r) :
    Calls Tryd.prog 68 #[v_a0, v_a1] w (Rt (RP w (.bool r))) := slices_ContainsFuncS.walk f_a0 f_a1 g_a1 (slices_ContainsFuncS.eq a0 a1 h0 H)
/-! impl.all(string) -/
theorem impl_allS.walk {w : World} {a0 : List (List UInt8)} {a1 : List UInt8 → Option Bool} {v_a0 : Value} (f_a0 : Rd 1 encS w v_a0 a0) {v_a1 : Value} (f_a1 : ∀ (x0 : List UInt8) (r : Bool), a1 x0 = some r → FnAt Tryd.prog w v_a1 [(S x0)] (.bool r)) (g_a1 : v_a1.cells = #[v_a1]) {r : Bool} (H : impl_allS.sh a0 a1 = some r) :
    Calls Tryd.prog 50 #[v_a0, v_a1] w (Rt (RP w (.bool r))) := by
  unfold impl_allS.sh at H
  refine calls_of_W Tryd.func50 rfl (Nat.le_of_ble_eq_true rfl) Tryd.ntmps50 rfl ?_
  refine W_seq <| W_reg <| L_box (.plain rfl) rfl (ltb rfl) rfl rfl <| fun b1 w2 z3 z4 e5 k6 => L_op (.plain rfl) rfl (ltb rfl) (X_assign (v := (.bool false)) rfl) <| L_nil <| thn_n <| W_seq <| W_reg <| L_op (.plain rfl) rfl (ltb rfl) (X_move (v := v_a0) rfl) <| L_op (.plain rfl) rfl (ltb rfl) (X_makeFunc (vs := #[]) (us := #[.pointer (some ⟨b1, 0, none⟩)]) rfl rfl) ?_
  obtain ⟨c11, H⟩ := bif_some H
  obtain ⟨z12, x13, H⟩ := bind_some H
  refine L_callP (.plain rfl) rfl (ltb rfl) rfl Tryd.call68 (slices_ContainsFuncS.calls (w := w2) (a0 := a0) (a1 := (fun (x0_ : List UInt8) => ((a1 x0_).map (!·)))) (Rd.ext f_a0 e5) (fun x0_ r h => by exact FnAt.mk Tryd.call69 (by rfl) fun w9 k10 => impl_allS_1.calls (w := w9) (a0 := x0_) (a1 := a1) (fun x0 r h => FnAt.ext (f_a1 x0 r h) (Ext.trans e5 k10)) g_a1 (Blk.ext (Blk.cs k6 g_a1) k10) h) rfl (of_decide_eq_true c11) x13) rfl <| fun w14 e15 => L_op (.plain rfl) rfl (ltb rfl) (X_not rfl) <| L_op (.plain rfl) rfl (ltb rfl) (X_assign (v := (.bool (!z12))) rfl) <| L_nil <| thn_n <| W_ret <| fin_r ?_
  obtain rfl := Option.some.inj H
  exact fin1 rfl (Ext.trans e5 e15)
theorem impl_allS.calls {w : World} {a0 : List (List UInt8)} {a1 : List UInt8 → Option Bool} {r : Bool} {v_a0 : Value} (f_a0 : Rd 1 encS w v_a0 a0) {v_a1 : Value} (f_a1 : ∀ (x0 : List UInt8) (r : Bool), a1 x0 = some r → FnAt Tryd.prog w v_a1 [(S x0)] (.bool r)) (g_a1 : v_a1.cells = #[v_a1]) (h0 : a0.length ≤ 4611686018427387904) (H : (allO a1 a0) = some r) :
    Calls Tryd.prog 50 #[v_a0, v_a1] w (Rt (RP w (.bool r))) := impl_allS.walk f_a0 f_a1 g_a1 (impl_allS.eq a0 a1 h0 H)
/-! impl.PathOK -/
theorem impl_PathOK.walk {w : World} {a0 : List UInt8} (gv : GV 0 w) {r : Bool} (H : impl_PathOK.sh a0 = some r) :
    Calls Tryd.prog 25 #[S a0] w (Rt (RP w (.bool r))) := by
  unfold impl_PathOK.sh at H
  refine calls_of_W Tryd.func25 rfl (Nat.le_of_ble_eq_true rfl) Tryd.ntmps25 rfl ?_
  refine W_seq <| W_reg <| L_op (.plain rfl) rfl (ltb rfl) (X_assign (v := (.bool false)) rfl) <| L_nil <| thn_n <| W_seq <| W_reg <| L_op (.plain rfl) rfl (ltb rfl) (X_move (v := (S a0)) rfl) <| L_op (.plain rfl) rfl (ltb rfl) (X_lenS Tryd.underlying9 rfl) <| L_op (.plain rfl) rfl (ltb rfl) (X_lss rfl rfl) <| L_op (.plain rfl) rfl (ltb rfl) (X_move (v := (.bool (decide ((a0.length : Int) < 36)))) rfl) ?_
  obtain ⟨z2, x3, H⟩ := bind_some H
  refine L_grpE 5 [(7, 12)] 11 (fun q => q = z2) ?_ ?_
  · rcases bif_two x3 with ⟨b0_, H⟩ | ⟨b0_, H⟩
    · refine L_op (.guard 3 true 6 rfl rfl (ltb rfl) (congrArg Value.bool b0_)) rfl (ltb rfl) (X_move (v := (S a0)) rfl) ?_
      obtain ⟨c2, H⟩ := bif_some H
      refine L_callO (.guard 3 true 6 rfl rfl (ltb rfl) (congrArg Value.bool b0_)) rfl (ltb rfl) rfl Tryd.call45 (impl_parts.calls (w := w) (a0 := a0) gv (of_decide_eq_true c2)) rfl <| fun v5 w3 e4 o6 => L_op (.guard 3 true 6 rfl rfl (ltb rfl) (congrArg Value.bool b0_)) rfl (ltb rfl) (X_lenR Tryd.underlying27 rfl (Ow.rd o6)) <| L_op (.guard 3 true 6 rfl rfl (ltb rfl) (congrArg Value.bool b0_)) rfl (ltb rfl) (X_leq rfl rfl) <| L_op (.plain rfl) rfl (ltb rfl) (X_pick (b := true) (v := (.bool (decide (((cut 47 a0).length : Int) ≤ 4)))) (congrArg Value.bool b0_) rfl) ?_
      obtain rfl := Option.some.inj H
      exact L_nil <| thn_n ⟨(Kp.upd (Kp.upd (Kp.upd (Kp.upd (Kp.upd (Kp.refl _ _) rfl) rfl) rfl) rfl) rfl), ⟨_, rfl, rfl⟩, e4⟩
    · refine L_skip rfl rfl (ltb rfl) (congrArg Value.bool b0_) rfl rfl (ltb rfl) <| L_skip rfl rfl (ltb rfl) (congrArg Value.bool b0_) rfl rfl (ltb rfl) <| L_skip rfl rfl (ltb rfl) (congrArg Value.bool b0_) rfl rfl (ltb rfl) <| L_skip rfl rfl (ltb rfl) (congrArg Value.bool b0_) rfl rfl (ltb rfl) <| L_op (.plain rfl) rfl (ltb rfl) (X_pick (b := false) (v := (.bool false)) (congrArg Value.bool b0_) rfl) ?_
      obtain rfl := Option.some.inj H
      exact L_nil <| thn_n ⟨(Kp.upd (Kp.upd (Kp.upd (Kp.upd (Kp.upd (Kp.refl _ _) rfl) rfl) rfl) rfl) rfl), ⟨_, rfl, rfl⟩, (Ext.refl w)⟩
  intro s8 w4 z9 K5 hq h6 e7
  rw [hq] at h6; clear hq
  refine L_op (.plain rfl) rfl (ltb rfl) (X_move (v := (.bool z2)) h6) ?_
  obtain ⟨z11, x12, H⟩ := bind_some H
  refine L_grpE 4 [(13, 17)] 16 (fun q => q = z11) ?_ ?_
  · rcases bif_two x12 with ⟨b9_, H⟩ | ⟨b9_, H⟩
    · refine L_op (.guard 9 true 12 rfl rfl (ltb rfl) (congrArg Value.bool b9_)) rfl (ltb rfl) (X_move (v := (S a0)) (K5 0 rfl)) ?_
      obtain ⟨c11, H⟩ := bif_some H
      refine L_callO (.guard 9 true 12 rfl rfl (ltb rfl) (congrArg Value.bool b9_)) rfl (ltb rfl) rfl Tryd.call45 (impl_parts.calls (w := w4) (a0 := a0) (GV.ext gv e7) (of_decide_eq_true c11)) rfl <| fun v14 w12 e13 o15 => ?_
      obtain ⟨c20, H⟩ := bif_some H
      obtain ⟨z21, x22, H⟩ := bind_some H
      refine L_callP (.guard 9 true 12 rfl rfl (ltb rfl) (congrArg Value.bool b9_)) rfl (ltb rfl) rfl Tryd.call50 (impl_allS.calls (w := w12) (a0 := (cut 47 a0)) (a1 := (fun (x0_ : List UInt8) => bif decide (x0_.length ≤ 4611686018427387904) then (some (partOK x0_)) else none)) (Ow.rd o15) (fun x0_ r h => by obtain ⟨q0, h⟩ := bif_some h; have h := Option.some.inj h; subst h; exact FnAt.mk Tryd.call33 (by rfl) fun w18 k19 => impl_PartOK.calls (w := w18) (a0 := x0_) (of_decide_eq_true q0)) rfl (of_decide_eq_true c20) x22) rfl <| fun w23 e24 => L_op (.plain rfl) rfl (ltb rfl) (X_pick (b := true) (v := (.bool z21)) (congrArg Value.bool b9_) rfl) ?_
      obtain rfl := Option.some.inj H
      exact L_nil <| thn_n ⟨(Kp.upd (Kp.upd (Kp.upd (Kp.upd (Kp.refl _ _) rfl) rfl) rfl) rfl), ⟨_, rfl, rfl⟩, (Ext.trans e13 e24)⟩
    · refine L_skip rfl rfl (ltb rfl) (congrArg Value.bool b9_) rfl rfl (ltb rfl) <| L_skip rfl rfl (ltb rfl) (congrArg Value.bool b9_) rfl rfl (ltb rfl) <| L_skip rfl rfl (ltb rfl) (congrArg Value.bool b9_) rfl rfl (ltb rfl) <| L_op (.plain rfl) rfl (ltb rfl) (X_pick (b := false) (v := (.bool false)) (congrArg Value.bool b9_) rfl) ?_
      obtain rfl := Option.some.inj H
      exact L_nil <| thn_n ⟨(Kp.upd (Kp.upd (Kp.upd (Kp.upd (Kp.refl _ _) rfl) rfl) rfl) rfl), ⟨_, rfl, rfl⟩, (Ext.refl w4)⟩
  intro s25 w13 z26 K14 hq h15 e16
  rw [hq] at h15; clear hq
  refine L_op (.plain rfl) rfl (ltb rfl) (X_assign (v := (.bool z11)) h15) <| L_nil <| thn_n <| W_ret <| fin_r ?_
  obtain rfl := Option.some.inj H
  exact fin1 rfl (Ext.trans e7 e16)
theorem impl_PathOK.calls {w : World} {a0 : List UInt8} (gv : GV 0 w) :
    Calls Tryd.prog 25 #[S a0] w (Rt (RP w (.bool (pathOK a0)))) := impl_PathOK.walk gv (impl_PathOK.eq a0)
/-! impl.isLong$1 -/
theorem impl_isLong_1.walk {w : World} {a0 : List UInt8} {r : Bool} (H : impl_isLong_1.sh a0 = some r) :
    Calls Tryd.prog 65 #[S a0] w (Rt (RP w (.bool r))) := by
  unfold impl_isLong_1.sh at H
  refine calls_of_W Tryd.func65 rfl (Nat.le_of_ble_eq_true rfl) Tryd.ntmps65 rfl ?_
  refine W_seq <| W_reg <| L_op (.plain rfl) rfl (ltb rfl) (X_assign (v := (.bool false)) rfl) <| L_nil <| thn_n <| W_seq <| W_reg <| L_op (.plain rfl) rfl (ltb rfl) (X_move (v := (S a0)) rfl) <| L_op (.plain rfl) rfl (ltb rfl) (X_lenS Tryd.underlying9 rfl) <| L_op (.plain rfl) rfl (ltb rfl) (X_leq rfl rfl) <| L_op (.plain rfl) rfl (ltb rfl) (X_assign (v := (.bool (decide ((a0.length : Int) ≤ 65536)))) rfl) <| L_nil <| thn_n <| W_ret <| fin_r ?_
  obtain rfl := Option.some.inj H
  exact fin1 rfl (Ext.refl w)
theorem impl_isLong_1.calls {w : World} {a0 : List UInt8} :
    Calls Tryd.prog 65 #[S a0] w (Rt (RP w (.bool (decide (a0.length ≤ 65536))))) := impl_isLong_1.walk (impl_isLong_1.eq a0)
/-! impl.isLong -/
theorem impl_isLong.walk {w : World} {a0 : List (List UInt8)} {v_a0 : Value} (f_a0 : Rd 1 encS w v_a0 a0) {r : Bool} (H : impl_isLong.sh a0 = some r) :
    Calls Tryd.prog 44 #[v_a0] w (Rt (RP w (.bool r))) := by
  unfold impl_isLong.sh at H
  refine calls_of_W Tryd.func44 rfl (Nat.le_of_ble_eq_true rfl) Tryd.ntmps44 rfl ?_
  refine W_seq <| W_reg <| L_op (.plain rfl) rfl (ltb rfl) (X_assign (v := (.bool false)) rfl) <| L_nil <| thn_n <| W_seq <| W_reg <| L_op (.plain rfl) rfl (ltb rfl) (X_move (v := v_a0) rfl) ?_
  obtain ⟨c5, H⟩ := bif_some H
  obtain ⟨z6, x7, H⟩ := bind_some H
  refine L_callP (.plain rfl) rfl (ltb rfl) rfl Tryd.call50 (impl_allS.calls (w := w) (a0 := a0) (a1 := (fun (x0_ : List UInt8) => some (decide (x0_.length ≤ 65536)))) f_a0 (fun x0_ r h => by have h := Option.some.inj h; subst h; exact FnAt.mk Tryd.call65 (by rfl) fun w3 k4 => impl_isLong_1.calls (w := w3) (a0 := x0_)) rfl (of_decide_eq_true c5) x7) rfl <| fun w8 e9 => L_op (.plain rfl) rfl (ltb rfl) (X_not rfl) <| L_op (.plain rfl) rfl (ltb rfl) (X_assign (v := (.bool (!z6))) rfl) <| L_nil <| thn_n <| W_ret <| fin_r ?_
  obtain rfl := Option.some.inj H
  exact fin1 rfl e9
theorem impl_isLong.calls {w : World} {a0 : List (List UInt8)} {v_a0 : Value} (f_a0 : Rd 1 encS w v_a0 a0) (h0 : a0.length ≤ 4611686018427387904) :
    Calls Tryd.prog 44 #[v_a0] w (Rt (RP w (.bool (a0.any fun t => decide (65536 < t.length))))) := impl_isLong.walk f_a0 (impl_isLong.eq a0 h0)
/-! impl.first -/
theorem impl_first.walk {k : Nat} {w : World} {a0 : List (Bool ⊕ Int)} {v_a0 : Value} (f_a0 : Rd 1 (encAny 4 3) w v_a0 a0) {r : Int} (H : impl_first.sh k a0 = some r) :
    Calls Tryd.prog 41 #[v_a0] w (Rt (RP w (.int .i64 r))) := by
  unfold impl_first.sh at H
  refine calls_of_W Tryd.func41 rfl (Nat.le_of_ble_eq_true rfl) Tryd.ntmps41 rfl ?_
  refine W_seq <| W_reg <| L_op (.plain rfl) rfl (ltb rfl) (X_assign (v := (.int .i64 0)) rfl) <| L_nil <| thn_n <| W_seq <| W_seq <| W_reg <| L_op (.plain rfl) rfl (ltb rfl) (X_assign (v := (.int .i64 0)) rfl) <| L_nil <| thn_n ?_
  obtain ⟨z2, L3, C4⟩ := bind_some H
  clear H
  refine  W_cutQ (fun s0 sQ wQ => Kp [(2, 34)] s0 sQ ∧ Ext w wQ ∧ z2 = .inr ()) ?_ ?_
  · refine W_block <| W_loopI (fun s0 kk sQ wQ => ∃ (x3_1 : Int), Kp [(2, 34)] s0 sQ ∧ sQ 3 = .int .i64 x3_1 ∧ Ext w wQ ∧ loopF (impl_first.b1 a0) kk x3_1 = some z2) k ⟨0, (Kp.refl _ _), rfl, (Ext.refl w), L3⟩ ?_
    rintro k9 s10 w11 ⟨x3_1, K12, h15, e13, L14⟩
    cases k9 with
    | zero => exact absurd L14 (by simp [loopF])
    | succ k9 =>
      obtain ⟨t16, H, S17⟩ := loopF_succ L14
      clear L14
      unfold impl_first.b1 at H
      refine W_seq <| W_seq <| W_reg <| L_op (.plain rfl) rfl (ltb rfl) (X_move (v := (.int .i64 x3_1)) h15) <| L_op (.plain rfl) rfl (ltb rfl) (X_add rfl rfl) <| L_op (.plain rfl) rfl (ltb rfl) (X_move (v := v_a0) (K12 0 rfl)) <| L_op (.plain rfl) rfl (ltb rfl) (X_lenR Tryd.underlying67 rfl (Rd.ext f_a0 e13)) <| L_op (.plain rfl) rfl (ltb rfl) (X_lss rfl rfl) <| L_nil <| thn_n ?_
      rcases bif_two H with ⟨q18, H⟩ | ⟨q18, H⟩
      · refine W_true (congrArg Value.bool q18) <| W_skip <| thn_n <| W_seq <| W_block <| W_seq <| W_reg <| L_op (.plain rfl) rfl (ltb rfl) (X_move (v := v_a0) (K12 0 rfl)) <| L_op (.plain rfl) rfl (ltb rfl) (X_move (v := (.int .i64 x3_1)) h15) ?_
        obtain ⟨c19, H⟩ := bif_some H
        refine L_idx (.plain rfl) rfl (ltb rfl) rfl Tryd.underlying67 Tryd.sizeOf20 rfl (Rd.ext f_a0 e13) rfl c19 <| fun p20 h21 => L_op (.plain rfl) rfl (ltb rfl) (X_loadAt Tryd.isAgg20 rfl h21 rfl) <| L_op (.plain rfl) rfl (ltb rfl) (X_taB Tryd.underlying4 Tryd.zeroValue4 (by decide) rfl) <| L_op (.plain rfl) rfl (ltb rfl) (X_move (v := (.tuple #[(.bool (anyB (gt a0 x3_1))), (.bool (isB (gt a0 x3_1)))])) rfl) <| L_op (.plain rfl) rfl (ltb rfl) (X_extract (v := (.bool (anyB (gt a0 x3_1)))) rfl rfl) <| L_op (.plain rfl) rfl (ltb rfl) (X_extract (v := (.bool (isB (gt a0 x3_1)))) rfl rfl) <| L_op (.plain rfl) rfl (ltb rfl) (X_assign (v := (.bool (anyB (gt a0 x3_1)))) rfl) <| L_op (.plain rfl) rfl (ltb rfl) (X_assign (v := (.bool (isB (gt a0 x3_1)))) rfl) <| L_nil <| thn_n <| W_seq <| W_reg <| L_op (.plain rfl) rfl (ltb rfl) (X_move (v := (.bool (anyB (gt a0 x3_1)))) rfl) <| L_nil <| thn_n ?_
        rcases bif_two H with ⟨q22, H⟩ | ⟨q22, H⟩
        · refine W_true (congrArg Value.bool q22) <| W_seq <| W_reg <| L_op (.plain rfl) rfl (ltb rfl) (X_move (v := v_a0) (K12 0 rfl)) <| L_op (.plain rfl) rfl (ltb rfl) (X_move (v := (.int .i64 x3_1)) h15) <| L_op (.plain rfl) rfl (ltb rfl) (X_add rfl rfl) ?_
          obtain ⟨c23, H⟩ := bif_some H
          refine L_idx (.plain rfl) rfl (ltb rfl) rfl Tryd.underlying67 Tryd.sizeOf20 rfl (Rd.ext f_a0 e13) rfl c23 <| fun p24 h25 => L_op (.plain rfl) rfl (ltb rfl) (X_loadAt Tryd.isAgg20 rfl h25 rfl) <| L_op (.plain rfl) rfl (ltb rfl) (X_taI Tryd.underlying3 Tryd.zeroValue3 (by decide) rfl) <| L_op (.plain rfl) rfl (ltb rfl) (X_move rfl) <| L_op (.plain rfl) rfl (ltb rfl) (X_extract (v := (.int .i64 (anyI (gt a0 (IntKind.wrap .i64 (x3_1 + 1)))))) rfl rfl) <| L_op (.plain rfl) rfl (ltb rfl) (X_extract (v := (.bool (!isB (gt a0 (IntKind.wrap .i64 (x3_1 + 1)))))) rfl rfl) <| L_op (.plain rfl) rfl (ltb rfl) (X_assign (v := (.int .i64 (anyI (gt a0 (IntKind.wrap .i64 (x3_1 + 1)))))) rfl) <| L_op (.plain rfl) rfl (ltb rfl) (X_assign (v := (.bool (!isB (gt a0 (IntKind.wrap .i64 (x3_1 + 1)))))) rfl) <| L_nil <| thn_n <| W_seq <| W_reg <| L_op (.plain rfl) rfl (ltb rfl) (X_move (v := (.int .i64 (anyI (gt a0 (IntKind.wrap .i64 (x3_1 + 1)))))) rfl) <| L_op (.plain rfl) rfl (ltb rfl) (X_assign (v := (.int .i64 (anyI (gt a0 (IntKind.wrap .i64 (x3_1 + 1)))))) rfl) <| L_nil <| thn_n <| W_ret <| blk_r <| thn_r <| thn_r <| blk_r <| thn_r <| thn_r <| fin_r ?_
          obtain rfl := Option.some.inj H
          obtain rfl := Option.some.inj S17
          have H := C4
          obtain rfl := Option.some.inj H
          exact fin1 rfl e13
        · refine W_false (congrArg Value.bool q22) <| W_skip <| blk_n <| thn_n <| W_reg <| L_op (.plain rfl) rfl (ltb rfl) (X_move (v := (.int .i64 x3_1)) h15) <| L_op (.plain rfl) rfl (ltb rfl) (X_add rfl rfl) <| L_op (.plain rfl) rfl (ltb rfl) (X_assign (v := (.int .i64 (IntKind.wrap .i64 (x3_1 + 2)))) rfl) <| L_nil <| thn_n ?_
          obtain rfl := Option.some.inj H
          exact ⟨_, Nat.lt_succ_self _, IntKind.wrap .i64 (x3_1 + 2), (Kp.upd (Kp.upd (Kp.upd (Kp.upd (Kp.upd (Kp.upd (Kp.upd (Kp.upd (Kp.upd (Kp.upd (Kp.upd (Kp.upd (Kp.upd (Kp.upd (Kp.upd (Kp.upd (Kp.upd (Kp.upd (Kp.upd K12 rfl) rfl) rfl) rfl) rfl) rfl) rfl) rfl) rfl) rfl) rfl) rfl) rfl) rfl) rfl) rfl) rfl) rfl) rfl), rfl, e13, S17⟩
      · refine W_false (congrArg Value.bool q18) <| W_exit <| thn_x <| thn_x <| blk_x <| thn_n ?_
        obtain rfl := Option.some.inj H
        obtain rfl := Option.some.inj S17
        exact ⟨(Kp.upd (Kp.upd (Kp.upd (Kp.upd (Kp.upd K12 rfl) rfl) rfl) rfl) rfl), e13, rfl⟩
  · rintro s6 w5 ⟨K7, e8, y26⟩
    rw [y26] at C4
    have H := C4
    replace H : _ = some _ := H
    refine thn_n <| W_seq <| W_reg <| L_op (.plain rfl) rfl (ltb rfl) (X_assign (v := (.int .i64 0)) rfl) <| L_nil <| thn_n <| W_ret <| fin_r ?_
    obtain rfl := Option.some.inj H
    exact fin1 rfl e8
theorem impl_first.calls {w : World} {a0 : List (Bool ⊕ Int)} {v_a0 : Value} (f_a0 : Rd 1 (encAny 4 3) w v_a0 a0) (h0 : a0.length ≤ 4611686018427387904) :
    Calls Tryd.prog 41 #[v_a0] w (Rt (RP w (.int .i64 (firstOf a0)))) := by
  obtain ⟨k, h⟩ := impl_first.eq a0 h0
  exact impl_first.walk f_a0 h
/-! spec.l01OK -/
theorem spec_l01OK.walk {k : Nat} {w : World} {a0 : List UInt8} {r : Bool} (H : spec_l01OK.sh k a0 = some r) :
    Calls Tryd.prog 55 #[S a0] w (Rt (RP w (.bool r))) := by
  unfold spec_l01OK.sh at H
  refine calls_of_W Tryd.func55 rfl (Nat.le_of_ble_eq_true rfl) Tryd.ntmps55 rfl ?_
  refine W_seq <| W_reg <| L_op (.plain rfl) rfl (ltb rfl) (X_assign (v := (.bool false)) rfl) <| L_nil <| thn_n <| W_seq <| W_seq <| W_reg <| L_op (.plain rfl) rfl (ltb rfl) (X_move (v := (S a0)) rfl) <| L_op (.plain rfl) rfl (ltb rfl) (X_lenS Tryd.underlying9 rfl) <| L_op (.plain rfl) rfl (ltb rfl) (X_gtr rfl rfl) <| L_nil <| thn_n ?_
  rcases bif_two H with ⟨q1, H⟩ | ⟨q1, H⟩
  · refine W_true (congrArg Value.bool q1) <| W_seq <| W_reg <| L_op (.plain rfl) rfl (ltb rfl) (X_assign (v := (.bool false)) rfl) <| L_nil <| thn_n <| W_ret <| thn_r <| fin_r ?_
    obtain rfl := Option.some.inj H
    exact fin1 rfl (Ext.refl w)
  · refine W_false (congrArg Value.bool q1) <| W_skip <| thn_n <| W_seq <| W_reg <| L_op (.plain rfl) rfl (ltb rfl) (X_move (v := (S a0)) rfl) ?_
    obtain ⟨c2, H⟩ := bif_some H
    refine L_callO (.plain rfl) rfl (ltb rfl) rfl Tryd.call47 (spec_l00Cut.calls (w := w) (a0 := a0) (a1 := 47) (of_decide_eq_true c2)) rfl <| fun v5 w3 e4 o6 => L_op (.plain rfl) rfl (ltb rfl) (X_assign (v := v5) rfl) <| L_nil <| thn_n <| W_seq <| W_seq <| W_reg <| L_op (.plain rfl) rfl (ltb rfl) (X_move (v := v5) rfl) <| L_op (.plain rfl) rfl (ltb rfl) (X_lenR Tryd.underlying27 rfl (Ow.rd o6)) <| L_op (.plain rfl) rfl (ltb rfl) (X_gtr rfl rfl) <| L_nil <| thn_n ?_
    rcases bif_two H with ⟨q7, H⟩ | ⟨q7, H⟩
    · refine W_true (congrArg Value.bool q7) <| W_seq <| W_reg <| L_op (.plain rfl) rfl (ltb rfl) (X_assign (v := (.bool false)) rfl) <| L_nil <| thn_n <| W_ret <| thn_r <| fin_r ?_
      obtain rfl := Option.some.inj H
      exact fin1 rfl e4
    · refine W_false (congrArg Value.bool q7) <| W_skip <| thn_n <| W_seq <| W_seq <| W_reg <| L_op (.plain rfl) rfl (ltb rfl) (X_assign (v := (.int .i64 0)) rfl) <| L_nil <| thn_n ?_
      obtain ⟨z9, L10, C11⟩ := bind_some H
      clear H
      refine  W_cutQ (fun s0 sQ wQ => Kp [(2, 3), (4, 5), (13, 25)] s0 sQ ∧ Ext w3 wQ ∧ z9 = .inr ()) ?_ ?_
      · refine W_block <| W_loopI (fun s0 kk sQ wQ => ∃ (x4_8 : Int), Kp [(2, 3), (4, 5), (13, 25)] s0 sQ ∧ sQ 4 = .int .i64 x4_8 ∧ Ext w3 wQ ∧ loopF (spec_l01OK.b1 a0) kk x4_8 = some z9) k ⟨0, (Kp.refl _ _), rfl, (Ext.refl w3), L10⟩ ?_
        rintro k16 s17 w18 ⟨x4_8, K19, h22, e20, L21⟩
        cases k16 with
        | zero => exact absurd L21 (by simp [loopF])
        | succ k16 =>
          obtain ⟨t23, H, S24⟩ := loopF_succ L21
          clear L21
          unfold spec_l01OK.b1 at H
          refine W_seq <| W_seq <| W_reg <| L_op (.plain rfl) rfl (ltb rfl) (X_move (v := (.int .i64 x4_8)) h22) <| L_op (.plain rfl) rfl (ltb rfl) (X_move (v := v5) (K19 3 rfl)) <| L_op (.plain rfl) rfl (ltb rfl) (X_lenR Tryd.underlying27 rfl (Ow.rd (Ow.ext o6 e20))) <| L_op (.plain rfl) rfl (ltb rfl) (X_lss rfl rfl) <| L_nil <| thn_n ?_
          rcases bif_two H with ⟨q25, H⟩ | ⟨q25, H⟩
          · refine W_true (congrArg Value.bool q25) <| W_skip <| thn_n <| W_seq <| W_block <| W_seq <| W_reg <| L_op (.plain rfl) rfl (ltb rfl) (X_move (v := v5) (K19 3 rfl)) <| L_op (.plain rfl) rfl (ltb rfl) (X_move (v := (.int .i64 x4_8)) h22) ?_
            obtain ⟨c26, H⟩ := bif_some H
            refine L_idx (.plain rfl) rfl (ltb rfl) rfl Tryd.underlying27 Tryd.sizeOf9 rfl (Ow.rd (Ow.ext o6 e20)) rfl c26 <| fun p27 h28 => L_op (.plain rfl) rfl (ltb rfl) (X_loadAt Tryd.isAgg9 rfl h28 rfl) <| L_callP (.plain rfl) rfl (ltb rfl) rfl Tryd.call58 (spec_l01Part.calls (w := w18) (a0 := gt (cut 47 a0) x4_8)) rfl <| fun w29 e30 => L_op (.plain rfl) rfl (ltb rfl) (X_not rfl) <| L_nil <| thn_n ?_
            rcases bif_two H with ⟨q31, H⟩ | ⟨q31, H⟩
            · refine W_true (congrArg Value.bool q31) <| W_seq <| W_reg <| L_op (.plain rfl) rfl (ltb rfl) (X_assign (v := (.bool false)) rfl) <| L_nil <| thn_n <| W_ret <| blk_r <| thn_r <| thn_r <| blk_r <| thn_r <| thn_r <| fin_r ?_
              obtain rfl := Option.some.inj H
              obtain rfl := Option.some.inj S24
              have H := C11
              obtain rfl := Option.some.inj H
              exact fin1 rfl (Ext.trans (Ext.trans e4 e20) e30)
            · refine W_false (congrArg Value.bool q31) <| W_skip <| blk_n <| thn_n <| W_reg <| L_op (.plain rfl) rfl (ltb rfl) (X_move (v := (.int .i64 x4_8)) h22) <| L_op (.plain rfl) rfl (ltb rfl) (X_add rfl rfl) <| L_op (.plain rfl) rfl (ltb rfl) (X_assign (v := (.int .i64 (IntKind.wrap .i64 (x4_8 + 1)))) rfl) <| L_nil <| thn_n ?_
              obtain rfl := Option.some.inj H
              exact ⟨_, Nat.lt_succ_self _, IntKind.wrap .i64 (x4_8 + 1), (Kp.upd (Kp.upd (Kp.upd (Kp.upd (Kp.upd (Kp.upd (Kp.upd (Kp.upd (Kp.upd (Kp.upd (Kp.upd (Kp.upd (Kp.upd K19 rfl) rfl) rfl) rfl) rfl) rfl) rfl) rfl) rfl) rfl) rfl) rfl) rfl), rfl, (Ext.trans e20 e30), S24⟩
          · refine W_false (congrArg Value.bool q25) <| W_exit <| thn_x <| thn_x <| blk_x <| thn_n ?_
            obtain rfl := Option.some.inj H
            obtain rfl := Option.some.inj S24
            exact ⟨(Kp.upd (Kp.upd (Kp.upd (Kp.upd K19 rfl) rfl) rfl) rfl), e20, rfl⟩
      · rintro s13 w12 ⟨K14, e15, y32⟩
        rw [y32] at C11
        have H := C11
        replace H : _ = some _ := H
        refine thn_n <| W_seq <| W_reg <| L_op (.plain rfl) rfl (ltb rfl) (X_assign (v := (.bool true)) rfl) <| L_nil <| thn_n <| W_ret <| fin_r ?_
        obtain rfl := Option.some.inj H
        exact fin1 rfl (Ext.trans e4 e15)
theorem spec_l01OK.calls {w : World} {a0 : List UInt8} :
    Calls Tryd.prog 55 #[S a0] w (Rt (RP w (.bool (pathOK a0)))) := by
  obtain ⟨k, h⟩ := spec_l01OK.eq a0
  exact spec_l01OK.walk h
/-! spec.PathOK -/
theorem spec_PathOK.walk {w : World} {a0 : List UInt8} {r : Bool} (H : spec_PathOK.sh a0 = some r) :
    Calls Tryd.prog 32 #[S a0] w (Rt (RP w (.bool r))) := by
  unfold spec_PathOK.sh at H
  refine calls_of_W Tryd.func32 rfl (Nat.le_of_ble_eq_true rfl) Tryd.ntmps32 rfl ?_
  refine W_seq <| W_reg <| L_op (.plain rfl) rfl (ltb rfl) (X_assign (v := (.bool false)) rfl) <| L_nil <| thn_n <| W_seq <| W_seq <| W_reg <| L_op (.plain rfl) rfl (ltb rfl) (X_move (v := (S a0)) rfl) <| L_op (.plain rfl) rfl (ltb rfl) (X_lenS Tryd.underlying9 rfl) <| L_op (.plain rfl) rfl (ltb rfl) (X_gtr rfl rfl) <| L_nil <| thn_n ?_
  rcases bif_two H with ⟨q1, H⟩ | ⟨q1, H⟩
  · refine W_true (congrArg Value.bool q1) <| W_seq <| W_reg <| L_op (.plain rfl) rfl (ltb rfl) (X_assign (v := (.bool false)) rfl) <| L_nil <| thn_n <| W_ret <| thn_r <| fin_r ?_
    obtain rfl := Option.some.inj H
    exact fin1 rfl (Ext.refl w)
  · refine W_false (congrArg Value.bool q1) <| W_skip <| thn_n <| W_seq <| W_reg <| L_op (.plain rfl) rfl (ltb rfl) (X_move (v := (S a0)) rfl) <| L_callP (.plain rfl) rfl (ltb rfl) rfl Tryd.call55 (spec_l01OK.calls (w := w) (a0 := a0)) rfl <| fun w2 e3 => L_op (.plain rfl) rfl (ltb rfl) (X_assign (v := (.bool (pathOK a0))) rfl) <| L_nil <| thn_n <| W_ret <| fin_r ?_
    obtain rfl := Option.some.inj H
    exact fin1 rfl e3
theorem spec_PathOK.calls {w : World} {a0 : List UInt8} :
    Calls Tryd.prog 32 #[S a0] w (Rt (RP w (.bool (pathOK a0)))) := spec_PathOK.walk (spec_PathOK.eq a0)
/-! spec.l01Below -/
theorem spec_l01Below.walk {w : World} {a0 : List UInt8} {a1 : List UInt8} {r : Bool} (H : spec_l01Below.sh a0 a1 = some r) :
    Calls Tryd.prog 57 #[S a0, S a1] w (Rt (RP w (.bool r))) := by
  unfold spec_l01Below.sh at H
  refine calls_of_W Tryd.func57 rfl (Nat.le_of_ble_eq_true rfl) Tryd.ntmps57 rfl ?_
  refine W_seq <| W_reg <| L_op (.plain rfl) rfl (ltb rfl) (X_assign (v := (.bool false)) rfl) <| L_nil <| thn_n <| W_seq <| W_reg <| L_op (.plain rfl) rfl (ltb rfl) (X_move (v := (S a1)) rfl) <| L_op (.plain rfl) rfl (ltb rfl) (X_lenS Tryd.underlying9 rfl) <| L_op (.plain rfl) rfl (ltb rfl) (X_assign (v := (.int .i64 (a1.length : Int))) rfl) <| L_nil <| thn_n <| W_seq <| W_reg <| L_op (.plain rfl) rfl (ltb rfl) (X_move (v := (S a1)) rfl) <| L_op (.plain rfl) rfl (ltb rfl) (X_seq rfl rfl) <| L_op (.plain rfl) rfl (ltb rfl) (X_move (v := (.bool (decide (a1 = ([] : List UInt8))))) rfl) <| L_grp 3 [(11, 14)] 13 (.bool ((decide (a1 = ([] : List UInt8))) && (!decide (a0 = ([] : List UInt8))))) ?_ ?_
  · rcases bool_two (decide (a1 = ([] : List UInt8))) with b0_ | b0_
    · exact L_op (.guard 2 true 10 rfl rfl (ltb rfl) (congrArg Value.bool b0_)) rfl (ltb rfl) (X_move (v := (S a0)) rfl) <| L_op (.guard 2 true 10 rfl rfl (ltb rfl) (congrArg Value.bool b0_)) rfl (ltb rfl) (X_sne rfl rfl) <| L_op (.plain rfl) rfl (ltb rfl) (X_pick (b := true) (v := (.bool (!decide (a0 = ([] : List UInt8))))) (congrArg Value.bool b0_) rfl) <| L_nil <| thn_n ⟨(Kp.upd (Kp.upd (Kp.upd (Kp.refl _ _) rfl) rfl) rfl), (and_t b0_), (Ext.refl w)⟩
    · exact L_skip rfl rfl (ltb rfl) (congrArg Value.bool b0_) rfl rfl (ltb rfl) <| L_skip rfl rfl (ltb rfl) (congrArg Value.bool b0_) rfl rfl (ltb rfl) <| L_op (.plain rfl) rfl (ltb rfl) (X_pick (b := false) (v := (.bool false)) (congrArg Value.bool b0_) rfl) <| L_nil <| thn_n ⟨(Kp.upd (Kp.upd (Kp.upd (Kp.refl _ _) rfl) rfl) rfl), (and_f b0_), (Ext.refl w)⟩
  intro s6 w2 K3 h4 e5
  refine L_op (.plain rfl) rfl (ltb rfl) (X_move h4) ?_
  obtain ⟨z8, x9, H⟩ := bind_some H
  refine L_grpE 18 [(15, 33)] 32 (fun q => q = z8) ?_ ?_
  · rcases bif_two x9 with ⟨b6_, H⟩ | ⟨b6_, H⟩
    · refine L_skip rfl rfl (ltb rfl) (congrArg Value.bool b6_) rfl rfl (ltb rfl) <| L_skip rfl rfl (ltb rfl) (congrArg Value.bool b6_) rfl rfl (ltb rfl) <| L_skip rfl rfl (ltb rfl) (congrArg Value.bool b6_) rfl rfl (ltb rfl) <| L_skip rfl rfl (ltb rfl) (congrArg Value.bool b6_) rfl rfl (ltb rfl) <| L_skip rfl rfl (ltb rfl) (congrArg Value.bool b6_) rfl rfl (ltb rfl) <| L_skipU rfl rfl (ltb rfl) rfl rfl (ltb rfl) <| L_skipU rfl rfl (ltb rfl) rfl rfl (ltb rfl) <| L_skipU rfl rfl (ltb rfl) rfl rfl (ltb rfl) <| L_skipU rfl rfl (ltb rfl) rfl rfl (ltb rfl) <| L_skipU rfl rfl (ltb rfl) rfl rfl (ltb rfl) <| L_skip rfl rfl (ltb rfl) (congrArg Value.bool b6_) rfl rfl (ltb rfl) <| L_skip rfl rfl (ltb rfl) (congrArg Value.bool b6_) rfl rfl (ltb rfl) <| L_skipU rfl rfl (ltb rfl) rfl rfl (ltb rfl) <| L_skipU rfl rfl (ltb rfl) rfl rfl (ltb rfl) <| L_skipU rfl rfl (ltb rfl) rfl rfl (ltb rfl) <| L_skipU rfl rfl (ltb rfl) rfl rfl (ltb rfl) <| L_skip rfl rfl (ltb rfl) (congrArg Value.bool b6_) rfl rfl (ltb rfl) <| L_op (.plain rfl) rfl (ltb rfl) (X_pick (b := true) (v := (.bool true)) (congrArg Value.bool b6_) rfl) ?_
      obtain rfl := Option.some.inj H
      exact L_nil <| thn_n ⟨(Kp.upd (Kp.upd (Kp.upd (Kp.upd (Kp.upd (Kp.upd (Kp.upd (Kp.upd (Kp.upd (Kp.upd (Kp.upd (Kp.upd (Kp.upd (Kp.upd (Kp.upd (Kp.upd (Kp.upd (Kp.upd (Kp.refl _ _) rfl) rfl) rfl) rfl) rfl) rfl) rfl) rfl) rfl) rfl) rfl) rfl) rfl) rfl) rfl) rfl) rfl) rfl), ⟨_, rfl, rfl⟩, (Ext.refl w2)⟩
    · refine L_op (.guard 6 false 14 rfl rfl (ltb rfl) (congrArg Value.bool b6_)) rfl (ltb rfl) (X_move (v := (S a0)) (K3 0 rfl)) <| L_op (.guard 6 false 14 rfl rfl (ltb rfl) (congrArg Value.bool b6_)) rfl (ltb rfl) (X_lenS Tryd.underlying9 rfl) <| L_op (.guard 6 false 14 rfl rfl (ltb rfl) (congrArg Value.bool b6_)) rfl (ltb rfl) (X_move (v := (.int .i64 (a1.length : Int))) (K3 5 rfl)) <| L_op (.guard 6 false 14 rfl rfl (ltb rfl) (congrArg Value.bool b6_)) rfl (ltb rfl) (X_gtr rfl rfl) <| L_op (.guard 6 false 14 rfl rfl (ltb rfl) (congrArg Value.bool b6_)) rfl (ltb rfl) (X_move (v := (.bool (decide ((a1.length : Int) < (a0.length : Int))))) rfl) ?_
      obtain ⟨z9, x10, H⟩ := bind_some H
      refine L_grpE 6 [(20, 26)] 25 (fun q => q = z9) ?_ ?_
      · rcases bif_two x10 with ⟨b7_, H⟩ | ⟨b7_, H⟩
        · refine L_op (.guard 11 true 19 rfl rfl (ltb rfl) (congrArg Value.bool b7_)) rfl (ltb rfl) (X_move (v := (S a0)) (K3 0 rfl)) <| L_op (.guard 11 true 19 rfl rfl (ltb rfl) (congrArg Value.bool b7_)) rfl (ltb rfl) (X_move (v := (.int .i64 (a1.length : Int))) (K3 5 rfl)) ?_
          obtain ⟨c9, H⟩ := bif_some H
          refine L_op (.guard 11 true 19 rfl rfl (ltb rfl) (congrArg Value.bool b7_)) rfl (ltb rfl) (X_sliceS Tryd.underlying9 rfl (l := 0) (h := (a1.length : Int)) rfl ⟨_, rfl⟩ (inS_1 c9) (inS_2 c9) (inS_3 c9)) <| L_op (.guard 11 true 19 rfl rfl (ltb rfl) (congrArg Value.bool b7_)) rfl (ltb rfl) (X_move (v := (S a1)) (K3 1 rfl)) <| L_op (.guard 11 true 19 rfl rfl (ltb rfl) (congrArg Value.bool b7_)) rfl (ltb rfl) (X_seq rfl rfl) <| L_op (.guard 6 false 14 rfl rfl (ltb rfl) (congrArg Value.bool b6_)) rfl (ltb rfl) (X_pick (b := true) (v := (.bool (decide ((sub a0 0 (a1.length : Int)) = a1)))) (congrArg Value.bool b7_) rfl) ?_
          obtain rfl := Option.some.inj H
          exact L_nil <| thn_n ⟨(Kp.upd (Kp.upd (Kp.upd (Kp.upd (Kp.upd (Kp.upd (Kp.refl _ _) rfl) rfl) rfl) rfl) rfl) rfl), ⟨_, rfl, rfl⟩, (Ext.refl w2)⟩
        · refine L_skip rfl rfl (ltb rfl) (congrArg Value.bool b7_) rfl rfl (ltb rfl) <| L_skip rfl rfl (ltb rfl) (congrArg Value.bool b7_) rfl rfl (ltb rfl) <| L_skip rfl rfl (ltb rfl) (congrArg Value.bool b7_) rfl rfl (ltb rfl) <| L_skip rfl rfl (ltb rfl) (congrArg Value.bool b7_) rfl rfl (ltb rfl) <| L_skip rfl rfl (ltb rfl) (congrArg Value.bool b7_) rfl rfl (ltb rfl) <| L_op (.guard 6 false 14 rfl rfl (ltb rfl) (congrArg Value.bool b6_)) rfl (ltb rfl) (X_pick (b := false) (v := (.bool false)) (congrArg Value.bool b7_) rfl) ?_
          obtain rfl := Option.some.inj H
          exact L_nil <| thn_n ⟨(Kp.upd (Kp.upd (Kp.upd (Kp.upd (Kp.upd (Kp.upd (Kp.refl _ _) rfl) rfl) rfl) rfl) rfl) rfl), ⟨_, rfl, rfl⟩, (Ext.refl w2)⟩
      intro s15 w11 z16 K12 hq h13 e14
      rw [hq] at h13; clear hq
      refine L_op (.guard 6 false 14 rfl rfl (ltb rfl) ((K12 14 rfl).trans (congrArg Value.bool b6_))) rfl (ltb rfl) (X_move (v := (.bool z9)) h13) ?_
      obtain ⟨z18, x19, H⟩ := bind_some H
      refine L_grpE 5 [(27, 32)] 31 (fun q => q = z18) ?_ ?_
      · rcases bif_two x19 with ⟨b16_, H⟩ | ⟨b16_, H⟩
        · refine L_op (.guard 18 true 26 rfl rfl (ltb rfl) (congrArg Value.bool b16_)) rfl (ltb rfl) (X_move (v := (S a0)) ((K12 0 rfl).trans (K3 0 rfl))) <| L_op (.guard 18 true 26 rfl rfl (ltb rfl) (congrArg Value.bool b16_)) rfl (ltb rfl) (X_move (v := (.int .i64 (a1.length : Int))) ((K12 5 rfl).trans (K3 5 rfl))) ?_
          obtain ⟨c18, H⟩ := bif_some H
          refine L_op (.guard 18 true 26 rfl rfl (ltb rfl) (congrArg Value.bool b16_)) rfl (ltb rfl) (X_indexS Tryd.underlying9 rfl rfl (inR_lo c18) (inR_hi c18)) <| L_op (.guard 18 true 26 rfl rfl (ltb rfl) (congrArg Value.bool b16_)) rfl (ltb rfl) (X_eql rfl rfl) <| L_op (.guard 6 false 14 rfl rfl (ltb rfl) ((K12 14 rfl).trans (congrArg Value.bool b6_))) rfl (ltb rfl) (X_pick (b := true) (v := (.bool (decide ((byt a0 (a1.length : Int)) = 47)))) (congrArg Value.bool b16_) rfl) ?_
          obtain rfl := Option.some.inj H
          exact L_nil <| thn_n ⟨(Kp.upd (Kp.upd (Kp.upd (Kp.upd (Kp.upd (Kp.refl _ _) rfl) rfl) rfl) rfl) rfl), ⟨_, rfl, rfl⟩, (Ext.refl w11)⟩
        · refine L_skip rfl rfl (ltb rfl) (congrArg Value.bool b16_) rfl rfl (ltb rfl) <| L_skip rfl rfl (ltb rfl) (congrArg Value.bool b16_) rfl rfl (ltb rfl) <| L_skip rfl rfl (ltb rfl) (congrArg Value.bool b16_) rfl rfl (ltb rfl) <| L_skip rfl rfl (ltb rfl) (congrArg Value.bool b16_) rfl rfl (ltb rfl) <| L_op (.guard 6 false 14 rfl rfl (ltb rfl) ((K12 14 rfl).trans (congrArg Value.bool b6_))) rfl (ltb rfl) (X_pick (b := false) (v := (.bool false)) (congrArg Value.bool b16_) rfl) ?_
          obtain rfl := Option.some.inj H
          exact L_nil <| thn_n ⟨(Kp.upd (Kp.upd (Kp.upd (Kp.upd (Kp.upd (Kp.refl _ _) rfl) rfl) rfl) rfl) rfl), ⟨_, rfl, rfl⟩, (Ext.refl w11)⟩
      intro s24 w20 z25 K21 hq h22 e23
      rw [hq] at h22; clear hq
      refine L_op (.plain rfl) rfl (ltb rfl) (X_pick (b := false) (v := (.bool z18)) (((K21 14 rfl).trans (K12 14 rfl)).trans (congrArg Value.bool b6_)) h22) ?_
      obtain rfl := Option.some.inj H
      exact L_nil <| thn_n ⟨(Kp.upd (Kp.cut (Kp.upd (Kp.cut (Kp.upd (Kp.upd (Kp.upd (Kp.upd (Kp.upd (Kp.refl _ _) rfl) rfl) rfl) rfl) rfl) K12 rfl) rfl) K21 rfl) rfl), ⟨_, rfl, rfl⟩, (Ext.trans e14 e23)⟩
  intro s26 w10 z27 K11 hq h12 e13
  rw [hq] at h12; clear hq
  refine L_op (.plain rfl) rfl (ltb rfl) (X_assign (v := (.bool z8)) h12) <| L_nil <| thn_n <| W_ret <| fin_r ?_
  obtain rfl := Option.some.inj H
  exact fin1 rfl (Ext.trans e5 e13)
theorem spec_l01Below.calls {w : World} {a0 : List UInt8} {a1 : List UInt8} :
    Calls Tryd.prog 57 #[S a0, S a1] w (Rt (RP w (.bool ((decide (a1 = []) && !decide (a0 = [])) || belowP a0 a1)))) := spec_l01Below.walk (spec_l01Below.eq a0 a1)
/-! spec.IsBelow -/
theorem spec_IsBelow.walk {w : World} {a0 : List UInt8} {a1 : List UInt8} {r : Bool} (H : spec_IsBelow.sh a0 a1 = some r) :
    Calls Tryd.prog 30 #[S a0, S a1] w (Rt (RP w (.bool r))) := by
  unfold spec_IsBelow.sh at H
  refine calls_of_W Tryd.func30 rfl (Nat.le_of_ble_eq_true rfl) Tryd.ntmps30 rfl ?_
  refine W_seq <| W_reg <| L_op (.plain rfl) rfl (ltb rfl) (X_assign (v := (.bool false)) rfl) <| L_nil <| thn_n <| W_seq <| W_seq <| W_reg <| L_op (.plain rfl) rfl (ltb rfl) (X_move (v := (S a0)) rfl) <| L_op (.plain rfl) rfl (ltb rfl) (X_lenS Tryd.underlying9 rfl) <| L_op (.plain rfl) rfl (ltb rfl) (X_gtr rfl rfl) <| L_op (.plain rfl) rfl (ltb rfl) (X_move (v := (.bool (decide (65536 < (a0.length : Int))))) rfl) <| L_grp 4 [(9, 13)] 12 (.bool ((decide (65536 < (a0.length : Int))) || (decide (65536 < (a1.length : Int))))) ?_ ?_
  · rcases bool_two (decide (65536 < (a0.length : Int))) with b0_ | b0_
    · exact L_skip rfl rfl (ltb rfl) (congrArg Value.bool b0_) rfl rfl (ltb rfl) <| L_skip rfl rfl (ltb rfl) (congrArg Value.bool b0_) rfl rfl (ltb rfl) <| L_skip rfl rfl (ltb rfl) (congrArg Value.bool b0_) rfl rfl (ltb rfl) <| L_op (.plain rfl) rfl (ltb rfl) (X_pick (b := true) (v := (.bool true)) (congrArg Value.bool b0_) rfl) <| L_nil <| thn_n ⟨(Kp.upd (Kp.upd (Kp.upd (Kp.upd (Kp.refl _ _) rfl) rfl) rfl) rfl), (or_t b0_), (Ext.refl w)⟩
    · exact L_op (.guard 3 false 8 rfl rfl (ltb rfl) (congrArg Value.bool b0_)) rfl (ltb rfl) (X_move (v := (S a1)) rfl) <| L_op (.guard 3 false 8 rfl rfl (ltb rfl) (congrArg Value.bool b0_)) rfl (ltb rfl) (X_lenS Tryd.underlying9 rfl) <| L_op (.guard 3 false 8 rfl rfl (ltb rfl) (congrArg Value.bool b0_)) rfl (ltb rfl) (X_gtr rfl rfl) <| L_op (.plain rfl) rfl (ltb rfl) (X_pick (b := false) (v := (.bool (decide (65536 < (a1.length : Int))))) (congrArg Value.bool b0_) rfl) <| L_nil <| thn_n ⟨(Kp.upd (Kp.upd (Kp.upd (Kp.upd (Kp.refl _ _) rfl) rfl) rfl) rfl), (or_f b0_), (Ext.refl w)⟩
  intro s6 w2 K3 h4 e5
  refine L_nil <| thn_n ?_
  rcases bif_two H with ⟨q7, H⟩ | ⟨q7, H⟩
  · refine W_true (h4.trans (congrArg Value.bool q7)) <| W_seq <| W_reg <| L_op (.plain rfl) rfl (ltb rfl) (X_assign (v := (.bool false)) rfl) <| L_nil <| thn_n <| W_ret <| thn_r <| fin_r ?_
    obtain rfl := Option.some.inj H
    exact fin1 rfl e5
  · refine W_false (h4.trans (congrArg Value.bool q7)) <| W_skip <| thn_n <| W_seq <| W_reg <| L_op (.plain rfl) rfl (ltb rfl) (X_move (v := (S a0)) (K3 0 rfl)) <| L_callP (.plain rfl) rfl (ltb rfl) rfl Tryd.call55 (spec_l01OK.calls (w := w2) (a0 := a0)) rfl <| fun w8 e9 => L_op (.plain rfl) rfl (ltb rfl) (X_move (v := (.bool (pathOK a0))) rfl) <| L_grp 7 [(16, 23)] 22 (.bool ((pathOK a0) && ((decide (a1 = ([] : List UInt8))) || (pathOK a1)))) ?_ ?_
    · rcases bool_two (pathOK a0) with b9_ | b9_
      · refine L_op (.guard 2 true 15 rfl rfl (ltb rfl) (congrArg Value.bool b9_)) rfl (ltb rfl) (X_move (v := (S a1)) (K3 1 rfl)) <| L_op (.guard 2 true 15 rfl rfl (ltb rfl) (congrArg Value.bool b9_)) rfl (ltb rfl) (X_seq rfl rfl) <| L_op (.guard 2 true 15 rfl rfl (ltb rfl) (congrArg Value.bool b9_)) rfl (ltb rfl) (X_move (v := (.bool (decide (a1 = ([] : List UInt8))))) rfl) <| L_grp 3 [(19, 22)] 21 (.bool ((decide (a1 = ([] : List UInt8))) || (pathOK a1))) ?_ ?_
        · rcases bool_two (decide (a1 = ([] : List UInt8))) with b10_ | b10_
          · exact L_skip rfl rfl (ltb rfl) (congrArg Value.bool b10_) rfl rfl (ltb rfl) <| L_skip rfl rfl (ltb rfl) (congrArg Value.bool b10_) rfl rfl (ltb rfl) <| L_op (.guard 2 true 15 rfl rfl (ltb rfl) (congrArg Value.bool b9_)) rfl (ltb rfl) (X_pick (b := true) (v := (.bool true)) (congrArg Value.bool b10_) rfl) <| L_nil <| thn_n ⟨(Kp.upd (Kp.upd (Kp.upd (Kp.refl _ _) rfl) rfl) rfl), (or_t b10_), (Ext.refl w8)⟩
          · exact L_op (.guard 5 false 18 rfl rfl (ltb rfl) (congrArg Value.bool b10_)) rfl (ltb rfl) (X_move (v := (S a1)) (K3 1 rfl)) <| L_callP (.guard 5 false 18 rfl rfl (ltb rfl) (congrArg Value.bool b10_)) rfl (ltb rfl) rfl Tryd.call55 (spec_l01OK.calls (w := w8) (a0 := a1)) rfl <| fun w12 e13 => L_op (.guard 2 true 15 rfl rfl (ltb rfl) (congrArg Value.bool b9_)) rfl (ltb rfl) (X_pick (b := false) (v := (.bool (pathOK a1))) (congrArg Value.bool b10_) rfl) <| L_nil <| thn_n ⟨(Kp.upd (Kp.upd (Kp.upd (Kp.refl _ _) rfl) rfl) rfl), (or_f b10_), e13⟩
        intro s16 w12 K13 h14 e15
        exact L_op (.plain rfl) rfl (ltb rfl) (X_pick (b := true) (v := (.bool ((decide (a1 = ([] : List UInt8))) || (pathOK a1)))) ((K13 15 rfl).trans (congrArg Value.bool b9_)) h14) <| L_nil <| thn_n ⟨(Kp.upd (Kp.cut (Kp.upd (Kp.upd (Kp.upd (Kp.refl _ _) rfl) rfl) rfl) K13 rfl) rfl), (and_t b9_), e15⟩
      · exact L_skip rfl rfl (ltb rfl) (congrArg Value.bool b9_) rfl rfl (ltb rfl) <| L_skip rfl rfl (ltb rfl) (congrArg Value.bool b9_) rfl rfl (ltb rfl) <| L_skip rfl rfl (ltb rfl) (congrArg Value.bool b9_) rfl rfl (ltb rfl) <| L_skipU rfl rfl (ltb rfl) rfl rfl (ltb rfl) <| L_skipU rfl rfl (ltb rfl) rfl rfl (ltb rfl) <| L_skip rfl rfl (ltb rfl) (congrArg Value.bool b9_) rfl rfl (ltb rfl) <| L_op (.plain rfl) rfl (ltb rfl) (X_pick (b := false) (v := (.bool false)) (congrArg Value.bool b9_) rfl) <| L_nil <| thn_n ⟨(Kp.upd (Kp.upd (Kp.upd (Kp.upd (Kp.upd (Kp.upd (Kp.upd (Kp.refl _ _) rfl) rfl) rfl) rfl) rfl) rfl) rfl), (and_f b9_), (Ext.refl w8)⟩
    intro s17 w11 K12 h13 e14
    refine L_op (.plain rfl) rfl (ltb rfl) (X_move h13) <| L_grp 4 [(24, 28)] 27 (.bool (((pathOK a0) && ((decide (a1 = ([] : List UInt8))) || (pathOK a1))) && ((decide (a1 = []) && !decide (a0 = [])) || belowP a0 a1))) ?_ ?_
    · rcases bool_two ((pathOK a0) && ((decide (a1 = ([] : List UInt8))) || (pathOK a1))) with b17_ | b17_
      · exact L_op (.guard 10 true 23 rfl rfl (ltb rfl) (congrArg Value.bool b17_)) rfl (ltb rfl) (X_move (v := (S a0)) ((K12 0 rfl).trans (K3 0 rfl))) <| L_op (.guard 10 true 23 rfl rfl (ltb rfl) (congrArg Value.bool b17_)) rfl (ltb rfl) (X_move (v := (S a1)) ((K12 1 rfl).trans (K3 1 rfl))) <| L_callP (.guard 10 true 23 rfl rfl (ltb rfl) (congrArg Value.bool b17_)) rfl (ltb rfl) rfl Tryd.call57 (spec_l01Below.calls (w := w11) (a0 := a0) (a1 := a1)) rfl <| fun w19 e20 => L_op (.plain rfl) rfl (ltb rfl) (X_pick (b := true) (v := (.bool ((decide (a1 = []) && !decide (a0 = [])) || belowP a0 a1))) (congrArg Value.bool b17_) rfl) <| L_nil <| thn_n ⟨(Kp.upd (Kp.upd (Kp.upd (Kp.upd (Kp.refl _ _) rfl) rfl) rfl) rfl), (and_t b17_), e20⟩
      · exact L_skip rfl rfl (ltb rfl) (congrArg Value.bool b17_) rfl rfl (ltb rfl) <| L_skip rfl rfl (ltb rfl) (congrArg Value.bool b17_) rfl rfl (ltb rfl) <| L_skip rfl rfl (ltb rfl) (congrArg Value.bool b17_) rfl rfl (ltb rfl) <| L_op (.plain rfl) rfl (ltb rfl) (X_pick (b := false) (v := (.bool false)) (congrArg Value.bool b17_) rfl) <| L_nil <| thn_n ⟨(Kp.upd (Kp.upd (Kp.upd (Kp.upd (Kp.refl _ _) rfl) rfl) rfl) rfl), (and_f b17_), (Ext.refl w11)⟩
    intro s23 w19 K20 h21 e22
    refine L_op (.plain rfl) rfl (ltb rfl) (X_assign h21) <| L_nil <| thn_n <| W_ret <| fin_r ?_
    obtain rfl := Option.some.inj H
    exact fin1 rfl (Ext.trans (Ext.trans (Ext.trans e5 e9) e14) e22)
theorem spec_IsBelow.calls {w : World} {a0 : List UInt8} {a1 : List UInt8} :
    Calls Tryd.prog 30 #[S a0, S a1] w (Rt (RP w (.bool (isBelow a0 a1)))) := spec_IsBelow.walk (spec_IsBelow.eq a0 a1)
/-! impl.isPlace -/
theorem impl_isPlace.walk {w : World} {a0 : List UInt8} (gv : GV 0 w) {r : Bool} (H : impl_isPlace.sh a0 = some r) :
    Calls Tryd.prog 52 #[S a0] w (Rt (RP w (.bool r))) := by
  unfold impl_isPlace.sh at H
  refine calls_of_W Tryd.func52 rfl (Nat.le_of_ble_eq_true rfl) Tryd.ntmps52 rfl ?_
  refine W_seq <| W_reg <| L_op (.plain rfl) rfl (ltb rfl) (X_assign (v := (.bool false)) rfl) <| L_nil <| thn_n <| W_seq <| W_reg <| L_op (.plain rfl) rfl (ltb rfl) (X_move (v := (S a0)) rfl) <| L_op (.plain rfl) rfl (ltb rfl) (X_seq rfl rfl) <| L_op (.plain rfl) rfl (ltb rfl) (X_move (v := (.bool (decide (a0 = ([] : List UInt8))))) rfl) <| L_grp 3 [(6, 9)] 8 (.bool ((decide (a0 = ([] : List UInt8))) || (pathOK a0))) ?_ ?_
  · rcases bool_two (decide (a0 = ([] : List UInt8))) with b0_ | b0_
    · exact L_skip rfl rfl (ltb rfl) (congrArg Value.bool b0_) rfl rfl (ltb rfl) <| L_skip rfl rfl (ltb rfl) (congrArg Value.bool b0_) rfl rfl (ltb rfl) <| L_op (.plain rfl) rfl (ltb rfl) (X_pick (b := true) (v := (.bool true)) (congrArg Value.bool b0_) rfl) <| L_nil <| thn_n ⟨(Kp.upd (Kp.upd (Kp.upd (Kp.refl _ _) rfl) rfl) rfl), (or_t b0_), (Ext.refl w)⟩
    · exact L_op (.guard 2 false 5 rfl rfl (ltb rfl) (congrArg Value.bool b0_)) rfl (ltb rfl) (X_move (v := (S a0)) rfl) <| L_callP (.guard 2 false 5 rfl rfl (ltb rfl) (congrArg Value.bool b0_)) rfl (ltb rfl) rfl Tryd.call25 (impl_PathOK.calls (w := w) (a0 := a0) gv) rfl <| fun w2 e3 => L_op (.plain rfl) rfl (ltb rfl) (X_pick (b := false) (v := (.bool (pathOK a0))) (congrArg Value.bool b0_) rfl) <| L_nil <| thn_n ⟨(Kp.upd (Kp.upd (Kp.upd (Kp.refl _ _) rfl) rfl) rfl), (or_f b0_), e3⟩
  intro s6 w2 K3 h4 e5
  refine L_op (.plain rfl) rfl (ltb rfl) (X_assign (v := (.bool ((decide (a0 = ([] : List UInt8))) || (pathOK a0)))) h4) <| L_nil <| thn_n <| W_ret <| fin_r ?_
  obtain rfl := Option.some.inj H
  exact fin1 rfl e5
theorem impl_isPlace.calls {w : World} {a0 : List UInt8} (gv : GV 0 w) :
    Calls Tryd.prog 52 #[S a0] w (Rt (RP w (.bool (decide (a0 = []) || pathOK a0)))) := impl_isPlace.walk gv (impl_isPlace.eq a0)
/-! internal/stringslite.HasPrefix -/
theorem strings_HasPrefixL.walk {w : World} {a0 : List UInt8} {a1 : List UInt8} {r : Bool} (H : strings_HasPrefixL.sh a0 a1 = some r) :
    Calls Tryd.prog 77 #[S a0, S a1] w (Rt (RP w (.bool r))) := by
  unfold strings_HasPrefixL.sh at H
  refine calls_of_W Tryd.func77 rfl (Nat.le_of_ble_eq_true rfl) Tryd.ntmps77 rfl ?_
  refine W_seq <| W_reg <| L_op (.plain rfl) rfl (ltb rfl) (X_assign (v := (.bool false)) rfl) <| L_nil <| thn_n <| W_seq <| W_reg <| L_op (.plain rfl) rfl (ltb rfl) (X_move (v := (S a0)) rfl) <| L_op (.plain rfl) rfl (ltb rfl) (X_lenS Tryd.underlying9 rfl) <| L_op (.plain rfl) rfl (ltb rfl) (X_move (v := (S a1)) rfl) <| L_op (.plain rfl) rfl (ltb rfl) (X_lenS Tryd.underlying9 rfl) <| L_op (.plain rfl) rfl (ltb rfl) (X_geq rfl rfl) <| L_op (.plain rfl) rfl (ltb rfl) (X_move (v := (.bool (decide ((a1.length : Int) ≤ (a0.length : Int))))) rfl) ?_
  obtain ⟨z2, x3, H⟩ := bind_some H
  refine L_grpE 7 [(11, 18)] 17 (fun q => q = z2) ?_ ?_
  · rcases bif_two x3 with ⟨b0_, H⟩ | ⟨b0_, H⟩
    · refine L_op (.guard 5 true 10 rfl rfl (ltb rfl) (congrArg Value.bool b0_)) rfl (ltb rfl) (X_move (v := (S a0)) rfl) <| L_op (.guard 5 true 10 rfl rfl (ltb rfl) (congrArg Value.bool b0_)) rfl (ltb rfl) (X_move (v := (S a1)) rfl) <| L_op (.guard 5 true 10 rfl rfl (ltb rfl) (congrArg Value.bool b0_)) rfl (ltb rfl) (X_lenS Tryd.underlying9 rfl) ?_
      obtain ⟨c2, H⟩ := bif_some H
      refine L_op (.guard 5 true 10 rfl rfl (ltb rfl) (congrArg Value.bool b0_)) rfl (ltb rfl) (X_sliceS Tryd.underlying9 rfl (l := 0) (h := (a1.length : Int)) rfl ⟨_, rfl⟩ (inS_1 c2) (inS_2 c2) (inS_3 c2)) <| L_op (.guard 5 true 10 rfl rfl (ltb rfl) (congrArg Value.bool b0_)) rfl (ltb rfl) (X_move (v := (S a1)) rfl) <| L_op (.guard 5 true 10 rfl rfl (ltb rfl) (congrArg Value.bool b0_)) rfl (ltb rfl) (X_seq rfl rfl) <| L_op (.plain rfl) rfl (ltb rfl) (X_pick (b := true) (v := (.bool (decide ((sub a0 0 (a1.length : Int)) = a1)))) (congrArg Value.bool b0_) rfl) ?_
      obtain rfl := Option.some.inj H
      exact L_nil <| thn_n ⟨(Kp.upd (Kp.upd (Kp.upd (Kp.upd (Kp.upd (Kp.upd (Kp.upd (Kp.refl _ _) rfl) rfl) rfl) rfl) rfl) rfl) rfl), ⟨_, rfl, rfl⟩, (Ext.refl w)⟩
    · refine L_skip rfl rfl (ltb rfl) (congrArg Value.bool b0_) rfl rfl (ltb rfl) <| L_skip rfl rfl (ltb rfl) (congrArg Value.bool b0_) rfl rfl (ltb rfl) <| L_skip rfl rfl (ltb rfl) (congrArg Value.bool b0_) rfl rfl (ltb rfl) <| L_skip rfl rfl (ltb rfl) (congrArg Value.bool b0_) rfl rfl (ltb rfl) <| L_skip rfl rfl (ltb rfl) (congrArg Value.bool b0_) rfl rfl (ltb rfl) <| L_skip rfl rfl (ltb rfl) (congrArg Value.bool b0_) rfl rfl (ltb rfl) <| L_op (.plain rfl) rfl (ltb rfl) (X_pick (b := false) (v := (.bool false)) (congrArg Value.bool b0_) rfl) ?_
      obtain rfl := Option.some.inj H
      exact L_nil <| thn_n ⟨(Kp.upd (Kp.upd (Kp.upd (Kp.upd (Kp.upd (Kp.upd (Kp.upd (Kp.refl _ _) rfl) rfl) rfl) rfl) rfl) rfl) rfl), ⟨_, rfl, rfl⟩, (Ext.refl w)⟩
  intro s8 w4 z9 K5 hq h6 e7
  rw [hq] at h6; clear hq
  refine L_op (.plain rfl) rfl (ltb rfl) (X_assign (v := (.bool z2)) h6) <| L_nil <| thn_n <| W_ret <| fin_r ?_
  obtain rfl := Option.some.inj H
  exact fin1 rfl e7
theorem strings_HasPrefixL.calls {w : World} {a0 : List UInt8} {a1 : List UInt8} :
    Calls Tryd.prog 77 #[S a0, S a1] w (Rt (RP w (.bool (List.isPrefixOf a1 a0)))) := strings_HasPrefixL.walk (strings_HasPrefixL.eq a0 a1)
/-! strings.HasPrefix -/
theorem strings_HasPrefix.walk {w : World} {a0 : List UInt8} {a1 : List UInt8} {r : Bool} (H : strings_HasPrefix.sh a0 a1 = some r) :
    Calls Tryd.prog 70 #[S a0, S a1] w (Rt (RP w (.bool r))) := by
  unfold strings_HasPrefix.sh at H
  refine calls_of_W Tryd.func70 rfl (Nat.le_of_ble_eq_true rfl) Tryd.ntmps70 rfl ?_
  refine W_seq <| W_reg <| L_op (.plain rfl) rfl (ltb rfl) (X_assign (v := (.bool false)) rfl) <| L_nil <| thn_n <| W_seq <| W_reg <| L_op (.plain rfl) rfl (ltb rfl) (X_move (v := (S a0)) rfl) <| L_op (.plain rfl) rfl (ltb rfl) (X_move (v := (S a1)) rfl) <| L_callP (.plain rfl) rfl (ltb rfl) rfl Tryd.call77 (strings_HasPrefixL.calls (w := w) (a0 := a0) (a1 := a1)) rfl <| fun w1 e2 => L_op (.plain rfl) rfl (ltb rfl) (X_assign (v := (.bool (List.isPrefixOf a1 a0))) rfl) <| L_nil <| thn_n <| W_ret <| fin_r ?_
  obtain rfl := Option.some.inj H
  exact fin1 rfl e2
theorem strings_HasPrefix.calls {w : World} {a0 : List UInt8} {a1 : List UInt8} :
    Calls Tryd.prog 70 #[S a0, S a1] w (Rt (RP w (.bool (List.isPrefixOf a1 a0)))) := strings_HasPrefix.walk (strings_HasPrefix.eq a0 a1)
/-! impl.below -/
theorem impl_below.walk {w : World} {a0 : List UInt8} {a1 : List UInt8} {r : Bool} (H : impl_below.sh a0 a1 = some r) :
    Calls Tryd.prog 53 #[S a0, S a1] w (Rt (RP w (.bool r))) := by
  unfold impl_below.sh at H
  refine calls_of_W Tryd.func53 rfl (Nat.le_of_ble_eq_true rfl) Tryd.ntmps53 rfl ?_
  refine W_seq <| W_reg <| L_op (.plain rfl) rfl (ltb rfl) (X_assign (v := (.bool false)) rfl) <| L_nil <| thn_n <| W_seq <| W_reg <| L_op (.plain rfl) rfl (ltb rfl) (X_move (v := (S a1)) rfl) <| L_op (.plain rfl) rfl (ltb rfl) (X_seq rfl rfl) <| L_op (.plain rfl) rfl (ltb rfl) (X_move (v := (.bool (decide (a1 = ([] : List UInt8))))) rfl) ?_
  obtain ⟨z2, x3, H⟩ := bind_some H
  refine L_grpE 5 [(8, 13)] 12 (fun q => q = z2) ?_ ?_
  · rcases bif_two x3 with ⟨b0_, H⟩ | ⟨b0_, H⟩
    · refine L_skip rfl rfl (ltb rfl) (congrArg Value.bool b0_) rfl rfl (ltb rfl) <| L_skip rfl rfl (ltb rfl) (congrArg Value.bool b0_) rfl rfl (ltb rfl) <| L_skip rfl rfl (ltb rfl) (congrArg Value.bool b0_) rfl rfl (ltb rfl) <| L_skip rfl rfl (ltb rfl) (congrArg Value.bool b0_) rfl rfl (ltb rfl) <| L_op (.plain rfl) rfl (ltb rfl) (X_pick (b := true) (v := (.bool true)) (congrArg Value.bool b0_) rfl) ?_
      obtain rfl := Option.some.inj H
      exact L_nil <| thn_n ⟨(Kp.upd (Kp.upd (Kp.upd (Kp.upd (Kp.upd (Kp.refl _ _) rfl) rfl) rfl) rfl) rfl), ⟨_, rfl, rfl⟩, (Ext.refl w)⟩
    · refine L_op (.guard 2 false 7 rfl rfl (ltb rfl) (congrArg Value.bool b0_)) rfl (ltb rfl) (X_move (v := (S a0)) rfl) <| L_op (.guard 2 false 7 rfl rfl (ltb rfl) (congrArg Value.bool b0_)) rfl (ltb rfl) (X_move (v := (S a1)) rfl) ?_
      obtain ⟨c2, H⟩ := bif_some H
      refine L_op (.guard 2 false 7 rfl rfl (ltb rfl) (congrArg Value.bool b0_)) rfl (ltb rfl) (X_cat rfl rfl (of_decide_eq_true c2)) <| L_callP (.guard 2 false 7 rfl rfl (ltb rfl) (congrArg Value.bool b0_)) rfl (ltb rfl) rfl Tryd.call70 (strings_HasPrefix.calls (w := w) (a0 := a0) (a1 := a1 ++ ([47] : List UInt8))) rfl <| fun w3 e4 => L_op (.plain rfl) rfl (ltb rfl) (X_pick (b := false) (v := (.bool (List.isPrefixOf (a1 ++ ([47] : List UInt8)) a0))) (congrArg Value.bool b0_) rfl) ?_
      obtain rfl := Option.some.inj H
      exact L_nil <| thn_n ⟨(Kp.upd (Kp.upd (Kp.upd (Kp.upd (Kp.upd (Kp.refl _ _) rfl) rfl) rfl) rfl) rfl), ⟨_, rfl, rfl⟩, e4⟩
  intro s8 w4 z9 K5 hq h6 e7
  rw [hq] at h6; clear hq
  refine L_op (.plain rfl) rfl (ltb rfl) (X_assign (v := (.bool z2)) h6) <| L_nil <| thn_n <| W_ret <| fin_r ?_
  obtain rfl := Option.some.inj H
  exact fin1 rfl e7
theorem impl_below.calls {w : World} {a0 : List UInt8} {a1 : List UInt8} (h0 : a1.length ≤ 1048576) :
    Calls Tryd.prog 53 #[S a0, S a1] w (Rt (RP w (.bool (decide (a1 = []) || belowP a0 a1)))) := impl_below.walk (impl_below.eq a0 a1 h0)
/-! impl.IsBelow -/
theorem impl_IsBelow.walk {w : World} {a0 : List UInt8} {a1 : List UInt8} (gv : GV 0 w) {r : Bool} (H : impl_IsBelow.sh a0 a1 = some r) :
    Calls Tryd.prog 27 #[S a0, S a1] w (Rt (RP w (.bool r))) := by
  unfold impl_IsBelow.sh at H
  refine calls_of_W Tryd.func27 rfl (Nat.le_of_ble_eq_true rfl) Tryd.ntmps27 rfl ?_
  refine W_seq <| W_reg <| L_op (.plain rfl) rfl (ltb rfl) (X_assign (v := (.bool false)) rfl) <| L_nil <| thn_n <| W_seq <| W_reg <| L_op (.plain rfl) rfl (ltb rfl) (X_move (v := (S a0)) rfl) <| L_callP (.plain rfl) rfl (ltb rfl) rfl Tryd.call25 (impl_PathOK.calls (w := w) (a0 := a0) gv) rfl <| fun w1 e2 => L_op (.plain rfl) rfl (ltb rfl) (X_move (v := (.bool (pathOK a0))) rfl) <| L_grp 3 [(8, 11)] 10 (.bool ((pathOK a0) && (decide (a1 = []) || pathOK a1))) ?_ ?_
  · rcases bool_two (pathOK a0) with b2_ | b2_
    · exact L_op (.guard 2 true 7 rfl rfl (ltb rfl) (congrArg Value.bool b2_)) rfl (ltb rfl) (X_move (v := (S a1)) rfl) <| L_callP (.guard 2 true 7 rfl rfl (ltb rfl) (congrArg Value.bool b2_)) rfl (ltb rfl) rfl Tryd.call52 (impl_isPlace.calls (w := w1) (a0 := a1) (GV.ext gv e2)) rfl <| fun w4 e5 => L_op (.plain rfl) rfl (ltb rfl) (X_pick (b := true) (v := (.bool (decide (a1 = []) || pathOK a1))) (congrArg Value.bool b2_) rfl) <| L_nil <| thn_n ⟨(Kp.upd (Kp.upd (Kp.upd (Kp.refl _ _) rfl) rfl) rfl), (and_t b2_), e5⟩
    · exact L_skip rfl rfl (ltb rfl) (congrArg Value.bool b2_) rfl rfl (ltb rfl) <| L_skip rfl rfl (ltb rfl) (congrArg Value.bool b2_) rfl rfl (ltb rfl) <| L_op (.plain rfl) rfl (ltb rfl) (X_pick (b := false) (v := (.bool false)) (congrArg Value.bool b2_) rfl) <| L_nil <| thn_n ⟨(Kp.upd (Kp.upd (Kp.upd (Kp.refl _ _) rfl) rfl) rfl), (and_f b2_), (Ext.refl w1)⟩
  intro s8 w4 K5 h6 e7
  refine L_op (.plain rfl) rfl (ltb rfl) (X_move (v := (.bool ((pathOK a0) && (decide (a1 = []) || pathOK a1)))) h6) ?_
  obtain ⟨z10, x11, H⟩ := bind_some H
  refine L_grpE 4 [(12, 16)] 15 (fun q => q = z10) ?_ ?_
  · rcases bif_two x11 with ⟨b8_, H⟩ | ⟨b8_, H⟩
    · refine L_op (.guard 6 true 11 rfl rfl (ltb rfl) (congrArg Value.bool b8_)) rfl (ltb rfl) (X_move (v := (S a0)) (K5 0 rfl)) <| L_op (.guard 6 true 11 rfl rfl (ltb rfl) (congrArg Value.bool b8_)) rfl (ltb rfl) (X_move (v := (S a1)) (K5 1 rfl)) ?_
      obtain ⟨c10, H⟩ := bif_some H
      refine L_callP (.guard 6 true 11 rfl rfl (ltb rfl) (congrArg Value.bool b8_)) rfl (ltb rfl) rfl Tryd.call53 (impl_below.calls (w := w4) (a0 := a0) (a1 := a1) (of_decide_eq_true c10)) rfl <| fun w11 e12 => L_op (.plain rfl) rfl (ltb rfl) (X_pick (b := true) (v := (.bool (decide (a1 = []) || belowP a0 a1))) (congrArg Value.bool b8_) rfl) ?_
      obtain rfl := Option.some.inj H
      exact L_nil <| thn_n ⟨(Kp.upd (Kp.upd (Kp.upd (Kp.upd (Kp.refl _ _) rfl) rfl) rfl) rfl), ⟨_, rfl, rfl⟩, e12⟩
    · refine L_skip rfl rfl (ltb rfl) (congrArg Value.bool b8_) rfl rfl (ltb rfl) <| L_skip rfl rfl (ltb rfl) (congrArg Value.bool b8_) rfl rfl (ltb rfl) <| L_skip rfl rfl (ltb rfl) (congrArg Value.bool b8_) rfl rfl (ltb rfl) <| L_op (.plain rfl) rfl (ltb rfl) (X_pick (b := false) (v := (.bool false)) (congrArg Value.bool b8_) rfl) ?_
      obtain rfl := Option.some.inj H
      exact L_nil <| thn_n ⟨(Kp.upd (Kp.upd (Kp.upd (Kp.upd (Kp.refl _ _) rfl) rfl) rfl) rfl), ⟨_, rfl, rfl⟩, (Ext.refl w4)⟩
  intro s16 w12 z17 K13 hq h14 e15
  rw [hq] at h14; clear hq
  refine L_op (.plain rfl) rfl (ltb rfl) (X_assign (v := (.bool z10)) h14) <| L_nil <| thn_n <| W_ret <| fin_r ?_
  obtain rfl := Option.some.inj H
  exact fin1 rfl (Ext.trans (Ext.trans e2 e7) e15)
theorem impl_IsBelow.calls {w : World} {a0 : List UInt8} {a1 : List UInt8} (gv : GV 0 w) :
    Calls Tryd.prog 27 #[S a0, S a1] w (Rt (RP w (.bool (isBelow a0 a1)))) := impl_IsBelow.walk gv (impl_IsBelow.eq a0 a1)
/-! impl.join -/
theorem impl_join.walk {w : World} {a0 : List UInt8} {a1 : List UInt8} {r : List UInt8} (H : impl_join.sh a0 a1 = some r) :
    Calls Tryd.prog 51 #[S a0, S a1] w (Rt (RP w (S r))) := by
  unfold impl_join.sh at H
  refine calls_of_W Tryd.func51 rfl (Nat.le_of_ble_eq_true rfl) Tryd.ntmps51 rfl ?_
  refine W_seq <| W_reg <| L_op (.plain rfl) rfl (ltb rfl) (X_assign (v := (S ([] : List UInt8))) rfl) <| L_nil <| thn_n <| W_seq <| W_seq <| W_reg <| L_op (.plain rfl) rfl (ltb rfl) (X_move (v := (S a0)) rfl) <| L_op (.plain rfl) rfl (ltb rfl) (X_seq rfl rfl) <| L_nil <| thn_n ?_
  rcases bif_two H with ⟨q1, H⟩ | ⟨q1, H⟩
  · refine W_true (congrArg Value.bool q1) <| W_seq <| W_reg <| L_op (.plain rfl) rfl (ltb rfl) (X_move (v := (S a1)) rfl) <| L_op (.plain rfl) rfl (ltb rfl) (X_assign (v := (S a1)) rfl) <| L_nil <| thn_n <| W_ret <| thn_r <| fin_r ?_
    obtain rfl := Option.some.inj H
    exact fin1 rfl (Ext.refl w)
  · refine W_false (congrArg Value.bool q1) <| W_skip <| thn_n <| W_seq <| W_reg <| L_op (.plain rfl) rfl (ltb rfl) (X_move (v := (S a0)) rfl) ?_
    obtain ⟨c2, H⟩ := bif_some H
    refine L_op (.plain rfl) rfl (ltb rfl) (X_cat rfl rfl (of_decide_eq_true c2)) <| L_op (.plain rfl) rfl (ltb rfl) (X_move (v := (S a1)) rfl) ?_
    obtain ⟨c3, H⟩ := bif_some H
    refine L_op (.plain rfl) rfl (ltb rfl) (X_cat rfl rfl (of_decide_eq_true c3)) <| L_op (.plain rfl) rfl (ltb rfl) (X_assign (v := (S ((a0 ++ ([47] : List UInt8)) ++ a1))) rfl) <| L_nil <| thn_n <| W_ret <| fin_r ?_
    obtain rfl := Option.some.inj H
    exact fin1 rfl (Ext.refl w)
theorem impl_join.calls {w : World} {a0 : List UInt8} {a1 : List UInt8} (h0 : a0.length ≤ 1048576) (h1 : a1.length ≤ 1048576) :
    Calls Tryd.prog 51 #[S a0, S a1] w (Rt (RP w (S (joinP a0 a1)))) := impl_join.walk (impl_join.eq a0 a1 h0 h1)
/-! impl.JoinPath -/
theorem impl_JoinPath.walk {w : World} {a0 : List UInt8} {a1 : List UInt8} (gv : GV 0 w) {r : List UInt8 × Int} (H : impl_JoinPath.sh a0 a1 = some r) :
    Calls Tryd.prog 26 #[S a0, S a1] w (Rt (RP w (.tuple #[S r.1, .int .i64 r.2]))) := by
  unfold impl_JoinPath.sh at H
  refine calls_of_W Tryd.func26 rfl (Nat.le_of_ble_eq_true rfl) Tryd.ntmps26 rfl ?_
  refine W_seq <| W_reg <| L_op (.plain rfl) rfl (ltb rfl) (X_assign (v := (S ([] : List UInt8))) rfl) <| L_op (.plain rfl) rfl (ltb rfl) (X_assign (v := (.int .i64 0)) rfl) <| L_nil <| thn_n <| W_seq <| W_reg <| L_op (.plain rfl) rfl (ltb rfl) (X_move (v := (S a0)) rfl) <| L_op (.plain rfl) rfl (ltb rfl) (X_move (v := (S a1)) rfl) ?_
  obtain ⟨c1, H⟩ := bif_some H
  obtain ⟨c2, H⟩ := bif_some H
  refine L_callP (.plain rfl) rfl (ltb rfl) rfl Tryd.call51 (impl_join.calls (w := w) (a0 := a0) (a1 := a1) (of_decide_eq_true c1) (of_decide_eq_true c2)) rfl <| fun w3 e4 => L_op (.plain rfl) rfl (ltb rfl) (X_assign (v := (S (joinP a0 a1))) rfl) <| L_nil <| thn_n <| W_seq <| W_seq <| W_reg <| L_op (.plain rfl) rfl (ltb rfl) (X_move (v := (S a0)) rfl) <| L_op (.plain rfl) rfl (ltb rfl) (X_move (v := (S a1)) rfl) <| L_lit (.plain rfl) rfl (ltb rfl) rfl Tryd.underlying27 Tryd.sizeOf9 Tryd.zeroValue9 rfl rfl rfl (vs := [(S a0), (S a1)]) rfl (lit_all rfl) <| fun b5 w6 z7 z8 e9 k10 => ?_
  obtain ⟨c11, H⟩ := bif_some H
  refine L_callP (.plain rfl) rfl (ltb rfl) rfl Tryd.call44 (impl_isLong.calls (w := w6) (a0 := ([a0, a1] : List (List UInt8))) (Ow.rd (Ow.new (xs := [a0, a1]) (sz := 1) (enc := encS) (base := w3.heap.size) k10 (Nat.le_of_eq z7) rfl (fun _ _ => by rfl) (Nat.le_of_ble_eq_true rfl))) (of_decide_eq_true c11)) rfl <| fun w12 e13 => L_op (.plain rfl) rfl (ltb rfl) (X_mkiface Tryd.underlying4 rfl rfl) <| L_op (.plain rfl) rfl (ltb rfl) (X_mkiface Tryd.underlying3 rfl rfl) <| L_op (.plain rfl) rfl (ltb rfl) (X_move (v := (S a0)) rfl) <| L_callP (.plain rfl) rfl (ltb rfl) rfl Tryd.call52 (impl_isPlace.calls (w := w12) (a0 := a0) (GV.ext gv (Ext.trans (Ext.trans e4 e9) e13))) rfl <| fun w14 e15 => L_op (.plain rfl) rfl (ltb rfl) (X_not rfl) <| L_op (.plain rfl) rfl (ltb rfl) (X_move (v := (.bool (!(decide (a0 = []) || pathOK a0)))) rfl) ?_
  obtain ⟨z17, x18, H⟩ := bind_some H
  refine L_grpE 4 [(21, 25)] 24 (fun q => q = z17) ?_ ?_
  · rcases bif_two x18 with ⟨b15_, H⟩ | ⟨b15_, H⟩
    · refine L_skip rfl rfl (ltb rfl) (congrArg Value.bool b15_) rfl rfl (ltb rfl) <| L_skip rfl rfl (ltb rfl) (congrArg Value.bool b15_) rfl rfl (ltb rfl) <| L_skip rfl rfl (ltb rfl) (congrArg Value.bool b15_) rfl rfl (ltb rfl) <| L_op (.plain rfl) rfl (ltb rfl) (X_pick (b := true) (v := (.bool true)) (congrArg Value.bool b15_) rfl) ?_
      obtain rfl := Option.some.inj H
      exact L_nil <| thn_n ⟨(Kp.upd (Kp.upd (Kp.upd (Kp.upd (Kp.refl _ _) rfl) rfl) rfl) rfl), ⟨_, rfl, rfl⟩, (Ext.refl w14)⟩
    · refine L_op (.guard 9 false 20 rfl rfl (ltb rfl) (congrArg Value.bool b15_)) rfl (ltb rfl) (X_move (v := (S a1)) rfl) ?_
      obtain ⟨c17, H⟩ := bif_some H
      refine L_callP (.guard 9 false 20 rfl rfl (ltb rfl) (congrArg Value.bool b15_)) rfl (ltb rfl) rfl Tryd.call33 (impl_PartOK.calls (w := w14) (a0 := a1) (of_decide_eq_true c17)) rfl <| fun w18 e19 => L_op (.guard 9 false 20 rfl rfl (ltb rfl) (congrArg Value.bool b15_)) rfl (ltb rfl) (X_not rfl) <| L_op (.plain rfl) rfl (ltb rfl) (X_pick (b := false) (v := (.bool (!(partOK a1)))) (congrArg Value.bool b15_) rfl) ?_
      obtain rfl := Option.some.inj H
      exact L_nil <| thn_n ⟨(Kp.upd (Kp.upd (Kp.upd (Kp.upd (Kp.refl _ _) rfl) rfl) rfl) rfl), ⟨_, rfl, rfl⟩, e19⟩
  intro s23 w19 z24 K20 hq h21 e22
  rw [hq] at h21; clear hq
  refine L_op (.plain rfl) rfl (ltb rfl) (X_mkiface Tryd.underlying4 rfl h21) <| L_op (.plain rfl) rfl (ltb rfl) (X_mkiface Tryd.underlying3 rfl rfl) <| L_op (.plain rfl) rfl (ltb rfl) (X_move (v := (S (joinP a0 a1))) (K20 6 rfl)) <| L_callP (.plain rfl) rfl (ltb rfl) rfl Tryd.call25 (impl_PathOK.calls (w := w19) (a0 := (joinP a0 a1)) (GV.ext gv (Ext.trans (Ext.trans (Ext.trans (Ext.trans e4 e9) e13) e15) e22))) rfl <| fun w25 e26 => L_op (.plain rfl) rfl (ltb rfl) (X_not rfl) <| L_op (.plain rfl) rfl (ltb rfl) (X_mkiface Tryd.underlying4 rfl rfl) <| L_op (.plain rfl) rfl (ltb rfl) (X_mkiface Tryd.underlying3 rfl rfl) <| L_lit (.plain rfl) rfl (ltb rfl) rfl Tryd.underlying67 Tryd.sizeOf20 Tryd.zeroValue20 rfl rfl rfl (vs := [(.iface 4 (.bool (([a0, a1] : List (List UInt8)).any fun t => decide (65536 < t.length)))), (.iface 3 (.int .i64 2)), (.iface 4 (.bool z17)), (.iface 3 (.int .i64 10)), (.iface 4 (.bool (!(pathOK (joinP a0 a1))))), (.iface 3 (.int .i64 6))]) (cons2 (K20 15 rfl) (cons2 (K20 16 rfl) (cons2 rfl (cons2 rfl (cons2 rfl (cons2 rfl rfl)))))) (lit_all rfl) <| fun b27 w28 z29 z30 e31 k32 => ?_
  obtain ⟨c33, H⟩ := bif_some H
  obtain ⟨z36, x37, H⟩ := bind_some H
  replace x37 := Option.some.inj x37
  refine L_callP (.plain rfl) rfl (ltb rfl) rfl Tryd.call41 (impl_first.calls (w := w28) (a0 := ([.inl (([a0, a1] : List (List UInt8)).any fun t => decide (65536 < t.length)), .inr 2, .inl z17, .inr 10, .inl (!(pathOK (joinP a0 a1))), .inr 6] : List (Bool ⊕ Int))) (Ow.rd (Ow.new (xs := [.inl (([a0, a1] : List (List UInt8)).any fun t => decide (65536 < t.length)), .inr 2, .inl z17, .inr 10, .inl (!(pathOK (joinP a0 a1))), .inr 6]) (sz := 1) (enc := (encAny 4 3)) (base := w25.heap.size) k32 (Nat.le_of_eq z29) rfl (fun _ _ => by first | rfl | exact encAny_len _ _ _) (Nat.le_of_ble_eq_true rfl))) (of_decide_eq_true c33)) rfl <| fun w34 e35 => L_op (.plain rfl) rfl (ltb rfl) (X_assign (v := (.int .i64 z36)) (congrArg (Value.int .i64) x37)) <| L_nil <| thn_n <| W_seq <| W_reg <| L_op (.plain rfl) rfl (ltb rfl) (X_move (v := (.int .i64 z36)) rfl) <| L_op (.plain rfl) rfl (ltb rfl) (X_neq rfl rfl) <| L_nil <| thn_n ?_
  rcases bif_two H with ⟨q38, H⟩ | ⟨q38, H⟩
  · refine W_true (congrArg Value.bool q38) <| W_seq <| W_reg <| L_op (.plain rfl) rfl (ltb rfl) (X_move (v := (.int .i64 z36)) rfl) <| L_op (.plain rfl) rfl (ltb rfl) (X_assign (v := (S ([] : List UInt8))) rfl) <| L_op (.plain rfl) rfl (ltb rfl) (X_assign (v := (.int .i64 z36)) rfl) <| L_nil <| thn_n <| W_ret <| thn_r <| fin_r ?_
    obtain rfl := Option.some.inj H
    exact fin2 rfl rfl (Ext.trans (Ext.trans (Ext.trans (Ext.trans (Ext.trans (Ext.trans (Ext.trans e4 e9) e13) e15) e22) e26) e31) e35)
  · refine W_false (congrArg Value.bool q38) <| W_skip <| thn_n <| W_seq <| W_reg <| L_op (.plain rfl) rfl (ltb rfl) (X_move (v := (S (joinP a0 a1))) (K20 6 rfl)) <| L_op (.plain rfl) rfl (ltb rfl) (X_assign (v := (S (joinP a0 a1))) rfl) <| L_op (.plain rfl) rfl (ltb rfl) (X_assign (v := (.int .i64 0)) rfl) <| L_nil <| thn_n <| W_ret <| fin_r ?_
    obtain rfl := Option.some.inj H
    exact fin2 rfl rfl (Ext.trans (Ext.trans (Ext.trans (Ext.trans (Ext.trans (Ext.trans (Ext.trans e4 e9) e13) e15) e22) e26) e31) e35)
theorem impl_JoinPath.calls {w : World} {a0 : List UInt8} {a1 : List UInt8} (gv : GV 0 w) (h0 : a0.length ≤ 1048576) (h1 : a1.length ≤ 1048576) :
    Calls Tryd.prog 26 #[S a0, S a1] w (Rt (RP w (.tuple #[S ((joinPath a0 a1).1), .int .i64 ((joinPath a0 a1).2)]))) := impl_JoinPath.walk gv (impl_JoinPath.eq a0 a1 h0 h1)
/-! spec.l01Less -/
theorem spec_l01Less.walk {k : Nat} {w : World} {a0 : List UInt8} {a1 : List UInt8} {r : Bool} (H : spec_l01Less.sh k a0 a1 = some r) :
    Calls Tryd.prog 56 #[S a0, S a1] w (Rt (RP w (.bool r))) := by
  unfold spec_l01Less.sh at H
  refine calls_of_W Tryd.func56 rfl (Nat.le_of_ble_eq_true rfl) Tryd.ntmps56 rfl ?_
  refine W_seq <| W_reg <| L_op (.plain rfl) rfl (ltb rfl) (X_assign (v := (.bool false)) rfl) <| L_nil <| thn_n <| W_seq <| W_reg <| L_op (.plain rfl) rfl (ltb rfl) (X_move (v := (S a0)) rfl) ?_
  obtain ⟨c1, H⟩ := bif_some H
  refine L_callO (.plain rfl) rfl (ltb rfl) rfl Tryd.call47 (spec_l00Cut.calls (w := w) (a0 := a0) (a1 := 47) (of_decide_eq_true c1)) rfl <| fun v4 w2 e3 o5 => L_op (.plain rfl) rfl (ltb rfl) (X_assign (v := v4) rfl) <| L_nil <| thn_n <| W_seq <| W_reg <| L_op (.plain rfl) rfl (ltb rfl) (X_move (v := (S a1)) rfl) ?_
  obtain ⟨c6, H⟩ := bif_some H
  refine L_callO (.plain rfl) rfl (ltb rfl) rfl Tryd.call47 (spec_l00Cut.calls (w := w2) (a0 := a1) (a1 := 47) (of_decide_eq_true c6)) rfl <| fun v9 w7 e8 o10 => L_op (.plain rfl) rfl (ltb rfl) (X_assign (v := v9) rfl) <| L_nil <| thn_n <| W_seq <| W_seq <| W_reg <| L_op (.plain rfl) rfl (ltb rfl) (X_assign (v := (.int .i64 0)) rfl) <| L_nil <| thn_n ?_
  obtain ⟨z12, L13, C14⟩ := bind_some H
  clear H
  refine  W_cutQ (fun s0 sQ wQ => Kp [(4, 5), (7, 8), (12, 42)] s0 sQ ∧ Ext w7 wQ ∧ z12 = .inr ()) ?_ ?_
  · refine W_block <| W_loopI (fun s0 kk sQ wQ => ∃ (x7_11 : Int), Kp [(4, 5), (7, 8), (12, 42)] s0 sQ ∧ sQ 7 = .int .i64 x7_11 ∧ Ext w7 wQ ∧ loopF (spec_l01Less.b1 a0 a1) kk x7_11 = some z12) k ⟨0, (Kp.refl _ _), rfl, (Ext.refl w7), L13⟩ ?_
    rintro k19 s20 w21 ⟨x7_11, K22, h25, e23, L24⟩
    cases k19 with
    | zero => exact absurd L24 (by simp [loopF])
    | succ k19 =>
      obtain ⟨t26, H, S27⟩ := loopF_succ L24
      clear L24
      unfold spec_l01Less.b1 at H
      refine W_seq <| W_seq <| W_reg <| L_op (.plain rfl) rfl (ltb rfl) (X_move (v := (.int .i64 x7_11)) h25) <| L_op (.plain rfl) rfl (ltb rfl) (X_move (v := v4) (K22 5 rfl)) <| L_op (.plain rfl) rfl (ltb rfl) (X_lenR Tryd.underlying27 rfl (Ow.rd (Ow.ext o5 (Ext.trans e8 e23)))) <| L_op (.plain rfl) rfl (ltb rfl) (X_lss rfl rfl) <| L_op (.plain rfl) rfl (ltb rfl) (X_move (v := (.bool (decide (x7_11 < ((cut 47 a0).length : Int))))) rfl) <| L_grp 5 [(17, 22)] 21 (.bool ((decide (x7_11 < ((cut 47 a0).length : Int))) && (decide (x7_11 < ((cut 47 a1).length : Int))))) ?_ ?_
      · rcases bool_two (decide (x7_11 < ((cut 47 a0).length : Int))) with b27_ | b27_
        · exact L_op (.guard 4 true 16 rfl rfl (ltb rfl) (congrArg Value.bool b27_)) rfl (ltb rfl) (X_move (v := (.int .i64 x7_11)) h25) <| L_op (.guard 4 true 16 rfl rfl (ltb rfl) (congrArg Value.bool b27_)) rfl (ltb rfl) (X_move (v := v9) (K22 6 rfl)) <| L_op (.guard 4 true 16 rfl rfl (ltb rfl) (congrArg Value.bool b27_)) rfl (ltb rfl) (X_lenR Tryd.underlying27 rfl (Ow.rd (Ow.ext o10 e23))) <| L_op (.guard 4 true 16 rfl rfl (ltb rfl) (congrArg Value.bool b27_)) rfl (ltb rfl) (X_lss rfl rfl) <| L_op (.plain rfl) rfl (ltb rfl) (X_pick (b := true) (v := (.bool (decide (x7_11 < ((cut 47 a1).length : Int))))) (congrArg Value.bool b27_) rfl) <| L_nil <| thn_n ⟨(Kp.upd (Kp.upd (Kp.upd (Kp.upd (Kp.upd (Kp.refl _ _) rfl) rfl) rfl) rfl) rfl), (and_t b27_), (Ext.refl w21)⟩
        · exact L_skip rfl rfl (ltb rfl) (congrArg Value.bool b27_) rfl rfl (ltb rfl) <| L_skip rfl rfl (ltb rfl) (congrArg Value.bool b27_) rfl rfl (ltb rfl) <| L_skip rfl rfl (ltb rfl) (congrArg Value.bool b27_) rfl rfl (ltb rfl) <| L_skip rfl rfl (ltb rfl) (congrArg Value.bool b27_) rfl rfl (ltb rfl) <| L_op (.plain rfl) rfl (ltb rfl) (X_pick (b := false) (v := (.bool false)) (congrArg Value.bool b27_) rfl) <| L_nil <| thn_n ⟨(Kp.upd (Kp.upd (Kp.upd (Kp.upd (Kp.upd (Kp.refl _ _) rfl) rfl) rfl) rfl) rfl), (and_f b27_), (Ext.refl w21)⟩
      intro s33 w29 K30 h31 e32
      refine L_nil <| thn_n ?_
      rcases bif_two H with ⟨q34, H⟩ | ⟨q34, H⟩
      · refine W_true (h31.trans (congrArg Value.bool q34)) <| W_skip <| thn_n <| W_seq <| W_block <| W_seq ?_
        obtain ⟨c35, H⟩ := bif_some H
        obtain ⟨c38, H⟩ := bif_some H
        refine W_drawM [LEq v4, LEq (.int .i64 x7_11), LAt0 (encS (gt (cut 47 a0) x7_11)), LEq (S (gt (cut 47 a0) x7_11)), LEq v9, LEq (.int .i64 x7_11), LAt0 (encS (gt (cut 47 a1) x7_11)), LEq (S (gt (cut 47 a1) x7_11)), LEq (.bool (!decide ((gt (cut 47 a0) x7_11) = (gt (cut 47 a1) x7_11))))] (by kernel_rfl) (by kernel_rfl) ⟨LEq.mono, LEq.mono, LAt0.mono, LEq.mono, LEq.mono, LEq.mono, LAt0.mono, LEq.mono, LEq.mono, trivial⟩ ⟨?_, ?_, ?_, ?_, ?_, ?_, ?_, ?_, ?_, trivial⟩ ?_
        · intro s41 w42 e43 hf44 hd45 hu46
          exact L_op (.plain rfl) rfl (ltb rfl) (X_move (v := v4) ((hf44 5 rfl).trans ((K30 5 rfl).trans (K22 5 rfl)))) <| L_nil <| stepEnd rfl rfl (Ext.refl w42) rfl
        · intro s47 w48 e49 hf50 hd51 hu52
          exact L_op (.plain rfl) rfl (ltb rfl) (X_move (v := (.int .i64 x7_11)) ((hf50 7 rfl).trans ((K30 7 rfl).trans h25))) <| L_nil <| stepEnd rfl rfl (Ext.refl w48) rfl
        · intro s53 w54 e55 hf56 hd57 hu58
          have d59 : s53 24 = v4 := (hd57 0 rfl)
          have d60 : s53 25 = (.int .i64 x7_11) := (hd57 1 rfl)
          have c61 := c35
          exact L_idx (.plain rfl) rfl (ltb rfl) rfl Tryd.underlying27 Tryd.sizeOf9 d59 (Ow.rd (Ow.ext o5 (Ext.trans (Ext.trans (Ext.trans e8 e23) e32) e55))) d60 c61 <| fun p62 h63 => L_nil <| stepEnd rfl rfl (Ext.refl w54) ⟨_, rfl, h63⟩
        · intro s64 w65 e66 hf67 hd68 hu69
          obtain ⟨p70, h71, h72⟩ := (hd68 2 rfl)
          exact L_op (.plain rfl) rfl (ltb rfl) (X_loadAt Tryd.isAgg9 h71 h72 rfl) <| L_nil <| stepEnd rfl rfl (Ext.refl w65) rfl
        · intro s73 w74 e75 hf76 hd77 hu78
          exact L_op (.plain rfl) rfl (ltb rfl) (X_move (v := v9) ((hf76 6 rfl).trans ((K30 6 rfl).trans (K22 6 rfl)))) <| L_nil <| stepEnd rfl rfl (Ext.refl w74) rfl
        · intro s79 w80 e81 hf82 hd83 hu84
          exact L_op (.plain rfl) rfl (ltb rfl) (X_move (v := (.int .i64 x7_11)) ((hf82 7 rfl).trans ((K30 7 rfl).trans h25))) <| L_nil <| stepEnd rfl rfl (Ext.refl w80) rfl
        · intro s85 w86 e87 hf88 hd89 hu90
          have d91 : s85 28 = v9 := (hd89 4 rfl)
          have d92 : s85 29 = (.int .i64 x7_11) := (hd89 5 rfl)
          have c93 := c38
          exact L_idx (.plain rfl) rfl (ltb rfl) rfl Tryd.underlying27 Tryd.sizeOf9 d91 (Ow.rd (Ow.ext o10 (Ext.trans (Ext.trans e23 e32) e87))) d92 c93 <| fun p94 h95 => L_nil <| stepEnd rfl rfl (Ext.refl w86) ⟨_, rfl, h95⟩
        · intro s96 w97 e98 hf99 hd100 hu101
          obtain ⟨p102, h103, h104⟩ := (hd100 6 rfl)
          exact L_op (.plain rfl) rfl (ltb rfl) (X_loadAt Tryd.isAgg9 h103 h104 rfl) <| L_nil <| stepEnd rfl rfl (Ext.refl w97) rfl
        · intro s105 w106 e107 hf108 hd109 hu110
          have d111 : s105 27 = (S (gt (cut 47 a0) x7_11)) := (hd109 3 rfl)
          have d112 : s105 31 = (S (gt (cut 47 a1) x7_11)) := (hd109 7 rfl)
          exact L_op (.plain rfl) rfl (ltb rfl) (X_sne d111 d112) <| L_nil <| stepEnd rfl rfl (Ext.refl w106) rfl
        intro s113 w114 e115 hf116 ha117
        have K118 := Kp.ofD (kp := [(24, 33)]) rfl hf116
        have d119 : s113 32 = (.bool (!decide ((gt (cut 47 a0) x7_11) = (gt (cut 47 a1) x7_11)))) := ha117 8 rfl
        clear ha117 hf116
        refine thn_n ?_
        rcases bif_two H with ⟨q120, H⟩ | ⟨q120, H⟩
        · refine W_true (d119.trans (congrArg Value.bool q120)) <| W_seq ?_
          obtain ⟨c121, H⟩ := bif_some H
          obtain ⟨c124, H⟩ := bif_some H
          refine W_drawM [LEq v4, LEq (.int .i64 x7_11), LAt0 (encS (gt (cut 47 a0) x7_11)), LEq (S (gt (cut 47 a0) x7_11)), LEq v9, LEq (.int .i64 x7_11), LAt0 (encS (gt (cut 47 a1) x7_11)), LEq (S (gt (cut 47 a1) x7_11)), LEq (.bool (lt8 (gt (cut 47 a0) x7_11) (gt (cut 47 a1) x7_11))), LEq (.bool (lt8 (gt (cut 47 a0) x7_11) (gt (cut 47 a1) x7_11)))] (by kernel_rfl) (by kernel_rfl) ⟨LEq.mono, LEq.mono, LAt0.mono, LEq.mono, LEq.mono, LEq.mono, LAt0.mono, LEq.mono, LEq.mono, LEq.mono, trivial⟩ ⟨?_, ?_, ?_, ?_, ?_, ?_, ?_, ?_, ?_, ?_, trivial⟩ ?_
          · intro s127 w128 e129 hf130 hd131 hu132
            exact L_op (.plain rfl) rfl (ltb rfl) (X_move (v := v4) ((hf130 5 rfl).trans ((K118 5 rfl).trans ((K30 5 rfl).trans (K22 5 rfl))))) <| L_nil <| stepEnd rfl rfl (Ext.refl w128) rfl
          · intro s133 w134 e135 hf136 hd137 hu138
            exact L_op (.plain rfl) rfl (ltb rfl) (X_move (v := (.int .i64 x7_11)) ((hf136 7 rfl).trans ((K118 7 rfl).trans ((K30 7 rfl).trans h25)))) <| L_nil <| stepEnd rfl rfl (Ext.refl w134) rfl
          · intro s139 w140 e141 hf142 hd143 hu144
            have d145 : s139 33 = v4 := (hd143 0 rfl)
            have d146 : s139 34 = (.int .i64 x7_11) := (hd143 1 rfl)
            have c147 := c121
            exact L_idx (.plain rfl) rfl (ltb rfl) rfl Tryd.underlying27 Tryd.sizeOf9 d145 (Ow.rd (Ow.ext o5 (Ext.trans (Ext.trans (Ext.trans (Ext.trans e8 e23) e32) e115) e141))) d146 c147 <| fun p148 h149 => L_nil <| stepEnd rfl rfl (Ext.refl w140) ⟨_, rfl, h149⟩
          · intro s150 w151 e152 hf153 hd154 hu155
            obtain ⟨p156, h157, h158⟩ := (hd154 2 rfl)
            exact L_op (.plain rfl) rfl (ltb rfl) (X_loadAt Tryd.isAgg9 h157 h158 rfl) <| L_nil <| stepEnd rfl rfl (Ext.refl w151) rfl
          · intro s159 w160 e161 hf162 hd163 hu164
            exact L_op (.plain rfl) rfl (ltb rfl) (X_move (v := v9) ((hf162 6 rfl).trans ((K118 6 rfl).trans ((K30 6 rfl).trans (K22 6 rfl))))) <| L_nil <| stepEnd rfl rfl (Ext.refl w160) rfl
          · intro s165 w166 e167 hf168 hd169 hu170
            exact L_op (.plain rfl) rfl (ltb rfl) (X_move (v := (.int .i64 x7_11)) ((hf168 7 rfl).trans ((K118 7 rfl).trans ((K30 7 rfl).trans h25)))) <| L_nil <| stepEnd rfl rfl (Ext.refl w166) rfl
          · intro s171 w172 e173 hf174 hd175 hu176
            have d177 : s171 37 = v9 := (hd175 4 rfl)
            have d178 : s171 38 = (.int .i64 x7_11) := (hd175 5 rfl)
            have c179 := c124
            exact L_idx (.plain rfl) rfl (ltb rfl) rfl Tryd.underlying27 Tryd.sizeOf9 d177 (Ow.rd (Ow.ext o10 (Ext.trans (Ext.trans (Ext.trans e23 e32) e115) e173))) d178 c179 <| fun p180 h181 => L_nil <| stepEnd rfl rfl (Ext.refl w172) ⟨_, rfl, h181⟩
          · intro s182 w183 e184 hf185 hd186 hu187
            obtain ⟨p188, h189, h190⟩ := (hd186 6 rfl)
            exact L_op (.plain rfl) rfl (ltb rfl) (X_loadAt Tryd.isAgg9 h189 h190 rfl) <| L_nil <| stepEnd rfl rfl (Ext.refl w183) rfl
          · intro s191 w192 e193 hf194 hd195 hu196
            have d197 : s191 36 = (S (gt (cut 47 a0) x7_11)) := (hd195 3 rfl)
            have d198 : s191 40 = (S (gt (cut 47 a1) x7_11)) := (hd195 7 rfl)
            exact L_op (.plain rfl) rfl (ltb rfl) (X_slt d197 d198) <| L_nil <| stepEnd rfl rfl (Ext.refl w192) rfl
          · intro s199 w200 e201 hf202 hd203 hu204
            have d205 : s199 41 = (.bool (lt8 (gt (cut 47 a0) x7_11) (gt (cut 47 a1) x7_11))) := (hd203 8 rfl)
            exact L_op (.plain rfl) rfl (ltb rfl) (X_assign (v := (.bool (lt8 (gt (cut 47 a0) x7_11) (gt (cut 47 a1) x7_11)))) d205) <| L_nil <| stepEnd rfl rfl (Ext.refl w200) rfl
          intro s206 w207 e208 hf209 ha210
          have K211 := Kp.ofD (kp := [(4, 5), (33, 42)]) rfl hf209
          have d212 : s206 4 = (.bool (lt8 (gt (cut 47 a0) x7_11) (gt (cut 47 a1) x7_11))) := ha210 9 rfl
          clear ha210 hf209
          refine thn_n <| W_ret <| blk_r <| thn_r <| thn_r <| blk_r <| thn_r <| thn_r <| fin_r ?_
          obtain rfl := Option.some.inj H
          obtain rfl := Option.some.inj S27
          have H := C14
          obtain rfl := Option.some.inj H
          exact fin1 d212 (Ext.trans (Ext.trans (Ext.trans (Ext.trans (Ext.trans e3 e8) e23) e32) e115) e208)
        · refine W_false (d119.trans (congrArg Value.bool q120)) <| W_skip <| blk_n <| thn_n <| W_reg <| L_op (.plain rfl) rfl (ltb rfl) (X_move (v := (.int .i64 x7_11)) ((K118 7 rfl).trans ((K30 7 rfl).trans h25))) <| L_op (.plain rfl) rfl (ltb rfl) (X_add rfl rfl) <| L_op (.plain rfl) rfl (ltb rfl) (X_assign (v := (.int .i64 (IntKind.wrap .i64 (x7_11 + 1)))) rfl) <| L_nil <| thn_n ?_
          obtain rfl := Option.some.inj H
          exact ⟨_, Nat.lt_succ_self _, IntKind.wrap .i64 (x7_11 + 1), (Kp.upd (Kp.upd (Kp.upd (Kp.cut (Kp.cut (Kp.upd (Kp.upd (Kp.upd (Kp.upd (Kp.upd K22 rfl) rfl) rfl) rfl) rfl) K30 rfl) K118 rfl) rfl) rfl) rfl), rfl, (Ext.trans (Ext.trans e23 e32) e115), S27⟩
      · refine W_false (h31.trans (congrArg Value.bool q34)) <| W_exit <| thn_x <| thn_x <| blk_x <| thn_n ?_
        obtain rfl := Option.some.inj H
        obtain rfl := Option.some.inj S27
        exact ⟨(Kp.cut (Kp.upd (Kp.upd (Kp.upd (Kp.upd (Kp.upd K22 rfl) rfl) rfl) rfl) rfl) K30 rfl), (Ext.trans e23 e32), rfl⟩
  · rintro s16 w15 ⟨K17, e18, y213⟩
    rw [y213] at C14
    have H := C14
    replace H : _ = some _ := H
    refine thn_n <| W_seq <| W_reg <| L_op (.plain rfl) rfl (ltb rfl) (X_move (v := v4) (K17 5 rfl)) <| L_op (.plain rfl) rfl (ltb rfl) (X_lenR Tryd.underlying27 rfl (Ow.rd (Ow.ext o5 (Ext.trans e8 e18)))) <| L_op (.plain rfl) rfl (ltb rfl) (X_move (v := v9) (K17 6 rfl)) <| L_op (.plain rfl) rfl (ltb rfl) (X_lenR Tryd.underlying27 rfl (Ow.rd (Ow.ext o10 e18))) <| L_op (.plain rfl) rfl (ltb rfl) (X_lss rfl rfl) <| L_op (.plain rfl) rfl (ltb rfl) (X_assign rfl) <| L_nil <| thn_n <| W_ret <| fin_r ?_
    obtain rfl := Option.some.inj H
    exact fin1 rfl (Ext.trans (Ext.trans e3 e8) e18)
theorem spec_l01Less.calls {w : World} {a0 : List UInt8} {a1 : List UInt8} (h0 : a0.length ≤ 1048576) (h1 : a1.length ≤ 1048576) :
    Calls Tryd.prog 56 #[S a0, S a1] w (Rt (RP w (.bool (lessL (cut 47 a0) (cut 47 a1))))) := by
  obtain ⟨k, h⟩ := spec_l01Less.eq a0 a1 h0 h1
  exact spec_l01Less.walk h
/-! spec.PathLess -/
theorem spec_PathLess.walk {w : World} {a0 : List UInt8} {a1 : List UInt8} {r : Bool} (H : spec_PathLess.sh a0 a1 = some r) :
    Calls Tryd.prog 29 #[S a0, S a1] w (Rt (RP w (.bool r))) := by
  unfold spec_PathLess.sh at H
  refine calls_of_W Tryd.func29 rfl (Nat.le_of_ble_eq_true rfl) Tryd.ntmps29 rfl ?_
  refine W_seq <| W_reg <| L_op (.plain rfl) rfl (ltb rfl) (X_assign (v := (.bool false)) rfl) <| L_nil <| thn_n <| W_seq <| W_seq <| W_reg <| L_op (.plain rfl) rfl (ltb rfl) (X_move (v := (S a0)) rfl) <| L_op (.plain rfl) rfl (ltb rfl) (X_lenS Tryd.underlying9 rfl) <| L_op (.plain rfl) rfl (ltb rfl) (X_gtr rfl rfl) <| L_op (.plain rfl) rfl (ltb rfl) (X_move (v := (.bool (decide (65536 < (a0.length : Int))))) rfl) <| L_grp 4 [(9, 13)] 12 (.bool ((decide (65536 < (a0.length : Int))) || (decide (65536 < (a1.length : Int))))) ?_ ?_
  · rcases bool_two (decide (65536 < (a0.length : Int))) with b0_ | b0_
    · exact L_skip rfl rfl (ltb rfl) (congrArg Value.bool b0_) rfl rfl (ltb rfl) <| L_skip rfl rfl (ltb rfl) (congrArg Value.bool b0_) rfl rfl (ltb rfl) <| L_skip rfl rfl (ltb rfl) (congrArg Value.bool b0_) rfl rfl (ltb rfl) <| L_op (.plain rfl) rfl (ltb rfl) (X_pick (b := true) (v := (.bool true)) (congrArg Value.bool b0_) rfl) <| L_nil <| thn_n ⟨(Kp.upd (Kp.upd (Kp.upd (Kp.upd (Kp.refl _ _) rfl) rfl) rfl) rfl), (or_t b0_), (Ext.refl w)⟩
    · exact L_op (.guard 3 false 8 rfl rfl (ltb rfl) (congrArg Value.bool b0_)) rfl (ltb rfl) (X_move (v := (S a1)) rfl) <| L_op (.guard 3 false 8 rfl rfl (ltb rfl) (congrArg Value.bool b0_)) rfl (ltb rfl) (X_lenS Tryd.underlying9 rfl) <| L_op (.guard 3 false 8 rfl rfl (ltb rfl) (congrArg Value.bool b0_)) rfl (ltb rfl) (X_gtr rfl rfl) <| L_op (.plain rfl) rfl (ltb rfl) (X_pick (b := false) (v := (.bool (decide (65536 < (a1.length : Int))))) (congrArg Value.bool b0_) rfl) <| L_nil <| thn_n ⟨(Kp.upd (Kp.upd (Kp.upd (Kp.upd (Kp.refl _ _) rfl) rfl) rfl) rfl), (or_f b0_), (Ext.refl w)⟩
  intro s6 w2 K3 h4 e5
  refine L_nil <| thn_n ?_
  rcases bif_two H with ⟨q7, H⟩ | ⟨q7, H⟩
  · refine W_true (h4.trans (congrArg Value.bool q7)) <| W_seq <| W_reg <| L_op (.plain rfl) rfl (ltb rfl) (X_assign (v := (.bool false)) rfl) <| L_nil <| thn_n <| W_ret <| thn_r <| fin_r ?_
    obtain rfl := Option.some.inj H
    exact fin1 rfl e5
  · refine W_false (h4.trans (congrArg Value.bool q7)) <| W_skip <| thn_n <| W_seq <| W_reg <| L_op (.plain rfl) rfl (ltb rfl) (X_move (v := (S a0)) (K3 0 rfl)) <| L_callP (.plain rfl) rfl (ltb rfl) rfl Tryd.call55 (spec_l01OK.calls (w := w2) (a0 := a0)) rfl <| fun w8 e9 => L_op (.plain rfl) rfl (ltb rfl) (X_move (v := (.bool (pathOK a0))) rfl) <| L_grp 3 [(16, 19)] 18 (.bool ((pathOK a0) && (pathOK a1))) ?_ ?_
    · rcases bool_two (pathOK a0) with b9_ | b9_
      · exact L_op (.guard 2 true 15 rfl rfl (ltb rfl) (congrArg Value.bool b9_)) rfl (ltb rfl) (X_move (v := (S a1)) (K3 1 rfl)) <| L_callP (.guard 2 true 15 rfl rfl (ltb rfl) (congrArg Value.bool b9_)) rfl (ltb rfl) rfl Tryd.call55 (spec_l01OK.calls (w := w8) (a0 := a1)) rfl <| fun w11 e12 => L_op (.plain rfl) rfl (ltb rfl) (X_pick (b := true) (v := (.bool (pathOK a1))) (congrArg Value.bool b9_) rfl) <| L_nil <| thn_n ⟨(Kp.upd (Kp.upd (Kp.upd (Kp.refl _ _) rfl) rfl) rfl), (and_t b9_), e12⟩
      · exact L_skip rfl rfl (ltb rfl) (congrArg Value.bool b9_) rfl rfl (ltb rfl) <| L_skip rfl rfl (ltb rfl) (congrArg Value.bool b9_) rfl rfl (ltb rfl) <| L_op (.plain rfl) rfl (ltb rfl) (X_pick (b := false) (v := (.bool false)) (congrArg Value.bool b9_) rfl) <| L_nil <| thn_n ⟨(Kp.upd (Kp.upd (Kp.upd (Kp.refl _ _) rfl) rfl) rfl), (and_f b9_), (Ext.refl w8)⟩
    intro s15 w11 K12 h13 e14
    refine L_op (.plain rfl) rfl (ltb rfl) (X_move (v := (.bool ((pathOK a0) && (pathOK a1)))) h13) ?_
    obtain ⟨z17, x18, H⟩ := bind_some H
    refine L_grpE 4 [(20, 24)] 23 (fun q => q = z17) ?_ ?_
    · rcases bif_two x18 with ⟨b15_, H⟩ | ⟨b15_, H⟩
      · refine L_op (.guard 6 true 19 rfl rfl (ltb rfl) (congrArg Value.bool b15_)) rfl (ltb rfl) (X_move (v := (S a0)) ((K12 0 rfl).trans (K3 0 rfl))) <| L_op (.guard 6 true 19 rfl rfl (ltb rfl) (congrArg Value.bool b15_)) rfl (ltb rfl) (X_move (v := (S a1)) ((K12 1 rfl).trans (K3 1 rfl))) ?_
        obtain ⟨c17, H⟩ := bif_some H
        obtain ⟨c18, H⟩ := bif_some H
        refine L_callP (.guard 6 true 19 rfl rfl (ltb rfl) (congrArg Value.bool b15_)) rfl (ltb rfl) rfl Tryd.call56 (spec_l01Less.calls (w := w11) (a0 := a0) (a1 := a1) (of_decide_eq_true c17) (of_decide_eq_true c18)) rfl <| fun w19 e20 => L_op (.plain rfl) rfl (ltb rfl) (X_pick (b := true) (v := (.bool (lessL (cut 47 a0) (cut 47 a1)))) (congrArg Value.bool b15_) rfl) ?_
        obtain rfl := Option.some.inj H
        exact L_nil <| thn_n ⟨(Kp.upd (Kp.upd (Kp.upd (Kp.upd (Kp.refl _ _) rfl) rfl) rfl) rfl), ⟨_, rfl, rfl⟩, e20⟩
      · refine L_skip rfl rfl (ltb rfl) (congrArg Value.bool b15_) rfl rfl (ltb rfl) <| L_skip rfl rfl (ltb rfl) (congrArg Value.bool b15_) rfl rfl (ltb rfl) <| L_skip rfl rfl (ltb rfl) (congrArg Value.bool b15_) rfl rfl (ltb rfl) <| L_op (.plain rfl) rfl (ltb rfl) (X_pick (b := false) (v := (.bool false)) (congrArg Value.bool b15_) rfl) ?_
        obtain rfl := Option.some.inj H
        exact L_nil <| thn_n ⟨(Kp.upd (Kp.upd (Kp.upd (Kp.upd (Kp.refl _ _) rfl) rfl) rfl) rfl), ⟨_, rfl, rfl⟩, (Ext.refl w11)⟩
    intro s23 w19 z24 K20 hq h21 e22
    rw [hq] at h21; clear hq
    refine L_op (.plain rfl) rfl (ltb rfl) (X_assign (v := (.bool z17)) h21) <| L_nil <| thn_n <| W_ret <| fin_r ?_
    obtain rfl := Option.some.inj H
    exact fin1 rfl (Ext.trans (Ext.trans (Ext.trans e5 e9) e14) e22)
theorem spec_PathLess.calls {w : World} {a0 : List UInt8} {a1 : List UInt8} :
    Calls Tryd.prog 29 #[S a0, S a1] w (Rt (RP w (.bool (pathLess a0 a1)))) := spec_PathLess.walk (spec_PathLess.eq a0 a1)
/-! cmp.isNaN(string) -/
theorem cmp_isNaNS.walk {w : World} {a0 : List UInt8} {r : Bool} (H : cmp_isNaNS.sh a0 = some r) :
    Calls Tryd.prog 83 #[S a0] w (Rt (RP w (.bool r))) := by
  unfold cmp_isNaNS.sh at H
  refine calls_of_W Tryd.func83 rfl (Nat.le_of_ble_eq_true rfl) Tryd.ntmps83 rfl ?_
  refine W_seq <| W_reg <| L_op (.plain rfl) rfl (ltb rfl) (X_assign (v := (.bool false)) rfl) <| L_nil <| thn_n <| W_seq <| W_reg <| L_op (.plain rfl) rfl (ltb rfl) (X_move (v := (S a0)) rfl) <| L_op (.plain rfl) rfl (ltb rfl) (X_move (v := (S a0)) rfl) <| L_op (.plain rfl) rfl (ltb rfl) (X_sne rfl rfl) <| L_op (.plain rfl) rfl (ltb rfl) (X_assign (v := (.bool (!decide (a0 = a0)))) rfl) <| L_nil <| thn_n <| W_ret <| fin_r ?_
  obtain rfl := Option.some.inj H
  exact fin1 rfl (Ext.refl w)
theorem cmp_isNaNS.calls {w : World} {a0 : List UInt8} :
    Calls Tryd.prog 83 #[S a0] w (Rt (RP w (.bool false))) := cmp_isNaNS.walk (cmp_isNaNS.eq a0)
/-! cmp.Compare(string) -/
theorem cmp_CompareS.walk {w : World} {a0 : List UInt8} {a1 : List UInt8} {r : Int} (H : cmp_CompareS.sh a0 a1 = some r) :
    Calls Tryd.prog 78 #[S a0, S a1] w (Rt (RP w (.int .i64 r))) := by
  unfold cmp_CompareS.sh at H
  refine calls_of_W Tryd.func78 rfl (Nat.le_of_ble_eq_true rfl) Tryd.ntmps78 rfl ?_
  refine W_seq <| W_reg <| L_op (.plain rfl) rfl (ltb rfl) (X_assign (v := (.int .i64 0)) rfl) <| L_nil <| thn_n <| W_seq <| W_reg <| L_op (.plain rfl) rfl (ltb rfl) (X_move (v := (S a0)) rfl) <| L_callP (.plain rfl) rfl (ltb rfl) rfl Tryd.call83 (cmp_isNaNS.calls (w := w) (a0 := a0)) rfl <| fun w1 e2 => L_op (.plain rfl) rfl (ltb rfl) (X_assign (v := (.bool false)) rfl) <| L_nil <| thn_n <| W_seq <| W_reg <| L_op (.plain rfl) rfl (ltb rfl) (X_move (v := (S a1)) rfl) <| L_callP (.plain rfl) rfl (ltb rfl) rfl Tryd.call83 (cmp_isNaNS.calls (w := w1) (a0 := a1)) rfl <| fun w3 e4 => L_op (.plain rfl) rfl (ltb rfl) (X_assign (v := (.bool false)) rfl) <| L_nil <| thn_n <| W_seq <| W_seq <| W_reg <| L_op (.plain rfl) rfl (ltb rfl) (X_move (v := (.bool false)) rfl) <| L_nil <| thn_n ?_
  rcases bif_two H with ⟨q5, H⟩ | ⟨q5, H⟩
  · refine W_true (congrArg Value.bool q5) <| W_seq <| W_seq <| W_reg <| L_op (.plain rfl) rfl (ltb rfl) (X_move (v := (.bool false)) rfl) <| L_nil <| thn_n ?_
    rcases bif_two H with ⟨q6, H⟩ | ⟨q6, H⟩
    · refine W_true (congrArg Value.bool q6) <| W_seq <| W_reg <| L_op (.plain rfl) rfl (ltb rfl) (X_assign (v := (.int .i64 0)) rfl) <| L_nil <| thn_n <| W_ret <| thn_r <| thn_r <| fin_r ?_
      obtain rfl := Option.some.inj H
      exact fin1 rfl (Ext.trans e2 e4)
    · refine W_false (congrArg Value.bool q6) <| W_skip <| thn_n <| W_seq <| W_reg <| L_op (.plain rfl) rfl (ltb rfl) (X_assign (v := (.int .i64 (-1))) rfl) <| L_nil <| thn_n <| W_ret <| thn_r <| fin_r ?_
      obtain rfl := Option.some.inj H
      exact fin1 rfl (Ext.trans e2 e4)
  · refine W_false (congrArg Value.bool q5) <| W_skip <| thn_n <| W_seq <| W_seq <| W_reg <| L_op (.plain rfl) rfl (ltb rfl) (X_move (v := (.bool false)) rfl) <| L_nil <| thn_n ?_
    rcases bif_two H with ⟨q7, H⟩ | ⟨q7, H⟩
    · refine W_true (congrArg Value.bool q7) <| W_seq <| W_reg <| L_op (.plain rfl) rfl (ltb rfl) (X_assign (v := (.int .i64 1)) rfl) <| L_nil <| thn_n <| W_ret <| thn_r <| fin_r ?_
      obtain rfl := Option.some.inj H
      exact fin1 rfl (Ext.trans e2 e4)
    · refine W_false (congrArg Value.bool q7) <| W_skip <| thn_n <| W_seq <| W_seq <| W_reg <| L_op (.plain rfl) rfl (ltb rfl) (X_move (v := (S a0)) rfl) <| L_op (.plain rfl) rfl (ltb rfl) (X_move (v := (S a1)) rfl) <| L_op (.plain rfl) rfl (ltb rfl) (X_slt rfl rfl) <| L_nil <| thn_n ?_
      rcases bif_two H with ⟨q8, H⟩ | ⟨q8, H⟩
      · refine W_true (congrArg Value.bool q8) <| W_seq <| W_reg <| L_op (.plain rfl) rfl (ltb rfl) (X_assign (v := (.int .i64 (-1))) rfl) <| L_nil <| thn_n <| W_ret <| thn_r <| fin_r ?_
        obtain rfl := Option.some.inj H
        exact fin1 rfl (Ext.trans e2 e4)
      · refine W_false (congrArg Value.bool q8) <| W_skip <| thn_n <| W_seq <| W_seq <| W_reg <| L_op (.plain rfl) rfl (ltb rfl) (X_move (v := (S a0)) rfl) <| L_op (.plain rfl) rfl (ltb rfl) (X_move (v := (S a1)) rfl) <| L_op (.plain rfl) rfl (ltb rfl) (X_sgt rfl rfl) <| L_nil <| thn_n ?_
        rcases bif_two H with ⟨q9, H⟩ | ⟨q9, H⟩
        · refine W_true (congrArg Value.bool q9) <| W_seq <| W_reg <| L_op (.plain rfl) rfl (ltb rfl) (X_assign (v := (.int .i64 1)) rfl) <| L_nil <| thn_n <| W_ret <| thn_r <| fin_r ?_
          obtain rfl := Option.some.inj H
          exact fin1 rfl (Ext.trans e2 e4)
        · refine W_false (congrArg Value.bool q9) <| W_skip <| thn_n <| W_seq <| W_reg <| L_op (.plain rfl) rfl (ltb rfl) (X_assign (v := (.int .i64 0)) rfl) <| L_nil <| thn_n <| W_ret <| fin_r ?_
          obtain rfl := Option.some.inj H
          exact fin1 rfl (Ext.trans e2 e4)
theorem cmp_CompareS.calls {w : World} {a0 : List UInt8} {a1 : List UInt8} :
    Calls Tryd.prog 78 #[S a0, S a1] w (Rt (RP w (.int .i64 (cmpS a0 a1)))) := cmp_CompareS.walk (cmp_CompareS.eq a0 a1)
/-! slices.Compare(()string,string) -/
theorem slices_CompareS.walk {k : Nat} {w : World} {a0 : List (List UInt8)} {a1 : List (List UInt8)} {v_a0 : Value} (f_a0 : Rd 1 encS w v_a0 a0) {v_a1 : Value} (f_a1 : Rd 1 encS w v_a1 a1) {r : Int} (H : slices_CompareS.sh k a0 a1 = some r) :
    Calls Tryd.prog 71 #[v_a0, v_a1] w (Rt (RP w (.int .i64 r))) := by
  unfold slices_CompareS.sh at H
  refine calls_of_W Tryd.func71 rfl (Nat.le_of_ble_eq_true rfl) Tryd.ntmps71 rfl ?_
  refine W_seq <| W_reg <| L_op (.plain rfl) rfl (ltb rfl) (X_assign (v := (.int .i64 0)) rfl) <| L_nil <| thn_n <| W_seq <| W_seq <| W_reg <| L_op (.plain rfl) rfl (ltb rfl) (X_move (v := v_a0) rfl) <| L_op (.plain rfl) rfl (ltb rfl) (X_lenR Tryd.underlying27 rfl f_a0) <| L_op (.plain rfl) rfl (ltb rfl) (X_move (v := (.int .i64 0)) rfl) <| L_nil <| thn_n ?_
  obtain ⟨z2, L3, C4⟩ := bind_some H
  clear H
  refine  W_cutQ (fun s0 sQ wQ => Kp [(4, 9), (11, 31)] s0 sQ ∧ Ext w wQ ∧ z2 = .inr ()) ?_ ?_
  · refine W_block <| W_loopI (fun s0 kk sQ wQ => ∃ (x11_1 : Int), Kp [(4, 9), (11, 31)] s0 sQ ∧ sQ 11 = .int .i64 x11_1 ∧ Ext w wQ ∧ loopF (slices_CompareS.b1 a0 a1) kk x11_1 = some z2) k ⟨0, (Kp.refl _ _), rfl, (Ext.refl w), L3⟩ ?_
    rintro k9 s10 w11 ⟨x11_1, K12, h15, e13, L14⟩
    cases k9 with
    | zero => exact absurd L14 (by simp [loopF])
    | succ k9 =>
      obtain ⟨t16, H, S17⟩ := loopF_succ L14
      clear L14
      unfold slices_CompareS.b1 at H
      refine W_seq <| W_reg <| L_op (.plain rfl) rfl (ltb rfl) (X_lss h15 (K12 10 rfl)) <| L_nil <| thn_n <| W_seq ?_
      rcases bif_two H with ⟨q18, H⟩ | ⟨q18, H⟩
      · refine W_true (congrArg Value.bool q18) <| W_skip <| thn_n <| W_seq <| W_block <| W_seq <| W_reg <| L_op (.plain rfl) rfl (ltb rfl) (X_move (v := (.int .i64 x11_1)) h15) ?_
        obtain ⟨c19, H⟩ := bif_some H
        refine L_idx (.plain rfl) rfl (ltb rfl) rfl Tryd.underlying27 Tryd.sizeOf9 (K12 9 rfl) (Rd.ext f_a0 e13) h15 c19 <| fun p20 h21 => L_op (.plain rfl) rfl (ltb rfl) (X_loadAt Tryd.isAgg9 rfl h21 rfl) <| L_op (.plain rfl) rfl (ltb rfl) (X_assign (v := (.int .i64 x11_1)) rfl) <| L_op (.plain rfl) rfl (ltb rfl) (X_assign (v := (S (gt a0 x11_1))) rfl) <| L_nil <| thn_n <| W_seq <| W_seq <| W_reg <| L_op (.plain rfl) rfl (ltb rfl) (X_move (v := (.int .i64 x11_1)) rfl) <| L_op (.plain rfl) rfl (ltb rfl) (X_move (v := v_a1) (K12 1 rfl)) <| L_op (.plain rfl) rfl (ltb rfl) (X_lenR Tryd.underlying27 rfl (Rd.ext f_a1 e13)) <| L_op (.plain rfl) rfl (ltb rfl) (X_geq rfl rfl) <| L_nil <| thn_n ?_
        rcases bif_two H with ⟨q22, H⟩ | ⟨q22, H⟩
        · refine W_true (congrArg Value.bool q22) <| W_seq <| W_reg <| L_op (.plain rfl) rfl (ltb rfl) (X_assign (v := (.int .i64 1)) rfl) <| L_nil <| thn_n <| W_ret <| thn_r <| blk_r <| thn_r <| thn_r <| blk_r <| thn_r <| thn_r <| fin_r ?_
          obtain rfl := Option.some.inj H
          obtain rfl := Option.some.inj S17
          have H := C4
          obtain rfl := Option.some.inj H
          exact fin1 rfl e13
        · refine W_false (congrArg Value.bool q22) <| W_skip <| thn_n <| W_seq <| W_reg <| L_op (.plain rfl) rfl (ltb rfl) (X_move (v := v_a1) (K12 1 rfl)) <| L_op (.plain rfl) rfl (ltb rfl) (X_move (v := (.int .i64 x11_1)) rfl) ?_
          obtain ⟨c23, H⟩ := bif_some H
          refine L_idx (.plain rfl) rfl (ltb rfl) rfl Tryd.underlying27 Tryd.sizeOf9 rfl (Rd.ext f_a1 e13) rfl c23 <| fun p24 h25 => L_op (.plain rfl) rfl (ltb rfl) (X_loadAt Tryd.isAgg9 rfl h25 rfl) <| L_op (.plain rfl) rfl (ltb rfl) (X_assign (v := (S (gt a1 x11_1))) rfl) <| L_nil <| thn_n <| W_seq <| W_reg <| L_op (.plain rfl) rfl (ltb rfl) (X_move (v := (S (gt a0 x11_1))) rfl) <| L_op (.plain rfl) rfl (ltb rfl) (X_move (v := (S (gt a1 x11_1))) rfl) <| L_callP (.plain rfl) rfl (ltb rfl) rfl Tryd.call78 (cmp_CompareS.calls (w := w11) (a0 := gt a0 x11_1) (a1 := gt a1 x11_1)) rfl <| fun w26 e27 => L_op (.plain rfl) rfl (ltb rfl) (X_assign (v := (.int .i64 (cmpS (gt a0 x11_1) (gt a1 x11_1)))) rfl) <| L_nil <| thn_n <| W_seq <| W_reg <| L_op (.plain rfl) rfl (ltb rfl) (X_move (v := (.int .i64 (cmpS (gt a0 x11_1) (gt a1 x11_1)))) rfl) <| L_op (.plain rfl) rfl (ltb rfl) (X_neq rfl rfl) <| L_nil <| thn_n ?_
          rcases bif_two H with ⟨q28, H⟩ | ⟨q28, H⟩
          · refine W_true (congrArg Value.bool q28) <| W_seq <| W_reg <| L_op (.plain rfl) rfl (ltb rfl) (X_move (v := (.int .i64 (cmpS (gt a0 x11_1) (gt a1 x11_1)))) rfl) <| L_op (.plain rfl) rfl (ltb rfl) (X_assign (v := (.int .i64 (cmpS (gt a0 x11_1) (gt a1 x11_1)))) rfl) <| L_nil <| thn_n <| W_ret <| blk_r <| thn_r <| thn_r <| blk_r <| thn_r <| thn_r <| fin_r ?_
            obtain rfl := Option.some.inj H
            obtain rfl := Option.some.inj S17
            have H := C4
            obtain rfl := Option.some.inj H
            exact fin1 rfl (Ext.trans e13 e27)
          · refine W_false (congrArg Value.bool q28) <| W_skip <| blk_n <| thn_n <| W_reg <| L_op (.plain rfl) rfl (ltb rfl) (X_add h15 rfl) <| L_op (.plain rfl) rfl (ltb rfl) (X_move (v := (.int .i64 (IntKind.wrap .i64 (x11_1 + 1)))) rfl) <| L_nil <| thn_n ?_
            obtain rfl := Option.some.inj H
            exact ⟨_, Nat.lt_succ_self _, IntKind.wrap .i64 (x11_1 + 1), (Kp.upd (Kp.upd (Kp.upd (Kp.upd (Kp.upd (Kp.upd (Kp.upd (Kp.upd (Kp.upd (Kp.upd (Kp.upd (Kp.upd (Kp.upd (Kp.upd (Kp.upd (Kp.upd (Kp.upd (Kp.upd (Kp.upd (Kp.upd (Kp.upd (Kp.upd (Kp.upd K12 rfl) rfl) rfl) rfl) rfl) rfl) rfl) rfl) rfl) rfl) rfl) rfl) rfl) rfl) rfl) rfl) rfl) rfl) rfl) rfl) rfl) rfl) rfl), rfl, (Ext.trans e13 e27), S17⟩
      · refine W_false (congrArg Value.bool q18) <| W_exit <| thn_x <| thn_x <| blk_x <| thn_n ?_
        obtain rfl := Option.some.inj H
        obtain rfl := Option.some.inj S17
        exact ⟨(Kp.upd K12 rfl), e13, rfl⟩
  · rintro s6 w5 ⟨K7, e8, y29⟩
    rw [y29] at C4
    have H := C4
    replace H : _ = some _ := H
    refine thn_n <| W_seq <| W_seq <| W_reg <| L_op (.plain rfl) rfl (ltb rfl) (X_move (v := v_a0) (K7 0 rfl)) <| L_op (.plain rfl) rfl (ltb rfl) (X_lenR Tryd.underlying27 rfl (Rd.ext f_a0 e8)) <| L_op (.plain rfl) rfl (ltb rfl) (X_move (v := v_a1) (K7 1 rfl)) <| L_op (.plain rfl) rfl (ltb rfl) (X_lenR Tryd.underlying27 rfl (Rd.ext f_a1 e8)) <| L_op (.plain rfl) rfl (ltb rfl) (X_lss rfl rfl) <| L_nil <| thn_n ?_
    rcases bif_two H with ⟨q30, H⟩ | ⟨q30, H⟩
    · refine W_true (congrArg Value.bool q30) <| W_seq <| W_reg <| L_op (.plain rfl) rfl (ltb rfl) (X_assign (v := (.int .i64 (-1))) rfl) <| L_nil <| thn_n <| W_ret <| thn_r <| fin_r ?_
      obtain rfl := Option.some.inj H
      exact fin1 rfl e8
    · refine W_false (congrArg Value.bool q30) <| W_skip <| thn_n <| W_seq <| W_reg <| L_op (.plain rfl) rfl (ltb rfl) (X_assign (v := (.int .i64 0)) rfl) <| L_nil <| thn_n <| W_ret <| fin_r ?_
      obtain rfl := Option.some.inj H
      exact fin1 rfl e8
theorem slices_CompareS.calls {w : World} {a0 : List (List UInt8)} {a1 : List (List UInt8)} {v_a0 : Value} (f_a0 : Rd 1 encS w v_a0 a0) {v_a1 : Value} (f_a1 : Rd 1 encS w v_a1 a1) (h0 : a0.length ≤ 4611686018427387904) (h1 : a1.length ≤ 4611686018427387904) :
    Calls Tryd.prog 71 #[v_a0, v_a1] w (Rt (RP w (.int .i64 (cmpL a0 a1)))) := by
  obtain ⟨k, h⟩ := slices_CompareS.eq a0 a1 h0 h1
  exact slices_CompareS.walk f_a0 f_a1 h
/-! impl.compare -/
theorem impl_compare.walk {w : World} {a0 : List UInt8} {a1 : List UInt8} (gv : GV 0 w) {r : Int} (H : impl_compare.sh a0 a1 = some r) :
    Calls Tryd.prog 54 #[S a0, S a1] w (Rt (RP w (.int .i64 r))) := by
  unfold impl_compare.sh at H
  refine calls_of_W Tryd.func54 rfl (Nat.le_of_ble_eq_true rfl) Tryd.ntmps54 rfl ?_
  refine W_seq <| W_reg <| L_op (.plain rfl) rfl (ltb rfl) (X_assign (v := (.int .i64 0)) rfl) <| L_nil <| thn_n <| W_seq <| W_reg <| L_op (.plain rfl) rfl (ltb rfl) (X_move (v := (S a0)) rfl) ?_
  obtain ⟨c1, H⟩ := bif_some H
  refine L_callO (.plain rfl) rfl (ltb rfl) rfl Tryd.call45 (impl_parts.calls (w := w) (a0 := a0) gv (of_decide_eq_true c1)) rfl <| fun v4 w2 e3 o5 => L_op (.plain rfl) rfl (ltb rfl) (X_move (v := (S a1)) rfl) ?_
  obtain ⟨c6, H⟩ := bif_some H
  refine L_callO (.plain rfl) rfl (ltb rfl) rfl Tryd.call45 (impl_parts.calls (w := w2) (a0 := a1) (GV.ext gv e3) (of_decide_eq_true c6)) rfl <| fun v9 w7 e8 o10 => ?_
  obtain ⟨c11, H⟩ := bif_some H
  obtain ⟨c12, H⟩ := bif_some H
  refine L_callP (.plain rfl) rfl (ltb rfl) rfl Tryd.call71 (slices_CompareS.calls (w := w7) (a0 := (cut 47 a0)) (a1 := (cut 47 a1)) (Ow.rd (Ow.ext o5 e8)) (Ow.rd o10) (of_decide_eq_true c11) (of_decide_eq_true c12)) rfl <| fun w13 e14 => L_op (.plain rfl) rfl (ltb rfl) (X_assign (v := (.int .i64 (cmpL (cut 47 a0) (cut 47 a1)))) rfl) <| L_nil <| thn_n <| W_ret <| fin_r ?_
  obtain rfl := Option.some.inj H
  exact fin1 rfl (Ext.trans (Ext.trans e3 e8) e14)
theorem impl_compare.calls {w : World} {a0 : List UInt8} {a1 : List UInt8} (gv : GV 0 w) (h0 : a0.length ≤ 1048576) (h1 : a1.length ≤ 1048576) :
    Calls Tryd.prog 54 #[S a0, S a1] w (Rt (RP w (.int .i64 (cmpL (cut 47 a0) (cut 47 a1))))) := impl_compare.walk gv (impl_compare.eq a0 a1 h0 h1)
/-! impl.PathLess -/
theorem impl_PathLess.walk {w : World} {a0 : List UInt8} {a1 : List UInt8} (gv : GV 0 w) {r : Bool} (H : impl_PathLess.sh a0 a1 = some r) :
    Calls Tryd.prog 28 #[S a0, S a1] w (Rt (RP w (.bool r))) := by
  unfold impl_PathLess.sh at H
  refine calls_of_W Tryd.func28 rfl (Nat.le_of_ble_eq_true rfl) Tryd.ntmps28 rfl ?_
  refine W_seq <| W_reg <| L_op (.plain rfl) rfl (ltb rfl) (X_assign (v := (.bool false)) rfl) <| L_nil <| thn_n <| W_seq <| W_reg <| L_op (.plain rfl) rfl (ltb rfl) (X_move (v := (S a0)) rfl) <| L_callP (.plain rfl) rfl (ltb rfl) rfl Tryd.call25 (impl_PathOK.calls (w := w) (a0 := a0) gv) rfl <| fun w1 e2 => L_op (.plain rfl) rfl (ltb rfl) (X_move (v := (.bool (pathOK a0))) rfl) <| L_grp 3 [(8, 11)] 10 (.bool ((pathOK a0) && (pathOK a1))) ?_ ?_
  · rcases bool_two (pathOK a0) with b2_ | b2_
    · exact L_op (.guard 2 true 7 rfl rfl (ltb rfl) (congrArg Value.bool b2_)) rfl (ltb rfl) (X_move (v := (S a1)) rfl) <| L_callP (.guard 2 true 7 rfl rfl (ltb rfl) (congrArg Value.bool b2_)) rfl (ltb rfl) rfl Tryd.call25 (impl_PathOK.calls (w := w1) (a0 := a1) (GV.ext gv e2)) rfl <| fun w4 e5 => L_op (.plain rfl) rfl (ltb rfl) (X_pick (b := true) (v := (.bool (pathOK a1))) (congrArg Value.bool b2_) rfl) <| L_nil <| thn_n ⟨(Kp.upd (Kp.upd (Kp.upd (Kp.refl _ _) rfl) rfl) rfl), (and_t b2_), e5⟩
    · exact L_skip rfl rfl (ltb rfl) (congrArg Value.bool b2_) rfl rfl (ltb rfl) <| L_skip rfl rfl (ltb rfl) (congrArg Value.bool b2_) rfl rfl (ltb rfl) <| L_op (.plain rfl) rfl (ltb rfl) (X_pick (b := false) (v := (.bool false)) (congrArg Value.bool b2_) rfl) <| L_nil <| thn_n ⟨(Kp.upd (Kp.upd (Kp.upd (Kp.refl _ _) rfl) rfl) rfl), (and_f b2_), (Ext.refl w1)⟩
  intro s8 w4 K5 h6 e7
  refine L_op (.plain rfl) rfl (ltb rfl) (X_move (v := (.bool ((pathOK a0) && (pathOK a1)))) h6) ?_
  obtain ⟨z10, x11, H⟩ := bind_some H
  refine L_grpE 5 [(12, 17)] 16 (fun q => q = z10) ?_ ?_
  · rcases bif_two x11 with ⟨b8_, H⟩ | ⟨b8_, H⟩
    · refine L_op (.guard 6 true 11 rfl rfl (ltb rfl) (congrArg Value.bool b8_)) rfl (ltb rfl) (X_move (v := (S a0)) (K5 0 rfl)) <| L_op (.guard 6 true 11 rfl rfl (ltb rfl) (congrArg Value.bool b8_)) rfl (ltb rfl) (X_move (v := (S a1)) (K5 1 rfl)) ?_
      obtain ⟨c10, H⟩ := bif_some H
      obtain ⟨c11, H⟩ := bif_some H
      refine L_callP (.guard 6 true 11 rfl rfl (ltb rfl) (congrArg Value.bool b8_)) rfl (ltb rfl) rfl Tryd.call54 (impl_compare.calls (w := w4) (a0 := a0) (a1 := a1) (GV.ext gv (Ext.trans e2 e7)) (of_decide_eq_true c10) (of_decide_eq_true c11)) rfl <| fun w12 e13 => L_op (.guard 6 true 11 rfl rfl (ltb rfl) (congrArg Value.bool b8_)) rfl (ltb rfl) (X_lss rfl rfl) <| L_op (.plain rfl) rfl (ltb rfl) (X_pick (b := true) (v := (.bool (decide ((cmpL (cut 47 a0) (cut 47 a1)) < 0)))) (congrArg Value.bool b8_) rfl) ?_
      obtain rfl := Option.some.inj H
      exact L_nil <| thn_n ⟨(Kp.upd (Kp.upd (Kp.upd (Kp.upd (Kp.upd (Kp.refl _ _) rfl) rfl) rfl) rfl) rfl), ⟨_, rfl, rfl⟩, e13⟩
    · refine L_skip rfl rfl (ltb rfl) (congrArg Value.bool b8_) rfl rfl (ltb rfl) <| L_skip rfl rfl (ltb rfl) (congrArg Value.bool b8_) rfl rfl (ltb rfl) <| L_skip rfl rfl (ltb rfl) (congrArg Value.bool b8_) rfl rfl (ltb rfl) <| L_skip rfl rfl (ltb rfl) (congrArg Value.bool b8_) rfl rfl (ltb rfl) <| L_op (.plain rfl) rfl (ltb rfl) (X_pick (b := false) (v := (.bool false)) (congrArg Value.bool b8_) rfl) ?_
      obtain rfl := Option.some.inj H
      exact L_nil <| thn_n ⟨(Kp.upd (Kp.upd (Kp.upd (Kp.upd (Kp.upd (Kp.refl _ _) rfl) rfl) rfl) rfl) rfl), ⟨_, rfl, rfl⟩, (Ext.refl w4)⟩
  intro s16 w12 z17 K13 hq h14 e15
  rw [hq] at h14; clear hq
  refine L_op (.plain rfl) rfl (ltb rfl) (X_assign (v := (.bool z10)) h14) <| L_nil <| thn_n <| W_ret <| fin_r ?_
  obtain rfl := Option.some.inj H
  exact fin1 rfl (Ext.trans (Ext.trans e2 e7) e15)
theorem impl_PathLess.calls {w : World} {a0 : List UInt8} {a1 : List UInt8} (gv : GV 0 w) :
    Calls Tryd.prog 28 #[S a0, S a1] w (Rt (RP w (.bool (pathLess a0 a1)))) := impl_PathLess.walk gv (impl_PathLess.eq a0 a1)
/-! spec.l01Ask -/
theorem spec_l01Ask.walk {w : World} {a0 : List UInt8} {r : Int} (H : spec_l01Ask.sh a0 = some r) :
    Calls Tryd.prog 46 #[S a0] w (Rt (RP w (.int .i64 r))) := by
  unfold spec_l01Ask.sh at H
  refine calls_of_W Tryd.func46 rfl (Nat.le_of_ble_eq_true rfl) Tryd.ntmps46 rfl ?_
  refine W_seq <| W_reg <| L_op (.plain rfl) rfl (ltb rfl) (X_assign (v := (.int .i64 0)) rfl) <| L_nil <| thn_n <| W_seq <| W_seq <| W_reg <| L_op (.plain rfl) rfl (ltb rfl) (X_move (v := (S a0)) rfl) <| L_op (.plain rfl) rfl (ltb rfl) (X_lenS Tryd.underlying9 rfl) <| L_op (.plain rfl) rfl (ltb rfl) (X_gtr rfl rfl) <| L_nil <| thn_n ?_
  rcases bif_two H with ⟨q1, H⟩ | ⟨q1, H⟩
  · refine W_true (congrArg Value.bool q1) <| W_seq <| W_reg <| L_op (.plain rfl) rfl (ltb rfl) (X_assign (v := (.int .i64 2)) rfl) <| L_nil <| thn_n <| W_ret <| thn_r <| fin_r ?_
    obtain rfl := Option.some.inj H
    exact fin1 rfl (Ext.refl w)
  · refine W_false (congrArg Value.bool q1) <| W_skip <| thn_n <| W_seq <| W_seq <| W_reg <| L_op (.plain rfl) rfl (ltb rfl) (X_move (v := (S a0)) rfl) <| L_callP (.plain rfl) rfl (ltb rfl) rfl Tryd.call55 (spec_l01OK.calls (w := w) (a0 := a0)) rfl <| fun w2 e3 => L_op (.plain rfl) rfl (ltb rfl) (X_not rfl) <| L_nil <| thn_n ?_
    rcases bif_two H with ⟨q4, H⟩ | ⟨q4, H⟩
    · refine W_true (congrArg Value.bool q4) <| W_seq <| W_reg <| L_op (.plain rfl) rfl (ltb rfl) (X_assign (v := (.int .i64 10)) rfl) <| L_nil <| thn_n <| W_ret <| thn_r <| fin_r ?_
      obtain rfl := Option.some.inj H
      exact fin1 rfl e3
    · refine W_false (congrArg Value.bool q4) <| W_skip <| thn_n <| W_seq <| W_reg <| L_op (.plain rfl) rfl (ltb rfl) (X_assign (v := (.int .i64 0)) rfl) <| L_nil <| thn_n <| W_ret <| fin_r ?_
      obtain rfl := Option.some.inj H
      exact fin1 rfl e3
theorem spec_l01Ask.calls {w : World} {a0 : List UInt8} :
    Calls Tryd.prog 46 #[S a0] w (Rt (RP w (.int .i64 (askP a0)))) := spec_l01Ask.walk (spec_l01Ask.eq a0)
/-! spec.PartsOf -/
theorem spec_PartsOf.walk {w : World} {a0 : List UInt8} {r : List (List UInt8) × Int} (H : spec_PartsOf.sh a0 = some r) :
    Calls Tryd.prog 21 #[S a0] w (Rt (RT 9 1 encS w r.1 (.int .i64 r.2))) := by
  unfold spec_PartsOf.sh at H
  refine calls_of_W Tryd.func21 rfl (Nat.le_of_ble_eq_true rfl) Tryd.ntmps21 rfl ?_
  refine W_seq <| W_reg <| L_op (.plain rfl) rfl (ltb rfl) (X_assign (v := (.slice none 0 0)) rfl) <| L_op (.plain rfl) rfl (ltb rfl) (X_assign (v := (.int .i64 0)) rfl) <| L_nil <| thn_n <| W_seq <| W_seq <| W_reg <| L_op (.plain rfl) rfl (ltb rfl) (X_move (v := (S a0)) rfl) <| L_op (.plain rfl) rfl (ltb rfl) (X_lenS Tryd.underlying9 rfl) <| L_op (.plain rfl) rfl (ltb rfl) (X_gtr rfl rfl) <| L_nil <| thn_n ?_
  rcases bif_two H with ⟨q1, H⟩ | ⟨q1, H⟩
  · refine W_true (congrArg Value.bool q1) <| W_seq <| W_reg <| L_lit (.plain rfl) rfl (ltb rfl) rfl Tryd.underlying27 Tryd.sizeOf9 Tryd.zeroValue9 rfl rfl rfl (vs := []) rfl (lit_all rfl) <| fun b2 w3 z4 z5 e6 k7 => L_op (.plain rfl) rfl (ltb rfl) (X_assign (v := (.slice (some ⟨b2, 0, none⟩) 0 0)) rfl) <| L_op (.plain rfl) rfl (ltb rfl) (X_assign (v := (.int .i64 2)) rfl) <| L_nil <| thn_n <| W_ret <| thn_r <| fin_r ?_
    obtain rfl := Option.some.inj H
    exact fin2o rfl rfl e6 (Ow.zero (base := w.heap.size)) (Nat.le_refl _)
  · refine W_false (congrArg Value.bool q1) <| W_skip <| thn_n <| W_seq <| W_seq <| W_reg <| L_op (.plain rfl) rfl (ltb rfl) (X_move (v := (S a0)) rfl) <| L_callP (.plain rfl) rfl (ltb rfl) rfl Tryd.call46 (spec_l01Ask.calls (w := w) (a0 := a0)) rfl <| fun w8 e9 => L_op (.plain rfl) rfl (ltb rfl) (X_assign (v := (.int .i64 (askP a0))) rfl) <| L_nil <| thn_n <| W_seq <| W_reg <| L_op (.plain rfl) rfl (ltb rfl) (X_move (v := (.int .i64 (askP a0))) rfl) <| L_op (.plain rfl) rfl (ltb rfl) (X_neq rfl rfl) <| L_nil <| thn_n ?_
    rcases bif_two H with ⟨q10, H⟩ | ⟨q10, H⟩
    · refine W_true (congrArg Value.bool q10) <| W_seq <| W_reg <| L_lit (.plain rfl) rfl (ltb rfl) rfl Tryd.underlying27 Tryd.sizeOf9 Tryd.zeroValue9 rfl rfl rfl (vs := []) rfl (lit_all rfl) <| fun b11 w12 z13 z14 e15 k16 => L_op (.plain rfl) rfl (ltb rfl) (X_move (v := (.int .i64 (askP a0))) rfl) <| L_op (.plain rfl) rfl (ltb rfl) (X_assign (v := (.slice (some ⟨b11, 0, none⟩) 0 0)) rfl) <| L_op (.plain rfl) rfl (ltb rfl) (X_assign (v := (.int .i64 (askP a0))) rfl) <| L_nil <| thn_n <| W_ret <| thn_r <| fin_r ?_
      obtain rfl := Option.some.inj H
      exact fin2o rfl rfl (Ext.trans e9 e15) (Ow.zero (base := w.heap.size)) (Nat.le_refl _)
    · refine W_false (congrArg Value.bool q10) <| W_skip <| thn_n <| W_seq <| W_reg <| L_op (.plain rfl) rfl (ltb rfl) (X_move (v := (S a0)) rfl) ?_
      obtain ⟨c17, H⟩ := bif_some H
      refine L_callO (.plain rfl) rfl (ltb rfl) rfl Tryd.call47 (spec_l00Cut.calls (w := w8) (a0 := a0) (a1 := 47) (of_decide_eq_true c17)) rfl <| fun v20 w18 e19 o21 => L_op (.plain rfl) rfl (ltb rfl) (X_assign (v := v20) rfl) <| L_op (.plain rfl) rfl (ltb rfl) (X_assign (v := (.int .i64 0)) rfl) <| L_nil <| thn_n <| W_ret <| fin_r ?_
      obtain rfl := Option.some.inj H
      exact fin2o rfl rfl (Ext.trans e9 e19) o21 (e9).size
theorem spec_PartsOf.calls {w : World} {a0 : List UInt8} :
    Calls Tryd.prog 21 #[S a0] w (Rt (RT 9 1 encS w ((partsOf a0).1) (.int .i64 ((partsOf a0).2)))) := spec_PartsOf.walk (spec_PartsOf.eq a0)
/-! impl.PartsOf -/
theorem impl_PartsOf.walk {w : World} {a0 : List UInt8} (gv : GV 0 w) {r : List (List UInt8) × Int} (H : impl_PartsOf.sh a0 = some r) :
    Calls Tryd.prog 20 #[S a0] w (Rt (RT 9 1 encS w r.1 (.int .i64 r.2))) := by
  unfold impl_PartsOf.sh at H
  refine calls_of_W Tryd.func20 rfl (Nat.le_of_ble_eq_true rfl) Tryd.ntmps20 rfl ?_
  refine W_seq <| W_reg <| L_op (.plain rfl) rfl (ltb rfl) (X_assign (v := (.slice none 0 0)) rfl) <| L_op (.plain rfl) rfl (ltb rfl) (X_assign (v := (.int .i64 0)) rfl) <| L_nil <| thn_n <| W_seq <| W_seq <| W_reg <| L_op (.plain rfl) rfl (ltb rfl) (X_move (v := (S a0)) rfl) <| L_lit (.plain rfl) rfl (ltb rfl) rfl Tryd.underlying27 Tryd.sizeOf9 Tryd.zeroValue9 rfl rfl rfl (vs := [(S a0)]) rfl (lit_all rfl) <| fun b1 w2 z3 z4 e5 k6 => ?_
  obtain ⟨c7, H⟩ := bif_some H
  refine L_callP (.plain rfl) rfl (ltb rfl) rfl Tryd.call44 (impl_isLong.calls (w := w2) (a0 := ([a0] : List (List UInt8))) (Ow.rd (Ow.new (xs := [a0]) (sz := 1) (enc := encS) (base := w.heap.size) k6 (Nat.le_of_eq z3) rfl (fun _ _ => by rfl) (Nat.le_of_ble_eq_true rfl))) (of_decide_eq_true c7)) rfl <| fun w8 e9 => L_op (.plain rfl) rfl (ltb rfl) (X_mkiface Tryd.underlying4 rfl rfl) <| L_op (.plain rfl) rfl (ltb rfl) (X_mkiface Tryd.underlying3 rfl rfl) <| L_op (.plain rfl) rfl (ltb rfl) (X_move (v := (S a0)) rfl) <| L_callP (.plain rfl) rfl (ltb rfl) rfl Tryd.call25 (impl_PathOK.calls (w := w8) (a0 := a0) (GV.ext gv (Ext.trans e5 e9))) rfl <| fun w10 e11 => L_op (.plain rfl) rfl (ltb rfl) (X_not rfl) <| L_op (.plain rfl) rfl (ltb rfl) (X_mkiface Tryd.underlying4 rfl rfl) <| L_op (.plain rfl) rfl (ltb rfl) (X_mkiface Tryd.underlying3 rfl rfl) <| L_lit (.plain rfl) rfl (ltb rfl) rfl Tryd.underlying67 Tryd.sizeOf20 Tryd.zeroValue20 rfl rfl rfl (vs := [(.iface 4 (.bool (([a0] : List (List UInt8)).any fun t => decide (65536 < t.length)))), (.iface 3 (.int .i64 2)), (.iface 4 (.bool (!(pathOK a0)))), (.iface 3 (.int .i64 10))]) rfl (lit_all rfl) <| fun b12 w13 z14 z15 e16 k17 => ?_
  obtain ⟨c18, H⟩ := bif_some H
  obtain ⟨z21, x22, H⟩ := bind_some H
  replace x22 := Option.some.inj x22
  refine L_callP (.plain rfl) rfl (ltb rfl) rfl Tryd.call41 (impl_first.calls (w := w13) (a0 := ([.inl (([a0] : List (List UInt8)).any fun t => decide (65536 < t.length)), .inr 2, .inl (!(pathOK a0)), .inr 10] : List (Bool ⊕ Int))) (Ow.rd (Ow.new (xs := [.inl (([a0] : List (List UInt8)).any fun t => decide (65536 < t.length)), .inr 2, .inl (!(pathOK a0)), .inr 10]) (sz := 1) (enc := (encAny 4 3)) (base := w10.heap.size) k17 (Nat.le_of_eq z14) rfl (fun _ _ => by first | rfl | exact encAny_len _ _ _) (Nat.le_of_ble_eq_true rfl))) (of_decide_eq_true c18)) rfl <| fun w19 e20 => L_op (.plain rfl) rfl (ltb rfl) (X_assign (v := (.int .i64 z21)) (congrArg (Value.int .i64) x22)) <| L_nil <| thn_n <| W_seq <| W_reg <| L_op (.plain rfl) rfl (ltb rfl) (X_move (v := (.int .i64 z21)) rfl) <| L_op (.plain rfl) rfl (ltb rfl) (X_neq rfl rfl) <| L_nil <| thn_n ?_
  rcases bif_two H with ⟨q23, H⟩ | ⟨q23, H⟩
  · refine W_true (congrArg Value.bool q23) <| W_seq <| W_reg <| L_op (.plain rfl) rfl (ltb rfl) (X_move (v := (.int .i64 z21)) rfl) <| L_op (.plain rfl) rfl (ltb rfl) (X_assign (v := (.slice none 0 0)) rfl) <| L_op (.plain rfl) rfl (ltb rfl) (X_assign (v := (.int .i64 z21)) rfl) <| L_nil <| thn_n <| W_ret <| thn_r <| fin_r ?_
    obtain rfl := Option.some.inj H
    exact fin2o rfl rfl (Ext.trans (Ext.trans (Ext.trans (Ext.trans e5 e9) e11) e16) e20) (Ow.zero (base := w.heap.size)) (Nat.le_refl _)
  · refine W_false (congrArg Value.bool q23) <| W_skip <| thn_n <| W_seq <| W_reg <| L_op (.plain rfl) rfl (ltb rfl) (X_move (v := (S a0)) rfl) ?_
    obtain ⟨c24, H⟩ := bif_some H
    refine L_callO (.plain rfl) rfl (ltb rfl) rfl Tryd.call45 (impl_parts.calls (w := w19) (a0 := a0) (GV.ext gv (Ext.trans (Ext.trans (Ext.trans (Ext.trans e5 e9) e11) e16) e20)) (of_decide_eq_true c24)) rfl <| fun v27 w25 e26 o28 => L_op (.plain rfl) rfl (ltb rfl) (X_assign (v := v27) rfl) <| L_op (.plain rfl) rfl (ltb rfl) (X_assign (v := (.int .i64 0)) rfl) <| L_nil <| thn_n <| W_ret <| fin_r ?_
    obtain rfl := Option.some.inj H
    exact fin2o rfl rfl (Ext.trans (Ext.trans (Ext.trans (Ext.trans (Ext.trans e5 e9) e11) e16) e20) e26) o28 ((Ext.trans (Ext.trans (Ext.trans (Ext.trans e5 e9) e11) e16) e20)).size
theorem impl_PartsOf.calls {w : World} {a0 : List UInt8} (gv : GV 0 w) :
    Calls Tryd.prog 20 #[S a0] w (Rt (RT 9 1 encS w ((partsOf a0).1) (.int .i64 ((partsOf a0).2)))) := impl_PartsOf.walk gv (impl_PartsOf.eq a0)
/-! spec.l01Parent -/
theorem spec_l01Parent.walk {k : Nat} {w : World} {a0 : List UInt8} {r : List UInt8} (H : spec_l01Parent.sh k a0 = some r) :
    Calls Tryd.prog 49 #[S a0] w (Rt (RP w (S r))) := by
  unfold spec_l01Parent.sh at H
  refine calls_of_W Tryd.func49 rfl (Nat.le_of_ble_eq_true rfl) Tryd.ntmps49 rfl ?_
  refine W_seq <| W_reg <| L_op (.plain rfl) rfl (ltb rfl) (X_assign (v := (S ([] : List UInt8))) rfl) <| L_nil <| thn_n <| W_seq <| W_seq <| W_reg <| L_op (.plain rfl) rfl (ltb rfl) (X_move (v := (S a0)) rfl) <| L_op (.plain rfl) rfl (ltb rfl) (X_lenS Tryd.underlying9 rfl) <| L_op (.plain rfl) rfl (ltb rfl) (X_sub rfl rfl) <| L_op (.plain rfl) rfl (ltb rfl) (X_assign (v := (.int .i64 (IntKind.wrap .i64 ((a0.length : Int) - 1)))) rfl) <| L_nil <| thn_n ?_
  obtain ⟨z2, L3, C4⟩ := bind_some H
  clear H
  refine  W_cutQ (fun s0 sQ wQ => Kp [(2, 4), (7, 18)] s0 sQ ∧ Ext w wQ ∧ z2 = .inr ()) ?_ ?_
  · refine W_block <| W_loopI (fun s0 kk sQ wQ => ∃ (x3_1 : Int), Kp [(2, 4), (7, 18)] s0 sQ ∧ sQ 3 = .int .i64 x3_1 ∧ Ext w wQ ∧ loopF (spec_l01Parent.b1 a0) kk x3_1 = some z2) k ⟨IntKind.wrap .i64 ((a0.length : Int) - 1), (Kp.refl _ _), rfl, (Ext.refl w), L3⟩ ?_
    rintro k9 s10 w11 ⟨x3_1, K12, h15, e13, L14⟩
    cases k9 with
    | zero => exact absurd L14 (by simp [loopF])
    | succ k9 =>
      obtain ⟨t16, H, S17⟩ := loopF_succ L14
      clear L14
      unfold spec_l01Parent.b1 at H
      refine W_seq <| W_seq <| W_reg <| L_op (.plain rfl) rfl (ltb rfl) (X_move (v := (.int .i64 x3_1)) h15) <| L_op (.plain rfl) rfl (ltb rfl) (X_geq rfl rfl) <| L_nil <| thn_n ?_
      rcases bif_two H with ⟨q18, H⟩ | ⟨q18, H⟩
      · refine W_true (congrArg Value.bool q18) <| W_skip <| thn_n <| W_seq <| W_block <| W_seq <| W_reg <| L_op (.plain rfl) rfl (ltb rfl) (X_move (v := (S a0)) (K12 0 rfl)) <| L_op (.plain rfl) rfl (ltb rfl) (X_move (v := (.int .i64 x3_1)) h15) ?_
        obtain ⟨c19, H⟩ := bif_some H
        refine L_op (.plain rfl) rfl (ltb rfl) (X_indexS Tryd.underlying9 rfl rfl (inR_lo c19) (inR_hi c19)) <| L_op (.plain rfl) rfl (ltb rfl) (X_eql rfl rfl) <| L_nil <| thn_n ?_
        rcases bif_two H with ⟨q20, H⟩ | ⟨q20, H⟩
        · refine W_true (congrArg Value.bool q20) <| W_seq <| W_reg <| L_op (.plain rfl) rfl (ltb rfl) (X_move (v := (S a0)) (K12 0 rfl)) <| L_op (.plain rfl) rfl (ltb rfl) (X_move (v := (.int .i64 x3_1)) h15) ?_
          obtain ⟨c21, H⟩ := bif_some H
          refine L_op (.plain rfl) rfl (ltb rfl) (X_sliceS Tryd.underlying9 rfl (l := 0) (h := x3_1) rfl ⟨_, rfl⟩ (inS_1 c21) (inS_2 c21) (inS_3 c21)) <| L_op (.plain rfl) rfl (ltb rfl) (X_assign (v := (S (sub a0 0 x3_1))) rfl) <| L_nil <| thn_n <| W_ret <| blk_r <| thn_r <| thn_r <| blk_r <| thn_r <| thn_r <| fin_r ?_
          obtain rfl := Option.some.inj H
          obtain rfl := Option.some.inj S17
          have H := C4
          obtain rfl := Option.some.inj H
          exact fin1 rfl e13
        · refine W_false (congrArg Value.bool q20) <| W_skip <| blk_n <| thn_n <| W_reg <| L_op (.plain rfl) rfl (ltb rfl) (X_move (v := (.int .i64 x3_1)) h15) <| L_op (.plain rfl) rfl (ltb rfl) (X_sub rfl rfl) <| L_op (.plain rfl) rfl (ltb rfl) (X_assign (v := (.int .i64 (IntKind.wrap .i64 (x3_1 - 1)))) rfl) <| L_nil <| thn_n ?_
          obtain rfl := Option.some.inj H
          exact ⟨_, Nat.lt_succ_self _, IntKind.wrap .i64 (x3_1 - 1), (Kp.upd (Kp.upd (Kp.upd (Kp.upd (Kp.upd (Kp.upd (Kp.upd (Kp.upd (Kp.upd K12 rfl) rfl) rfl) rfl) rfl) rfl) rfl) rfl) rfl), rfl, e13, S17⟩
      · refine W_false (congrArg Value.bool q18) <| W_exit <| thn_x <| thn_x <| blk_x <| thn_n ?_
        obtain rfl := Option.some.inj H
        obtain rfl := Option.some.inj S17
        exact ⟨(Kp.upd (Kp.upd K12 rfl) rfl), e13, rfl⟩
  · rintro s6 w5 ⟨K7, e8, y22⟩
    rw [y22] at C4
    have H := C4
    replace H : _ = some _ := H
    refine thn_n <| W_seq <| W_reg <| L_op (.plain rfl) rfl (ltb rfl) (X_assign (v := (S ([] : List UInt8))) rfl) <| L_nil <| thn_n <| W_ret <| fin_r ?_
    obtain rfl := Option.some.inj H
    exact fin1 rfl e8
theorem spec_l01Parent.calls {w : World} {a0 : List UInt8} (h0 : a0.length ≤ 4611686018427387904) :
    Calls Tryd.prog 49 #[S a0] w (Rt (RP w (S (parentP a0)))) := by
  obtain ⟨k, h⟩ := spec_l01Parent.eq a0 h0
  exact spec_l01Parent.walk h
/-! spec.ParentOf -/
theorem spec_ParentOf.walk {w : World} {a0 : List UInt8} {r : List UInt8 × Int} (H : spec_ParentOf.sh a0 = some r) :
    Calls Tryd.prog 23 #[S a0] w (Rt (RP w (.tuple #[S r.1, .int .i64 r.2]))) := by
  unfold spec_ParentOf.sh at H
  refine calls_of_W Tryd.func23 rfl (Nat.le_of_ble_eq_true rfl) Tryd.ntmps23 rfl ?_
  refine W_seq <| W_reg <| L_op (.plain rfl) rfl (ltb rfl) (X_assign (v := (S ([] : List UInt8))) rfl) <| L_op (.plain rfl) rfl (ltb rfl) (X_assign (v := (.int .i64 0)) rfl) <| L_nil <| thn_n <| W_seq <| W_seq <| W_reg <| L_op (.plain rfl) rfl (ltb rfl) (X_move (v := (S a0)) rfl) <| L_op (.plain rfl) rfl (ltb rfl) (X_lenS Tryd.underlying9 rfl) <| L_op (.plain rfl) rfl (ltb rfl) (X_gtr rfl rfl) <| L_nil <| thn_n ?_
  rcases bif_two H with ⟨q1, H⟩ | ⟨q1, H⟩
  · refine W_true (congrArg Value.bool q1) <| W_seq <| W_reg <| L_op (.plain rfl) rfl (ltb rfl) (X_assign (v := (S ([] : List UInt8))) rfl) <| L_op (.plain rfl) rfl (ltb rfl) (X_assign (v := (.int .i64 2)) rfl) <| L_nil <| thn_n <| W_ret <| thn_r <| fin_r ?_
    obtain rfl := Option.some.inj H
    exact fin2 rfl rfl (Ext.refl w)
  · refine W_false (congrArg Value.bool q1) <| W_skip <| thn_n <| W_seq <| W_seq <| W_reg <| L_op (.plain rfl) rfl (ltb rfl) (X_move (v := (S a0)) rfl) <| L_callP (.plain rfl) rfl (ltb rfl) rfl Tryd.call46 (spec_l01Ask.calls (w := w) (a0 := a0)) rfl <| fun w2 e3 => L_op (.plain rfl) rfl (ltb rfl) (X_assign (v := (.int .i64 (askP a0))) rfl) <| L_nil <| thn_n <| W_seq <| W_reg <| L_op (.plain rfl) rfl (ltb rfl) (X_move (v := (.int .i64 (askP a0))) rfl) <| L_op (.plain rfl) rfl (ltb rfl) (X_neq rfl rfl) <| L_nil <| thn_n ?_
    rcases bif_two H with ⟨q4, H⟩ | ⟨q4, H⟩
    · refine W_true (congrArg Value.bool q4) <| W_seq <| W_reg <| L_op (.plain rfl) rfl (ltb rfl) (X_move (v := (.int .i64 (askP a0))) rfl) <| L_op (.plain rfl) rfl (ltb rfl) (X_assign (v := (S ([] : List UInt8))) rfl) <| L_op (.plain rfl) rfl (ltb rfl) (X_assign (v := (.int .i64 (askP a0))) rfl) <| L_nil <| thn_n <| W_ret <| thn_r <| fin_r ?_
      obtain rfl := Option.some.inj H
      exact fin2 rfl rfl e3
    · refine W_false (congrArg Value.bool q4) <| W_skip <| thn_n <| W_seq <| W_reg <| L_op (.plain rfl) rfl (ltb rfl) (X_move (v := (S a0)) rfl) ?_
      obtain ⟨c5, H⟩ := bif_some H
      refine L_callP (.plain rfl) rfl (ltb rfl) rfl Tryd.call49 (spec_l01Parent.calls (w := w2) (a0 := a0) (of_decide_eq_true c5)) rfl <| fun w6 e7 => L_op (.plain rfl) rfl (ltb rfl) (X_assign (v := (S (parentP a0))) rfl) <| L_op (.plain rfl) rfl (ltb rfl) (X_assign (v := (.int .i64 0)) rfl) <| L_nil <| thn_n <| W_ret <| fin_r ?_
      obtain rfl := Option.some.inj H
      exact fin2 rfl rfl (Ext.trans e3 e7)
theorem spec_ParentOf.calls {w : World} {a0 : List UInt8} :
    Calls Tryd.prog 23 #[S a0] w (Rt (RP w (.tuple #[S ((parentOf a0).1), .int .i64 ((parentOf a0).2)]))) := spec_ParentOf.walk (spec_ParentOf.eq a0)
/-! impl.parent -/
theorem impl_parent.walk {w : World} {a0 : List UInt8} {r : List UInt8} (H : impl_parent.sh a0 = some r) :
    Calls Tryd.prog 48 #[S a0] w (Rt (RP w (S r))) := by
  unfold impl_parent.sh at H
  refine calls_of_W Tryd.func48 rfl (Nat.le_of_ble_eq_true rfl) Tryd.ntmps48 rfl ?_
  refine W_seq <| W_reg <| L_op (.plain rfl) rfl (ltb rfl) (X_assign (v := (S ([] : List UInt8))) rfl) <| L_nil <| thn_n <| W_seq <| W_reg <| L_op (.plain rfl) rfl (ltb rfl) (X_move (v := (S a0)) rfl) <| L_op (.plain rfl) rfl (ltb rfl) (X_move (v := (S a0)) rfl) ?_
  obtain ⟨c1, H⟩ := bif_some H
  obtain ⟨c2, H⟩ := bif_some H
  refine L_callP (.plain rfl) rfl (ltb rfl) rfl Tryd.call67 (strings_LastIndex.calls (w := w) (a0 := a0) (a1 := ([47] : List UInt8)) (of_decide_eq_true c1) (of_decide_eq_true c2)) rfl <| fun w3 e4 => L_op (.plain rfl) rfl (ltb rfl) (X_max rfl rfl) ?_
  obtain ⟨c5, H⟩ := bif_some H
  refine L_op (.plain rfl) rfl (ltb rfl) (X_sliceS Tryd.underlying9 rfl (l := 0) (h := (if ((lastSlash a0) < 0 : Prop) then 0 else (lastSlash a0))) rfl ⟨_, rfl⟩ (inS_1 c5) (inS_2 c5) (inS_3 c5)) <| L_op (.plain rfl) rfl (ltb rfl) (X_assign rfl) <| L_nil <| thn_n <| W_ret <| fin_r ?_
  obtain rfl := Option.some.inj H
  exact fin1 rfl e4
theorem impl_parent.calls {w : World} {a0 : List UInt8} (h0 : a0.length ≤ 1048576) :
    Calls Tryd.prog 48 #[S a0] w (Rt (RP w (S (parentP a0)))) := impl_parent.walk (impl_parent.eq a0 h0)
/-! impl.ParentOf -/
theorem impl_ParentOf.walk {w : World} {a0 : List UInt8} (gv : GV 0 w) {r : List UInt8 × Int} (H : impl_ParentOf.sh a0 = some r) :
    Calls Tryd.prog 22 #[S a0] w (Rt (RP w (.tuple #[S r.1, .int .i64 r.2]))) := by
  unfold impl_ParentOf.sh at H
  refine calls_of_W Tryd.func22 rfl (Nat.le_of_ble_eq_true rfl) Tryd.ntmps22 rfl ?_
  refine W_seq <| W_reg <| L_op (.plain rfl) rfl (ltb rfl) (X_assign (v := (S ([] : List UInt8))) rfl) <| L_op (.plain rfl) rfl (ltb rfl) (X_assign (v := (.int .i64 0)) rfl) <| L_nil <| thn_n <| W_seq <| W_seq <| W_reg <| L_op (.plain rfl) rfl (ltb rfl) (X_move (v := (S a0)) rfl) <| L_lit (.plain rfl) rfl (ltb rfl) rfl Tryd.underlying27 Tryd.sizeOf9 Tryd.zeroValue9 rfl rfl rfl (vs := [(S a0)]) rfl (lit_all rfl) <| fun b1 w2 z3 z4 e5 k6 => ?_
  obtain ⟨c7, H⟩ := bif_some H
  refine L_callP (.plain rfl) rfl (ltb rfl) rfl Tryd.call44 (impl_isLong.calls (w := w2) (a0 := ([a0] : List (List UInt8))) (Ow.rd (Ow.new (xs := [a0]) (sz := 1) (enc := encS) (base := w.heap.size) k6 (Nat.le_of_eq z3) rfl (fun _ _ => by rfl) (Nat.le_of_ble_eq_true rfl))) (of_decide_eq_true c7)) rfl <| fun w8 e9 => L_op (.plain rfl) rfl (ltb rfl) (X_mkiface Tryd.underlying4 rfl rfl) <| L_op (.plain rfl) rfl (ltb rfl) (X_mkiface Tryd.underlying3 rfl rfl) <| L_op (.plain rfl) rfl (ltb rfl) (X_move (v := (S a0)) rfl) <| L_callP (.plain rfl) rfl (ltb rfl) rfl Tryd.call25 (impl_PathOK.calls (w := w8) (a0 := a0) (GV.ext gv (Ext.trans e5 e9))) rfl <| fun w10 e11 => L_op (.plain rfl) rfl (ltb rfl) (X_not rfl) <| L_op (.plain rfl) rfl (ltb rfl) (X_mkiface Tryd.underlying4 rfl rfl) <| L_op (.plain rfl) rfl (ltb rfl) (X_mkiface Tryd.underlying3 rfl rfl) <| L_lit (.plain rfl) rfl (ltb rfl) rfl Tryd.underlying67 Tryd.sizeOf20 Tryd.zeroValue20 rfl rfl rfl (vs := [(.iface 4 (.bool (([a0] : List (List UInt8)).any fun t => decide (65536 < t.length)))), (.iface 3 (.int .i64 2)), (.iface 4 (.bool (!(pathOK a0)))), (.iface 3 (.int .i64 10))]) rfl (lit_all rfl) <| fun b12 w13 z14 z15 e16 k17 => ?_
  obtain ⟨c18, H⟩ := bif_some H
  obtain ⟨z21, x22, H⟩ := bind_some H
  replace x22 := Option.some.inj x22
  refine L_callP (.plain rfl) rfl (ltb rfl) rfl Tryd.call41 (impl_first.calls (w := w13) (a0 := ([.inl (([a0] : List (List UInt8)).any fun t => decide (65536 < t.length)), .inr 2, .inl (!(pathOK a0)), .inr 10] : List (Bool ⊕ Int))) (Ow.rd (Ow.new (xs := [.inl (([a0] : List (List UInt8)).any fun t => decide (65536 < t.length)), .inr 2, .inl (!(pathOK a0)), .inr 10]) (sz := 1) (enc := (encAny 4 3)) (base := w10.heap.size) k17 (Nat.le_of_eq z14) rfl (fun _ _ => by first | rfl | exact encAny_len _ _ _) (Nat.le_of_ble_eq_true rfl))) (of_decide_eq_true c18)) rfl <| fun w19 e20 => L_op (.plain rfl) rfl (ltb rfl) (X_assign (v := (.int .i64 z21)) (congrArg (Value.int .i64) x22)) <| L_nil <| thn_n <| W_seq <| W_reg <| L_op (.plain rfl) rfl (ltb rfl) (X_move (v := (.int .i64 z21)) rfl) <| L_op (.plain rfl) rfl (ltb rfl) (X_neq rfl rfl) <| L_nil <| thn_n ?_
  rcases bif_two H with ⟨q23, H⟩ | ⟨q23, H⟩
  · refine W_true (congrArg Value.bool q23) <| W_seq <| W_reg <| L_op (.plain rfl) rfl (ltb rfl) (X_move (v := (.int .i64 z21)) rfl) <| L_op (.plain rfl) rfl (ltb rfl) (X_assign (v := (S ([] : List UInt8))) rfl) <| L_op (.plain rfl) rfl (ltb rfl) (X_assign (v := (.int .i64 z21)) rfl) <| L_nil <| thn_n <| W_ret <| thn_r <| fin_r ?_
    obtain rfl := Option.some.inj H
    exact fin2 rfl rfl (Ext.trans (Ext.trans (Ext.trans (Ext.trans e5 e9) e11) e16) e20)
  · refine W_false (congrArg Value.bool q23) <| W_skip <| thn_n <| W_seq <| W_reg <| L_op (.plain rfl) rfl (ltb rfl) (X_move (v := (S a0)) rfl) ?_
    obtain ⟨c24, H⟩ := bif_some H
    refine L_callP (.plain rfl) rfl (ltb rfl) rfl Tryd.call48 (impl_parent.calls (w := w19) (a0 := a0) (of_decide_eq_true c24)) rfl <| fun w25 e26 => L_op (.plain rfl) rfl (ltb rfl) (X_assign (v := (S (parentP a0))) rfl) <| L_op (.plain rfl) rfl (ltb rfl) (X_assign (v := (.int .i64 0)) rfl) <| L_nil <| thn_n <| W_ret <| fin_r ?_
    obtain rfl := Option.some.inj H
    exact fin2 rfl rfl (Ext.trans (Ext.trans (Ext.trans (Ext.trans (Ext.trans e5 e9) e11) e16) e20) e26)
theorem impl_ParentOf.calls {w : World} {a0 : List UInt8} (gv : GV 0 w) :
    Calls Tryd.prog 22 #[S a0] w (Rt (RP w (.tuple #[S ((parentOf a0).1), .int .i64 ((parentOf a0).2)]))) := impl_ParentOf.walk gv (impl_ParentOf.eq a0)
/-! spec.l00Source -/
theorem spec_l00Source.walk {w : World} {a0 : List Int} {v_a0 : Value} (f_a0 : Rd 1 (Go.UL.encI .u8) w v_a0 a0) {r : Src} (H : spec_l00Source.sh a0 = some r) :
    Calls Tryd.prog 35 #[v_a0] w (Rt (RSN 62 v_a0 w r)) := by
  unfold spec_l00Source.sh at H
  refine calls_of_W Tryd.func35 rfl (Nat.le_of_ble_eq_true rfl) Tryd.ntmps35 rfl ?_
  refine W_seq <| W_reg <| L_op (.plain rfl) rfl (ltb rfl) (X_assign rfl) <| L_nil <| thn_n <| W_seq <| W_reg <| L_op (.plain rfl) rfl (ltb rfl) (X_move (v := v_a0) rfl) <| L_op (.plain rfl) rfl (ltb rfl) (X_move (v := v_a0) rfl) <| L_op (.plain rfl) rfl (ltb rfl) (X_lenR Tryd.underlying22 rfl f_a0) <| L_op (.plain rfl) rfl (ltb rfl) (X_rem rfl rfl (by decide)) <| L_op (.plain rfl) rfl (ltb rfl) (X_build1 (vs := [(0, v_a0), (2, (.int .i64 ((a0.length : Int).tmod 1000)))]) (pl := #[(0, 1), (1, 1), (2, 1)]) Tryd.underlying62 Tryd.zeroValue62 rfl (fun _ => by kernel_rfl) rfl rfl (by obtain ⟨A9, c9, e9⟩ := Rd.shape f_a0; rw [e9]; rfl)) <| L_box (.plain rfl) rfl (ltb rfl) rfl rfl <| fun b1 w2 z3 z4 e5 k6 => L_op (.plain rfl) rfl (ltb rfl) (X_assign (v := (.pointer (some ⟨b1, 0, none⟩))) rfl) <| L_nil <| thn_n <| W_ret <| fin_r ?_
  obtain rfl := Option.some.inj H
  exact fin1sn rfl e5 (Nat.le_trans ((Ext.refl w)).size (Nat.le_of_eq z3)) k6
theorem spec_l00Source.calls {w : World} {a0 : List Int} {r : Src} {v_a0 : Value} (f_a0 : Rd 1 (Go.UL.encI .u8) w v_a0 a0) (H : (spec_l00Source.sh a0) = some r) :
    Calls Tryd.prog 35 #[v_a0] w (Rt (RSN 62 v_a0 w r)) := spec_l00Source.walk f_a0 (spec_l00Source.eq a0 H)
/-! (*spec.l00Src).byte -/
abbrev draw_byte.e1 (a1 : Src) := (IntKind.wrap .i64 ((IntKind.wrap .i64 (a1.pos + 1)) - 1))
abbrev draw_byte.e2 (a0 : List Int) (a1 : Src) := (IntKind.wrap .i64 ((IntKind.wrap .i64 (a1.seed * 31)) + (IntKind.wrap .i64 (gt a0 (draw_byte.e1 a1)))))
theorem draw_byte.walk {w : World} {a0 : List Int} {a1 : Src} {wc : World} {cv : Value} {bs : Nat} (kc : Ext wc w) (fc : Rd 1 (Go.UL.encI .u8) wc cv a0) (hz : wc.heap.size ≤ bs) (ks : Blk w bs (encSrc cv a1).toArray 62) {r : Int × Src} (H : draw_byte.sh a0 a1 = some r) :
    Calls Tryd.prog 72 #[.pointer (some ⟨bs, 0, none⟩)] w (Rt (RS 62 bs cv w (.int .i64 r.1) r.2)) := by
  unfold draw_byte.sh at H
  refine calls_of_W Tryd.func72 rfl (Nat.le_of_ble_eq_true rfl) Tryd.ntmps72 rfl ?_
  refine W_seq <| W_reg <| L_op (.plain rfl) rfl (ltb rfl) (X_assign (v := (.int .i64 0)) rfl) <| L_nil <| thn_n <| W_seq <| W_reg <| L_op (.plain rfl) rfl (ltb rfl) (X_move (v := (.pointer (some ⟨bs, 0, none⟩))) rfl) <| L_op (.plain rfl) rfl (ltb rfl) (X_nil rfl) <| L_op (.plain rfl) rfl (ltb rfl) (X_fieldAddr Tryd.underlying62 rfl Tryd.sizeOf3 rfl rfl) <| L_op (.plain rfl) rfl (ltb rfl) (X_loadB Tryd.isAgg3 ks rfl rfl) <| L_op (.plain rfl) rfl (ltb rfl) (X_add rfl rfl) <| L_op (.plain rfl) rfl (ltb rfl) (X_nil rfl) <| L_op (.plain rfl) rfl (ltb rfl) (X_fieldAddr Tryd.underlying62 rfl Tryd.sizeOf3 rfl rfl) <| L_store1 (.plain rfl) rfl rfl Tryd.sizeOf3 rfl rfl rfl ks (ltb rfl) <| fun w1 h2 k3 => L_nil <| thn_n <| W_seq <| W_seq ?_
  refine W_drawM [LEq (.pointer (some ⟨bs, 0, none⟩)), LEq (.pointer (some ⟨bs, 0, none⟩)), LEq (.pointer (some ⟨bs, 1, none⟩)), LEq (.int .i64 (IntKind.wrap .i64 (a1.pos + 1))), LEq (.pointer (some ⟨bs, 0, none⟩)), LEq (.pointer (some ⟨bs, 0, none⟩)), LEq (.pointer (some ⟨bs, 0, none⟩)), LRd 1 (Go.UL.encI .u8) a0, LEq (.int .i64 (a0.length : Int)), LEq (.bool (decide ((IntKind.wrap .i64 (a1.pos + 1)) ≤ (a0.length : Int))))] (by kernel_rfl) (by kernel_rfl) ⟨LEq.mono, LEq.mono, LEq.mono, LEq.mono, LEq.mono, LEq.mono, LEq.mono, LRd.mono, LEq.mono, LEq.mono, trivial⟩ ⟨?_, ?_, ?_, ?_, ?_, ?_, ?_, ?_, ?_, ?_, trivial⟩ ?_
  · intro s4 w5 e6 hf7 hd8 hu9
    exact L_op (.plain rfl) rfl (ltb rfl) (X_move (v := (.pointer (some ⟨bs, 0, none⟩))) (hf7 0 rfl)) <| L_nil <| stepEnd rfl rfl (Ext.refl w5) rfl
  · intro s10 w11 e12 hf13 hd14 hu15
    have d16 : s10 10 = (.pointer (some ⟨bs, 0, none⟩)) := (hd14 0 rfl)
    exact L_op (.plain rfl) rfl (ltb rfl) (X_nil d16) <| L_nil <| stepEnd rfl rfl (Ext.refl w11) rfl
  · intro s17 w18 e19 hf20 hd21 hu22
    have d23 : s17 11 = (.pointer (some ⟨bs, 0, none⟩)) := (hd21 1 rfl)
    exact L_op (.plain rfl) rfl (ltb rfl) (X_fieldAddr Tryd.underlying62 rfl Tryd.sizeOf3 rfl d23) <| L_nil <| stepEnd rfl rfl (Ext.refl w18) rfl
  · intro s24 w25 e26 hf27 hd28 hu29
    have d30 : s24 12 = (.pointer (some ⟨bs, 1, none⟩)) := (hd28 2 rfl)
    exact L_op (.plain rfl) rfl (ltb rfl) (X_loadB Tryd.isAgg3 (Blk.ext k3 e26) d30 rfl) <| L_nil <| stepEnd rfl rfl (Ext.refl w25) rfl
  · intro s31 w32 e33 hf34 hd35 hu36
    exact L_op (.plain rfl) rfl (ltb rfl) (X_move (v := (.pointer (some ⟨bs, 0, none⟩))) (hf34 0 rfl)) <| L_nil <| stepEnd rfl rfl (Ext.refl w32) rfl
  · intro s37 w38 e39 hf40 hd41 hu42
    have d43 : s37 14 = (.pointer (some ⟨bs, 0, none⟩)) := (hd41 4 rfl)
    exact L_op (.plain rfl) rfl (ltb rfl) (X_nil d43) <| L_nil <| stepEnd rfl rfl (Ext.refl w38) rfl
  · intro s44 w45 e46 hf47 hd48 hu49
    have d50 : s44 15 = (.pointer (some ⟨bs, 0, none⟩)) := (hd48 5 rfl)
    exact L_op (.plain rfl) rfl (ltb rfl) (X_fieldAddr Tryd.underlying62 rfl Tryd.sizeOf22 rfl d50) <| L_nil <| stepEnd rfl rfl (Ext.refl w45) rfl
  · intro s51 w52 e53 hf54 hd55 hu56
    have d57 : s51 16 = (.pointer (some ⟨bs, 0, none⟩)) := (hd55 6 rfl)
    exact L_op (.plain rfl) rfl (ltb rfl) (X_loadB Tryd.isAgg22 (Blk.ext k3 e53) d57 rfl) <| L_nil <| stepEnd rfl rfl (Ext.refl w52) (Rd.ext fc (Ext.trans (Below.trans kc (Below.mono (Wr.below h2 hz) (Nat.le_refl _))) e53))
  · intro s58 w59 e60 hf61 hd62 hu63
    have d64 : Rd 1 (Go.UL.encI .u8) w59 (s58 17) a0 := (hd62 7 rfl)
    exact L_op (.plain rfl) rfl (ltb rfl) (X_lenR Tryd.underlying22 rfl d64) <| L_nil <| stepEnd rfl rfl (Ext.refl w59) rfl
  · intro s65 w66 e67 hf68 hd69 hu70
    have d71 : s65 13 = (.int .i64 (IntKind.wrap .i64 (a1.pos + 1))) := (hd69 3 rfl)
    have d72 : s65 18 = (.int .i64 (a0.length : Int)) := (hd69 8 rfl)
    exact L_op (.plain rfl) rfl (ltb rfl) (X_leq d71 d72) <| L_nil <| stepEnd rfl rfl (Ext.refl w66) rfl
  intro s73 w74 e75 hf76 ha77
  have K78 := Kp.ofD (kp := [(10, 20)]) rfl hf76
  have d79 : s73 19 = (.bool (decide ((IntKind.wrap .i64 (a1.pos + 1)) ≤ (a0.length : Int)))) := ha77 9 rfl
  clear ha77 hf76
  refine thn_n ?_
  rcases bif_two H with ⟨q80, H⟩ | ⟨q80, H⟩
  · refine W_true (d79.trans (congrArg Value.bool q80)) <| W_seq ?_
    obtain ⟨c81, H⟩ := bif_some H
    refine W_drawN 22 [LEq (.pointer (some ⟨bs, 0, none⟩)), LEq (.pointer (some ⟨bs, 0, none⟩)), LEq (.pointer (some ⟨bs, 0, none⟩)), LEq (.pointer (some ⟨bs, 2, none⟩)), LEq (.int .i64 a1.seed), LEq (.int .i64 (IntKind.wrap .i64 (a1.seed * 31))), LEq (.pointer (some ⟨bs, 0, none⟩)), LEq (.pointer (some ⟨bs, 0, none⟩)), LEq (.pointer (some ⟨bs, 0, none⟩)), LRd 1 (Go.UL.encI .u8) a0, LEq (.pointer (some ⟨bs, 0, none⟩)), LEq (.pointer (some ⟨bs, 0, none⟩)), LEq (.pointer (some ⟨bs, 1, none⟩)), LEq (.int .i64 (IntKind.wrap .i64 (a1.pos + 1))), LEq (.int .i64 (draw_byte.e1 a1)), LAt0 ((Go.UL.encI .u8) (gt a0 (draw_byte.e1 a1))), LEq (.int .u8 (gt a0 (draw_byte.e1 a1))), LEq (.int .i64 (IntKind.wrap .i64 (gt a0 (draw_byte.e1 a1)))), LEq (.int .i64 (draw_byte.e2 a0 a1)), LEq (.int .i64 (IntKind.wrap .i64 ((draw_byte.e2 a0 a1) + 7))), LEq (.int .i64 ((IntKind.wrap .i64 ((draw_byte.e2 a0 a1) + 7)).tmod 2147483648)), LEq (.pointer (some ⟨bs, 0, none⟩))] (by kernel_rfl) (by kernel_rfl) (by kernel_rfl) ⟨LEq.mono, LEq.mono, LEq.mono, LEq.mono, LEq.mono, LEq.mono, LEq.mono, LEq.mono, LEq.mono, LRd.mono, LEq.mono, LEq.mono, LEq.mono, LEq.mono, LEq.mono, LAt0.mono, LEq.mono, LEq.mono, LEq.mono, LEq.mono, LEq.mono, LEq.mono, trivial⟩ ⟨?_, ?_, ?_, ?_, ?_, ?_, ?_, ?_, ?_, ?_, ?_, ?_, ?_, ?_, ?_, ?_, ?_, ?_, ?_, ?_, ?_, ?_, trivial⟩ ?_
    · intro s84 w85 e86 hf87 hd88 hu89
      exact L_op (.plain rfl) rfl (ltb rfl) (X_move (v := (.pointer (some ⟨bs, 0, none⟩))) ((hf87 0 rfl).trans (K78 0 rfl))) <| L_nil <| stepEnd rfl rfl (Ext.refl w85) rfl
    · intro s90 w91 e92 hf93 hd94 hu95
      exact L_op (.plain rfl) rfl (ltb rfl) (X_move (v := (.pointer (some ⟨bs, 0, none⟩))) ((hf93 0 rfl).trans (K78 0 rfl))) <| L_nil <| stepEnd rfl rfl (Ext.refl w91) rfl
    · intro s96 w97 e98 hf99 hd100 hu101
      have d102 : s96 21 = (.pointer (some ⟨bs, 0, none⟩)) := (hd100 1 rfl)
      exact L_op (.plain rfl) rfl (ltb rfl) (X_nil d102) <| L_nil <| stepEnd rfl rfl (Ext.refl w97) rfl
    · intro s103 w104 e105 hf106 hd107 hu108
      have d109 : s103 22 = (.pointer (some ⟨bs, 0, none⟩)) := (hd107 2 rfl)
      exact L_op (.plain rfl) rfl (ltb rfl) (X_fieldAddr Tryd.underlying62 rfl Tryd.sizeOf3 rfl d109) <| L_nil <| stepEnd rfl rfl (Ext.refl w104) rfl
    · intro s110 w111 e112 hf113 hd114 hu115
      have d116 : s110 23 = (.pointer (some ⟨bs, 2, none⟩)) := (hd114 3 rfl)
      exact L_op (.plain rfl) rfl (ltb rfl) (X_loadB Tryd.isAgg3 (Blk.ext k3 (Ext.trans e75 e112)) d116 rfl) <| L_nil <| stepEnd rfl rfl (Ext.refl w111) rfl
    · intro s117 w118 e119 hf120 hd121 hu122
      have d123 : s117 24 = (.int .i64 a1.seed) := (hd121 4 rfl)
      exact L_op (.plain rfl) rfl (ltb rfl) (X_mul d123 rfl) <| L_nil <| stepEnd rfl rfl (Ext.refl w118) rfl
    · intro s124 w125 e126 hf127 hd128 hu129
      exact L_op (.plain rfl) rfl (ltb rfl) (X_move (v := (.pointer (some ⟨bs, 0, none⟩))) ((hf127 0 rfl).trans (K78 0 rfl))) <| L_nil <| stepEnd rfl rfl (Ext.refl w125) rfl
    · intro s130 w131 e132 hf133 hd134 hu135
      have d136 : s130 26 = (.pointer (some ⟨bs, 0, none⟩)) := (hd134 6 rfl)
      exact L_op (.plain rfl) rfl (ltb rfl) (X_nil d136) <| L_nil <| stepEnd rfl rfl (Ext.refl w131) rfl
    · intro s137 w138 e139 hf140 hd141 hu142
      have d143 : s137 27 = (.pointer (some ⟨bs, 0, none⟩)) := (hd141 7 rfl)
      exact L_op (.plain rfl) rfl (ltb rfl) (X_fieldAddr Tryd.underlying62 rfl Tryd.sizeOf22 rfl d143) <| L_nil <| stepEnd rfl rfl (Ext.refl w138) rfl
    · intro s144 w145 e146 hf147 hd148 hu149
      have d150 : s144 28 = (.pointer (some ⟨bs, 0, none⟩)) := (hd148 8 rfl)
      exact L_op (.plain rfl) rfl (ltb rfl) (X_loadB Tryd.isAgg22 (Blk.ext k3 (Ext.trans e75 e146)) d150 rfl) <| L_nil <| stepEnd rfl rfl (Ext.refl w145) (Rd.ext fc (Ext.trans (Ext.trans (Below.trans kc (Below.mono (Wr.below h2 hz) (Nat.le_refl _))) e75) e146))
    · intro s151 w152 e153 hf154 hd155 hu156
      exact L_op (.plain rfl) rfl (ltb rfl) (X_move (v := (.pointer (some ⟨bs, 0, none⟩))) ((hf154 0 rfl).trans (K78 0 rfl))) <| L_nil <| stepEnd rfl rfl (Ext.refl w152) rfl
    · intro s157 w158 e159 hf160 hd161 hu162
      have d163 : s157 30 = (.pointer (some ⟨bs, 0, none⟩)) := (hd161 10 rfl)
      exact L_op (.plain rfl) rfl (ltb rfl) (X_nil d163) <| L_nil <| stepEnd rfl rfl (Ext.refl w158) rfl
    · intro s164 w165 e166 hf167 hd168 hu169
      have d170 : s164 31 = (.pointer (some ⟨bs, 0, none⟩)) := (hd168 11 rfl)
      exact L_op (.plain rfl) rfl (ltb rfl) (X_fieldAddr Tryd.underlying62 rfl Tryd.sizeOf3 rfl d170) <| L_nil <| stepEnd rfl rfl (Ext.refl w165) rfl
    · intro s171 w172 e173 hf174 hd175 hu176
      have d177 : s171 32 = (.pointer (some ⟨bs, 1, none⟩)) := (hd175 12 rfl)
      exact L_op (.plain rfl) rfl (ltb rfl) (X_loadB Tryd.isAgg3 (Blk.ext k3 (Ext.trans e75 e173)) d177 rfl) <| L_nil <| stepEnd rfl rfl (Ext.refl w172) rfl
    · intro s178 w179 e180 hf181 hd182 hu183
      have d184 : s178 33 = (.int .i64 (IntKind.wrap .i64 (a1.pos + 1))) := (hd182 13 rfl)
      exact L_op (.plain rfl) rfl (ltb rfl) (X_sub d184 rfl) <| L_nil <| stepEnd rfl rfl (Ext.refl w179) rfl
    · intro s185 w186 e187 hf188 hd189 hu190
      have d191 : Rd 1 (Go.UL.encI .u8) w186 (s185 29) a0 := (hd189 9 rfl)
      have d192 : s185 34 = (.int .i64 (draw_byte.e1 a1)) := (hd189 14 rfl)
      have c193 := c81
      exact L_idx (.plain rfl) rfl (ltb rfl) rfl Tryd.underlying22 Tryd.sizeOf5 rfl d191 d192 c193 <| fun p194 h195 => L_nil <| stepEnd rfl rfl (Ext.refl w186) ⟨_, rfl, h195⟩
    · intro s196 w197 e198 hf199 hd200 hu201
      obtain ⟨p202, h203, h204⟩ := (hd200 15 rfl)
      exact L_op (.plain rfl) rfl (ltb rfl) (X_loadAt Tryd.isAgg5 h203 h204 rfl) <| L_nil <| stepEnd rfl rfl (Ext.refl w197) rfl
    · intro s205 w206 e207 hf208 hd209 hu210
      have d211 : s205 36 = (.int .u8 (gt a0 (draw_byte.e1 a1))) := (hd209 16 rfl)
      exact L_op (.plain rfl) rfl (ltb rfl) (X_convInt Tryd.underlying5 Tryd.underlying3 d211) <| L_nil <| stepEnd rfl rfl (Ext.refl w206) rfl
    · intro s212 w213 e214 hf215 hd216 hu217
      have d218 : s212 25 = (.int .i64 (IntKind.wrap .i64 (a1.seed * 31))) := (hd216 5 rfl)
      have d219 : s212 37 = (.int .i64 (IntKind.wrap .i64 (gt a0 (draw_byte.e1 a1)))) := (hd216 17 rfl)
      exact L_op (.plain rfl) rfl (ltb rfl) (X_add d218 d219) <| L_nil <| stepEnd rfl rfl (Ext.refl w213) rfl
    · intro s220 w221 e222 hf223 hd224 hu225
      have d226 : s220 38 = (.int .i64 (draw_byte.e2 a0 a1)) := (hd224 18 rfl)
      exact L_op (.plain rfl) rfl (ltb rfl) (X_add d226 rfl) <| L_nil <| stepEnd rfl rfl (Ext.refl w221) rfl
    · intro s227 w228 e229 hf230 hd231 hu232
      have d233 : s227 39 = (.int .i64 (IntKind.wrap .i64 ((draw_byte.e2 a0 a1) + 7))) := (hd231 19 rfl)
      exact L_op (.plain rfl) rfl (ltb rfl) (X_rem d233 rfl (by decide)) <| L_nil <| stepEnd rfl rfl (Ext.refl w228) rfl
    · intro s234 w235 e236 hf237 hd238 hu239
      have d240 : s234 20 = (.pointer (some ⟨bs, 0, none⟩)) := (hd238 0 rfl)
      exact L_op (.plain rfl) rfl (ltb rfl) (X_nil d240) <| L_nil <| stepEnd rfl rfl (Ext.refl w235) rfl
    intro s241 w242 e243 hf244 ha245
    have K246 := Kp.ofD (kp := [(20, 42)]) rfl hf244
    have d247 : s241 40 = (.int .i64 ((IntKind.wrap .i64 ((draw_byte.e2 a0 a1) + 7)).tmod 2147483648)) := ha245 20 rfl
    have d248 : s241 41 = (.pointer (some ⟨bs, 0, none⟩)) := ha245 21 rfl
    clear ha245 hf244
    refine L_op (.plain rfl) rfl (ltb rfl) (X_fieldAddr Tryd.underlying62 rfl Tryd.sizeOf3 rfl d248) <| L_store1 (.plain rfl) rfl rfl Tryd.sizeOf3 rfl d247 rfl (Blk.ext k3 (Ext.trans e75 e243)) (ltb rfl) <| fun w249 h250 k251 => L_nil <| thn_n <| W_seq ?_
    obtain ⟨c252, H⟩ := bif_some H
    refine W_drawM [LEq (.pointer (some ⟨bs, 0, none⟩)), LEq (.pointer (some ⟨bs, 0, none⟩)), LEq (.pointer (some ⟨bs, 0, none⟩)), LRd 1 (Go.UL.encI .u8) a0, LEq (.pointer (some ⟨bs, 0, none⟩)), LEq (.pointer (some ⟨bs, 0, none⟩)), LEq (.pointer (some ⟨bs, 1, none⟩)), LEq (.int .i64 (IntKind.wrap .i64 (a1.pos + 1))), LEq (.int .i64 (draw_byte.e1 a1)), LAt0 ((Go.UL.encI .u8) (gt a0 (draw_byte.e1 a1))), LEq (.int .u8 (gt a0 (draw_byte.e1 a1))), LEq (.int .i64 (IntKind.wrap .i64 (gt a0 (draw_byte.e1 a1)))), LEq (.int .i64 (IntKind.wrap .i64 (gt a0 (draw_byte.e1 a1))))] (by kernel_rfl) (by kernel_rfl) ⟨LEq.mono, LEq.mono, LEq.mono, LRd.mono, LEq.mono, LEq.mono, LEq.mono, LEq.mono, LEq.mono, LAt0.mono, LEq.mono, LEq.mono, LEq.mono, trivial⟩ ⟨?_, ?_, ?_, ?_, ?_, ?_, ?_, ?_, ?_, ?_, ?_, ?_, ?_, trivial⟩ ?_
    · intro s255 w256 e257 hf258 hd259 hu260
      exact L_op (.plain rfl) rfl (ltb rfl) (X_move (v := (.pointer (some ⟨bs, 0, none⟩))) ((hf258 0 rfl).trans ((K246 0 rfl).trans (K78 0 rfl)))) <| L_nil <| stepEnd rfl rfl (Ext.refl w256) rfl
    · intro s261 w262 e263 hf264 hd265 hu266
      have d267 : s261 43 = (.pointer (some ⟨bs, 0, none⟩)) := (hd265 0 rfl)
      exact L_op (.plain rfl) rfl (ltb rfl) (X_nil d267) <| L_nil <| stepEnd rfl rfl (Ext.refl w262) rfl
    · intro s268 w269 e270 hf271 hd272 hu273
      have d274 : s268 44 = (.pointer (some ⟨bs, 0, none⟩)) := (hd272 1 rfl)
      exact L_op (.plain rfl) rfl (ltb rfl) (X_fieldAddr Tryd.underlying62 rfl Tryd.sizeOf22 rfl d274) <| L_nil <| stepEnd rfl rfl (Ext.refl w269) rfl
    · intro s275 w276 e277 hf278 hd279 hu280
      have d281 : s275 45 = (.pointer (some ⟨bs, 0, none⟩)) := (hd279 2 rfl)
      exact L_op (.plain rfl) rfl (ltb rfl) (X_loadB Tryd.isAgg22 (Blk.ext k251 e277) d281 rfl) <| L_nil <| stepEnd rfl rfl (Ext.refl w276) (Rd.ext fc (Ext.trans (Below.trans (Ext.trans (Ext.trans (Below.trans kc (Below.mono (Wr.below h2 hz) (Nat.le_refl _))) e75) e243) (Below.mono (Wr.below h250 hz) (Nat.le_refl _))) e277))
    · intro s282 w283 e284 hf285 hd286 hu287
      exact L_op (.plain rfl) rfl (ltb rfl) (X_move (v := (.pointer (some ⟨bs, 0, none⟩))) ((hf285 0 rfl).trans ((K246 0 rfl).trans (K78 0 rfl)))) <| L_nil <| stepEnd rfl rfl (Ext.refl w283) rfl
    · intro s288 w289 e290 hf291 hd292 hu293
      have d294 : s288 47 = (.pointer (some ⟨bs, 0, none⟩)) := (hd292 4 rfl)
      exact L_op (.plain rfl) rfl (ltb rfl) (X_nil d294) <| L_nil <| stepEnd rfl rfl (Ext.refl w289) rfl
    · intro s295 w296 e297 hf298 hd299 hu300
      have d301 : s295 48 = (.pointer (some ⟨bs, 0, none⟩)) := (hd299 5 rfl)
      exact L_op (.plain rfl) rfl (ltb rfl) (X_fieldAddr Tryd.underlying62 rfl Tryd.sizeOf3 rfl d301) <| L_nil <| stepEnd rfl rfl (Ext.refl w296) rfl
    · intro s302 w303 e304 hf305 hd306 hu307
      have d308 : s302 49 = (.pointer (some ⟨bs, 1, none⟩)) := (hd306 6 rfl)
      exact L_op (.plain rfl) rfl (ltb rfl) (X_loadB Tryd.isAgg3 (Blk.ext k251 e304) d308 rfl) <| L_nil <| stepEnd rfl rfl (Ext.refl w303) rfl
    · intro s309 w310 e311 hf312 hd313 hu314
      have d315 : s309 50 = (.int .i64 (IntKind.wrap .i64 (a1.pos + 1))) := (hd313 7 rfl)
      exact L_op (.plain rfl) rfl (ltb rfl) (X_sub d315 rfl) <| L_nil <| stepEnd rfl rfl (Ext.refl w310) rfl
    · intro s316 w317 e318 hf319 hd320 hu321
      have d322 : Rd 1 (Go.UL.encI .u8) w317 (s316 46) a0 := (hd320 3 rfl)
      have d323 : s316 51 = (.int .i64 (draw_byte.e1 a1)) := (hd320 8 rfl)
      have c324 := c252
      exact L_idx (.plain rfl) rfl (ltb rfl) rfl Tryd.underlying22 Tryd.sizeOf5 rfl d322 d323 c324 <| fun p325 h326 => L_nil <| stepEnd rfl rfl (Ext.refl w317) ⟨_, rfl, h326⟩
    · intro s327 w328 e329 hf330 hd331 hu332
      obtain ⟨p333, h334, h335⟩ := (hd331 9 rfl)
      exact L_op (.plain rfl) rfl (ltb rfl) (X_loadAt Tryd.isAgg5 h334 h335 rfl) <| L_nil <| stepEnd rfl rfl (Ext.refl w328) rfl
    · intro s336 w337 e338 hf339 hd340 hu341
      have d342 : s336 53 = (.int .u8 (gt a0 (draw_byte.e1 a1))) := (hd340 10 rfl)
      exact L_op (.plain rfl) rfl (ltb rfl) (X_convInt Tryd.underlying5 Tryd.underlying3 d342) <| L_nil <| stepEnd rfl rfl (Ext.refl w337) rfl
    · intro s343 w344 e345 hf346 hd347 hu348
      have d349 : s343 54 = (.int .i64 (IntKind.wrap .i64 (gt a0 (draw_byte.e1 a1)))) := (hd347 11 rfl)
      exact L_op (.plain rfl) rfl (ltb rfl) (X_assign d349) <| L_nil <| stepEnd rfl rfl (Ext.refl w344) rfl
    intro s350 w351 e352 hf353 ha354
    have K355 := Kp.ofD (kp := [(2, 3), (43, 55)]) rfl hf353
    have d356 : s350 2 = (.int .i64 (IntKind.wrap .i64 (gt a0 (draw_byte.e1 a1)))) := ha354 12 rfl
    clear ha354 hf353
    refine thn_n <| W_ret <| thn_r <| fin_r ?_
    obtain rfl := Option.some.inj H
    exact fin1s d356 (Gr.trans (Gr.trans (Gr.trans (Gr.trans (Gr.ofWr h2) (Gr.ext e75)) (Gr.ext e243)) (Gr.ofWr h250)) (Gr.ext e352)) (Blk.ext k251 e352)
  · refine W_false (d79.trans (congrArg Value.bool q80)) <| W_skip <| thn_n <| W_seq <| W_seq <| W_reg <| L_op (.plain rfl) rfl (ltb rfl) (X_move (v := (.pointer (some ⟨bs, 0, none⟩))) (K78 0 rfl)) <| L_op (.plain rfl) rfl (ltb rfl) (X_nil rfl) <| L_op (.plain rfl) rfl (ltb rfl) (X_fieldAddr Tryd.underlying62 rfl Tryd.sizeOf3 rfl rfl) <| L_op (.plain rfl) rfl (ltb rfl) (X_loadB Tryd.isAgg3 (Blk.ext k3 e75) rfl rfl) <| L_op (.plain rfl) rfl (ltb rfl) (X_gtr rfl rfl) <| L_nil <| thn_n ?_
    rcases bif_two H with ⟨q357, H⟩ | ⟨q357, H⟩
    · refine W_true (congrArg Value.bool q357) <| W_seq <| W_reg <| L_op (.plain rfl) rfl (ltb rfl) (X_assign (v := (.int .i64 0)) rfl) <| L_nil <| thn_n <| W_ret <| thn_r <| fin_r ?_
      obtain rfl := Option.some.inj H
      exact fin1s rfl (Gr.trans (Gr.ofWr h2) (Gr.ext e75)) (Blk.ext k3 e75)
    · refine W_false (congrArg Value.bool q357) <| W_skip <| thn_n <| W_seq <| W_reg <| L_op (.plain rfl) rfl (ltb rfl) (X_move (v := (.pointer (some ⟨bs, 0, none⟩))) (K78 0 rfl)) <| L_op (.plain rfl) rfl (ltb rfl) (X_move (v := (.pointer (some ⟨bs, 0, none⟩))) (K78 0 rfl)) <| L_op (.plain rfl) rfl (ltb rfl) (X_nil rfl) <| L_op (.plain rfl) rfl (ltb rfl) (X_fieldAddr Tryd.underlying62 rfl Tryd.sizeOf3 rfl rfl) <| L_op (.plain rfl) rfl (ltb rfl) (X_loadB Tryd.isAgg3 (Blk.ext k3 e75) rfl rfl) <| L_op (.plain rfl) rfl (ltb rfl) (X_mul rfl rfl) <| L_op (.plain rfl) rfl (ltb rfl) (X_add rfl rfl) <| L_op (.plain rfl) rfl (ltb rfl) (X_rem rfl rfl (by decide)) <| L_op (.plain rfl) rfl (ltb rfl) (X_nil rfl) <| L_op (.plain rfl) rfl (ltb rfl) (X_fieldAddr Tryd.underlying62 rfl Tryd.sizeOf3 rfl rfl) <| L_store1 (.plain rfl) rfl rfl Tryd.sizeOf3 rfl rfl rfl (Blk.ext k3 e75) (ltb rfl) <| fun w358 h359 k360 => L_nil <| thn_n <| W_seq <| W_reg <| L_op (.plain rfl) rfl (ltb rfl) (X_move (v := (.pointer (some ⟨bs, 0, none⟩))) (K78 0 rfl)) <| L_op (.plain rfl) rfl (ltb rfl) (X_nil rfl) <| L_op (.plain rfl) rfl (ltb rfl) (X_fieldAddr Tryd.underlying62 rfl Tryd.sizeOf3 rfl rfl) <| L_op (.plain rfl) rfl (ltb rfl) (X_loadB Tryd.isAgg3 k360 rfl rfl) <| L_op (.plain rfl) rfl (ltb rfl) (X_quo rfl rfl (by decide)) <| L_op (.plain rfl) rfl (ltb rfl) (X_rem rfl rfl (by decide)) <| L_op (.plain rfl) rfl (ltb rfl) (X_assign rfl) <| L_nil <| thn_n <| W_ret <| fin_r ?_
      obtain rfl := Option.some.inj H
      exact fin1s rfl (Gr.trans (Gr.trans (Gr.ofWr h2) (Gr.ext e75)) (Gr.ofWr h359)) k360
theorem draw_byte.calls {w : World} {a0 : List Int} {a1 : Src} {r : Int × Src} {wc : World} {cv : Value} {bs : Nat} (kc : Ext wc w) (fc : Rd 1 (Go.UL.encI .u8) wc cv a0) (hz : wc.heap.size ≤ bs) (ks : Blk w bs (encSrc cv a1).toArray 62) (H : (draw_byte.sh a0 a1) = some r) :
    Calls Tryd.prog 72 #[.pointer (some ⟨bs, 0, none⟩)] w (Rt (RS 62 bs cv w (.int .i64 r.1) r.2)) := draw_byte.walk kc fc hz ks (draw_byte.eq a0 a1 H)
/-! (*spec.l00Src).next -/
theorem draw_next.walk {w : World} {a0 : List Int} {a1 : Src} {a2 : Int} {wc : World} {cv : Value} {bs : Nat} (kc : Ext wc w) (fc : Rd 1 (Go.UL.encI .u8) wc cv a0) (hz : wc.heap.size ≤ bs) (ks : Blk w bs (encSrc cv a1).toArray 62) {r : Int × Src} (H : draw_next.sh a0 a1 a2 = some r) :
    Calls Tryd.prog 59 #[.pointer (some ⟨bs, 0, none⟩), .int .i64 a2] w (Rt (RS 62 bs cv w (.int .i64 r.1) r.2)) := by
  unfold draw_next.sh at H
  refine calls_of_W Tryd.func59 rfl (Nat.le_of_ble_eq_true rfl) Tryd.ntmps59 rfl ?_
  refine W_seq <| W_reg <| L_op (.plain rfl) rfl (ltb rfl) (X_assign (v := (.int .i64 0)) rfl) <| L_nil <| thn_n <| W_seq <| W_seq <| W_reg <| L_op (.plain rfl) rfl (ltb rfl) (X_move (v := (.int .i64 a2)) rfl) <| L_op (.plain rfl) rfl (ltb rfl) (X_leq rfl rfl) <| L_nil <| thn_n ?_
  rcases bif_two H with ⟨q1, H⟩ | ⟨q1, H⟩
  · refine W_true (congrArg Value.bool q1) <| W_seq <| W_reg <| L_op (.plain rfl) rfl (ltb rfl) (X_assign (v := (.int .i64 0)) rfl) <| L_nil <| thn_n <| W_ret <| thn_r <| fin_r ?_
    obtain rfl := Option.some.inj H
    exact fin1s rfl (Gr.refl _ _ _) ks
  · refine W_false (congrArg Value.bool q1) <| W_skip <| thn_n <| W_seq <| W_seq <| W_reg <| L_op (.plain rfl) rfl (ltb rfl) (X_move (v := (.int .i64 a2)) rfl) <| L_op (.plain rfl) rfl (ltb rfl) (X_leq rfl rfl) <| L_nil <| thn_n ?_
    rcases bif_two H with ⟨q2, H⟩ | ⟨q2, H⟩
    · refine W_true (congrArg Value.bool q2) <| W_seq <| W_reg <| L_op (.plain rfl) rfl (ltb rfl) (X_move (v := (.pointer (some ⟨bs, 0, none⟩))) rfl) ?_
      obtain ⟨z3, x4, H⟩ := bind_some H
      refine L_callS (.plain rfl) rfl (ltb rfl) rfl Tryd.call72 (draw_byte.calls (w := w) (a0 := a0) (a1 := a1) kc fc hz ks x4) rfl <| fun w7 g8 k9 => L_op (.plain rfl) rfl (ltb rfl) (X_move (v := (.int .i64 a2)) rfl) ?_
      obtain ⟨c10, H⟩ := bif_some H
      refine L_op (.plain rfl) rfl (ltb rfl) (X_rem rfl rfl (of_decide_eq_true c10)) <| L_op (.plain rfl) rfl (ltb rfl) (X_assign (v := (.int .i64 (z3.1.tmod a2))) rfl) <| L_nil <| thn_n <| W_ret <| thn_r <| fin_r ?_
      obtain rfl := Option.some.inj H
      exact fin1s rfl g8 k9
    · refine W_false (congrArg Value.bool q2) <| W_skip <| thn_n <| W_seq <| W_reg <| L_op (.plain rfl) rfl (ltb rfl) (X_move (v := (.pointer (some ⟨bs, 0, none⟩))) rfl) ?_
      obtain ⟨z11, x12, H⟩ := bind_some H
      refine L_callS (.plain rfl) rfl (ltb rfl) rfl Tryd.call72 (draw_byte.calls (w := w) (a0 := a0) (a1 := a1) kc fc hz ks x12) rfl <| fun w15 g16 k17 => L_op (.plain rfl) rfl (ltb rfl) (X_assign (v := (.int .i64 z11.1)) rfl) <| L_nil <| thn_n <| W_seq <| W_reg <| L_op (.plain rfl) rfl (ltb rfl) (X_move (v := (.pointer (some ⟨bs, 0, none⟩))) rfl) ?_
      obtain ⟨z18, x19, H⟩ := bind_some H
      refine L_callS (.plain rfl) rfl (ltb rfl) rfl Tryd.call72 (draw_byte.calls (w := w15) (a0 := a0) (a1 := z11.2) (Ext.gr kc g16 hz) fc hz k17 x19) rfl <| fun w22 g23 k24 => L_op (.plain rfl) rfl (ltb rfl) (X_assign (v := (.int .i64 z18.1)) rfl) <| L_nil <| thn_n <| W_seq <| W_reg <| L_op (.plain rfl) rfl (ltb rfl) (X_move (v := (.pointer (some ⟨bs, 0, none⟩))) rfl) ?_
      obtain ⟨z25, x26, H⟩ := bind_some H
      refine L_callS (.plain rfl) rfl (ltb rfl) rfl Tryd.call72 (draw_byte.calls (w := w22) (a0 := a0) (a1 := z18.2) (Ext.gr (Ext.gr kc g16 hz) g23 hz) fc hz k24 x26) rfl <| fun w29 g30 k31 => L_op (.plain rfl) rfl (ltb rfl) (X_assign (v := (.int .i64 z25.1)) rfl) <| L_nil <| thn_n <| W_seq <| W_reg <| L_op (.plain rfl) rfl (ltb rfl) (X_move (v := (.int .i64 z11.1)) rfl) <| L_op (.plain rfl) rfl (ltb rfl) (X_mul rfl rfl) <| L_op (.plain rfl) rfl (ltb rfl) (X_move (v := (.int .i64 z18.1)) rfl) <| L_op (.plain rfl) rfl (ltb rfl) (X_mul rfl rfl) <| L_op (.plain rfl) rfl (ltb rfl) (X_add rfl rfl) <| L_op (.plain rfl) rfl (ltb rfl) (X_move (v := (.int .i64 z25.1)) rfl) <| L_op (.plain rfl) rfl (ltb rfl) (X_add rfl rfl) <| L_op (.plain rfl) rfl (ltb rfl) (X_move (v := (.int .i64 a2)) rfl) ?_
      obtain ⟨c32, H⟩ := bif_some H
      refine L_op (.plain rfl) rfl (ltb rfl) (X_rem rfl rfl (of_decide_eq_true c32)) <| L_op (.plain rfl) rfl (ltb rfl) (X_assign rfl) <| L_nil <| thn_n <| W_ret <| fin_r ?_
      obtain rfl := Option.some.inj H
      exact fin1s rfl (Gr.trans (Gr.trans g16 g23) g30) k31
theorem draw_next.calls {w : World} {a0 : List Int} {a1 : Src} {a2 : Int} {r : Int × Src} {wc : World} {cv : Value} {bs : Nat} (kc : Ext wc w) (fc : Rd 1 (Go.UL.encI .u8) wc cv a0) (hz : wc.heap.size ≤ bs) (ks : Blk w bs (encSrc cv a1).toArray 62) (H : (draw_next.sh a0 a1 a2) = some r) :
    Calls Tryd.prog 59 #[.pointer (some ⟨bs, 0, none⟩), .int .i64 a2] w (Rt (RS 62 bs cv w (.int .i64 r.1) r.2)) := draw_next.walk kc fc hz ks (draw_next.eq a0 a1 a2 H)
/-! (*spec.l00Src).pick -/
theorem draw_pick.walk {w : World} {a0 : List Int} {a1 : Src} {a2 : List (List UInt8)} {wc : World} {cv : Value} {bs : Nat} (kc : Ext wc w) (fc : Rd 1 (Go.UL.encI .u8) wc cv a0) (hz : wc.heap.size ≤ bs) (ks : Blk w bs (encSrc cv a1).toArray 62) {v_a2 : Value} {B_a2 : Nat} (o_a2 : Ow 9 1 encS B_a2 w v_a2 a2) (l_a2 : bs + 1 ≤ B_a2) {r : List UInt8 × Src} (H : draw_pick.sh a0 a1 a2 = some r) :
    Calls Tryd.prog 61 #[.pointer (some ⟨bs, 0, none⟩), v_a2] w (Rt (RS 62 bs cv w (S r.1) r.2)) := by
  unfold draw_pick.sh at H
  refine calls_of_W Tryd.func61 rfl (Nat.le_of_ble_eq_true rfl) Tryd.ntmps61 rfl ?_
  refine W_seq <| W_reg <| L_op (.plain rfl) rfl (ltb rfl) (X_assign (v := (S ([] : List UInt8))) rfl) <| L_nil <| thn_n <| W_seq <| W_seq <| W_reg <| L_op (.plain rfl) rfl (ltb rfl) (X_move (v := v_a2) rfl) <| L_op (.plain rfl) rfl (ltb rfl) (X_lenR Tryd.underlying27 rfl (Ow.rd o_a2)) <| L_op (.plain rfl) rfl (ltb rfl) (X_eql rfl rfl) <| L_nil <| thn_n ?_
  rcases bif_two H with ⟨q1, H⟩ | ⟨q1, H⟩
  · refine W_true (congrArg Value.bool q1) <| W_seq <| W_reg <| L_op (.plain rfl) rfl (ltb rfl) (X_assign (v := (S ([] : List UInt8))) rfl) <| L_nil <| thn_n <| W_ret <| thn_r <| fin_r ?_
    obtain rfl := Option.some.inj H
    exact fin1s rfl (Gr.refl _ _ _) ks
  · refine W_false (congrArg Value.bool q1) <| W_skip <| thn_n <| W_seq <| W_reg <| L_op (.plain rfl) rfl (ltb rfl) (X_move (v := v_a2) rfl) <| L_op (.plain rfl) rfl (ltb rfl) (X_move (v := (.pointer (some ⟨bs, 0, none⟩))) rfl) <| L_op (.plain rfl) rfl (ltb rfl) (X_move (v := v_a2) rfl) <| L_op (.plain rfl) rfl (ltb rfl) (X_lenR Tryd.underlying27 rfl (Ow.rd o_a2)) ?_
    obtain ⟨z2, x3, H⟩ := bind_some H
    refine L_callS (.plain rfl) rfl (ltb rfl) rfl Tryd.call59 (draw_next.calls (w := w) (a0 := a0) (a1 := a1) (a2 := (a2.length : Int)) kc fc hz ks x3) rfl <| fun w6 g7 k8 => ?_
    obtain ⟨c9, H⟩ := bif_some H
    refine L_idx (.plain rfl) rfl (ltb rfl) rfl Tryd.underlying27 Tryd.sizeOf9 rfl (Ow.rd (Ow.later o_a2 g7 l_a2)) rfl c9 <| fun p10 h11 => L_op (.plain rfl) rfl (ltb rfl) (X_loadAt Tryd.isAgg9 rfl h11 rfl) <| L_op (.plain rfl) rfl (ltb rfl) (X_assign (v := (S (gt a2 z2.1))) rfl) <| L_nil <| thn_n <| W_ret <| fin_r ?_
    obtain rfl := Option.some.inj H
    exact fin1s rfl g7 k8
theorem draw_pick.calls {w : World} {a0 : List Int} {a1 : Src} {a2 : List (List UInt8)} {r : List UInt8 × Src} {wc : World} {cv : Value} {bs : Nat} (kc : Ext wc w) (fc : Rd 1 (Go.UL.encI .u8) wc cv a0) (hz : wc.heap.size ≤ bs) (ks : Blk w bs (encSrc cv a1).toArray 62) {v_a2 : Value} {B_a2 : Nat} (o_a2 : Ow 9 1 encS B_a2 w v_a2 a2) (l_a2 : bs + 1 ≤ B_a2) (H : (draw_pick.sh a0 a1 a2) = some r) :
    Calls Tryd.prog 61 #[.pointer (some ⟨bs, 0, none⟩), v_a2] w (Rt (RS 62 bs cv w (S r.1) r.2)) := draw_pick.walk kc fc hz ks o_a2 l_a2 (draw_pick.eq a0 a1 a2 H)
/-! (*spec.l00Src).part -/
theorem draw_part.walk {w : World} {a0 : List Int} {a1 : Src} {wc : World} {cv : Value} {bs : Nat} (kc : Ext wc w) (fc : Rd 1 (Go.UL.encI .u8) wc cv a0) (hz : wc.heap.size ≤ bs) (ks : Blk w bs (encSrc cv a1).toArray 62) {r : List UInt8 × Src} (H : draw_part.sh a0 a1 = some r) :
    Calls Tryd.prog 63 #[.pointer (some ⟨bs, 0, none⟩)] w (Rt (RS 62 bs cv w (S r.1) r.2)) := by
  unfold draw_part.sh at H
  refine calls_of_W Tryd.func63 rfl (Nat.le_of_ble_eq_true rfl) Tryd.ntmps63 rfl ?_
  refine W_seq <| W_reg <| L_op (.plain rfl) rfl (ltb rfl) (X_assign (v := (S ([] : List UInt8))) rfl) <| L_nil <| thn_n <| W_seq <| W_reg <| L_op (.plain rfl) rfl (ltb rfl) (X_move (v := (.pointer (some ⟨bs, 0, none⟩))) rfl) <| L_lit (.plain rfl) rfl (ltb rfl) rfl Tryd.underlying27 Tryd.sizeOf9 Tryd.zeroValue9 rfl rfl rfl (vs := [(S ([97] : List UInt8)), (S ([98] : List UInt8)), (S ([99] : List UInt8)), (S ([97, 46, 98] : List UInt8)), (S ([120] : List UInt8))]) rfl (lit_all rfl) <| fun b1 w2 z3 z4 e5 k6 => ?_
  obtain ⟨z7, x8, H⟩ := bind_some H
  refine L_callS (.plain rfl) rfl (ltb rfl) rfl Tryd.call61 (draw_pick.calls (w := w2) (a0 := a0) (a1 := a1) (a2 := draw_part.lit1) (Ext.trans kc e5) fc hz (Blk.ext ks e5) (Ow.new (xs := draw_part.lit1) (sz := 1) (enc := encS) (base := w.heap.size) k6 (Nat.le_of_eq z3) rfl (fun _ _ => rfl) (Nat.le_of_ble_eq_true rfl)) (Nat.le_trans (Blk.lt ks) (Nat.le_refl _)) x8) rfl <| fun w11 g12 k13 => L_op (.plain rfl) rfl (ltb rfl) (X_assign (v := (S z7.1)) rfl) <| L_nil <| thn_n <| W_ret <| fin_r ?_
  obtain rfl := Option.some.inj H
  exact fin1s rfl (Gr.trans (Gr.ext e5) g12) k13
theorem draw_part.calls {w : World} {a0 : List Int} {a1 : Src} {r : List UInt8 × Src} {wc : World} {cv : Value} {bs : Nat} (kc : Ext wc w) (fc : Rd 1 (Go.UL.encI .u8) wc cv a0) (hz : wc.heap.size ≤ bs) (ks : Blk w bs (encSrc cv a1).toArray 62) (H : (draw_part.sh a0 a1) = some r) :
    Calls Tryd.prog 63 #[.pointer (some ⟨bs, 0, none⟩)] w (Rt (RS 62 bs cv w (S r.1) r.2)) := draw_part.walk kc fc hz ks (draw_part.eq a0 a1 H)
/-! (*spec.l00Src).path -/
theorem draw_path.walk {k : Nat} {w : World} {a0 : List Int} {a1 : Src} {wc : World} {cv : Value} {bs : Nat} (kc : Ext wc w) (fc : Rd 1 (Go.UL.encI .u8) wc cv a0) (hz : wc.heap.size ≤ bs) (ks : Blk w bs (encSrc cv a1).toArray 62) {r : List UInt8 × Src} (H : draw_path.sh k a0 a1 = some r) :
    Calls Tryd.prog 37 #[.pointer (some ⟨bs, 0, none⟩)] w (Rt (RS 62 bs cv w (S r.1) r.2)) := by
  unfold draw_path.sh at H
  refine calls_of_W Tryd.func37 rfl (Nat.le_of_ble_eq_true rfl) Tryd.ntmps37 rfl ?_
  refine W_seq <| W_reg <| L_op (.plain rfl) rfl (ltb rfl) (X_assign (v := (S ([] : List UInt8))) rfl) <| L_nil <| thn_n <| W_seq <| W_reg <| L_op (.plain rfl) rfl (ltb rfl) (X_move (v := (.pointer (some ⟨bs, 0, none⟩))) rfl) ?_
  obtain ⟨z1, x2, H⟩ := bind_some H
  refine L_callS (.plain rfl) rfl (ltb rfl) rfl Tryd.call63 (draw_part.calls (w := w) (a0 := a0) (a1 := a1) kc fc hz ks x2) rfl <| fun w5 g6 k7 => L_op (.plain rfl) rfl (ltb rfl) (X_assign (v := (S z1.1)) rfl) <| L_nil <| thn_n <| W_seq <| W_seq <| W_reg <| L_op (.plain rfl) rfl (ltb rfl) (X_move (v := (.pointer (some ⟨bs, 0, none⟩))) rfl) ?_
  obtain ⟨z8, x9, H⟩ := bind_some H
  refine L_callS (.plain rfl) rfl (ltb rfl) rfl Tryd.call59 (draw_next.calls (w := w5) (a0 := a0) (a1 := z1.2) (a2 := 3) (Ext.gr kc g6 hz) fc hz k7 x9) rfl <| fun w12 g13 k14 => L_op (.plain rfl) rfl (ltb rfl) (X_assign (v := (.int .i64 z8.1)) rfl) <| L_nil <| thn_n ?_
  obtain ⟨z18, L19, C20⟩ := bind_some H
  clear H
  refine  W_cutQ (fun s0 sQ wQ => ∃ (x3_21 : List UInt8) (y22 : Src), Kp [(3, 5), (9, 18)] s0 sQ ∧ sQ 3 = S x3_21 ∧ Blk wQ bs ((encSrc cv) y22).toArray 62 ∧ Gr bs (bs + 1) w12 wQ ∧ Ext wc wQ ∧ z18 = .inr (x3_21, y22)) ?_ ?_
  · refine W_block <| W_loopI (fun s0 kk sQ wQ => ∃ (x3_15 : List UInt8) (x4_16 : Int) (y17 : Src), Kp [(3, 5), (9, 18)] s0 sQ ∧ sQ 3 = S x3_15 ∧ sQ 4 = .int .i64 x4_16 ∧ Blk wQ bs ((encSrc cv) y17).toArray 62 ∧ Gr bs (bs + 1) w12 wQ ∧ Ext wc wQ ∧ loopF (draw_path.b1 a0) kk (x3_15, x4_16, y17) = some z18) k ⟨z1.1, z8.1, z8.2, (Kp.refl _ _), rfl, rfl, k14, (Gr.refl _ _ _), (Ext.gr (Ext.gr kc g6 hz) g13 hz), L19⟩ ?_
    rintro k27 s28 w29 ⟨x3_15, x4_16, y17, K30, h33, h34, h35, e31, e31c, L32⟩
    cases k27 with
    | zero => exact absurd L32 (by simp [loopF])
    | succ k27 =>
      obtain ⟨t36, H, S37⟩ := loopF_succ L32
      clear L32
      unfold draw_path.b1 at H
      refine W_seq <| W_seq <| W_reg <| L_op (.plain rfl) rfl (ltb rfl) (X_move (v := (.int .i64 x4_16)) h34) <| L_op (.plain rfl) rfl (ltb rfl) (X_gtr rfl rfl) <| L_nil <| thn_n ?_
      rcases bif_two H with ⟨q38, H⟩ | ⟨q38, H⟩
      · refine W_true (congrArg Value.bool q38) <| W_skip <| thn_n <| W_seq <| W_block <| W_reg <| L_op (.plain rfl) rfl (ltb rfl) (X_move (v := (S x3_15)) h33) <| L_op (.plain rfl) rfl (ltb rfl) (X_move (v := (.pointer (some ⟨bs, 0, none⟩))) (K30 0 rfl)) ?_
        obtain ⟨z39, x40, H⟩ := bind_some H
        refine L_callS (.plain rfl) rfl (ltb rfl) rfl Tryd.call63 (draw_part.calls (w := w29) (a0 := a0) (a1 := y17) e31c fc hz h35 x40) rfl <| fun w43 g44 k45 => ?_
        obtain ⟨c46, H⟩ := bif_some H
        refine L_op (.plain rfl) rfl (ltb rfl) (X_cat rfl rfl (of_decide_eq_true c46)) ?_
        obtain ⟨c47, H⟩ := bif_some H
        refine L_op (.plain rfl) rfl (ltb rfl) (X_cat rfl rfl (of_decide_eq_true c47)) <| L_op (.plain rfl) rfl (ltb rfl) (X_assign (v := (S (x3_15 ++ (([47] : List UInt8) ++ z39.1)))) rfl) <| L_nil <| blk_n <| thn_n <| W_reg <| L_op (.plain rfl) rfl (ltb rfl) (X_move (v := (.int .i64 x4_16)) h34) <| L_op (.plain rfl) rfl (ltb rfl) (X_sub rfl rfl) <| L_op (.plain rfl) rfl (ltb rfl) (X_assign (v := (.int .i64 (IntKind.wrap .i64 (x4_16 - 1)))) rfl) <| L_nil <| thn_n ?_
        obtain rfl := Option.some.inj H
        exact ⟨_, Nat.lt_succ_self _, x3_15 ++ (([47] : List UInt8) ++ z39.1), IntKind.wrap .i64 (x4_16 - 1), z39.2, (Kp.upd (Kp.upd (Kp.upd (Kp.upd (Kp.upd (Kp.upd (Kp.upd (Kp.upd (Kp.upd (Kp.upd (Kp.upd K30 rfl) rfl) rfl) rfl) rfl) rfl) rfl) rfl) rfl) rfl) rfl), rfl, rfl, k45, (Gr.trans e31 g44), (Ext.gr e31c g44 hz), S37⟩
      · refine W_false (congrArg Value.bool q38) <| W_exit <| thn_x <| thn_x <| blk_x <| thn_n ?_
        obtain rfl := Option.some.inj H
        obtain rfl := Option.some.inj S37
        exact ⟨x3_15, y17, (Kp.upd (Kp.upd K30 rfl) rfl), h33, h35, e31, e31c, rfl⟩
  · rintro s24 w23 ⟨x3_21, y22, K25, h48, h49, e26, e26c, y50⟩
    rw [y50] at C20
    have H := C20
    replace H : _ = some _ := H
    refine thn_n <| W_seq <| W_reg <| L_op (.plain rfl) rfl (ltb rfl) (X_move (v := (S x3_21)) h48) <| L_op (.plain rfl) rfl (ltb rfl) (X_assign (v := (S x3_21)) rfl) <| L_nil <| thn_n <| W_ret <| fin_r ?_
    obtain rfl := Option.some.inj H
    exact fin1s rfl (Gr.trans (Gr.trans g6 g13) e26) h49
theorem draw_path.calls {w : World} {a0 : List Int} {a1 : Src} {r : List UInt8 × Src} {wc : World} {cv : Value} {bs : Nat} (kc : Ext wc w) (fc : Rd 1 (Go.UL.encI .u8) wc cv a0) (hz : wc.heap.size ≤ bs) (ks : Blk w bs (encSrc cv a1).toArray 62) (H : (draw_path.sh 4 a0 a1) = some r) :
    Calls Tryd.prog 37 #[.pointer (some ⟨bs, 0, none⟩)] w (Rt (RS 62 bs cv w (S r.1) r.2)) := by
  obtain ⟨k, h⟩ := draw_path.eq a0 a1 H
  exact draw_path.walk kc fc hz ks h
/-! (*spec.l00Src).anyPath -/
theorem draw_anyPath.walk {w : World} {a0 : List Int} {a1 : Src} {wc : World} {cv : Value} {bs : Nat} (kc : Ext wc w) (fc : Rd 1 (Go.UL.encI .u8) wc cv a0) (hz : wc.heap.size ≤ bs) (ks : Blk w bs (encSrc cv a1).toArray 62) {r : List UInt8 × Src} (H : draw_anyPath.sh a0 a1 = some r) :
    Calls Tryd.prog 38 #[.pointer (some ⟨bs, 0, none⟩)] w (Rt (RS 62 bs cv w (S r.1) r.2)) := by
  unfold draw_anyPath.sh at H
  refine calls_of_W Tryd.func38 rfl (Nat.le_of_ble_eq_true rfl) Tryd.ntmps38 rfl ?_
  refine W_seq <| W_reg <| L_op (.plain rfl) rfl (ltb rfl) (X_assign (v := (S ([] : List UInt8))) rfl) <| L_nil <| thn_n <| W_seq <| W_seq <| W_reg <| L_op (.plain rfl) rfl (ltb rfl) (X_move (v := (.pointer (some ⟨bs, 0, none⟩))) rfl) ?_
  obtain ⟨z1, x2, H⟩ := bind_some H
  refine L_callS (.plain rfl) rfl (ltb rfl) rfl Tryd.call59 (draw_next.calls (w := w) (a0 := a0) (a1 := a1) (a2 := 5) kc fc hz ks x2) rfl <| fun w5 g6 k7 => L_nil <| thn_n <| W_block <| W_seq <| W_reg <| L_op (.plain rfl) rfl (ltb rfl) (X_eql rfl rfl) <| L_op (.plain rfl) rfl (ltb rfl) (X_assign (v := (.bool (decide (z1.1 = 0)))) rfl) <| L_nil <| thn_n ?_
  rcases bif_two H with ⟨q8, H⟩ | ⟨q8, H⟩
  · refine W_true (congrArg Value.bool q8) <| W_seq <| W_reg <| L_op (.plain rfl) rfl (ltb rfl) (X_move (v := (.pointer (some ⟨bs, 0, none⟩))) rfl) <| L_lit (.plain rfl) rfl (ltb rfl) rfl Tryd.underlying27 Tryd.sizeOf9 Tryd.zeroValue9 rfl rfl rfl (vs := [(S ([] : List UInt8)), (S ([47] : List UInt8)), (S ([97, 47] : List UInt8)), (S ([47, 97] : List UInt8)), (S ([97, 47, 47, 98] : List UInt8)), (S ([46] : List UInt8)), (S ([46, 46] : List UInt8)), (S ([97, 47, 46, 46] : List UInt8)), (S ([97, 32, 98] : List UInt8)), (S ([128] : List UInt8)), (S ([97, 47, 98, 47, 99, 47, 100] : List UInt8)), (S ([97, 47, 98, 47, 99, 47, 100, 47, 101] : List UInt8)), (S ([108, 111, 110, 103, 110, 97, 109, 101] : List UInt8)), (S ([108, 111, 110, 103, 110, 97, 109, 101, 49] : List UInt8)), (S ([46, 46, 46] : List UInt8)), (S ([97, 0] : List UInt8))]) rfl (lit_all rfl) <| fun b9 w10 z11 z12 e13 k14 => ?_
    obtain ⟨z15, x16, H⟩ := bind_some H
    refine L_callS (.plain rfl) rfl (ltb rfl) rfl Tryd.call61 (draw_pick.calls (w := w10) (a0 := a0) (a1 := z1.2) (a2 := draw_anyPath.lit1) (Ext.trans (Ext.gr kc g6 hz) e13) fc hz (Blk.ext k7 e13) (Ow.new (xs := draw_anyPath.lit1) (sz := 1) (enc := encS) (base := w5.heap.size) k14 (Nat.le_of_eq z11) rfl (fun _ _ => rfl) (Nat.le_of_ble_eq_true rfl)) (Nat.le_trans (Blk.lt ks) (g6).size) x16) rfl <| fun w19 g20 k21 => L_op (.plain rfl) rfl (ltb rfl) (X_assign (v := (S z15.1)) rfl) <| L_nil <| thn_n <| W_ret <| blk_r <| thn_r <| fin_r ?_
    obtain rfl := Option.some.inj H
    exact fin1s rfl (Gr.trans (Gr.trans g6 (Gr.ext e13)) g20) k21
  · refine W_false (congrArg Value.bool q8) <| W_seq <| W_reg <| L_op (.plain rfl) rfl (ltb rfl) (X_eql rfl rfl) <| L_op (.plain rfl) rfl (ltb rfl) (X_assign (v := (.bool (decide (z1.1 = 1)))) rfl) <| L_nil <| thn_n ?_
    rcases bif_two H with ⟨q22, H⟩ | ⟨q22, H⟩
    · refine W_true (congrArg Value.bool q22) <| W_seq <| W_reg <| L_op (.plain rfl) rfl (ltb rfl) (X_move (v := (.pointer (some ⟨bs, 0, none⟩))) rfl) ?_
      obtain ⟨z23, x24, H⟩ := bind_some H
      refine L_callS (.plain rfl) rfl (ltb rfl) rfl Tryd.call37 (draw_path.calls (w := w5) (a0 := a0) (a1 := z1.2) (Ext.gr kc g6 hz) fc hz k7 x24) rfl <| fun w27 g28 k29 => L_op (.plain rfl) rfl (ltb rfl) (X_assign (v := (S z23.1)) rfl) <| L_nil <| thn_n <| W_seq <| W_reg <| L_op (.plain rfl) rfl (ltb rfl) (X_move (v := (.pointer (some ⟨bs, 0, none⟩))) rfl) <| L_op (.plain rfl) rfl (ltb rfl) (X_move (v := (S z23.1)) rfl) <| L_op (.plain rfl) rfl (ltb rfl) (X_lenS Tryd.underlying9 rfl) <| L_op (.plain rfl) rfl (ltb rfl) (X_add rfl rfl) ?_
      obtain ⟨z30, x31, H⟩ := bind_some H
      refine L_callS (.plain rfl) rfl (ltb rfl) rfl Tryd.call59 (draw_next.calls (w := w27) (a0 := a0) (a1 := z23.2) (a2 := IntKind.wrap .i64 ((z23.1.length : Int) + 1)) (Ext.gr (Ext.gr kc g6 hz) g28 hz) fc hz k29 x31) rfl <| fun w34 g35 k36 => L_op (.plain rfl) rfl (ltb rfl) (X_assign (v := (.int .i64 z30.1)) rfl) <| L_nil <| thn_n <| W_seq ?_
      obtain ⟨c37, H⟩ := bif_some H
      obtain ⟨z44, x45, H⟩ := bind_some H
      obtain ⟨c51, H⟩ := bif_some H
      obtain ⟨c52, H⟩ := bif_some H
      obtain ⟨c53, H⟩ := bif_some H
      refine W_drawS 12 [LEq (S z23.1), LEq (.int .i64 z30.1), LEq (S (sub z23.1 0 z30.1)), LEq (.pointer (some ⟨bs, 0, none⟩)), LOw 9 1 encS w34.heap.size draw_anyPath.lit2, LEq (S z44.1), LEq (S ((sub z23.1 0 z30.1) ++ z44.1)), LEq (S z23.1), LEq (.int .i64 z30.1), LEq (S (sub z23.1 z30.1 (z23.1.length : Int))), LEq (S (((sub z23.1 0 z30.1) ++ z44.1) ++ (sub z23.1 z30.1 (z23.1.length : Int)))), LEq (S (((sub z23.1 0 z30.1) ++ z44.1) ++ (sub z23.1 z30.1 (z23.1.length : Int))))] [(5, z44.2)] z30.2 [] (by kernel_rfl) (by kernel_rfl) (by kernel_rfl) (by kernel_rfl) rfl k36 ⟨LEq.keep, LEq.keep, LEq.keep, LEq.keep, (LOw.keep (Nat.le_trans (Blk.lt ks) ((Gr.trans (Gr.trans g6 g28) g35)).size)), LEq.keep, LEq.keep, LEq.keep, LEq.keep, LEq.keep, LEq.keep, LEq.keep, trivial⟩ ⟨?_, ?_, ?_, ?_, ?_, ?_, ?_, ?_, ?_, ?_, ?_, ?_, trivial⟩ ?_
      · intro s54 w55 dn56 hg57 hi58 hn59 hp60 hq61 hf62 hd63 hu64
        exact L_op (.plain rfl) rfl (ltb rfl) (X_move (v := (S z23.1)) (hf62 3 rfl)) <| L_nil <| stepQs rfl rfl rfl rfl (Ext.refl w55) rfl
      · intro s65 w66 dn67 hg68 hi69 hn70 hp71 hq72 hf73 hd74 hu75
        exact L_op (.plain rfl) rfl (ltb rfl) (X_move (v := (.int .i64 z30.1)) (hf73 4 rfl)) <| L_nil <| stepQs rfl rfl rfl rfl (Ext.refl w66) rfl
      · intro s76 w77 dn78 hg79 hi80 hn81 hp82 hq83 hf84 hd85 hu86
        have d87 : s76 21 = (S z23.1) := (hd85 0 rfl rfl)
        have d88 : s76 22 = (.int .i64 z30.1) := (hd85 1 rfl rfl)
        have c89 := c37
        exact L_op (.plain rfl) rfl (ltb rfl) (X_sliceS Tryd.underlying9 d87 (l := 0) (h := z30.1) rfl ⟨_, d88⟩ (inS_1 c89) (inS_2 c89) (inS_3 c89)) <| L_nil <| stepQs rfl rfl rfl rfl (Ext.refl w77) rfl
      · intro s90 w91 dn92 hg93 hi94 hn95 hp96 hq97 hf98 hd99 hu100
        exact L_op (.plain rfl) rfl (ltb rfl) (X_move (v := (.pointer (some ⟨bs, 0, none⟩))) (hf98 0 rfl)) <| L_nil <| stepQs rfl rfl rfl rfl (Ext.refl w91) rfl
      · intro s101 w102 dn103 hg104 hi105 hn106 hp107 hq108 hf109 hd110 hu111
        exact L_lit (.plain rfl) rfl (ltb rfl) rfl Tryd.underlying27 Tryd.sizeOf9 Tryd.zeroValue9 rfl rfl rfl (vs := [(S ([47] : List UInt8)), (S ([46] : List UInt8)), (S ([32] : List UInt8)), (S ([126] : List UInt8)), (S ([127] : List UInt8))]) rfl (lit_all rfl) <| fun b112 w113 z114 z115 e116 k117 => L_nil <| stepQs rfl rfl rfl rfl e116 (Ow.base (Ow.new (xs := draw_anyPath.lit3) (sz := 1) (enc := encS) (base := w102.heap.size) k117 (Nat.le_of_eq z114) rfl (fun _ _ => rfl) (Nat.le_of_ble_eq_true rfl)) (hg104).size)
      · intro s118 w119 dn120 hg121 hi122 hn123 hp124 hq125 hf126 hd127 hu128
        have k129 : Blk w119 bs (encSrc cv z30.2).toArray 62 := by
          have h := hi122
          simp only [InvS, srcAt, hn123, cond_true, cond_false] at h
          exact h
        have a130 : setD dn120 5 5 = true := setD_self
        have d131 : s118 24 = (.pointer (some ⟨bs, 0, none⟩)) := (hd127 3 rfl rfl)
        have d132 : Ow 9 1 encS w34.heap.size w119 (s118 25) draw_anyPath.lit2 := (hd127 4 rfl rfl)
        exact L_callS (.plain rfl) rfl (ltb rfl) rfl Tryd.call61 (draw_pick.calls (w := w119) (a0 := a0) (a1 := z30.2) (a2 := draw_anyPath.lit2) (Ext.gr (Ext.gr (Ext.gr (Ext.gr kc g6 hz) g28 hz) g35 hz) hg121 hz) fc hz k129 d132 (Nat.le_trans (Blk.lt ks) ((Gr.trans (Gr.trans g6 g28) g35)).size) x45) (cons2 d131 (cons2 rfl rfl)) <| fun w135 g136 k137 => L_nil <| stepQh rfl rfl rfl rfl g136 (by simp only [InvS, srcAt, a130, cond_true, cond_false]; exact k137) rfl
      · intro s138 w139 dn140 hg141 hi142 hn143 hp144 hq145 hf146 hd147 hu148
        have d149 : s138 23 = (S (sub z23.1 0 z30.1)) := (hd147 2 rfl rfl)
        have d150 : s138 26 = (S z44.1) := (hd147 5 rfl rfl)
        have c151 := c51
        exact L_op (.plain rfl) rfl (ltb rfl) (X_cat d149 d150 (of_decide_eq_true c151)) <| L_nil <| stepQs rfl rfl rfl rfl (Ext.refl w139) rfl
      · intro s152 w153 dn154 hg155 hi156 hn157 hp158 hq159 hf160 hd161 hu162
        exact L_op (.plain rfl) rfl (ltb rfl) (X_move (v := (S z23.1)) (hf160 3 rfl)) <| L_nil <| stepQs rfl rfl rfl rfl (Ext.refl w153) rfl
      · intro s163 w164 dn165 hg166 hi167 hn168 hp169 hq170 hf171 hd172 hu173
        exact L_op (.plain rfl) rfl (ltb rfl) (X_move (v := (.int .i64 z30.1)) (hf171 4 rfl)) <| L_nil <| stepQs rfl rfl rfl rfl (Ext.refl w164) rfl
      · intro s174 w175 dn176 hg177 hi178 hn179 hp180 hq181 hf182 hd183 hu184
        have d185 : s174 28 = (S z23.1) := (hd183 7 rfl rfl)
        have d186 : s174 29 = (.int .i64 z30.1) := (hd183 8 rfl rfl)
        have c187 := c52
        exact L_op (.plain rfl) rfl (ltb rfl) (X_sliceS Tryd.underlying9 d185 (l := z30.1) (h := (z23.1.length : Int)) ⟨_, d186⟩ rfl (inS_1 c187) (inS_2 c187) (inS_3 c187)) <| L_nil <| stepQs rfl rfl rfl rfl (Ext.refl w175) rfl
      · intro s188 w189 dn190 hg191 hi192 hn193 hp194 hq195 hf196 hd197 hu198
        have d199 : s188 27 = (S ((sub z23.1 0 z30.1) ++ z44.1)) := (hd197 6 rfl rfl)
        have d200 : s188 30 = (S (sub z23.1 z30.1 (z23.1.length : Int))) := (hd197 9 rfl rfl)
        have c201 := c53
        exact L_op (.plain rfl) rfl (ltb rfl) (X_cat d199 d200 (of_decide_eq_true c201)) <| L_nil <| stepQs rfl rfl rfl rfl (Ext.refl w189) rfl
      · intro s202 w203 dn204 hg205 hi206 hn207 hp208 hq209 hf210 hd211 hu212
        have d213 : s202 31 = (S (((sub z23.1 0 z30.1) ++ z44.1) ++ (sub z23.1 z30.1 (z23.1.length : Int)))) := (hd211 10 rfl rfl)
        exact L_op (.plain rfl) rfl (ltb rfl) (X_assign d213) <| L_nil <| stepQs rfl rfl rfl rfl (Ext.refl w203) rfl
      intro s214 w215 hg216 hb217 hf218 ha219
      have K220 := Kp.ofD (kp := [(2, 3), (21, 32)]) rfl hf218
      have k221 : Blk w215 bs (encSrc cv z44.2).toArray 62 := hb217
      have d222 : s214 2 = (S (((sub z23.1 0 z30.1) ++ z44.1) ++ (sub z23.1 z30.1 (z23.1.length : Int)))) := ha219 11 rfl rfl
      clear ha219 hf218
      refine L_nil <| thn_n <| W_ret <| blk_r <| thn_r <| fin_r ?_
      obtain rfl := Option.some.inj H
      exact fin1s d222 (Gr.trans (Gr.trans (Gr.trans g6 g28) g35) hg216) k221
    · refine W_false (congrArg Value.bool q22) <| W_skip <| blk_n <| thn_n <| W_seq <| W_reg <| L_op (.plain rfl) rfl (ltb rfl) (X_move (v := (.pointer (some ⟨bs, 0, none⟩))) rfl) ?_
      obtain ⟨z223, x224, H⟩ := bind_some H
      refine L_callS (.plain rfl) rfl (ltb rfl) rfl Tryd.call37 (draw_path.calls (w := w5) (a0 := a0) (a1 := z1.2) (Ext.gr kc g6 hz) fc hz k7 x224) rfl <| fun w227 g228 k229 => L_op (.plain rfl) rfl (ltb rfl) (X_assign (v := (S z223.1)) rfl) <| L_nil <| thn_n <| W_ret <| fin_r ?_
      obtain rfl := Option.some.inj H
      exact fin1s rfl (Gr.trans g6 g228) k229
theorem draw_anyPath.calls {w : World} {a0 : List Int} {a1 : Src} {r : List UInt8 × Src} {wc : World} {cv : Value} {bs : Nat} (kc : Ext wc w) (fc : Rd 1 (Go.UL.encI .u8) wc cv a0) (hz : wc.heap.size ≤ bs) (ks : Blk w bs (encSrc cv a1).toArray 62) (H : (draw_anyPath.sh a0 a1) = some r) :
    Calls Tryd.prog 38 #[.pointer (some ⟨bs, 0, none⟩)] w (Rt (RS 62 bs cv w (S r.1) r.2)) := draw_anyPath.walk kc fc hz ks (draw_anyPath.eq a0 a1 H)
/-! spec.PathDrawn -/
theorem spec_PathDrawn.walk {w : World} {a0 : List Int} {v_a0 : Value} (f_a0 : Rd 1 (Go.UL.encI .u8) w v_a0 a0) {r : List UInt8} (H : spec_PathDrawn.sh a0 = some r) :
    Calls Tryd.prog 19 #[v_a0] w (Rt (RP w (S r))) := by
  unfold spec_PathDrawn.sh at H
  refine calls_of_W Tryd.func19 rfl (Nat.le_of_ble_eq_true rfl) Tryd.ntmps19 rfl ?_
  refine W_seq <| W_reg <| L_op (.plain rfl) rfl (ltb rfl) (X_assign (v := (S ([] : List UInt8))) rfl) <| L_nil <| thn_n <| W_seq <| W_reg <| L_op (.plain rfl) rfl (ltb rfl) (X_move (v := v_a0) rfl) ?_
  obtain ⟨z1, x2, H⟩ := bind_some H
  refine L_callSN (.plain rfl) rfl (ltb rfl) rfl Tryd.call35 (spec_l00Source.calls (w := w) (a0 := a0) f_a0 x2) rfl <| fun b5 w3 z6 e4 k7 => ?_
  obtain ⟨z8, x9, H⟩ := bind_some H
  refine L_callS (.plain rfl) rfl (ltb rfl) rfl Tryd.call37 (draw_path.calls (w := w3) (a0 := a0) (a1 := z1) e4 f_a0 z6 k7 x9) rfl <| fun w12 g13 k14 => L_op (.plain rfl) rfl (ltb rfl) (X_assign (v := (S z8.1)) rfl) <| L_nil <| thn_n <| W_ret <| fin_r ?_
  obtain rfl := Option.some.inj H
  exact fin1 rfl (Ext.gr e4 g13 z6)
theorem spec_PathDrawn.calls {w : World} {a0 : List Int} {r : List UInt8} {v_a0 : Value} (f_a0 : Rd 1 (Go.UL.encI .u8) w v_a0 a0) (H : (spec_PathDrawn.sh a0) = some r) :
    Calls Tryd.prog 19 #[v_a0] w (Rt (RP w (S r))) := spec_PathDrawn.walk f_a0 (spec_PathDrawn.eq a0 H)
/-! spec.AnyPathDrawn -/
theorem spec_AnyPathDrawn.walk {w : World} {a0 : List Int} {v_a0 : Value} (f_a0 : Rd 1 (Go.UL.encI .u8) w v_a0 a0) {r : List UInt8} (H : spec_AnyPathDrawn.sh a0 = some r) :
    Calls Tryd.prog 6 #[v_a0] w (Rt (RP w (S r))) := by
  unfold spec_AnyPathDrawn.sh at H
  refine calls_of_W Tryd.func6 rfl (Nat.le_of_ble_eq_true rfl) Tryd.ntmps6 rfl ?_
  refine W_seq <| W_reg <| L_op (.plain rfl) rfl (ltb rfl) (X_assign (v := (S ([] : List UInt8))) rfl) <| L_nil <| thn_n <| W_seq <| W_reg <| L_op (.plain rfl) rfl (ltb rfl) (X_move (v := v_a0) rfl) ?_
  obtain ⟨z1, x2, H⟩ := bind_some H
  refine L_callSN (.plain rfl) rfl (ltb rfl) rfl Tryd.call35 (spec_l00Source.calls (w := w) (a0 := a0) f_a0 x2) rfl <| fun b5 w3 z6 e4 k7 => ?_
  obtain ⟨z8, x9, H⟩ := bind_some H
  refine L_callS (.plain rfl) rfl (ltb rfl) rfl Tryd.call38 (draw_anyPath.calls (w := w3) (a0 := a0) (a1 := z1) e4 f_a0 z6 k7 x9) rfl <| fun w12 g13 k14 => L_op (.plain rfl) rfl (ltb rfl) (X_assign (v := (S z8.1)) rfl) <| L_nil <| thn_n <| W_ret <| fin_r ?_
  obtain rfl := Option.some.inj H
  exact fin1 rfl (Ext.gr e4 g13 z6)
theorem spec_AnyPathDrawn.calls {w : World} {a0 : List Int} {r : List UInt8} {v_a0 : Value} (f_a0 : Rd 1 (Go.UL.encI .u8) w v_a0 a0) (H : (spec_AnyPathDrawn.sh a0) = some r) :
    Calls Tryd.prog 6 #[v_a0] w (Rt (RP w (S r))) := spec_AnyPathDrawn.walk f_a0 (spec_AnyPathDrawn.eq a0 H)
/-! laws.mix -/
theorem laws_mix.walk {w : World} {a0 : Int} {a1 : List Int} {v_a1 : Value} (f_a1 : Rd 1 (Go.UL.encI .u8) w v_a1 a1) {r : List Int} (H : laws_mix.sh a0 a1 = some r) :
    Calls Tryd.prog 31 #[.int .i64 a0, v_a1] w (Rt (RO 5 1 (Go.UL.encI .u8) w r)) := by
  unfold laws_mix.sh at H
  refine calls_of_W Tryd.func31 rfl (Nat.le_of_ble_eq_true rfl) Tryd.ntmps31 rfl ?_
  refine W_seq <| W_reg <| L_op (.plain rfl) rfl (ltb rfl) (X_assign (v := (.slice none 0 0)) rfl) <| L_nil <| thn_n <| W_seq <| W_reg <| L_op (.plain rfl) rfl (ltb rfl) (X_move (v := (.int .i64 a0)) rfl) <| L_op (.plain rfl) rfl (ltb rfl) (X_convInt Tryd.underlying3 Tryd.underlying5 rfl) <| L_lit (.plain rfl) rfl (ltb rfl) rfl Tryd.underlying22 Tryd.sizeOf5 Tryd.zeroValue5 rfl rfl rfl (vs := [(.int .u8 (IntKind.wrap .u8 a0))]) rfl (lit_all rfl) <| fun b1 w2 z3 z4 e5 k6 => L_op (.plain rfl) rfl (ltb rfl) (X_move (v := v_a1) rfl) ?_
  obtain ⟨c7, H⟩ := bif_some H
  refine L_append (enc := (Go.UL.encI .u8)) (.plain rfl) rfl (ltb rfl) rfl El.t22 rfl rfl (Ow.new (xs := [IntKind.wrap .u8 a0]) (sz := 1) (enc := (Go.UL.encI .u8)) (base := w.heap.size) k6 (Nat.le_of_eq z3) rfl (fun _ _ => by rfl) (Nat.le_of_ble_eq_true rfl)) (Rd.ext f_a1 e5) (ones_I _ _) (of_decide_eq_true c7) (e5).size <| fun v8 w9 o10 z11 g12 => L_op (.plain rfl) rfl (ltb rfl) (X_assign (v := v8) rfl) <| L_nil <| thn_n <| W_ret <| fin_r ?_
  obtain rfl := Option.some.inj H
  exact fin1o rfl (g12 _ e5) o10 ((Ext.refl w)).size
theorem laws_mix.calls {w : World} {a0 : Int} {a1 : List Int} {r : List Int} {v_a1 : Value} (f_a1 : Rd 1 (Go.UL.encI .u8) w v_a1 a1) (H : (laws_mix.sh a0 a1) = some r) :
    Calls Tryd.prog 31 #[.int .i64 a0, v_a1] w (Rt (RO 5 1 (Go.UL.encI .u8) w r)) := laws_mix.walk f_a1 (laws_mix.eq a0 a1 H)
/-! laws.sameTexts -/
theorem laws_sameTexts.walk {k : Nat} {w : World} {a0 : List (List UInt8)} {a1 : List (List UInt8)} {v_a0 : Value} (f_a0 : Rd 1 encS w v_a0 a0) {v_a1 : Value} (f_a1 : Rd 1 encS w v_a1 a1) {r : Bool} (H : laws_sameTexts.sh k a0 a1 = some r) :
    Calls Tryd.prog 24 #[v_a0, v_a1] w (Rt (RP w (.bool r))) := by
  unfold laws_sameTexts.sh at H
  refine calls_of_W Tryd.func24 rfl (Nat.le_of_ble_eq_true rfl) Tryd.ntmps24 rfl ?_
  refine W_seq <| W_reg <| L_op (.plain rfl) rfl (ltb rfl) (X_assign (v := (.bool false)) rfl) <| L_nil <| thn_n <| W_seq <| W_seq <| W_reg <| L_op (.plain rfl) rfl (ltb rfl) (X_move (v := v_a0) rfl) <| L_op (.plain rfl) rfl (ltb rfl) (X_lenR Tryd.underlying27 rfl f_a0) <| L_op (.plain rfl) rfl (ltb rfl) (X_move (v := v_a1) rfl) <| L_op (.plain rfl) rfl (ltb rfl) (X_lenR Tryd.underlying27 rfl f_a1) <| L_op (.plain rfl) rfl (ltb rfl) (X_neq rfl rfl) <| L_nil <| thn_n ?_
  rcases bif_two H with ⟨q1, H⟩ | ⟨q1, H⟩
  · refine W_true (congrArg Value.bool q1) <| W_seq <| W_reg <| L_op (.plain rfl) rfl (ltb rfl) (X_assign (v := (.bool false)) rfl) <| L_nil <| thn_n <| W_ret <| thn_r <| fin_r ?_
    obtain rfl := Option.some.inj H
    exact fin1 rfl (Ext.refl w)
  · refine W_false (congrArg Value.bool q1) <| W_skip <| thn_n <| W_seq <| W_seq <| W_reg <| L_op (.plain rfl) rfl (ltb rfl) (X_assign (v := (.int .i64 0)) rfl) <| L_nil <| thn_n ?_
    obtain ⟨z3, L4, C5⟩ := bind_some H
    clear H
    refine  W_cutQ (fun s0 sQ wQ => Kp [(4, 6), (11, 26)] s0 sQ ∧ Ext w wQ ∧ z3 = .inr ()) ?_ ?_
    · refine W_block <| W_loopI (fun s0 kk sQ wQ => ∃ (x5_2 : Int), Kp [(4, 6), (11, 26)] s0 sQ ∧ sQ 5 = .int .i64 x5_2 ∧ Ext w wQ ∧ loopF (laws_sameTexts.b1 a0 a1) kk x5_2 = some z3) k ⟨0, (Kp.refl _ _), rfl, (Ext.refl w), L4⟩ ?_
      rintro k10 s11 w12 ⟨x5_2, K13, h16, e14, L15⟩
      cases k10 with
      | zero => exact absurd L15 (by simp [loopF])
      | succ k10 =>
        obtain ⟨t17, H, S18⟩ := loopF_succ L15
        clear L15
        unfold laws_sameTexts.b1 at H
        refine W_seq <| W_seq <| W_reg <| L_op (.plain rfl) rfl (ltb rfl) (X_move (v := (.int .i64 x5_2)) h16) <| L_op (.plain rfl) rfl (ltb rfl) (X_move (v := v_a0) (K13 0 rfl)) <| L_op (.plain rfl) rfl (ltb rfl) (X_lenR Tryd.underlying27 rfl (Rd.ext f_a0 e14)) <| L_op (.plain rfl) rfl (ltb rfl) (X_lss rfl rfl) <| L_nil <| thn_n ?_
        rcases bif_two H with ⟨q19, H⟩ | ⟨q19, H⟩
        · refine W_true (congrArg Value.bool q19) <| W_skip <| thn_n <| W_seq <| W_block <| W_seq ?_
          obtain ⟨c20, H⟩ := bif_some H
          obtain ⟨c23, H⟩ := bif_some H
          refine W_drawM [LEq v_a0, LEq (.int .i64 x5_2), LAt0 (encS (gt a0 x5_2)), LEq (S (gt a0 x5_2)), LEq v_a1, LEq (.int .i64 x5_2), LAt0 (encS (gt a1 x5_2)), LEq (S (gt a1 x5_2)), LEq (.bool (!decide ((gt a0 x5_2) = (gt a1 x5_2))))] (by kernel_rfl) (by kernel_rfl) ⟨LEq.mono, LEq.mono, LAt0.mono, LEq.mono, LEq.mono, LEq.mono, LAt0.mono, LEq.mono, LEq.mono, trivial⟩ ⟨?_, ?_, ?_, ?_, ?_, ?_, ?_, ?_, ?_, trivial⟩ ?_
          · intro s26 w27 e28 hf29 hd30 hu31
            exact L_op (.plain rfl) rfl (ltb rfl) (X_move (v := v_a0) ((hf29 0 rfl).trans (K13 0 rfl))) <| L_nil <| stepEnd rfl rfl (Ext.refl w27) rfl
          · intro s32 w33 e34 hf35 hd36 hu37
            exact L_op (.plain rfl) rfl (ltb rfl) (X_move (v := (.int .i64 x5_2)) ((hf35 5 rfl).trans h16)) <| L_nil <| stepEnd rfl rfl (Ext.refl w33) rfl
          · intro s38 w39 e40 hf41 hd42 hu43
            have d44 : s38 17 = v_a0 := (hd42 0 rfl)
            have d45 : s38 18 = (.int .i64 x5_2) := (hd42 1 rfl)
            have c46 := c20
            exact L_idx (.plain rfl) rfl (ltb rfl) rfl Tryd.underlying27 Tryd.sizeOf9 d44 (Rd.ext f_a0 (Ext.trans e14 e40)) d45 c46 <| fun p47 h48 => L_nil <| stepEnd rfl rfl (Ext.refl w39) ⟨_, rfl, h48⟩
          · intro s49 w50 e51 hf52 hd53 hu54
            obtain ⟨p55, h56, h57⟩ := (hd53 2 rfl)
            exact L_op (.plain rfl) rfl (ltb rfl) (X_loadAt Tryd.isAgg9 h56 h57 rfl) <| L_nil <| stepEnd rfl rfl (Ext.refl w50) rfl
          · intro s58 w59 e60 hf61 hd62 hu63
            exact L_op (.plain rfl) rfl (ltb rfl) (X_move (v := v_a1) ((hf61 1 rfl).trans (K13 1 rfl))) <| L_nil <| stepEnd rfl rfl (Ext.refl w59) rfl
          · intro s64 w65 e66 hf67 hd68 hu69
            exact L_op (.plain rfl) rfl (ltb rfl) (X_move (v := (.int .i64 x5_2)) ((hf67 5 rfl).trans h16)) <| L_nil <| stepEnd rfl rfl (Ext.refl w65) rfl
          · intro s70 w71 e72 hf73 hd74 hu75
            have d76 : s70 21 = v_a1 := (hd74 4 rfl)
            have d77 : s70 22 = (.int .i64 x5_2) := (hd74 5 rfl)
            have c78 := c23
            exact L_idx (.plain rfl) rfl (ltb rfl) rfl Tryd.underlying27 Tryd.sizeOf9 d76 (Rd.ext f_a1 (Ext.trans e14 e72)) d77 c78 <| fun p79 h80 => L_nil <| stepEnd rfl rfl (Ext.refl w71) ⟨_, rfl, h80⟩
          · intro s81 w82 e83 hf84 hd85 hu86
            obtain ⟨p87, h88, h89⟩ := (hd85 6 rfl)
            exact L_op (.plain rfl) rfl (ltb rfl) (X_loadAt Tryd.isAgg9 h88 h89 rfl) <| L_nil <| stepEnd rfl rfl (Ext.refl w82) rfl
          · intro s90 w91 e92 hf93 hd94 hu95
            have d96 : s90 20 = (S (gt a0 x5_2)) := (hd94 3 rfl)
            have d97 : s90 24 = (S (gt a1 x5_2)) := (hd94 7 rfl)
            exact L_op (.plain rfl) rfl (ltb rfl) (X_sne d96 d97) <| L_nil <| stepEnd rfl rfl (Ext.refl w91) rfl
          intro s98 w99 e100 hf101 ha102
          have K103 := Kp.ofD (kp := [(17, 26)]) rfl hf101
          have d104 : s98 25 = (.bool (!decide ((gt a0 x5_2) = (gt a1 x5_2)))) := ha102 8 rfl
          clear ha102 hf101
          refine thn_n ?_
          rcases bif_two H with ⟨q105, H⟩ | ⟨q105, H⟩
          · refine W_true (d104.trans (congrArg Value.bool q105)) <| W_seq <| W_reg <| L_op (.plain rfl) rfl (ltb rfl) (X_assign (v := (.bool false)) rfl) <| L_nil <| thn_n <| W_ret <| blk_r <| thn_r <| thn_r <| blk_r <| thn_r <| thn_r <| fin_r ?_
            obtain rfl := Option.some.inj H
            obtain rfl := Option.some.inj S18
            have H := C5
            obtain rfl := Option.some.inj H
            exact fin1 rfl (Ext.trans e14 e100)
          · refine W_false (d104.trans (congrArg Value.bool q105)) <| W_skip <| blk_n <| thn_n <| W_reg <| L_op (.plain rfl) rfl (ltb rfl) (X_move (v := (.int .i64 x5_2)) ((K103 5 rfl).trans h16)) <| L_op (.plain rfl) rfl (ltb rfl) (X_add rfl rfl) <| L_op (.plain rfl) rfl (ltb rfl) (X_assign (v := (.int .i64 (IntKind.wrap .i64 (x5_2 + 1)))) rfl) <| L_nil <| thn_n ?_
            obtain rfl := Option.some.inj H
            exact ⟨_, Nat.lt_succ_self _, IntKind.wrap .i64 (x5_2 + 1), (Kp.upd (Kp.upd (Kp.upd (Kp.cut (Kp.upd (Kp.upd (Kp.upd (Kp.upd K13 rfl) rfl) rfl) rfl) K103 rfl) rfl) rfl) rfl), rfl, (Ext.trans e14 e100), S18⟩
        · refine W_false (congrArg Value.bool q19) <| W_exit <| thn_x <| thn_x <| blk_x <| thn_n ?_
          obtain rfl := Option.some.inj H
          obtain rfl := Option.some.inj S18
          exact ⟨(Kp.upd (Kp.upd (Kp.upd (Kp.upd K13 rfl) rfl) rfl) rfl), e14, rfl⟩
    · rintro s7 w6 ⟨K8, e9, y106⟩
      rw [y106] at C5
      have H := C5
      replace H : _ = some _ := H
      refine thn_n <| W_seq <| W_reg <| L_op (.plain rfl) rfl (ltb rfl) (X_assign (v := (.bool true)) rfl) <| L_nil <| thn_n <| W_ret <| fin_r ?_
      obtain rfl := Option.some.inj H
      exact fin1 rfl e9
theorem laws_sameTexts.calls {w : World} {a0 : List (List UInt8)} {a1 : List (List UInt8)} {v_a0 : Value} (f_a0 : Rd 1 encS w v_a0 a0) {v_a1 : Value} (f_a1 : Rd 1 encS w v_a1 a1) (h0 : a0.length ≤ 4611686018427387904) :
    Calls Tryd.prog 24 #[v_a0, v_a1] w (Rt (RP w (.bool (decide (a0 = a1))))) := by
  obtain ⟨k, h⟩ := laws_sameTexts.eq a0 a1 h0
  exact laws_sameTexts.walk f_a0 f_a1 h
end Go.Proofs.YtfefjaohlhkmaaaDoor
