/- The walks, by program (wip/tools). -/
import Derived.Test.YtfefjaohlhkmaaaDoorProg
import Derived.Test.YtfefjaohlhkmaaaDoorrH
set_option linter.unusedVariables false
set_option linter.unusedSimpArgs false
set_option maxRecDepth 10000
namespace Go.Proofs.YtfefjaohlhkmaaaDoor
open Go.UL Go.RowKit
theorem El.t22 : ElemI Tryd.prog 22 5 1 1 (.int .u8 0) := ElemI.mk' Tryd.underlying22 (by kernel_rfl) rfl rfl rfl
theorem El.t27 : ElemI Tryd.prog 27 9 1 16 (.string ⟨#[]⟩) := ElemI.mk' Tryd.underlying27 (by kernel_rfl) rfl rfl rfl
theorem El.t64 : ElemI Tryd.prog 64 3 1 8 (.int .i64 0) := ElemI.mk' Tryd.underlying64 (by kernel_rfl) rfl rfl rfl
theorem El.t67 : ElemI Tryd.prog 67 20 1 16 (.nilIface) := ElemI.mk' Tryd.underlying67 (by kernel_rfl) rfl rfl rfl
theorem Eqg.t24 : Tryd.prog.eqGuardType Tryd.prog.depth 24 = false := by kernel_rfl
theorem Eqs.t24 (a b : Rec) (w : World) : (Op.equal 24 (.agg (encRec a).toArray) (.agg (encRec b).toArray)).run Tryd.prog w = .ok (decide (a = b)) w := run_eqRec (d := 9998) (ti := 3) (ts := 9) (tb := 4) Tryd.underlying24 rfl Tryd.underlying3 Tryd.underlying9 Tryd.underlying4 Tryd.isAgg3 Tryd.isAgg9 Tryd.isAgg4 (by kernel_rfl)
theorem Eqg.t103 : Tryd.prog.eqGuardType Tryd.prog.depth 103 = false := by kernel_rfl
theorem Eqs.t103 (a b : Nd) (w : World) : (Op.equal 103 (.agg (encNd a).toArray) (.agg (encNd b).toArray)).run Tryd.prog w = .ok (decide (a = b)) w := run_eqNd (d := 9998) (ti := 3) (ts := 9) Tryd.underlying103 rfl Tryd.underlying3 Tryd.underlying9 Tryd.isAgg3 Tryd.isAgg9 (by kernel_rfl)
/-! impl.within -/
theorem impl_within.walk {w : World} {a0 : Int} {a1 : Int} {a2 : Int} {r : Bool} (H : impl_within.sh a0 a1 a2 = some r) :
    Calls Tryd.prog 42 #[.int .i64 a0, .int .i64 a1, .int .i64 a2] w (Rt (RP w (.bool r))) := by
  unfold impl_within.sh at H
  refine calls_of_W Tryd.func42 rfl (Nat.le_of_ble_eq_true rfl) Tryd.ntmps42 rfl ?_
  refine W_seq <| W_reg <| L_op (.plain rfl) rfl (ltb rfl) (X_assign (v := (.bool false)) rfl) <| L_nil <| thn_n <| W_seq <| W_reg <| L_op (.plain rfl) rfl (ltb rfl) (X_move (v := (.int .i64 a1)) rfl) <| L_op (.plain rfl) rfl (ltb rfl) (X_move (v := (.int .i64 a0)) rfl) <| L_op (.plain rfl) rfl (ltb rfl) (X_leq rfl rfl) <| L_op (.plain rfl) rfl (ltb rfl) (X_move (v := (.bool (decide (a1 ≤ a0)))) rfl) <| L_grp 4 [(11, 15)] 14 (.bool ((decide (a1 ≤ a0)) && (decide (a0 ≤ a2)))) ?_ ?_
  · rcases bool_two (decide (a1 ≤ a0)) with b0_ | b0_
    · exact L_op (.guard 3 true 10 rfl rfl (ltb rfl) (congrArg Value.bool b0_)) rfl (ltb rfl) (X_move (v := (.int .i64 a0)) rfl) <| L_op (.guard 3 true 10 rfl rfl (ltb rfl) (congrArg Value.bool b0_)) rfl (ltb rfl) (X_move (v := (.int .i64 a2)) rfl) <| L_op (.guard 3 true 10 rfl rfl (ltb rfl) (congrArg Value.bool b0_)) rfl (ltb rfl) (X_leq rfl rfl) <| L_op (.plain rfl) rfl (ltb rfl) (X_pick (b := true) (v := (.bool (decide (a0 ≤ a2)))) (congrArg Value.bool b0_) rfl) <| L_nil <| thn_n ⟨(Kp.upd (Kp.upd (Kp.upd (Kp.upd (Kp.refl _ _) rfl) rfl) rfl) rfl), (and_t b0_), (Ext.refl w)⟩
    · exact L_skip rfl rfl (ltb rfl) (congrArg Value.bool b0_) rfl rfl (ltb rfl) <| L_skip rfl rfl (ltb rfl) (congrArg Value.bool b0_) rfl rfl (ltb rfl) <| L_skip rfl rfl (ltb rfl) (congrArg Value.bool b0_) rfl rfl (ltb rfl) <| L_op (.plain rfl) rfl (ltb rfl) (X_pick (b := false) (v := (.bool false)) (congrArg Value.bool b0_) rfl) <| L_nil <| thn_n ⟨(Kp.upd (Kp.upd (Kp.upd (Kp.upd (Kp.refl _ _) rfl) rfl) rfl) rfl), (and_f b0_), (Ext.refl w)⟩
  intro s6 w2 K3 h4 e5
  refine L_op (.plain rfl) rfl (ltb rfl) (X_assign (v := (.bool ((decide (a1 ≤ a0)) && (decide (a0 ≤ a2))))) h4) <| L_nil <| thn_n <| W_ret <| fin_r ?_
  obtain rfl := Option.some.inj H
  exact fin1 rfl e5
theorem impl_within.calls {w : World} {a0 : Int} {a1 : Int} {a2 : Int} :
    Calls Tryd.prog 42 #[.int .i64 a0, .int .i64 a1, .int .i64 a2] w (Rt (RP w (.bool (within a0 a1 a2)))) := impl_within.walk (impl_within.eq a0 a1 a2)
/-! spec.l01In -/
theorem spec_l01In.walk {w : World} {a0 : Int} {a1 : Int} {a2 : Int} {r : Bool} (H : spec_l01In.sh a0 a1 a2 = some r) :
    Calls Tryd.prog 64 #[.int .i64 a0, .int .i64 a1, .int .i64 a2] w (Rt (RP w (.bool r))) := by
  unfold spec_l01In.sh at H
  refine calls_of_W Tryd.func64 rfl (Nat.le_of_ble_eq_true rfl) Tryd.ntmps64 rfl ?_
  refine W_seq <| W_reg <| L_op (.plain rfl) rfl (ltb rfl) (X_assign (v := (.bool false)) rfl) <| L_nil <| thn_n <| W_seq <| W_reg <| L_op (.plain rfl) rfl (ltb rfl) (X_move (v := (.int .i64 a0)) rfl) <| L_op (.plain rfl) rfl (ltb rfl) (X_move (v := (.int .i64 a1)) rfl) <| L_op (.plain rfl) rfl (ltb rfl) (X_geq rfl rfl) <| L_op (.plain rfl) rfl (ltb rfl) (X_move (v := (.bool (decide (a1 ≤ a0)))) rfl) <| L_grp 4 [(11, 15)] 14 (.bool ((decide (a1 ≤ a0)) && (decide (a0 ≤ a2)))) ?_ ?_
  · rcases bool_two (decide (a1 ≤ a0)) with b0_ | b0_
    · exact L_op (.guard 3 true 10 rfl rfl (ltb rfl) (congrArg Value.bool b0_)) rfl (ltb rfl) (X_move (v := (.int .i64 a0)) rfl) <| L_op (.guard 3 true 10 rfl rfl (ltb rfl) (congrArg Value.bool b0_)) rfl (ltb rfl) (X_move (v := (.int .i64 a2)) rfl) <| L_op (.guard 3 true 10 rfl rfl (ltb rfl) (congrArg Value.bool b0_)) rfl (ltb rfl) (X_leq rfl rfl) <| L_op (.plain rfl) rfl (ltb rfl) (X_pick (b := true) (v := (.bool (decide (a0 ≤ a2)))) (congrArg Value.bool b0_) rfl) <| L_nil <| thn_n ⟨(Kp.upd (Kp.upd (Kp.upd (Kp.upd (Kp.refl _ _) rfl) rfl) rfl) rfl), (and_t b0_), (Ext.refl w)⟩
    · exact L_skip rfl rfl (ltb rfl) (congrArg Value.bool b0_) rfl rfl (ltb rfl) <| L_skip rfl rfl (ltb rfl) (congrArg Value.bool b0_) rfl rfl (ltb rfl) <| L_skip rfl rfl (ltb rfl) (congrArg Value.bool b0_) rfl rfl (ltb rfl) <| L_op (.plain rfl) rfl (ltb rfl) (X_pick (b := false) (v := (.bool false)) (congrArg Value.bool b0_) rfl) <| L_nil <| thn_n ⟨(Kp.upd (Kp.upd (Kp.upd (Kp.upd (Kp.refl _ _) rfl) rfl) rfl) rfl), (and_f b0_), (Ext.refl w)⟩
  intro s6 w2 K3 h4 e5
  refine L_op (.plain rfl) rfl (ltb rfl) (X_assign (v := (.bool ((decide (a1 ≤ a0)) && (decide (a0 ≤ a2))))) h4) <| L_nil <| thn_n <| W_ret <| fin_r ?_
  obtain rfl := Option.some.inj H
  exact fin1 rfl e5
theorem spec_l01In.calls {w : World} {a0 : Int} {a1 : Int} {a2 : Int} :
    Calls Tryd.prog 64 #[.int .i64 a0, .int .i64 a1, .int .i64 a2] w (Rt (RP w (.bool (within a0 a1 a2)))) := spec_l01In.walk (spec_l01In.eq a0 a1 a2)
/-! spec.l01Part -/
theorem spec_l01Part.walk {k : Nat} {w : World} {a0 : List UInt8} {r : Bool} (H : spec_l01Part.sh k a0 = some r) :
    Calls Tryd.prog 58 #[S a0] w (Rt (RP w (.bool r))) := by
  unfold spec_l01Part.sh at H
  refine calls_of_W Tryd.func58 rfl (Nat.le_of_ble_eq_true rfl) Tryd.ntmps58 rfl ?_
  refine W_seq <| W_reg <| L_op (.plain rfl) rfl (ltb rfl) (X_assign (v := (.bool false)) rfl) <| L_nil <| thn_n <| W_seq <| W_seq <| W_reg <| L_op (.plain rfl) rfl (ltb rfl) (X_move (v := (S a0)) rfl) <| L_op (.plain rfl) rfl (ltb rfl) (X_lenS Tryd.underlying9 rfl) <| L_callP (.plain rfl) rfl (ltb rfl) rfl Tryd.call64 (spec_l01In.calls (w := w) (a0 := (a0.length : Int)) (a1 := 1) (a2 := 8)) rfl <| fun w1 e2 => L_op (.plain rfl) rfl (ltb rfl) (X_not rfl) <| L_op (.plain rfl) rfl (ltb rfl) (X_move (v := (.bool (!(within (a0.length : Int) 1 8)))) rfl) <| L_grp 3 [(9, 12)] 11 (.bool ((!(within (a0.length : Int) 1 8)) || (decide (a0 = ([46] : List UInt8))))) ?_ ?_
  · rcases bool_two (!(within (a0.length : Int) 1 8)) with b2_ | b2_
    · exact L_skip rfl rfl (ltb rfl) (congrArg Value.bool b2_) rfl rfl (ltb rfl) <| L_skip rfl rfl (ltb rfl) (congrArg Value.bool b2_) rfl rfl (ltb rfl) <| L_op (.plain rfl) rfl (ltb rfl) (X_pick (b := true) (v := (.bool true)) (congrArg Value.bool b2_) rfl) <| L_nil <| thn_n ⟨(Kp.upd (Kp.upd (Kp.upd (Kp.refl _ _) rfl) rfl) rfl), (or_t b2_), (Ext.refl w1)⟩
    · exact L_op (.guard 4 false 8 rfl rfl (ltb rfl) (congrArg Value.bool b2_)) rfl (ltb rfl) (X_move (v := (S a0)) rfl) <| L_op (.guard 4 false 8 rfl rfl (ltb rfl) (congrArg Value.bool b2_)) rfl (ltb rfl) (X_seq rfl rfl) <| L_op (.plain rfl) rfl (ltb rfl) (X_pick (b := false) (v := (.bool (decide (a0 = ([46] : List UInt8))))) (congrArg Value.bool b2_) rfl) <| L_nil <| thn_n ⟨(Kp.upd (Kp.upd (Kp.upd (Kp.refl _ _) rfl) rfl) rfl), (or_f b2_), (Ext.refl w1)⟩
  intro s8 w4 K5 h6 e7
  refine L_op (.plain rfl) rfl (ltb rfl) (X_move h6) <| L_grp 3 [(13, 16)] 15 (.bool (((!(within (a0.length : Int) 1 8)) || (decide (a0 = ([46] : List UInt8)))) || (decide (a0 = ([46, 46] : List UInt8))))) ?_ ?_
  · rcases bool_two ((!(within (a0.length : Int) 1 8)) || (decide (a0 = ([46] : List UInt8)))) with b8_ | b8_
    · exact L_skip rfl rfl (ltb rfl) (congrArg Value.bool b8_) rfl rfl (ltb rfl) <| L_skip rfl rfl (ltb rfl) (congrArg Value.bool b8_) rfl rfl (ltb rfl) <| L_op (.plain rfl) rfl (ltb rfl) (X_pick (b := true) (v := (.bool true)) (congrArg Value.bool b8_) rfl) <| L_nil <| thn_n ⟨(Kp.upd (Kp.upd (Kp.upd (Kp.refl _ _) rfl) rfl) rfl), (or_t b8_), (Ext.refl w4)⟩
    · exact L_op (.guard 8 false 12 rfl rfl (ltb rfl) (congrArg Value.bool b8_)) rfl (ltb rfl) (X_move (v := (S a0)) (K5 0 rfl)) <| L_op (.guard 8 false 12 rfl rfl (ltb rfl) (congrArg Value.bool b8_)) rfl (ltb rfl) (X_seq rfl rfl) <| L_op (.plain rfl) rfl (ltb rfl) (X_pick (b := false) (v := (.bool (decide (a0 = ([46, 46] : List UInt8))))) (congrArg Value.bool b8_) rfl) <| L_nil <| thn_n ⟨(Kp.upd (Kp.upd (Kp.upd (Kp.refl _ _) rfl) rfl) rfl), (or_f b8_), (Ext.refl w4)⟩
  intro s14 w10 K11 h12 e13
  refine L_nil <| thn_n ?_
  rcases bif_two H with ⟨q15, H⟩ | ⟨q15, H⟩
  · refine W_true (h12.trans (congrArg Value.bool q15)) <| W_seq <| W_reg <| L_op (.plain rfl) rfl (ltb rfl) (X_assign (v := (.bool false)) rfl) <| L_nil <| thn_n <| W_ret <| thn_r <| fin_r ?_
    obtain rfl := Option.some.inj H
    exact fin1 rfl (Ext.trans (Ext.trans e2 e7) e13)
  · refine W_false (h12.trans (congrArg Value.bool q15)) <| W_skip <| thn_n <| W_seq <| W_seq <| W_reg <| L_op (.plain rfl) rfl (ltb rfl) (X_assign (v := (.int .i64 0)) rfl) <| L_nil <| thn_n ?_
    obtain ⟨z17, L18, C19⟩ := bind_some H
    clear H
    refine  W_cutQ (fun s0 sQ wQ => Kp [(2, 4), (16, 38)] s0 sQ ∧ Ext w10 wQ ∧ z17 = .inr ()) ?_ ?_
    · refine W_block <| W_loopI (fun s0 kk sQ wQ => ∃ (x3_16 : Int), Kp [(2, 4), (16, 38)] s0 sQ ∧ sQ 3 = .int .i64 x3_16 ∧ Ext w10 wQ ∧ loopF (spec_l01Part.b1 a0) kk x3_16 = some z17) k ⟨0, (Kp.refl _ _), rfl, (Ext.refl w10), L18⟩ ?_
      rintro k24 s25 w26 ⟨x3_16, K27, h30, e28, L29⟩
      cases k24 with
      | zero => exact absurd L29 (by simp [loopF])
      | succ k24 =>
        obtain ⟨t31, H, S32⟩ := loopF_succ L29
        clear L29
        unfold spec_l01Part.b1 at H
        refine W_seq <| W_seq <| W_reg <| L_op (.plain rfl) rfl (ltb rfl) (X_move (v := (.int .i64 x3_16)) h30) <| L_op (.plain rfl) rfl (ltb rfl) (X_move (v := (S a0)) ((K27 0 rfl).trans ((K11 0 rfl).trans (K5 0 rfl)))) <| L_op (.plain rfl) rfl (ltb rfl) (X_lenS Tryd.underlying9 rfl) <| L_op (.plain rfl) rfl (ltb rfl) (X_lss rfl rfl) <| L_nil <| thn_n ?_
        rcases bif_two H with ⟨q33, H⟩ | ⟨q33, H⟩
        · refine W_true (congrArg Value.bool q33) <| W_skip <| thn_n <| W_seq <| W_block <| W_seq <| W_reg <| L_op (.plain rfl) rfl (ltb rfl) (X_move (v := (S a0)) ((K27 0 rfl).trans ((K11 0 rfl).trans (K5 0 rfl)))) <| L_op (.plain rfl) rfl (ltb rfl) (X_move (v := (.int .i64 x3_16)) h30) ?_
          obtain ⟨c34, H⟩ := bif_some H
          refine L_op (.plain rfl) rfl (ltb rfl) (X_indexS Tryd.underlying9 rfl rfl (inR_lo c34) (inR_hi c34)) <| L_op (.plain rfl) rfl (ltb rfl) (X_lss rfl rfl) <| L_op (.plain rfl) rfl (ltb rfl) (X_move (v := (.bool (decide ((byt a0 x3_16) < 33)))) rfl) ?_
          obtain ⟨z36, x37, H⟩ := bind_some H
          refine L_grpE 5 [(27, 32)] 31 (fun q => q = z36) ?_ ?_
          · rcases bif_two x37 with ⟨b34_, H⟩ | ⟨b34_, H⟩
            · refine L_skip rfl rfl (ltb rfl) (congrArg Value.bool b34_) rfl rfl (ltb rfl) <| L_skip rfl rfl (ltb rfl) (congrArg Value.bool b34_) rfl rfl (ltb rfl) <| L_skip rfl rfl (ltb rfl) (congrArg Value.bool b34_) rfl rfl (ltb rfl) <| L_skip rfl rfl (ltb rfl) (congrArg Value.bool b34_) rfl rfl (ltb rfl) <| L_op (.plain rfl) rfl (ltb rfl) (X_pick (b := true) (v := (.bool true)) (congrArg Value.bool b34_) rfl) ?_
              obtain rfl := Option.some.inj H
              exact L_nil <| thn_n ⟨(Kp.upd (Kp.upd (Kp.upd (Kp.upd (Kp.upd (Kp.refl _ _) rfl) rfl) rfl) rfl) rfl), ⟨_, rfl, rfl⟩, (Ext.refl w26)⟩
            · refine L_op (.guard 4 false 26 rfl rfl (ltb rfl) (congrArg Value.bool b34_)) rfl (ltb rfl) (X_move (v := (S a0)) ((K27 0 rfl).trans ((K11 0 rfl).trans (K5 0 rfl)))) <| L_op (.guard 4 false 26 rfl rfl (ltb rfl) (congrArg Value.bool b34_)) rfl (ltb rfl) (X_move (v := (.int .i64 x3_16)) h30) ?_
              obtain ⟨c36, H⟩ := bif_some H
              refine L_op (.guard 4 false 26 rfl rfl (ltb rfl) (congrArg Value.bool b34_)) rfl (ltb rfl) (X_indexS Tryd.underlying9 rfl rfl (inR_lo c36) (inR_hi c36)) <| L_op (.guard 4 false 26 rfl rfl (ltb rfl) (congrArg Value.bool b34_)) rfl (ltb rfl) (X_gtr rfl rfl) <| L_op (.plain rfl) rfl (ltb rfl) (X_pick (b := false) (v := (.bool (decide (126 < (byt a0 x3_16))))) (congrArg Value.bool b34_) rfl) ?_
              obtain rfl := Option.some.inj H
              exact L_nil <| thn_n ⟨(Kp.upd (Kp.upd (Kp.upd (Kp.upd (Kp.upd (Kp.refl _ _) rfl) rfl) rfl) rfl) rfl), ⟨_, rfl, rfl⟩, (Ext.refl w26)⟩
          intro s42 w38 z43 K39 hq h40 e41
          rw [hq] at h40; clear hq
          refine L_op (.plain rfl) rfl (ltb rfl) (X_move (v := (.bool z36)) h40) ?_
          obtain ⟨z45, x46, H⟩ := bind_some H
          refine L_grpE 5 [(33, 38)] 37 (fun q => q = z45) ?_ ?_
          · rcases bif_two x46 with ⟨b43_, H⟩ | ⟨b43_, H⟩
            · refine L_skip rfl rfl (ltb rfl) (congrArg Value.bool b43_) rfl rfl (ltb rfl) <| L_skip rfl rfl (ltb rfl) (congrArg Value.bool b43_) rfl rfl (ltb rfl) <| L_skip rfl rfl (ltb rfl) (congrArg Value.bool b43_) rfl rfl (ltb rfl) <| L_skip rfl rfl (ltb rfl) (congrArg Value.bool b43_) rfl rfl (ltb rfl) <| L_op (.plain rfl) rfl (ltb rfl) (X_pick (b := true) (v := (.bool true)) (congrArg Value.bool b43_) rfl) ?_
              obtain rfl := Option.some.inj H
              exact L_nil <| thn_n ⟨(Kp.upd (Kp.upd (Kp.upd (Kp.upd (Kp.upd (Kp.refl _ _) rfl) rfl) rfl) rfl) rfl), ⟨_, rfl, rfl⟩, (Ext.refl w38)⟩
            · refine L_op (.guard 10 false 32 rfl rfl (ltb rfl) (congrArg Value.bool b43_)) rfl (ltb rfl) (X_move (v := (S a0)) ((K39 0 rfl).trans ((K27 0 rfl).trans ((K11 0 rfl).trans (K5 0 rfl))))) <| L_op (.guard 10 false 32 rfl rfl (ltb rfl) (congrArg Value.bool b43_)) rfl (ltb rfl) (X_move (v := (.int .i64 x3_16)) ((K39 3 rfl).trans h30)) ?_
              obtain ⟨c45, H⟩ := bif_some H
              refine L_op (.guard 10 false 32 rfl rfl (ltb rfl) (congrArg Value.bool b43_)) rfl (ltb rfl) (X_indexS Tryd.underlying9 rfl rfl (inR_lo c45) (inR_hi c45)) <| L_op (.guard 10 false 32 rfl rfl (ltb rfl) (congrArg Value.bool b43_)) rfl (ltb rfl) (X_eql rfl rfl) <| L_op (.plain rfl) rfl (ltb rfl) (X_pick (b := false) (v := (.bool (decide ((byt a0 x3_16) = 47)))) (congrArg Value.bool b43_) rfl) ?_
              obtain rfl := Option.some.inj H
              exact L_nil <| thn_n ⟨(Kp.upd (Kp.upd (Kp.upd (Kp.upd (Kp.upd (Kp.refl _ _) rfl) rfl) rfl) rfl) rfl), ⟨_, rfl, rfl⟩, (Ext.refl w38)⟩
          intro s51 w47 z52 K48 hq h49 e50
          rw [hq] at h49; clear hq
          refine L_nil <| thn_n ?_
          rcases bif_two H with ⟨q53, H⟩ | ⟨q53, H⟩
          · refine W_true (h49.trans (congrArg Value.bool q53)) <| W_seq <| W_reg <| L_op (.plain rfl) rfl (ltb rfl) (X_assign (v := (.bool false)) rfl) <| L_nil <| thn_n <| W_ret <| blk_r <| thn_r <| thn_r <| blk_r <| thn_r <| thn_r <| fin_r ?_
            obtain rfl := Option.some.inj H
            obtain rfl := Option.some.inj S32
            have H := C19
            obtain rfl := Option.some.inj H
            exact fin1 rfl (Ext.trans (Ext.trans (Ext.trans (Ext.trans (Ext.trans e2 e7) e13) e28) e41) e50)
          · refine W_false (h49.trans (congrArg Value.bool q53)) <| W_skip <| blk_n <| thn_n <| W_reg <| L_op (.plain rfl) rfl (ltb rfl) (X_move (v := (.int .i64 x3_16)) ((K48 3 rfl).trans ((K39 3 rfl).trans h30))) <| L_op (.plain rfl) rfl (ltb rfl) (X_add rfl rfl) <| L_op (.plain rfl) rfl (ltb rfl) (X_assign (v := (.int .i64 (IntKind.wrap .i64 (x3_16 + 1)))) rfl) <| L_nil <| thn_n ?_
            obtain rfl := Option.some.inj H
            exact ⟨_, Nat.lt_succ_self _, IntKind.wrap .i64 (x3_16 + 1), (Kp.upd (Kp.upd (Kp.upd (Kp.cut (Kp.upd (Kp.cut (Kp.upd (Kp.upd (Kp.upd (Kp.upd (Kp.upd (Kp.upd (Kp.upd (Kp.upd (Kp.upd K27 rfl) rfl) rfl) rfl) rfl) rfl) rfl) rfl) rfl) K39 rfl) rfl) K48 rfl) rfl) rfl) rfl), rfl, (Ext.trans (Ext.trans e28 e41) e50), S32⟩
        · refine W_false (congrArg Value.bool q33) <| W_exit <| thn_x <| thn_x <| blk_x <| thn_n ?_
          obtain rfl := Option.some.inj H
          obtain rfl := Option.some.inj S32
          exact ⟨(Kp.upd (Kp.upd (Kp.upd (Kp.upd K27 rfl) rfl) rfl) rfl), e28, rfl⟩
    · rintro s21 w20 ⟨K22, e23, y54⟩
      rw [y54] at C19
      have H := C19
      replace H : _ = some _ := H
      refine thn_n <| W_seq <| W_reg <| L_op (.plain rfl) rfl (ltb rfl) (X_assign (v := (.bool true)) rfl) <| L_nil <| thn_n <| W_ret <| fin_r ?_
      obtain rfl := Option.some.inj H
      exact fin1 rfl (Ext.trans (Ext.trans (Ext.trans e2 e7) e13) e23)
theorem spec_l01Part.calls {w : World} {a0 : List UInt8} :
    Calls Tryd.prog 58 #[S a0] w (Rt (RP w (.bool (partOK a0)))) := by
  obtain ⟨k, h⟩ := spec_l01Part.eq a0
  exact spec_l01Part.walk h
/-! impl.PartOK -/
theorem impl_PartOK.walk {k : Nat} {w : World} {a0 : List UInt8} {r : Bool} (H : impl_PartOK.sh k a0 = some r) :
    Calls Tryd.prog 33 #[S a0] w (Rt (RP w (.bool r))) := by
  unfold impl_PartOK.sh at H
  refine calls_of_W Tryd.func33 rfl (Nat.le_of_ble_eq_true rfl) Tryd.ntmps33 rfl ?_
  refine W_seq <| W_reg <| L_op (.plain rfl) rfl (ltb rfl) (X_assign (v := (.bool false)) rfl) <| L_nil <| thn_n <| W_seq <| W_seq <| W_reg <| L_op (.plain rfl) rfl (ltb rfl) (X_move (v := (S a0)) rfl) <| L_op (.plain rfl) rfl (ltb rfl) (X_lenS Tryd.underlying9 rfl) <| L_op (.plain rfl) rfl (ltb rfl) (X_move (v := (.int .i64 0)) rfl) <| L_nil <| thn_n ?_
  obtain ⟨z2, L3, C4⟩ := bind_some H
  clear H
  refine  W_cutQ (fun s0 sQ wQ => Kp [(2, 4), (6, 22)] s0 sQ ∧ Ext w wQ ∧ z2 = .inr ()) ?_ ?_
  · refine W_block <| W_loopI (fun s0 kk sQ wQ => ∃ (x6_1 : Int), Kp [(2, 4), (6, 22)] s0 sQ ∧ sQ 6 = .int .i64 x6_1 ∧ Ext w wQ ∧ loopF (impl_PartOK.b1 a0) kk x6_1 = some z2) k ⟨0, (Kp.refl _ _), rfl, (Ext.refl w), L3⟩ ?_
    rintro k9 s10 w11 ⟨x6_1, K12, h15, e13, L14⟩
    cases k9 with
    | zero => exact absurd L14 (by simp [loopF])
    | succ k9 =>
      obtain ⟨t16, H, S17⟩ := loopF_succ L14
      clear L14
      unfold impl_PartOK.b1 at H
      refine W_seq <| W_reg <| L_op (.plain rfl) rfl (ltb rfl) (X_lss h15 (K12 5 rfl)) <| L_nil <| thn_n <| W_seq ?_
      rcases bif_two H with ⟨q18, H⟩ | ⟨q18, H⟩
      · refine W_true (congrArg Value.bool q18) <| W_skip <| thn_n <| W_seq <| W_block <| W_seq <| W_reg <| L_op (.plain rfl) rfl (ltb rfl) (X_move (v := (.int .i64 x6_1)) h15) <| L_op (.plain rfl) rfl (ltb rfl) (X_assign (v := (.int .i64 x6_1)) rfl) <| L_nil <| thn_n <| W_seq <| W_reg <| L_op (.plain rfl) rfl (ltb rfl) (X_move (v := (S a0)) (K12 0 rfl)) <| L_op (.plain rfl) rfl (ltb rfl) (X_move (v := (.int .i64 x6_1)) rfl) ?_
        obtain ⟨c19, H⟩ := bif_some H
        refine L_op (.plain rfl) rfl (ltb rfl) (X_indexS Tryd.underlying9 rfl rfl (inR_lo c19) (inR_hi c19)) <| L_op (.plain rfl) rfl (ltb rfl) (X_convInt Tryd.underlying5 Tryd.underlying3 rfl) <| L_callP (.plain rfl) rfl (ltb rfl) rfl Tryd.call42 (impl_within.calls (w := w11) (a0 := IntKind.wrap .i64 (byt a0 x6_1)) (a1 := 33) (a2 := 126)) rfl <| fun w20 e21 => L_op (.plain rfl) rfl (ltb rfl) (X_not rfl) <| L_op (.plain rfl) rfl (ltb rfl) (X_move (v := (.bool (!(within (IntKind.wrap .i64 (byt a0 x6_1)) 33 126)))) rfl) ?_
        obtain ⟨z23, x24, H⟩ := bind_some H
        refine L_grpE 5 [(16, 21)] 20 (fun q => q = z23) ?_ ?_
        · rcases bif_two x24 with ⟨b21_, H⟩ | ⟨b21_, H⟩
          · refine L_skip rfl rfl (ltb rfl) (congrArg Value.bool b21_) rfl rfl (ltb rfl) <| L_skip rfl rfl (ltb rfl) (congrArg Value.bool b21_) rfl rfl (ltb rfl) <| L_skip rfl rfl (ltb rfl) (congrArg Value.bool b21_) rfl rfl (ltb rfl) <| L_skip rfl rfl (ltb rfl) (congrArg Value.bool b21_) rfl rfl (ltb rfl) <| L_op (.plain rfl) rfl (ltb rfl) (X_pick (b := true) (v := (.bool true)) (congrArg Value.bool b21_) rfl) ?_
            obtain rfl := Option.some.inj H
            exact L_nil <| thn_n ⟨(Kp.upd (Kp.upd (Kp.upd (Kp.upd (Kp.upd (Kp.refl _ _) rfl) rfl) rfl) rfl) rfl), ⟨_, rfl, rfl⟩, (Ext.refl w20)⟩
          · refine L_op (.guard 6 false 15 rfl rfl (ltb rfl) (congrArg Value.bool b21_)) rfl (ltb rfl) (X_move (v := (S a0)) (K12 0 rfl)) <| L_op (.guard 6 false 15 rfl rfl (ltb rfl) (congrArg Value.bool b21_)) rfl (ltb rfl) (X_move (v := (.int .i64 x6_1)) rfl) ?_
            obtain ⟨c23, H⟩ := bif_some H
            refine L_op (.guard 6 false 15 rfl rfl (ltb rfl) (congrArg Value.bool b21_)) rfl (ltb rfl) (X_indexS Tryd.underlying9 rfl rfl (inR_lo c23) (inR_hi c23)) <| L_op (.guard 6 false 15 rfl rfl (ltb rfl) (congrArg Value.bool b21_)) rfl (ltb rfl) (X_eql rfl rfl) <| L_op (.plain rfl) rfl (ltb rfl) (X_pick (b := false) (v := (.bool (decide ((byt a0 x6_1) = 47)))) (congrArg Value.bool b21_) rfl) ?_
            obtain rfl := Option.some.inj H
            exact L_nil <| thn_n ⟨(Kp.upd (Kp.upd (Kp.upd (Kp.upd (Kp.upd (Kp.refl _ _) rfl) rfl) rfl) rfl) rfl), ⟨_, rfl, rfl⟩, (Ext.refl w20)⟩
        intro s29 w25 z30 K26 hq h27 e28
        rw [hq] at h27; clear hq
        refine L_nil <| thn_n ?_
        rcases bif_two H with ⟨q31, H⟩ | ⟨q31, H⟩
        · refine W_true (h27.trans (congrArg Value.bool q31)) <| W_seq <| W_reg <| L_op (.plain rfl) rfl (ltb rfl) (X_assign (v := (.bool false)) rfl) <| L_nil <| thn_n <| W_ret <| blk_r <| thn_r <| thn_r <| blk_r <| thn_r <| thn_r <| fin_r ?_
          obtain rfl := Option.some.inj H
          obtain rfl := Option.some.inj S17
          have H := C4
          obtain rfl := Option.some.inj H
          exact fin1 rfl (Ext.trans (Ext.trans e13 e21) e28)
        · refine W_false (h27.trans (congrArg Value.bool q31)) <| W_skip <| blk_n <| thn_n <| W_reg <| L_op (.plain rfl) rfl (ltb rfl) (X_add ((K26 6 rfl).trans h15) rfl) <| L_op (.plain rfl) rfl (ltb rfl) (X_move (v := (.int .i64 (IntKind.wrap .i64 (x6_1 + 1)))) rfl) <| L_nil <| thn_n ?_
          obtain rfl := Option.some.inj H
          exact ⟨_, Nat.lt_succ_self _, IntKind.wrap .i64 (x6_1 + 1), (Kp.upd (Kp.upd (Kp.cut (Kp.upd (Kp.upd (Kp.upd (Kp.upd (Kp.upd (Kp.upd (Kp.upd (Kp.upd (Kp.upd (Kp.upd K12 rfl) rfl) rfl) rfl) rfl) rfl) rfl) rfl) rfl) rfl) K26 rfl) rfl) rfl), rfl, (Ext.trans (Ext.trans e13 e21) e28), S17⟩
      · refine W_false (congrArg Value.bool q18) <| W_exit <| thn_x <| thn_x <| blk_x <| thn_n ?_
        obtain rfl := Option.some.inj H
        obtain rfl := Option.some.inj S17
        exact ⟨(Kp.upd K12 rfl), e13, rfl⟩
  · rintro s6 w5 ⟨K7, e8, y32⟩
    rw [y32] at C4
    have H := C4
    replace H : _ = some _ := H
    refine thn_n <| W_seq <| W_reg <| L_op (.plain rfl) rfl (ltb rfl) (X_move (v := (S a0)) (K7 0 rfl)) <| L_op (.plain rfl) rfl (ltb rfl) (X_lenS Tryd.underlying9 rfl) <| L_callP (.plain rfl) rfl (ltb rfl) rfl Tryd.call42 (impl_within.calls (w := w5) (a0 := (a0.length : Int)) (a1 := 1) (a2 := 8)) rfl <| fun w33 e34 => L_op (.plain rfl) rfl (ltb rfl) (X_move (v := (.bool (within (a0.length : Int) 1 8))) rfl) <| L_grp 3 [(26, 29)] 28 (.bool ((within (a0.length : Int) 1 8) && (!decide (a0 = ([46] : List UInt8))))) ?_ ?_
    · rcases bool_two (within (a0.length : Int) 1 8) with b34_ | b34_
      · exact L_op (.guard 3 true 25 rfl rfl (ltb rfl) (congrArg Value.bool b34_)) rfl (ltb rfl) (X_move (v := (S a0)) (K7 0 rfl)) <| L_op (.guard 3 true 25 rfl rfl (ltb rfl) (congrArg Value.bool b34_)) rfl (ltb rfl) (X_sne rfl rfl) <| L_op (.plain rfl) rfl (ltb rfl) (X_pick (b := true) (v := (.bool (!decide (a0 = ([46] : List UInt8))))) (congrArg Value.bool b34_) rfl) <| L_nil <| thn_n ⟨(Kp.upd (Kp.upd (Kp.upd (Kp.refl _ _) rfl) rfl) rfl), (and_t b34_), (Ext.refl w33)⟩
      · exact L_skip rfl rfl (ltb rfl) (congrArg Value.bool b34_) rfl rfl (ltb rfl) <| L_skip rfl rfl (ltb rfl) (congrArg Value.bool b34_) rfl rfl (ltb rfl) <| L_op (.plain rfl) rfl (ltb rfl) (X_pick (b := false) (v := (.bool false)) (congrArg Value.bool b34_) rfl) <| L_nil <| thn_n ⟨(Kp.upd (Kp.upd (Kp.upd (Kp.refl _ _) rfl) rfl) rfl), (and_f b34_), (Ext.refl w33)⟩
    intro s40 w36 K37 h38 e39
    refine L_op (.plain rfl) rfl (ltb rfl) (X_move h38) <| L_grp 3 [(30, 33)] 32 (.bool (((within (a0.length : Int) 1 8) && (!decide (a0 = ([46] : List UInt8)))) && (!decide (a0 = ([46, 46] : List UInt8))))) ?_ ?_
    · rcases bool_two ((within (a0.length : Int) 1 8) && (!decide (a0 = ([46] : List UInt8)))) with b40_ | b40_
      · exact L_op (.guard 7 true 29 rfl rfl (ltb rfl) (congrArg Value.bool b40_)) rfl (ltb rfl) (X_move (v := (S a0)) ((K37 0 rfl).trans (K7 0 rfl))) <| L_op (.guard 7 true 29 rfl rfl (ltb rfl) (congrArg Value.bool b40_)) rfl (ltb rfl) (X_sne rfl rfl) <| L_op (.plain rfl) rfl (ltb rfl) (X_pick (b := true) (v := (.bool (!decide (a0 = ([46, 46] : List UInt8))))) (congrArg Value.bool b40_) rfl) <| L_nil <| thn_n ⟨(Kp.upd (Kp.upd (Kp.upd (Kp.refl _ _) rfl) rfl) rfl), (and_t b40_), (Ext.refl w36)⟩
      · exact L_skip rfl rfl (ltb rfl) (congrArg Value.bool b40_) rfl rfl (ltb rfl) <| L_skip rfl rfl (ltb rfl) (congrArg Value.bool b40_) rfl rfl (ltb rfl) <| L_op (.plain rfl) rfl (ltb rfl) (X_pick (b := false) (v := (.bool false)) (congrArg Value.bool b40_) rfl) <| L_nil <| thn_n ⟨(Kp.upd (Kp.upd (Kp.upd (Kp.refl _ _) rfl) rfl) rfl), (and_f b40_), (Ext.refl w36)⟩
    intro s46 w42 K43 h44 e45
    refine L_op (.plain rfl) rfl (ltb rfl) (X_assign h44) <| L_nil <| thn_n <| W_ret <| fin_r ?_
    obtain rfl := Option.some.inj H
    exact fin1 rfl (Ext.trans (Ext.trans (Ext.trans e8 e34) e39) e45)
theorem impl_PartOK.calls {w : World} {a0 : List UInt8} (h0 : a0.length ≤ 4611686018427387904) :
    Calls Tryd.prog 33 #[S a0] w (Rt (RP w (.bool (partOK a0)))) := by
  obtain ⟨k, h⟩ := impl_PartOK.eq a0 h0
  exact impl_PartOK.walk h
/-! spec.l00Cut -/
theorem spec_l00Cut.walk {k : Nat} {w : World} {a0 : List UInt8} {a1 : Int} {r : List (List UInt8)} (H : spec_l00Cut.sh k a0 a1 = some r) :
    Calls Tryd.prog 47 #[S a0, .int .u8 a1] w (Rt (RO 9 1 encS w r)) := by
  unfold spec_l00Cut.sh at H
  refine calls_of_W Tryd.func47 rfl (Nat.le_of_ble_eq_true rfl) Tryd.ntmps47 rfl ?_
  refine W_seq <| W_reg <| L_op (.plain rfl) rfl (ltb rfl) (X_assign (v := (.slice none 0 0)) rfl) <| L_nil <| thn_n <| W_seq <| W_reg <| L_lit (.plain rfl) rfl (ltb rfl) rfl Tryd.underlying27 Tryd.sizeOf9 Tryd.zeroValue9 rfl rfl rfl (vs := []) rfl (lit_all rfl) <| fun b1 w2 z3 z4 e5 k6 => L_op (.plain rfl) rfl (ltb rfl) (X_assign (v := (.slice (some ⟨b1, 0, none⟩) 0 0)) rfl) <| L_nil <| thn_n <| W_seq <| W_reg <| L_op (.plain rfl) rfl (ltb rfl) (X_assign (v := (.int .i64 0)) rfl) <| L_nil <| thn_n <| W_seq <| W_seq <| W_reg <| L_op (.plain rfl) rfl (ltb rfl) (X_assign (v := (.int .i64 0)) rfl) <| L_nil <| thn_n ?_
  obtain ⟨z11, L12, C13⟩ := bind_some H
  clear H
  refine  W_cutQ (fun s0 sQ wQ => ∃ (x5_14 : List (List UInt8)) (v15 : Value) (x6_16 : Int), Kp [(5, 8), (9, 29)] s0 sQ ∧ sQ 5 = v15 ∧ Ow 9 1 encS w2.heap.size wQ v15 x5_14 ∧ sQ 6 = .int .i64 x6_16 ∧ Ext w2 wQ ∧ z11 = .inr (x5_14, x6_16)) ?_ ?_
  · refine W_block <| W_loopI (fun s0 kk sQ wQ => ∃ (x5_7 : List (List UInt8)) (v8 : Value) (x6_9 : Int) (x7_10 : Int), Kp [(5, 8), (9, 29)] s0 sQ ∧ sQ 5 = v8 ∧ Ow 9 1 encS w2.heap.size wQ v8 x5_7 ∧ sQ 6 = .int .i64 x6_9 ∧ sQ 7 = .int .i64 x7_10 ∧ Ext w2 wQ ∧ loopF (spec_l00Cut.b1 a0 a1) kk (x5_7, x6_9, x7_10) = some z11) k ⟨([] : List (List UInt8)), (.slice (some ⟨b1, 0, none⟩) 0 0), 0, 0, (Kp.refl _ _), rfl, (Ow.zero), rfl, rfl, (Ext.refl w2), L12⟩ ?_
    rintro k21 s22 w23 ⟨x5_7, v8, x6_9, x7_10, K24, h27, h28, h29, h30, e25, L26⟩
    cases k21 with
    | zero => exact absurd L26 (by simp [loopF])
    | succ k21 =>
      obtain ⟨t31, H, S32⟩ := loopF_succ L26
      clear L26
      unfold spec_l00Cut.b1 at H
      refine W_seq <| W_seq <| W_reg <| L_op (.plain rfl) rfl (ltb rfl) (X_move (v := (.int .i64 x7_10)) h30) <| L_op (.plain rfl) rfl (ltb rfl) (X_move (v := (S a0)) (K24 0 rfl)) <| L_op (.plain rfl) rfl (ltb rfl) (X_lenS Tryd.underlying9 rfl) <| L_op (.plain rfl) rfl (ltb rfl) (X_lss rfl rfl) <| L_nil <| thn_n ?_
      rcases bif_two H with ⟨q33, H⟩ | ⟨q33, H⟩
      · refine W_true (congrArg Value.bool q33) <| W_skip <| thn_n <| W_seq <| W_block <| W_seq <| W_reg <| L_op (.plain rfl) rfl (ltb rfl) (X_move (v := (S a0)) (K24 0 rfl)) <| L_op (.plain rfl) rfl (ltb rfl) (X_move (v := (.int .i64 x7_10)) h30) ?_
        obtain ⟨c34, H⟩ := bif_some H
        refine L_op (.plain rfl) rfl (ltb rfl) (X_indexS Tryd.underlying9 rfl rfl (inR_lo c34) (inR_hi c34)) <| L_op (.plain rfl) rfl (ltb rfl) (X_move (v := (.int .u8 a1)) (K24 1 rfl)) <| L_op (.plain rfl) rfl (ltb rfl) (X_eql rfl rfl) <| L_nil <| thn_n ?_
        rcases bif_two H with ⟨q35, H⟩ | ⟨q35, H⟩
        · refine W_true (congrArg Value.bool q35) <| W_seq <| W_reg <| L_op (.plain rfl) rfl (ltb rfl) (X_move (v := v8) h27) <| L_op (.plain rfl) rfl (ltb rfl) (X_move (v := (S a0)) (K24 0 rfl)) <| L_op (.plain rfl) rfl (ltb rfl) (X_move (v := (.int .i64 x6_9)) h29) <| L_op (.plain rfl) rfl (ltb rfl) (X_move (v := (.int .i64 x7_10)) h30) ?_
          obtain ⟨c36, H⟩ := bif_some H
          refine L_op (.plain rfl) rfl (ltb rfl) (X_sliceS Tryd.underlying9 rfl (l := x6_9) (h := x7_10) ⟨_, rfl⟩ ⟨_, rfl⟩ (inS_1 c36) (inS_2 c36) (inS_3 c36)) <| L_lit (.plain rfl) rfl (ltb rfl) rfl Tryd.underlying27 Tryd.sizeOf9 Tryd.zeroValue9 rfl rfl rfl (vs := [(S (sub a0 x6_9 x7_10))]) rfl (lit_all rfl) <| fun b37 w38 z39 z40 e41 k42 => ?_
          obtain ⟨c43, H⟩ := bif_some H
          refine L_append (enc := encS) (.plain rfl) rfl (ltb rfl) rfl El.t27 rfl rfl (Ow.ext h28 e41) (Ow.rd (Ow.new (xs := [sub a0 x6_9 x7_10]) (sz := 1) (enc := encS) (base := w23.heap.size) k42 (Nat.le_of_eq z39) rfl (fun _ _ => by rfl) (Nat.le_of_ble_eq_true rfl))) (ones_S _) (of_decide_eq_true c43) ((Ext.trans e25 e41)).size <| fun v44 w45 o46 z47 g48 => L_op (.plain rfl) rfl (ltb rfl) (X_assign (v := v44) rfl) <| L_nil <| thn_n <| W_reg <| L_op (.plain rfl) rfl (ltb rfl) (X_move (v := (.int .i64 x7_10)) h30) <| L_op (.plain rfl) rfl (ltb rfl) (X_add rfl rfl) <| L_op (.plain rfl) rfl (ltb rfl) (X_assign (v := (.int .i64 (IntKind.wrap .i64 (x7_10 + 1)))) rfl) <| L_nil <| blk_n <| thn_n <| W_reg <| L_op (.plain rfl) rfl (ltb rfl) (X_move (v := (.int .i64 x7_10)) h30) <| L_op (.plain rfl) rfl (ltb rfl) (X_add rfl rfl) <| L_op (.plain rfl) rfl (ltb rfl) (X_assign (v := (.int .i64 (IntKind.wrap .i64 (x7_10 + 1)))) rfl) <| L_nil <| thn_n ?_
          obtain rfl := Option.some.inj H
          exact ⟨_, Nat.lt_succ_self _, x5_7 ++ ([sub a0 x6_9 x7_10] : List (List UInt8)), v44, IntKind.wrap .i64 (x7_10 + 1), IntKind.wrap .i64 (x7_10 + 1), (Kp.upd (Kp.upd (Kp.upd (Kp.upd (Kp.upd (Kp.upd (Kp.upd (Kp.upd (Kp.upd (Kp.upd (Kp.upd (Kp.upd (Kp.upd (Kp.upd (Kp.upd (Kp.upd (Kp.upd (Kp.upd (Kp.upd (Kp.upd (Kp.upd (Kp.upd (Kp.upd K24 rfl) rfl) rfl) rfl) rfl) rfl) rfl) rfl) rfl) rfl) rfl) rfl) rfl) rfl) rfl) rfl) rfl) rfl) rfl) rfl) rfl) rfl) rfl), rfl, o46, rfl, rfl, (g48 _ (Ext.trans e25 e41)), S32⟩
        · refine W_false (congrArg Value.bool q35) <| W_skip <| blk_n <| thn_n <| W_reg <| L_op (.plain rfl) rfl (ltb rfl) (X_move (v := (.int .i64 x7_10)) h30) <| L_op (.plain rfl) rfl (ltb rfl) (X_add rfl rfl) <| L_op (.plain rfl) rfl (ltb rfl) (X_assign (v := (.int .i64 (IntKind.wrap .i64 (x7_10 + 1)))) rfl) <| L_nil <| thn_n ?_
          obtain rfl := Option.some.inj H
          exact ⟨_, Nat.lt_succ_self _, x5_7, v8, x6_9, IntKind.wrap .i64 (x7_10 + 1), (Kp.upd (Kp.upd (Kp.upd (Kp.upd (Kp.upd (Kp.upd (Kp.upd (Kp.upd (Kp.upd (Kp.upd (Kp.upd (Kp.upd K24 rfl) rfl) rfl) rfl) rfl) rfl) rfl) rfl) rfl) rfl) rfl) rfl), h27, h28, h29, rfl, e25, S32⟩
      · refine W_false (congrArg Value.bool q33) <| W_exit <| thn_x <| thn_x <| blk_x <| thn_n ?_
        obtain rfl := Option.some.inj H
        obtain rfl := Option.some.inj S32
        exact ⟨x5_7, v8, x6_9, (Kp.upd (Kp.upd (Kp.upd (Kp.upd K24 rfl) rfl) rfl) rfl), h27, h28, h29, e25, rfl⟩
  · rintro s18 w17 ⟨x5_14, v15, x6_16, K19, h49, h50, h51, e20, y52⟩
    rw [y52] at C13
    have H := C13
    replace H : _ = some _ := H
    refine thn_n <| W_seq <| W_reg <| L_op (.plain rfl) rfl (ltb rfl) (X_move (v := v15) h49) <| L_op (.plain rfl) rfl (ltb rfl) (X_move (v := (S a0)) (K19 0 rfl)) <| L_op (.plain rfl) rfl (ltb rfl) (X_move (v := (.int .i64 x6_16)) h51) ?_
    obtain ⟨c53, H⟩ := bif_some H
    refine L_op (.plain rfl) rfl (ltb rfl) (X_sliceS Tryd.underlying9 rfl (l := x6_16) (h := (a0.length : Int)) ⟨_, rfl⟩ rfl (inS_1 c53) (inS_2 c53) (inS_3 c53)) <| L_lit (.plain rfl) rfl (ltb rfl) rfl Tryd.underlying27 Tryd.sizeOf9 Tryd.zeroValue9 rfl rfl rfl (vs := [(S (sub a0 x6_16 (a0.length : Int)))]) rfl (lit_all rfl) <| fun b54 w55 z56 z57 e58 k59 => ?_
    obtain ⟨c60, H⟩ := bif_some H
    refine L_append (enc := encS) (.plain rfl) rfl (ltb rfl) rfl El.t27 rfl rfl (Ow.ext h50 e58) (Ow.rd (Ow.new (xs := [sub a0 x6_16 (a0.length : Int)]) (sz := 1) (enc := encS) (base := w17.heap.size) k59 (Nat.le_of_eq z56) rfl (fun _ _ => by rfl) (Nat.le_of_ble_eq_true rfl))) (ones_S _) (of_decide_eq_true c60) ((Ext.trans e20 e58)).size <| fun v61 w62 o63 z64 g65 => L_op (.plain rfl) rfl (ltb rfl) (X_assign (v := v61) rfl) <| L_nil <| thn_n <| W_ret <| fin_r ?_
    obtain rfl := Option.some.inj H
    exact fin1o rfl (Ext.trans e5 (g65 _ (Ext.trans e20 e58))) o63 (e5).size
theorem spec_l00Cut.calls {w : World} {a0 : List UInt8} {a1 : Int} (h0 : a0.length ≤ 1048576) :
    Calls Tryd.prog 47 #[S a0, .int .u8 a1] w (Rt (RO 9 1 encS w (cut a1 a0))) := by
  obtain ⟨k, h⟩ := spec_l00Cut.eq a0 a1 h0
  exact spec_l00Cut.walk h
/-! impl.parts -/
theorem impl_parts.walk {w : World} {a0 : List UInt8} (gv : GV 0 w) {r : List (List UInt8)} (H : impl_parts.sh a0 = some r) :
    Calls Tryd.prog 45 #[S a0] w (Rt (RO 9 1 encS w r)) := by
  unfold impl_parts.sh at H
  refine calls_of_W Tryd.func45 rfl (Nat.le_of_ble_eq_true rfl) Tryd.ntmps45 rfl ?_
  refine W_seq <| W_reg <| L_op (.plain rfl) rfl (ltb rfl) (X_assign (v := (.slice none 0 0)) rfl) <| L_nil <| thn_n <| W_seq <| W_reg <| L_op (.plain rfl) rfl (ltb rfl) (X_move (v := (S a0)) rfl) ?_
  obtain ⟨c1, H⟩ := bif_some H
  obtain ⟨c2, H⟩ := bif_some H
  refine L_callO (.plain rfl) rfl (ltb rfl) rfl Tryd.call66 (strings_Split.calls (w := w) (a0 := a0) (a1 := ([47] : List UInt8)) gv (of_decide_eq_true c1) (of_decide_eq_true c2)) rfl <| fun v5 w3 e4 o6 => L_op (.plain rfl) rfl (ltb rfl) (X_assign (v := v5) rfl) <| L_nil <| thn_n <| W_ret <| fin_r ?_
  obtain rfl := Option.some.inj H
  exact fin1o rfl e4 o6 ((Ext.refl w)).size
theorem impl_parts.calls {w : World} {a0 : List UInt8} (gv : GV 0 w) (h0 : a0.length ≤ 1048576) :
    Calls Tryd.prog 45 #[S a0] w (Rt (RO 9 1 encS w (cut 47 a0))) := impl_parts.walk gv (impl_parts.eq a0 h0)
/-! impl.all(string)$1 -/
theorem impl_allS_1.walk {w : World} {a0 : List UInt8} {a1 : List UInt8 → Option Bool} {v_a1 : Value} (f_a1 : ∀ (x0 : List UInt8) (r : Bool), a1 x0 = some r → FnAt Tryd.prog w v_a1 [(S x0)] (.bool r)) (g_a1 : v_a1.cells = #[v_a1]) {b_a1 : Nat} (k_a1 : Blk w b_a1 #[v_a1] 42) {r : Bool} (H : impl_allS_1.sh a0 a1 = some r) :
    Calls Tryd.prog 69 #[S a0, .pointer (some ⟨b_a1, 0, none⟩)] w (Rt (RP w (.bool r))) := by
  unfold impl_allS_1.sh at H
  refine calls_of_W Tryd.func69 rfl (Nat.le_of_ble_eq_true rfl) Tryd.ntmps69 rfl ?_
  refine W_seq <| W_reg <| L_op (.plain rfl) rfl (ltb rfl) (X_assign (v := (.bool false)) rfl) <| L_nil <| thn_n <| W_seq <| W_reg <| L_op (.plain rfl) rfl (ltb rfl) (X_loadB Tryd.isAgg42 k_a1 rfl rfl) <| L_op (.plain rfl) rfl (ltb rfl) (X_move (v := (S a0)) rfl) ?_
  obtain ⟨z1, x2, H⟩ := bind_some H
  refine L_callF (.plain rfl) rfl (ltb rfl) rfl rfl (FnAt.ext (f_a1 _ _ x2) (Ext.refl w)) rfl <| fun w3 e4 => L_op (.plain rfl) rfl (ltb rfl) (X_not rfl) <| L_op (.plain rfl) rfl (ltb rfl) (X_assign (v := (.bool (!z1))) rfl) <| L_nil <| thn_n <| W_ret <| fin_r ?_
  obtain rfl := Option.some.inj H
  exact fin1 rfl e4
theorem impl_allS_1.calls {w : World} {a0 : List UInt8} {a1 : List UInt8 → Option Bool} {r : Bool} {v_a1 : Value} (f_a1 : ∀ (x0 : List UInt8) (r : Bool), a1 x0 = some r → FnAt Tryd.prog w v_a1 [(S x0)] (.bool r)) (g_a1 : v_a1.cells = #[v_a1]) {b_a1 : Nat} (k_a1 : Blk w b_a1 #[v_a1] 42) (H : ((a1 a0).map (!·)) = some r) :
    Calls Tryd.prog 69 #[S a0, .pointer (some ⟨b_a1, 0, none⟩)] w (Rt (RP w (.bool r))) := impl_allS_1.walk f_a1 g_a1 k_a1 (impl_allS_1.eq a0 a1 H)
/-! slices.IndexFunc(()string,string) -/
theorem slices_IndexFuncS.walk {k : Nat} {w : World} {a0 : List (List UInt8)} {a1 : List UInt8 → Option Bool} {v_a0 : Value} (f_a0 : Rd 1 encS w v_a0 a0) {v_a1 : Value} (f_a1 : ∀ (x0 : List UInt8) (r : Bool), a1 x0 = some r → FnAt Tryd.prog w v_a1 [(S x0)] (.bool r)) (g_a1 : v_a1.cells = #[v_a1]) {r : Int} (H : slices_IndexFuncS.sh k a0 a1 = some r) :
    Calls Tryd.prog 76 #[v_a0, v_a1] w (Rt (RP w (.int .i64 r))) := by
  unfold slices_IndexFuncS.sh at H
  refine calls_of_W Tryd.func76 rfl (Nat.le_of_ble_eq_true rfl) Tryd.ntmps76 rfl ?_
  refine W_seq <| W_reg <| L_op (.plain rfl) rfl (ltb rfl) (X_assign (v := (.int .i64 0)) rfl) <| L_nil <| thn_n <| W_seq <| W_seq <| W_reg <| L_op (.plain rfl) rfl (ltb rfl) (X_move (v := v_a0) rfl) <| L_op (.plain rfl) rfl (ltb rfl) (X_lenR Tryd.underlying27 rfl f_a0) <| L_op (.plain rfl) rfl (ltb rfl) (X_move (v := (.int .i64 0)) rfl) <| L_nil <| thn_n ?_
  obtain ⟨z2, L3, C4⟩ := bind_some H
  clear H
  refine  W_cutQ (fun s0 sQ wQ => Kp [(4, 6), (8, 19)] s0 sQ ∧ Ext w wQ ∧ z2 = .inr ()) ?_ ?_
  · refine W_block <| W_loopI (fun s0 kk sQ wQ => ∃ (x8_1 : Int), Kp [(4, 6), (8, 19)] s0 sQ ∧ sQ 8 = .int .i64 x8_1 ∧ Ext w wQ ∧ loopF (slices_IndexFuncS.b1 a0 a1) kk x8_1 = some z2) k ⟨0, (Kp.refl _ _), rfl, (Ext.refl w), L3⟩ ?_
    rintro k9 s10 w11 ⟨x8_1, K12, h15, e13, L14⟩
    cases k9 with
    | zero => exact absurd L14 (by simp [loopF])
    | succ k9 =>
      obtain ⟨t16, H, S17⟩ := loopF_succ L14
      clear L14
      unfold slices_IndexFuncS.b1 at H
      refine W_seq <| W_reg <| L_op (.plain rfl) rfl (ltb rfl) (X_lss h15 (K12 7 rfl)) <| L_nil <| thn_n <| W_seq ?_
      rcases bif_two H with ⟨q18, H⟩ | ⟨q18, H⟩
      · refine W_true (congrArg Value.bool q18) <| W_skip <| thn_n <| W_seq <| W_block <| W_seq <| W_reg <| L_op (.plain rfl) rfl (ltb rfl) (X_move (v := (.int .i64 x8_1)) h15) <| L_op (.plain rfl) rfl (ltb rfl) (X_assign (v := (.int .i64 x8_1)) rfl) <| L_nil <| thn_n <| W_seq <| W_reg <| L_op (.plain rfl) rfl (ltb rfl) (X_move (v := v_a1) (K12 1 rfl)) <| L_op (.plain rfl) rfl (ltb rfl) (X_move (v := v_a0) (K12 0 rfl)) <| L_op (.plain rfl) rfl (ltb rfl) (X_move (v := (.int .i64 x8_1)) rfl) ?_
        obtain ⟨c19, H⟩ := bif_some H
        refine L_idx (.plain rfl) rfl (ltb rfl) rfl Tryd.underlying27 Tryd.sizeOf9 rfl (Rd.ext f_a0 e13) rfl c19 <| fun p20 h21 => L_op (.plain rfl) rfl (ltb rfl) (X_loadAt Tryd.isAgg9 rfl h21 rfl) ?_
        obtain ⟨z22, x23, H⟩ := bind_some H
        refine L_callF (.plain rfl) rfl (ltb rfl) rfl rfl (FnAt.ext (f_a1 _ _ x23) e13) rfl <| fun w24 e25 => L_nil <| thn_n ?_
        rcases bif_two H with ⟨q26, H⟩ | ⟨q26, H⟩
        · refine W_true (congrArg Value.bool q26) <| W_seq <| W_reg <| L_op (.plain rfl) rfl (ltb rfl) (X_move (v := (.int .i64 x8_1)) rfl) <| L_op (.plain rfl) rfl (ltb rfl) (X_assign (v := (.int .i64 x8_1)) rfl) <| L_nil <| thn_n <| W_ret <| blk_r <| thn_r <| thn_r <| blk_r <| thn_r <| thn_r <| fin_r ?_
          obtain rfl := Option.some.inj H
          obtain rfl := Option.some.inj S17
          have H := C4
          obtain rfl := Option.some.inj H
          exact fin1 rfl (Ext.trans e13 e25)
        · refine W_false (congrArg Value.bool q26) <| W_skip <| blk_n <| thn_n <| W_reg <| L_op (.plain rfl) rfl (ltb rfl) (X_add h15 rfl) <| L_op (.plain rfl) rfl (ltb rfl) (X_move (v := (.int .i64 (IntKind.wrap .i64 (x8_1 + 1)))) rfl) <| L_nil <| thn_n ?_
          obtain rfl := Option.some.inj H
          exact ⟨_, Nat.lt_succ_self _, IntKind.wrap .i64 (x8_1 + 1), (Kp.upd (Kp.upd (Kp.upd (Kp.upd (Kp.upd (Kp.upd (Kp.upd (Kp.upd (Kp.upd (Kp.upd (Kp.upd K12 rfl) rfl) rfl) rfl) rfl) rfl) rfl) rfl) rfl) rfl) rfl), rfl, (Ext.trans e13 e25), S17⟩
      · refine W_false (congrArg Value.bool q18) <| W_exit <| thn_x <| thn_x <| blk_x <| thn_n ?_
        obtain rfl := Option.some.inj H
        obtain rfl := Option.some.inj S17
        exact ⟨(Kp.upd K12 rfl), e13, rfl⟩
  · rintro s6 w5 ⟨K7, e8, y27⟩
    rw [y27] at C4
    have H := C4
    replace H : _ = some _ := H
    refine thn_n <| W_seq <| W_reg <| L_op (.plain rfl) rfl (ltb rfl) (X_assign (v := (.int .i64 (-1))) rfl) <| L_nil <| thn_n <| W_ret <| fin_r ?_
    obtain rfl := Option.some.inj H
    exact fin1 rfl e8
theorem slices_IndexFuncS.calls {w : World} {a0 : List (List UInt8)} {a1 : List UInt8 → Option Bool} {r : Int} {v_a0 : Value} (f_a0 : Rd 1 encS w v_a0 a0) {v_a1 : Value} (f_a1 : ∀ (x0 : List UInt8) (r : Bool), a1 x0 = some r → FnAt Tryd.prog w v_a1 [(S x0)] (.bool r)) (g_a1 : v_a1.cells = #[v_a1]) (h0 : a0.length ≤ 4611686018427387904) (H : (idxO a1 a0) = some r) :
    Calls Tryd.prog 76 #[v_a0, v_a1] w (Rt (RP w (.int .i64 r))) := by
  obtain ⟨k, h⟩ := slices_IndexFuncS.eq a0 a1 h0 H
  exact slices_IndexFuncS.walk f_a0 f_a1 g_a1 h
/-! slices.ContainsFunc(()string,string) -/
theorem slices_ContainsFuncS.walk {w : World} {a0 : List (List UInt8)} {a1 : List UInt8 → Option Bool} {v_a0 : Value} (f_a0 : Rd 1 encS w v_a0 a0) {v_a1 : Value} (f_a1 : ∀ (x0 : List UInt8) (r : Bool), a1 x0 = some r → FnAt Tryd.prog w v_a1 [(S x0)] (.bool r)) (g_a1 : v_a1.cells = #[v_a1]) {r : Bool} (H : slices_ContainsFuncS.sh a0 a1 = some r) :
    Calls Tryd.prog 68 #[v_a0, v_a1] w (Rt (RP w (.bool r))) := by
  unfold slices_ContainsFuncS.sh at H
  refine calls_of_W Tryd.func68 rfl (Nat.le_of_ble_eq_true rfl) Tryd.ntmps68 rfl ?_
  refine W_seq <| W_reg <| L_op (.plain rfl) rfl (ltb rfl) (X_assign (v := (.bool false)) rfl) <| L_nil <| thn_n <| W_seq <| W_reg <| L_op (.plain rfl) rfl (ltb rfl) (X_move (v := v_a0) rfl) <| L_op (.plain rfl) rfl (ltb rfl) (X_move (v := v_a1) rfl) ?_
  obtain ⟨c1, H⟩ := bif_some H
  obtain ⟨z2, x3, H⟩ := bind_some H
  refine L_callP (.plain rfl) rfl (ltb rfl) rfl Tryd.call76 (slices_IndexFuncS.calls (w := w) (a0 := a0) (a1 := a1) f_a0 (fun x0 r h => FnAt.ext (f_a1 x0 r h) (Ext.refl w)) g_a1 (of_decide_eq_true c1) x3) rfl <| fun w4 e5 => L_op (.plain rfl) rfl (ltb rfl) (X_geq rfl rfl) <| L_op (.plain rfl) rfl (ltb rfl) (X_assign (v := (.bool (decide (0 ≤ z2)))) rfl) <| L_nil <| thn_n <| W_ret <| fin_r ?_
  obtain rfl := Option.some.inj H
  exact fin1 rfl e5
theorem slices_ContainsFuncS.calls {w : World} {a0 : List (List UInt8)} {a1 : List UInt8 → Option Bool} {r : Bool} {v_a0 : Value} (f_a0 : Rd 1 encS w v_a0 a0) {v_a1 : Value} (f_a1 : ∀ (x0 : List UInt8) (r : Bool), a1 x0 = some r → FnAt Tryd.prog w v_a1 [(S x0)] (.bool r)) (g_a1 : v_a1.cells = #[v_a1]) (h0 : a0.length ≤ 4611686018427387904) (H : (anyO a1 a0) = some r) :
    Calls Tryd.prog 68 #[v_a0, v_a1] w (Rt (RP w (.bool r))) := slices_ContainsFuncS.walk f_a0 f_a1 g_a1 (slices_ContainsFuncS.eq a0 a1 h0 H)
/-! impl.all(string) -/
theorem impl_allS.walk {w : World} {a0 : List (List UInt8)} {a1 : List UInt8 → Option Bool} {v_a0 : Value} (f_a0 : Rd 1 encS w v_a0 a0) {v_a1 : Value} (f_a1 : ∀ (x0 : List UInt8) (r : Bool), a1 x0 = some r → FnAt Tryd.prog w v_a1 [(S x0)] (.bool r)) (g_a1 : v_a1.cells = #[v_a1]) {r : Bool} (H : impl_allS.sh a0 a1 = some r) :
    Calls Tryd.prog 50 #[v_a0, v_a1] w (Rt (RP w (.bool r))) := by
  unfold impl_allS.sh at H
  refine calls_of_W Tryd.func50 rfl (Nat.le_of_ble_eq_true rfl) Tryd.ntmps50 rfl ?_
  refine W_seq <| W_reg <| L_box (.plain rfl) rfl (ltb rfl) rfl rfl <| fun b1 w2 z3 z4 e5 k6 => L_op (.plain rfl) rfl (ltb rfl) (X_assign (v := (.bool false)) rfl) <| L_nil <| thn_n <| W_seq <| W_reg <| L_op (.plain rfl) rfl (ltb rfl) (X_move (v := v_a0) rfl) <| L_op (.plain rfl) rfl (ltb rfl) (X_makeFunc (vs := #[]) (us := #[.pointer (some ⟨b1, 0, none⟩)]) rfl rfl) ?_
  obtain ⟨c11, H⟩ := bif_some H
  obtain ⟨z12, x13, H⟩ := bind_some H
  refine L_callP (.plain rfl) rfl (ltb rfl) rfl Tryd.call68 (slices_ContainsFuncS.calls (w := w2) (a0 := a0) (a1 := (fun (x0_ : List UInt8) => ((a1 x0_).map (!·)))) (Rd.ext f_a0 e5) (fun x0_ r h => by exact FnAt.mk Tryd.call69 (by rfl) fun w9 k10 => impl_allS_1.calls (w := w9) (a0 := x0_) (a1 := a1) (fun x0 r h => FnAt.ext (f_a1 x0 r h) (Ext.trans e5 k10)) g_a1 (Blk.ext (Blk.cs k6 g_a1) k10) h) rfl (of_decide_eq_true c11) x13) rfl <| fun w14 e15 => L_op (.plain rfl) rfl (ltb rfl) (X_not rfl) <| L_op (.plain rfl) rfl (ltb rfl) (X_assign (v := (.bool (!z12))) rfl) <| L_nil <| thn_n <| W_ret <| fin_r ?_
  obtain rfl := Option.some.inj H
  exact fin1 rfl (Ext.trans e5 e15)
theorem impl_allS.calls {w : World} {a0 : List (List UInt8)} {a1 : List UInt8 → Option Bool} {r : Bool} {v_a0 : Value} (f_a0 : Rd 1 encS w v_a0 a0) {v_a1 : Value} (f_a1 : ∀ (x0 : List UInt8) (r : Bool), a1 x0 = some r → FnAt Tryd.prog w v_a1 [(S x0)] (.bool r)) (g_a1 : v_a1.cells = #[v_a1]) (h0 : a0.length ≤ 4611686018427387904) (H : (allO a1 a0) = some r) :
    Calls Tryd.prog 50 #[v_a0, v_a1] w (Rt (RP w (.bool r))) := impl_allS.walk f_a0 f_a1 g_a1 (impl_allS.eq a0 a1 h0 H)
/-! impl.PathOK -/
theorem impl_PathOK.walk {w : World} {a0 : List UInt8} (gv : GV 0 w) {r : Bool} (H : impl_PathOK.sh a0 = some r) :
    Calls Tryd.prog 25 #[S a0] w (Rt (RP w (.bool r))) := by
  unfold impl_PathOK.sh at H
  refine calls_of_W Tryd.func25 rfl (Nat.le_of_ble_eq_true rfl) Tryd.ntmps25 rfl ?_
  refine W_seq <| W_reg <| L_op (.plain rfl) rfl (ltb rfl) (X_assign (v := (.bool false)) rfl) <| L_nil <| thn_n <| W_seq <| W_reg <| L_op (.plain rfl) rfl (ltb rfl) (X_move (v := (S a0)) rfl) <| L_op (.plain rfl) rfl (ltb rfl) (X_lenS Tryd.underlying9 rfl) <| L_op (.plain rfl) rfl (ltb rfl) (X_lss rfl rfl) <| L_op (.plain rfl) rfl (ltb rfl) (X_move (v := (.bool (decide ((a0.length : Int) < 36)))) rfl) ?_
  obtain ⟨z2, x3, H⟩ := bind_some H
  refine L_grpE 5 [(7, 12)] 11 (fun q => q = z2) ?_ ?_
  · rcases bif_two x3 with ⟨b0_, H⟩ | ⟨b0_, H⟩
    · refine L_op (.guard 3 true 6 rfl rfl (ltb rfl) (congrArg Value.bool b0_)) rfl (ltb rfl) (X_move (v := (S a0)) rfl) ?_
      obtain ⟨c2, H⟩ := bif_some H
      refine L_callO (.guard 3 true 6 rfl rfl (ltb rfl) (congrArg Value.bool b0_)) rfl (ltb rfl) rfl Tryd.call45 (impl_parts.calls (w := w) (a0 := a0) gv (of_decide_eq_true c2)) rfl <| fun v5 w3 e4 o6 => L_op (.guard 3 true 6 rfl rfl (ltb rfl) (congrArg Value.bool b0_)) rfl (ltb rfl) (X_lenR Tryd.underlying27 rfl (Ow.rd o6)) <| L_op (.guard 3 true 6 rfl rfl (ltb rfl) (congrArg Value.bool b0_)) rfl (ltb rfl) (X_leq rfl rfl) <| L_op (.plain rfl) rfl (ltb rfl) (X_pick (b := true) (v := (.bool (decide (((cut 47 a0).length : Int) ≤ 4)))) (congrArg Value.bool b0_) rfl) ?_
      obtain rfl := Option.some.inj H
      exact L_nil <| thn_n ⟨(Kp.upd (Kp.upd (Kp.upd (Kp.upd (Kp.upd (Kp.refl _ _) rfl) rfl) rfl) rfl) rfl), ⟨_, rfl, rfl⟩, e4⟩
    · refine L_skip rfl rfl (ltb rfl) (congrArg Value.bool b0_) rfl rfl (ltb rfl) <| L_skip rfl rfl (ltb rfl) (congrArg Value.bool b0_) rfl rfl (ltb rfl) <| L_skip rfl rfl (ltb rfl) (congrArg Value.bool b0_) rfl rfl (ltb rfl) <| L_skip rfl rfl (ltb rfl) (congrArg Value.bool b0_) rfl rfl (ltb rfl) <| L_op (.plain rfl) rfl (ltb rfl) (X_pick (b := false) (v := (.bool false)) (congrArg Value.bool b0_) rfl) ?_
      obtain rfl := Option.some.inj H
      exact L_nil <| thn_n ⟨(Kp.upd (Kp.upd (Kp.upd (Kp.upd (Kp.upd (Kp.refl _ _) rfl) rfl) rfl) rfl) rfl), ⟨_, rfl, rfl⟩, (Ext.refl w)⟩
  intro s8 w4 z9 K5 hq h6 e7
  rw [hq] at h6; clear hq
  refine L_op (.plain rfl) rfl (ltb rfl) (X_move (v := (.bool z2)) h6) ?_
  obtain ⟨z11, x12, H⟩ := bind_some H
  refine L_grpE 4 [(13, 17)] 16 (fun q => q = z11) ?_ ?_
  · rcases bif_two x12 with ⟨b9_, H⟩ | ⟨b9_, H⟩
    · refine L_op (.guard 9 true 12 rfl rfl (ltb rfl) (congrArg Value.bool b9_)) rfl (ltb rfl) (X_move (v := (S a0)) (K5 0 rfl)) ?_
      obtain ⟨c11, H⟩ := bif_some H
      refine L_callO (.guard 9 true 12 rfl rfl (ltb rfl) (congrArg Value.bool b9_)) rfl (ltb rfl) rfl Tryd.call45 (impl_parts.calls (w := w4) (a0 := a0) (GV.ext gv e7) (of_decide_eq_true c11)) rfl <| fun v14 w12 e13 o15 => ?_
      obtain ⟨c20, H⟩ := bif_some H
      obtain ⟨z21, x22, H⟩ := bind_some H
      refine L_callP (.guard 9 true 12 rfl rfl (ltb rfl) (congrArg Value.bool b9_)) rfl (ltb rfl) rfl Tryd.call50 (impl_allS.calls (w := w12) (a0 := (cut 47 a0)) (a1 := (fun (x0_ : List UInt8) => bif decide (x0_.length ≤ 4611686018427387904) then (some (partOK x0_)) else none)) (Ow.rd o15) (fun x0_ r h => by obtain ⟨q0, h⟩ := bif_some h; have h := Option.some.inj h; subst h; exact FnAt.mk Tryd.call33 (by rfl) fun w18 k19 => impl_PartOK.calls (w := w18) (a0 := x0_) (of_decide_eq_true q0)) rfl (of_decide_eq_true c20) x22) rfl <| fun w23 e24 => L_op (.plain rfl) rfl (ltb rfl) (X_pick (b := true) (v := (.bool z21)) (congrArg Value.bool b9_) rfl) ?_
      obtain rfl := Option.some.inj H
      exact L_nil <| thn_n ⟨(Kp.upd (Kp.upd (Kp.upd (Kp.upd (Kp.refl _ _) rfl) rfl) rfl) rfl), ⟨_, rfl, rfl⟩, (Ext.trans e13 e24)⟩
    · refine L_skip rfl rfl (ltb rfl) (congrArg Value.bool b9_) rfl rfl (ltb rfl) <| L_skip rfl rfl (ltb rfl) (congrArg Value.bool b9_) rfl rfl (ltb rfl) <| L_skip rfl rfl (ltb rfl) (congrArg Value.bool b9_) rfl rfl (ltb rfl) <| L_op (.plain rfl) rfl (ltb rfl) (X_pick (b := false) (v := (.bool false)) (congrArg Value.bool b9_) rfl) ?_
      obtain rfl := Option.some.inj H
      exact L_nil <| thn_n ⟨(Kp.upd (Kp.upd (Kp.upd (Kp.upd (Kp.refl _ _) rfl) rfl) rfl) rfl), ⟨_, rfl, rfl⟩, (Ext.refl w4)⟩
  intro s25 w13 z26 K14 hq h15 e16
  rw [hq] at h15; clear hq
  refine L_op (.plain rfl) rfl (ltb rfl) (X_assign (v := (.bool z11)) h15) <| L_nil <| thn_n <| W_ret <| fin_r ?_
  obtain rfl := Option.some.inj H
  exact fin1 rfl (Ext.trans e7 e16)
theorem impl_PathOK.calls {w : World} {a0 : List UInt8} (gv : GV 0 w) :
    Calls Tryd.prog 25 #[S a0] w (Rt (RP w (.bool (pathOK a0)))) := impl_PathOK.walk gv (impl_PathOK.eq a0)
/-! impl.isLong$1 -/
theorem impl_isLong_1.walk {w : World} {a0 : List UInt8} {r : Bool} (H : impl_isLong_1.sh a0 = some r) :
    Calls Tryd.prog 65 #[S a0] w (Rt (RP w (.bool r))) := by
  unfold impl_isLong_1.sh at H
  refine calls_of_W Tryd.func65 rfl (Nat.le_of_ble_eq_true rfl) Tryd.ntmps65 rfl ?_
  refine W_seq <| W_reg <| L_op (.plain rfl) rfl (ltb rfl) (X_assign (v := (.bool false)) rfl) <| L_nil <| thn_n <| W_seq <| W_reg <| L_op (.plain rfl) rfl (ltb rfl) (X_move (v := (S a0)) rfl) <| L_op (.plain rfl) rfl (ltb rfl) (X_lenS Tryd.underlying9 rfl) <| L_op (.plain rfl) rfl (ltb rfl) (X_leq rfl rfl) <| L_op (.plain rfl) rfl (ltb rfl) (X_assign (v := (.bool (decide ((a0.length : Int) ≤ 65536)))) rfl) <| L_nil <| thn_n <| W_ret <| fin_r ?_
  obtain rfl := Option.some.inj H
  exact fin1 rfl (Ext.refl w)
theorem impl_isLong_1.calls {w : World} {a0 : List UInt8} :
    Calls Tryd.prog 65 #[S a0] w (Rt (RP w (.bool (decide (a0.length ≤ 65536))))) := impl_isLong_1.walk (impl_isLong_1.eq a0)
/-! impl.isLong -/
theorem impl_isLong.walk {w : World} {a0 : List (List UInt8)} {v_a0 : Value} (f_a0 : Rd 1 encS w v_a0 a0) {r : Bool} (H : impl_isLong.sh a0 = some r) :
    Calls Tryd.prog 44 #[v_a0] w (Rt (RP w (.bool r))) := by
  unfold impl_isLong.sh at H
  refine calls_of_W Tryd.func44 rfl (Nat.le_of_ble_eq_true rfl) Tryd.ntmps44 rfl ?_
  refine W_seq <| W_reg <| L_op (.plain rfl) rfl (ltb rfl) (X_assign (v := (.bool false)) rfl) <| L_nil <| thn_n <| W_seq <| W_reg <| L_op (.plain rfl) rfl (ltb rfl) (X_move (v := v_a0) rfl) ?_
  obtain ⟨c5, H⟩ := bif_some H
  obtain ⟨z6, x7, H⟩ := bind_some H
  refine L_callP (.plain rfl) rfl (ltb rfl) rfl Tryd.call50 (impl_allS.calls (w := w) (a0 := a0) (a1 := (fun (x0_ : List UInt8) => some (decide (x0_.length ≤ 65536)))) f_a0 (fun x0_ r h => by have h := Option.some.inj h; subst h; exact FnAt.mk Tryd.call65 (by rfl) fun w3 k4 => impl_isLong_1.calls (w := w3) (a0 := x0_)) rfl (of_decide_eq_true c5) x7) rfl <| fun w8 e9 => L_op (.plain rfl) rfl (ltb rfl) (X_not rfl) <| L_op (.plain rfl) rfl (ltb rfl) (X_assign (v := (.bool (!z6))) rfl) <| L_nil <| thn_n <| W_ret <| fin_r ?_
  obtain rfl := Option.some.inj H
  exact fin1 rfl e9
theorem impl_isLong.calls {w : World} {a0 : List (List UInt8)} {v_a0 : Value} (f_a0 : Rd 1 encS w v_a0 a0) (h0 : a0.length ≤ 4611686018427387904) :
    Calls Tryd.prog 44 #[v_a0] w (Rt (RP w (.bool (a0.any fun t => decide (65536 < t.length))))) := impl_isLong.walk f_a0 (impl_isLong.eq a0 h0)
/-! impl.first -/
theorem impl_first.walk {k : Nat} {w : World} {a0 : List (Bool ⊕ Int)} {v_a0 : Value} (f_a0 : Rd 1 (encAny 4 3) w v_a0 a0) {r : Int} (H : impl_first.sh k a0 = some r) :
    Calls Tryd.prog 41 #[v_a0] w (Rt (RP w (.int .i64 r))) := by
  unfold impl_first.sh at H
  refine calls_of_W Tryd.func41 rfl (Nat.le_of_ble_eq_true rfl) Tryd.ntmps41 rfl ?_
  refine W_seq <| W_reg <| L_op (.plain rfl) rfl (ltb rfl) (X_assign (v := (.int .i64 0)) rfl) <| L_nil <| thn_n <| W_seq <| W_seq <| W_reg <| L_op (.plain rfl) rfl (ltb rfl) (X_assign (v := (.int .i64 0)) rfl) <| L_nil <| thn_n ?_
  obtain ⟨z2, L3, C4⟩ := bind_some H
  clear H
  refine  W_cutQ (fun s0 sQ wQ => Kp [(2, 34)] s0 sQ ∧ Ext w wQ ∧ z2 = .inr ()) ?_ ?_
  · refine W_block <| W_loopI (fun s0 kk sQ wQ => ∃ (x3_1 : Int), Kp [(2, 34)] s0 sQ ∧ sQ 3 = .int .i64 x3_1 ∧ Ext w wQ ∧ loopF (impl_first.b1 a0) kk x3_1 = some z2) k ⟨0, (Kp.refl _ _), rfl, (Ext.refl w), L3⟩ ?_
    rintro k9 s10 w11 ⟨x3_1, K12, h15, e13, L14⟩
    cases k9 with
    | zero => exact absurd L14 (by simp [loopF])
    | succ k9 =>
      obtain ⟨t16, H, S17⟩ := loopF_succ L14
      clear L14
      unfold impl_first.b1 at H
      refine W_seq <| W_seq <| W_reg <| L_op (.plain rfl) rfl (ltb rfl) (X_move (v := (.int .i64 x3_1)) h15) <| L_op (.plain rfl) rfl (ltb rfl) (X_add rfl rfl) <| L_op (.plain rfl) rfl (ltb rfl) (X_move (v := v_a0) (K12 0 rfl)) <| L_op (.plain rfl) rfl (ltb rfl) (X_lenR Tryd.underlying67 rfl (Rd.ext f_a0 e13)) <| L_op (.plain rfl) rfl (ltb rfl) (X_lss rfl rfl) <| L_nil <| thn_n ?_
      rcases bif_two H with ⟨q18, H⟩ | ⟨q18, H⟩
      · refine W_true (congrArg Value.bool q18) <| W_skip <| thn_n <| W_seq <| W_block <| W_seq <| W_reg <| L_op (.plain rfl) rfl (ltb rfl) (X_move (v := v_a0) (K12 0 rfl)) <| L_op (.plain rfl) rfl (ltb rfl) (X_move (v := (.int .i64 x3_1)) h15) ?_
        obtain ⟨c19, H⟩ := bif_some H
        refine L_idx (.plain rfl) rfl (ltb rfl) rfl Tryd.underlying67 Tryd.sizeOf20 rfl (Rd.ext f_a0 e13) rfl c19 <| fun p20 h21 => L_op (.plain rfl) rfl (ltb rfl) (X_loadAt Tryd.isAgg20 rfl h21 rfl) <| L_op (.plain rfl) rfl (ltb rfl) (X_taB Tryd.underlying4 Tryd.zeroValue4 (by decide) rfl) <| L_op (.plain rfl) rfl (ltb rfl) (X_move (v := (.tuple #[(.bool (anyB (gt a0 x3_1))), (.bool (isB (gt a0 x3_1)))])) rfl) <| L_op (.plain rfl) rfl (ltb rfl) (X_extract (v := (.bool (anyB (gt a0 x3_1)))) rfl rfl) <| L_op (.plain rfl) rfl (ltb rfl) (X_extract (v := (.bool (isB (gt a0 x3_1)))) rfl rfl) <| L_op (.plain rfl) rfl (ltb rfl) (X_assign (v := (.bool (anyB (gt a0 x3_1)))) rfl) <| L_op (.plain rfl) rfl (ltb rfl) (X_assign (v := (.bool (isB (gt a0 x3_1)))) rfl) <| L_nil <| thn_n <| W_seq <| W_reg <| L_op (.plain rfl) rfl (ltb rfl) (X_move (v := (.bool (anyB (gt a0 x3_1)))) rfl) <| L_nil <| thn_n ?_
        rcases bif_two H with ⟨q22, H⟩ | ⟨q22, H⟩
        · refine W_true (congrArg Value.bool q22) <| W_seq <| W_reg <| L_op (.plain rfl) rfl (ltb rfl) (X_move (v := v_a0) (K12 0 rfl)) <| L_op (.plain rfl) rfl (ltb rfl) (X_move (v := (.int .i64 x3_1)) h15) <| L_op (.plain rfl) rfl (ltb rfl) (X_add rfl rfl) ?_
          obtain ⟨c23, H⟩ := bif_some H
          refine L_idx (.plain rfl) rfl (ltb rfl) rfl Tryd.underlying67 Tryd.sizeOf20 rfl (Rd.ext f_a0 e13) rfl c23 <| fun p24 h25 => L_op (.plain rfl) rfl (ltb rfl) (X_loadAt Tryd.isAgg20 rfl h25 rfl) <| L_op (.plain rfl) rfl (ltb rfl) (X_taI Tryd.underlying3 Tryd.zeroValue3 (by decide) rfl) <| L_op (.plain rfl) rfl (ltb rfl) (X_move rfl) <| L_op (.plain rfl) rfl (ltb rfl) (X_extract (v := (.int .i64 (anyI (gt a0 (IntKind.wrap .i64 (x3_1 + 1)))))) rfl rfl) <| L_op (.plain rfl) rfl (ltb rfl) (X_extract (v := (.bool (!isB (gt a0 (IntKind.wrap .i64 (x3_1 + 1)))))) rfl rfl) <| L_op (.plain rfl) rfl (ltb rfl) (X_assign (v := (.int .i64 (anyI (gt a0 (IntKind.wrap .i64 (x3_1 + 1)))))) rfl) <| L_op (.plain rfl) rfl (ltb rfl) (X_assign (v := (.bool (!isB (gt a0 (IntKind.wrap .i64 (x3_1 + 1)))))) rfl) <| L_nil <| thn_n <| W_seq <| W_reg <| L_op (.plain rfl) rfl (ltb rfl) (X_move (v := (.int .i64 (anyI (gt a0 (IntKind.wrap .i64 (x3_1 + 1)))))) rfl) <| L_op (.plain rfl) rfl (ltb rfl) (X_assign (v := (.int .i64 (anyI (gt a0 (IntKind.wrap .i64 (x3_1 + 1)))))) rfl) <| L_nil <| thn_n <| W_ret <| blk_r <| thn_r <| thn_r <| blk_r <| thn_r <| thn_r <| fin_r ?_
          obtain rfl := Option.some.inj H
          obtain rfl := Option.some.inj S17
          have H := C4
          obtain rfl := Option.some.inj H
          exact fin1 rfl e13
        · refine W_false (congrArg Value.bool q22) <| W_skip <| blk_n <| thn_n <| W_reg <| L_op (.plain rfl) rfl (ltb rfl) (X_move (v := (.int .i64 x3_1)) h15) <| L_op (.plain rfl) rfl (ltb rfl) (X_add rfl rfl) <| L_op (.plain rfl) rfl (ltb rfl) (X_assign (v := (.int .i64 (IntKind.wrap .i64 (x3_1 + 2)))) rfl) <| L_nil <| thn_n ?_
          obtain rfl := Option.some.inj H
          exact ⟨_, Nat.lt_succ_self _, IntKind.wrap .i64 (x3_1 + 2), (Kp.upd (Kp.upd (Kp.upd (Kp.upd (Kp.upd (Kp.upd (Kp.upd (Kp.upd (Kp.upd (Kp.upd (Kp.upd (Kp.upd (Kp.upd (Kp.upd (Kp.upd (Kp.upd (Kp.upd (Kp.upd (Kp.upd K12 rfl) rfl) rfl) rfl) rfl) rfl) rfl) rfl) rfl) rfl) rfl) rfl) rfl) rfl) rfl) rfl) rfl) rfl) rfl), rfl, e13, S17⟩
      · refine W_false (congrArg Value.bool q18) <| W_exit <| thn_x <| thn_x <| blk_x <| thn_n ?_
        obtain rfl := Option.some.inj H
        obtain rfl := Option.some.inj S17
        exact ⟨(Kp.upd (Kp.upd (Kp.upd (Kp.upd (Kp.upd K12 rfl) rfl) rfl) rfl) rfl), e13, rfl⟩
  · rintro s6 w5 ⟨K7, e8, y26⟩
    rw [y26] at C4
    have H := C4
    replace H : _ = some _ := H
    refine thn_n <| W_seq <| W_reg <| L_op (.plain rfl) rfl (ltb rfl) (X_assign (v := (.int .i64 0)) rfl) <| L_nil <| thn_n <| W_ret <| fin_r ?_
    obtain rfl := Option.some.inj H
    exact fin1 rfl e8
theorem impl_first.calls {w : World} {a0 : List (Bool ⊕ Int)} {v_a0 : Value} (f_a0 : Rd 1 (encAny 4 3) w v_a0 a0) (h0 : a0.length ≤ 4611686018427387904) :
    Calls Tryd.prog 41 #[v_a0] w (Rt (RP w (.int .i64 (firstOf a0)))) := by
  obtain ⟨k, h⟩ := impl_first.eq a0 h0
  exact impl_first.walk f_a0 h
/-! spec.l01OK -/
theorem spec_l01OK.walk {k : Nat} {w : World} {a0 : List UInt8} {r : Bool} (H : spec_l01OK.sh k a0 = some r) :
    Calls Tryd.prog 55 #[S a0] w (Rt (RP w (.bool r))) := by
  unfold spec_l01OK.sh at H
  refine calls_of_W Tryd.func55 rfl (Nat.le_of_ble_eq_true rfl) Tryd.ntmps55 rfl ?_
  refine W_seq <| W_reg <| L_op (.plain rfl) rfl (ltb rfl) (X_assign (v := (.bool false)) rfl) <| L_nil <| thn_n <| W_seq <| W_seq <| W_reg <| L_op (.plain rfl) rfl (ltb rfl) (X_move (v := (S a0)) rfl) <| L_op (.plain rfl) rfl (ltb rfl) (X_lenS Tryd.underlying9 rfl) <| L_op (.plain rfl) rfl (ltb rfl) (X_gtr rfl rfl) <| L_nil <| thn_n ?_
  rcases bif_two H with ⟨q1, H⟩ | ⟨q1, H⟩
  · refine W_true (congrArg Value.bool q1) <| W_seq <| W_reg <| L_op (.plain rfl) rfl (ltb rfl) (X_assign (v := (.bool false)) rfl) <| L_nil <| thn_n <| W_ret <| thn_r <| fin_r ?_
    obtain rfl := Option.some.inj H
    exact fin1 rfl (Ext.refl w)
  · refine W_false (congrArg Value.bool q1) <| W_skip <| thn_n <| W_seq <| W_reg <| L_op (.plain rfl) rfl (ltb rfl) (X_move (v := (S a0)) rfl) ?_
    obtain ⟨c2, H⟩ := bif_some H
    refine L_callO (.plain rfl) rfl (ltb rfl) rfl Tryd.call47 (spec_l00Cut.calls (w := w) (a0 := a0) (a1 := 47) (of_decide_eq_true c2)) rfl <| fun v5 w3 e4 o6 => L_op (.plain rfl) rfl (ltb rfl) (X_assign (v := v5) rfl) <| L_nil <| thn_n <| W_seq <| W_seq <| W_reg <| L_op (.plain rfl) rfl (ltb rfl) (X_move (v := v5) rfl) <| L_op (.plain rfl) rfl (ltb rfl) (X_lenR Tryd.underlying27 rfl (Ow.rd o6)) <| L_op (.plain rfl) rfl (ltb rfl) (X_gtr rfl rfl) <| L_nil <| thn_n ?_
    rcases bif_two H with ⟨q7, H⟩ | ⟨q7, H⟩
    · refine W_true (congrArg Value.bool q7) <| W_seq <| W_reg <| L_op (.plain rfl) rfl (ltb rfl) (X_assign (v := (.bool false)) rfl) <| L_nil <| thn_n <| W_ret <| thn_r <| fin_r ?_
      obtain rfl := Option.some.inj H
      exact fin1 rfl e4
    · refine W_false (congrArg Value.bool q7) <| W_skip <| thn_n <| W_seq <| W_seq <| W_reg <| L_op (.plain rfl) rfl (ltb rfl) (X_assign (v := (.int .i64 0)) rfl) <| L_nil <| thn_n ?_
      obtain ⟨z9, L10, C11⟩ := bind_some H
      clear H
      refine  W_cutQ (fun s0 sQ wQ => Kp [(2, 3), (4, 5), (13, 25)] s0 sQ ∧ Ext w3 wQ ∧ z9 = .inr ()) ?_ ?_
      · refine W_block <| W_loopI (fun s0 kk sQ wQ => ∃ (x4_8 : Int), Kp [(2, 3), (4, 5), (13, 25)] s0 sQ ∧ sQ 4 = .int .i64 x4_8 ∧ Ext w3 wQ ∧ loopF (spec_l01OK.b1 a0) kk x4_8 = some z9) k ⟨0, (Kp.refl _ _), rfl, (Ext.refl w3), L10⟩ ?_
        rintro k16 s17 w18 ⟨x4_8, K19, h22, e20, L21⟩
        cases k16 with
        | zero => exact absurd L21 (by simp [loopF])
        | succ k16 =>
          obtain ⟨t23, H, S24⟩ := loopF_succ L21
          clear L21
          unfold spec_l01OK.b1 at H
          refine W_seq <| W_seq <| W_reg <| L_op (.plain rfl) rfl (ltb rfl) (X_move (v := (.int .i64 x4_8)) h22) <| L_op (.plain rfl) rfl (ltb rfl) (X_move (v := v5) (K19 3 rfl)) <| L_op (.plain rfl) rfl (ltb rfl) (X_lenR Tryd.underlying27 rfl (Ow.rd (Ow.ext o6 e20))) <| L_op (.plain rfl) rfl (ltb rfl) (X_lss rfl rfl) <| L_nil <| thn_n ?_
          rcases bif_two H with ⟨q25, H⟩ | ⟨q25, H⟩
          · refine W_true (congrArg Value.bool q25) <| W_skip <| thn_n <| W_seq <| W_block <| W_seq <| W_reg <| L_op (.plain rfl) rfl (ltb rfl) (X_move (v := v5) (K19 3 rfl)) <| L_op (.plain rfl) rfl (ltb rfl) (X_move (v := (.int .i64 x4_8)) h22) ?_
            obtain ⟨c26, H⟩ := bif_some H
            refine L_idx (.plain rfl) rfl (ltb rfl) rfl Tryd.underlying27 Tryd.sizeOf9 rfl (Ow.rd (Ow.ext o6 e20)) rfl c26 <| fun p27 h28 => L_op (.plain rfl) rfl (ltb rfl) (X_loadAt Tryd.isAgg9 rfl h28 rfl) <| L_callP (.plain rfl) rfl (ltb rfl) rfl Tryd.call58 (spec_l01Part.calls (w := w18) (a0 := gt (cut 47 a0) x4_8)) rfl <| fun w29 e30 => L_op (.plain rfl) rfl (ltb rfl) (X_not rfl) <| L_nil <| thn_n ?_
            rcases bif_two H with ⟨q31, H⟩ | ⟨q31, H⟩
            · refine W_true (congrArg Value.bool q31) <| W_seq <| W_reg <| L_op (.plain rfl) rfl (ltb rfl) (X_assign (v := (.bool false)) rfl) <| L_nil <| thn_n <| W_ret <| blk_r <| thn_r <| thn_r <| blk_r <| thn_r <| thn_r <| fin_r ?_
              obtain rfl := Option.some.inj H
              obtain rfl := Option.some.inj S24
              have H := C11
              obtain rfl := Option.some.inj H
              exact fin1 rfl (Ext.trans (Ext.trans e4 e20) e30)
            · refine W_false (congrArg Value.bool q31) <| W_skip <| blk_n <| thn_n <| W_reg <| L_op (.plain rfl) rfl (ltb rfl) (X_move (v := (.int .i64 x4_8)) h22) <| L_op (.plain rfl) rfl (ltb rfl) (X_add rfl rfl) <| L_op (.plain rfl) rfl (ltb rfl) (X_assign (v := (.int .i64 (IntKind.wrap .i64 (x4_8 + 1)))) rfl) <| L_nil <| thn_n ?_
              obtain rfl := Option.some.inj H
              exact ⟨_, Nat.lt_succ_self _, IntKind.wrap .i64 (x4_8 + 1), (Kp.upd (Kp.upd (Kp.upd (Kp.upd (Kp.upd (Kp.upd (Kp.upd (Kp.upd (Kp.upd (Kp.upd (Kp.upd (Kp.upd (Kp.upd K19 rfl) rfl) rfl) rfl) rfl) rfl) rfl) rfl) rfl) rfl) rfl) rfl) rfl), rfl, (Ext.trans e20 e30), S24⟩
          · refine W_false (congrArg Value.bool q25) <| W_exit <| thn_x <| thn_x <| blk_x <| thn_n ?_
            obtain rfl := Option.some.inj H
            obtain rfl := Option.some.inj S24
            exact ⟨(Kp.upd (Kp.upd (Kp.upd (Kp.upd K19 rfl) rfl) rfl) rfl), e20, rfl⟩
      · rintro s13 w12 ⟨K14, e15, y32⟩
        rw [y32] at C11
        have H := C11
        replace H : _ = some _ := H
        refine thn_n <| W_seq <| W_reg <| L_op (.plain rfl) rfl (ltb rfl) (X_assign (v := (.bool true)) rfl) <| L_nil <| thn_n <| W_ret <| fin_r ?_
        obtain rfl := Option.some.inj H
        exact fin1 rfl (Ext.trans e4 e15)
theorem spec_l01OK.calls {w : World} {a0 : List UInt8} :
    Calls Tryd.prog 55 #[S a0] w (Rt (RP w (.bool (pathOK a0)))) := by
  obtain ⟨k, h⟩ := spec_l01OK.eq a0
  exact spec_l01OK.walk h
/-! spec.l02Fault -/
theorem spec_l02Fault.walk {w : World} {a0 : Rec} {r : Int} (H : spec_l02Fault.sh a0 = some r) :
    Calls Tryd.prog 43 #[.agg (encRec a0).toArray] w (Rt (RP w (.int .i64 r))) := by
  unfold spec_l02Fault.sh at H
  refine calls_of_W Tryd.func43 rfl (Nat.le_of_ble_eq_true rfl) Tryd.ntmps43 rfl ?_
  refine W_seq <| W_reg <| L_box (.plain rfl) rfl (ltb rfl) rfl rfl <| fun b1 w2 z3 z4 e5 k6 => L_op (.plain rfl) rfl (ltb rfl) (X_assign (v := (.int .i64 0)) rfl) <| L_nil <| thn_n <| W_seq <| W_reg <| L_op (.plain rfl) rfl (ltb rfl) (X_fieldAddr Tryd.underlying24 rfl Tryd.sizeOf3 rfl rfl) <| L_op (.plain rfl) rfl (ltb rfl) (X_loadB Tryd.isAgg3 k6 rfl rfl) <| L_op (.plain rfl) rfl (ltb rfl) (X_eql rfl rfl) <| L_op (.plain rfl) rfl (ltb rfl) (X_assign (v := (.bool (decide (a0.kind = 3)))) rfl) <| L_nil <| thn_n <| W_seq <| W_block <| W_seq <| W_reg <| L_op (.plain rfl) rfl (ltb rfl) (X_fieldAddr Tryd.underlying24 rfl Tryd.sizeOf3 rfl rfl) <| L_op (.plain rfl) rfl (ltb rfl) (X_loadB Tryd.isAgg3 k6 rfl rfl) <| L_callP (.plain rfl) rfl (ltb rfl) rfl Tryd.call64 (spec_l01In.calls (w := w2) (a0 := a0.kind) (a1 := 1) (a2 := 4)) rfl <| fun w7 e8 => L_op (.plain rfl) rfl (ltb rfl) (X_not rfl) <| L_op (.plain rfl) rfl (ltb rfl) (X_assign (v := (.bool (!(within a0.kind 1 4)))) rfl) <| L_nil <| thn_n ?_
  rcases bif_two H with ⟨q9, H⟩ | ⟨q9, H⟩
  · refine W_true (congrArg Value.bool q9) <| W_seq <| W_reg <| L_op (.plain rfl) rfl (ltb rfl) (X_assign (v := (.int .i64 9)) rfl) <| L_nil <| thn_n <| W_ret <| blk_r <| thn_r <| fin_r ?_
    obtain rfl := Option.some.inj H
    exact fin1 rfl (Ext.trans e5 e8)
  · refine W_false (congrArg Value.bool q9) <| W_seq <| W_reg <| L_op (.plain rfl) rfl (ltb rfl) (X_fieldAddr Tryd.underlying24 rfl Tryd.sizeOf9 rfl rfl) <| L_op (.plain rfl) rfl (ltb rfl) (X_loadB Tryd.isAgg9 (Blk.ext k6 e8) rfl rfl) <| L_callP (.plain rfl) rfl (ltb rfl) rfl Tryd.call55 (spec_l01OK.calls (w := w7) (a0 := a0.path)) rfl <| fun w10 e11 => L_op (.plain rfl) rfl (ltb rfl) (X_not rfl) <| L_op (.plain rfl) rfl (ltb rfl) (X_assign (v := (.bool (!(pathOK a0.path)))) rfl) <| L_nil <| thn_n ?_
    rcases bif_two H with ⟨q12, H⟩ | ⟨q12, H⟩
    · refine W_true (congrArg Value.bool q12) <| W_seq <| W_reg <| L_op (.plain rfl) rfl (ltb rfl) (X_assign (v := (.int .i64 10)) rfl) <| L_nil <| thn_n <| W_ret <| blk_r <| thn_r <| fin_r ?_
      obtain rfl := Option.some.inj H
      exact fin1 rfl (Ext.trans (Ext.trans e5 e8) e11)
    · refine W_false (congrArg Value.bool q12) <| W_seq <| W_reg <| L_op (.plain rfl) rfl (ltb rfl) (X_fieldAddr Tryd.underlying24 rfl Tryd.sizeOf9 rfl rfl) <| L_op (.plain rfl) rfl (ltb rfl) (X_loadB Tryd.isAgg9 (Blk.ext k6 (Ext.trans e8 e11)) rfl rfl) <| L_op (.plain rfl) rfl (ltb rfl) (X_lenS Tryd.underlying9 rfl) <| L_op (.plain rfl) rfl (ltb rfl) (X_gtr rfl rfl) <| L_op (.plain rfl) rfl (ltb rfl) (X_move (v := (.bool (decide (20 < (a0.body.length : Int))))) rfl) <| L_grp 9 [(23, 32)] 31 (.bool ((decide (20 < (a0.body.length : Int))) || ((decide (a0.kind = 2)) && (decide (a0.body = ([] : List UInt8)))))) ?_ ?_
      · rcases bool_two (decide (20 < (a0.body.length : Int))) with b12_ | b12_
        · exact L_skip rfl rfl (ltb rfl) (congrArg Value.bool b12_) rfl rfl (ltb rfl) <| L_skip rfl rfl (ltb rfl) (congrArg Value.bool b12_) rfl rfl (ltb rfl) <| L_skip rfl rfl (ltb rfl) (congrArg Value.bool b12_) rfl rfl (ltb rfl) <| L_skip rfl rfl (ltb rfl) (congrArg Value.bool b12_) rfl rfl (ltb rfl) <| L_skipU rfl rfl (ltb rfl) rfl rfl (ltb rfl) <| L_skipU rfl rfl (ltb rfl) rfl rfl (ltb rfl) <| L_skipU rfl rfl (ltb rfl) rfl rfl (ltb rfl) <| L_skip rfl rfl (ltb rfl) (congrArg Value.bool b12_) rfl rfl (ltb rfl) <| L_op (.plain rfl) rfl (ltb rfl) (X_pick (b := true) (v := (.bool true)) (congrArg Value.bool b12_) rfl) <| L_nil <| thn_n ⟨(Kp.upd (Kp.upd (Kp.upd (Kp.upd (Kp.upd (Kp.upd (Kp.upd (Kp.upd (Kp.upd (Kp.refl _ _) rfl) rfl) rfl) rfl) rfl) rfl) rfl) rfl) rfl), (or_t b12_), (Ext.refl w10)⟩
        · refine L_op (.guard 4 false 22 rfl rfl (ltb rfl) (congrArg Value.bool b12_)) rfl (ltb rfl) (X_fieldAddr Tryd.underlying24 rfl Tryd.sizeOf3 rfl rfl) <| L_op (.guard 4 false 22 rfl rfl (ltb rfl) (congrArg Value.bool b12_)) rfl (ltb rfl) (X_loadB Tryd.isAgg3 (Blk.ext k6 (Ext.trans e8 e11)) rfl rfl) <| L_op (.guard 4 false 22 rfl rfl (ltb rfl) (congrArg Value.bool b12_)) rfl (ltb rfl) (X_eql rfl rfl) <| L_op (.guard 4 false 22 rfl rfl (ltb rfl) (congrArg Value.bool b12_)) rfl (ltb rfl) (X_move (v := (.bool (decide (a0.kind = 2)))) rfl) <| L_grp 4 [(27, 31)] 30 (.bool ((decide (a0.kind = 2)) && (decide (a0.body = ([] : List UInt8))))) ?_ ?_
          · rcases bool_two (decide (a0.kind = 2)) with b13_ | b13_
            · exact L_op (.guard 8 true 26 rfl rfl (ltb rfl) (congrArg Value.bool b13_)) rfl (ltb rfl) (X_fieldAddr Tryd.underlying24 rfl Tryd.sizeOf9 rfl rfl) <| L_op (.guard 8 true 26 rfl rfl (ltb rfl) (congrArg Value.bool b13_)) rfl (ltb rfl) (X_loadB Tryd.isAgg9 (Blk.ext k6 (Ext.trans e8 e11)) rfl rfl) <| L_op (.guard 8 true 26 rfl rfl (ltb rfl) (congrArg Value.bool b13_)) rfl (ltb rfl) (X_seq rfl rfl) <| L_op (.guard 4 false 22 rfl rfl (ltb rfl) (congrArg Value.bool b12_)) rfl (ltb rfl) (X_pick (b := true) (v := (.bool (decide (a0.body = ([] : List UInt8))))) (congrArg Value.bool b13_) rfl) <| L_nil <| thn_n ⟨(Kp.upd (Kp.upd (Kp.upd (Kp.upd (Kp.refl _ _) rfl) rfl) rfl) rfl), (and_t b13_), (Ext.refl w10)⟩
            · exact L_skip rfl rfl (ltb rfl) (congrArg Value.bool b13_) rfl rfl (ltb rfl) <| L_skip rfl rfl (ltb rfl) (congrArg Value.bool b13_) rfl rfl (ltb rfl) <| L_skip rfl rfl (ltb rfl) (congrArg Value.bool b13_) rfl rfl (ltb rfl) <| L_op (.guard 4 false 22 rfl rfl (ltb rfl) (congrArg Value.bool b12_)) rfl (ltb rfl) (X_pick (b := false) (v := (.bool false)) (congrArg Value.bool b13_) rfl) <| L_nil <| thn_n ⟨(Kp.upd (Kp.upd (Kp.upd (Kp.upd (Kp.refl _ _) rfl) rfl) rfl) rfl), (and_f b13_), (Ext.refl w10)⟩
          intro s19 w15 K16 h17 e18
          exact L_op (.plain rfl) rfl (ltb rfl) (X_pick (b := false) (v := (.bool ((decide (a0.kind = 2)) && (decide (a0.body = ([] : List UInt8)))))) ((K16 22 rfl).trans (congrArg Value.bool b12_)) h17) <| L_nil <| thn_n ⟨(Kp.upd (Kp.cut (Kp.upd (Kp.upd (Kp.upd (Kp.upd (Kp.refl _ _) rfl) rfl) rfl) rfl) K16 rfl) rfl), (or_f b12_), e18⟩
      intro s20 w14 K15 h16 e17
      refine L_op (.plain rfl) rfl (ltb rfl) (X_assign h16) <| L_nil <| thn_n ?_
      rcases bif_two H with ⟨q21, H⟩ | ⟨q21, H⟩
      · refine W_true (congrArg Value.bool q21) <| W_seq <| W_reg <| L_op (.plain rfl) rfl (ltb rfl) (X_assign (v := (.int .i64 8)) rfl) <| L_nil <| thn_n <| W_ret <| blk_r <| thn_r <| fin_r ?_
        obtain rfl := Option.some.inj H
        exact fin1 rfl (Ext.trans (Ext.trans (Ext.trans e5 e8) e11) e17)
      · refine W_false (congrArg Value.bool q21) <| W_seq <| W_reg <| L_op (.plain rfl) rfl (ltb rfl) (X_fieldAddr Tryd.underlying24 rfl Tryd.sizeOf9 rfl (K15 1 rfl)) <| L_op (.plain rfl) rfl (ltb rfl) (X_loadB Tryd.isAgg9 (Blk.ext k6 (Ext.trans (Ext.trans e8 e11) e17)) rfl rfl) <| L_op (.plain rfl) rfl (ltb rfl) (X_sne rfl rfl) <| L_op (.plain rfl) rfl (ltb rfl) (X_move (v := (.bool (!decide (a0.body = ([] : List UInt8))))) rfl) <| L_grp 7 [(37, 44)] 43 (.bool ((!decide (a0.body = ([] : List UInt8))) && ((decide (a0.kind = 3)) || (decide (a0.kind = 4))))) ?_ ?_
        · rcases bool_two (!decide (a0.body = ([] : List UInt8))) with b21_ | b21_
          · refine L_op (.guard 3 true 36 rfl rfl (ltb rfl) (congrArg Value.bool b21_)) rfl (ltb rfl) (X_move (v := (.bool (decide (a0.kind = 3)))) (K15 3 rfl)) <| L_op (.guard 3 true 36 rfl rfl (ltb rfl) (congrArg Value.bool b21_)) rfl (ltb rfl) (X_move (v := (.bool (decide (a0.kind = 3)))) rfl) <| L_grp 4 [(39, 43)] 42 (.bool ((decide (a0.kind = 3)) || (decide (a0.kind = 4)))) ?_ ?_
            · rcases bool_two (decide (a0.kind = 3)) with b22_ | b22_
              · exact L_skip rfl rfl (ltb rfl) (congrArg Value.bool b22_) rfl rfl (ltb rfl) <| L_skip rfl rfl (ltb rfl) (congrArg Value.bool b22_) rfl rfl (ltb rfl) <| L_skip rfl rfl (ltb rfl) (congrArg Value.bool b22_) rfl rfl (ltb rfl) <| L_op (.guard 3 true 36 rfl rfl (ltb rfl) (congrArg Value.bool b21_)) rfl (ltb rfl) (X_pick (b := true) (v := (.bool true)) (congrArg Value.bool b22_) rfl) <| L_nil <| thn_n ⟨(Kp.upd (Kp.upd (Kp.upd (Kp.upd (Kp.refl _ _) rfl) rfl) rfl) rfl), (or_t b22_), (Ext.refl w14)⟩
              · exact L_op (.guard 5 false 38 rfl rfl (ltb rfl) (congrArg Value.bool b22_)) rfl (ltb rfl) (X_fieldAddr Tryd.underlying24 rfl Tryd.sizeOf3 rfl (K15 1 rfl)) <| L_op (.guard 5 false 38 rfl rfl (ltb rfl) (congrArg Value.bool b22_)) rfl (ltb rfl) (X_loadB Tryd.isAgg3 (Blk.ext k6 (Ext.trans (Ext.trans e8 e11) e17)) rfl rfl) <| L_op (.guard 5 false 38 rfl rfl (ltb rfl) (congrArg Value.bool b22_)) rfl (ltb rfl) (X_eql rfl rfl) <| L_op (.guard 3 true 36 rfl rfl (ltb rfl) (congrArg Value.bool b21_)) rfl (ltb rfl) (X_pick (b := false) (v := (.bool (decide (a0.kind = 4)))) (congrArg Value.bool b22_) rfl) <| L_nil <| thn_n ⟨(Kp.upd (Kp.upd (Kp.upd (Kp.upd (Kp.refl _ _) rfl) rfl) rfl) rfl), (or_f b22_), (Ext.refl w14)⟩
            intro s28 w24 K25 h26 e27
            exact L_op (.plain rfl) rfl (ltb rfl) (X_pick (b := true) (v := (.bool ((decide (a0.kind = 3)) || (decide (a0.kind = 4))))) ((K25 36 rfl).trans (congrArg Value.bool b21_)) h26) <| L_nil <| thn_n ⟨(Kp.upd (Kp.cut (Kp.upd (Kp.upd (Kp.refl _ _) rfl) rfl) K25 rfl) rfl), (and_t b21_), e27⟩
          · exact L_skip rfl rfl (ltb rfl) (congrArg Value.bool b21_) rfl rfl (ltb rfl) <| L_skip rfl rfl (ltb rfl) (congrArg Value.bool b21_) rfl rfl (ltb rfl) <| L_skipU rfl rfl (ltb rfl) rfl rfl (ltb rfl) <| L_skipU rfl rfl (ltb rfl) rfl rfl (ltb rfl) <| L_skipU rfl rfl (ltb rfl) rfl rfl (ltb rfl) <| L_skip rfl rfl (ltb rfl) (congrArg Value.bool b21_) rfl rfl (ltb rfl) <| L_op (.plain rfl) rfl (ltb rfl) (X_pick (b := false) (v := (.bool false)) (congrArg Value.bool b21_) rfl) <| L_nil <| thn_n ⟨(Kp.upd (Kp.upd (Kp.upd (Kp.upd (Kp.upd (Kp.upd (Kp.upd (Kp.refl _ _) rfl) rfl) rfl) rfl) rfl) rfl) rfl), (and_f b21_), (Ext.refl w14)⟩
        intro s29 w23 K24 h25 e26
        refine L_op (.plain rfl) rfl (ltb rfl) (X_move h25) <| L_grp 7 [(45, 52)] 51 (.bool (((!decide (a0.body = ([] : List UInt8))) && ((decide (a0.kind = 3)) || (decide (a0.kind = 4)))) || (a0.opq && (!(decide (a0.kind = 3)))))) ?_ ?_
        · rcases bool_two ((!decide (a0.body = ([] : List UInt8))) && ((decide (a0.kind = 3)) || (decide (a0.kind = 4)))) with b29_ | b29_
          · exact L_skip rfl rfl (ltb rfl) (congrArg Value.bool b29_) rfl rfl (ltb rfl) <| L_skip rfl rfl (ltb rfl) (congrArg Value.bool b29_) rfl rfl (ltb rfl) <| L_skip rfl rfl (ltb rfl) (congrArg Value.bool b29_) rfl rfl (ltb rfl) <| L_skipU rfl rfl (ltb rfl) rfl rfl (ltb rfl) <| L_skipU rfl rfl (ltb rfl) rfl rfl (ltb rfl) <| L_skip rfl rfl (ltb rfl) (congrArg Value.bool b29_) rfl rfl (ltb rfl) <| L_op (.plain rfl) rfl (ltb rfl) (X_pick (b := true) (v := (.bool true)) (congrArg Value.bool b29_) rfl) <| L_nil <| thn_n ⟨(Kp.upd (Kp.upd (Kp.upd (Kp.upd (Kp.upd (Kp.upd (Kp.upd (Kp.refl _ _) rfl) rfl) rfl) rfl) rfl) rfl) rfl), (or_t b29_), (Ext.refl w23)⟩
          · refine L_op (.guard 11 false 44 rfl rfl (ltb rfl) (congrArg Value.bool b29_)) rfl (ltb rfl) (X_fieldAddr Tryd.underlying24 rfl Tryd.sizeOf4 rfl ((K24 1 rfl).trans (K15 1 rfl))) <| L_op (.guard 11 false 44 rfl rfl (ltb rfl) (congrArg Value.bool b29_)) rfl (ltb rfl) (X_loadB Tryd.isAgg4 (Blk.ext k6 (Ext.trans (Ext.trans (Ext.trans e8 e11) e17) e26)) rfl rfl) <| L_op (.guard 11 false 44 rfl rfl (ltb rfl) (congrArg Value.bool b29_)) rfl (ltb rfl) (X_move (v := (.bool a0.opq)) rfl) <| L_grp 3 [(48, 51)] 50 (.bool (a0.opq && (!(decide (a0.kind = 3))))) ?_ ?_
            · rcases bool_two a0.opq with b30_ | b30_
              · exact L_op (.guard 14 true 47 rfl rfl (ltb rfl) (congrArg Value.bool b30_)) rfl (ltb rfl) (X_move (v := (.bool (decide (a0.kind = 3)))) ((K24 3 rfl).trans (K15 3 rfl))) <| L_op (.guard 14 true 47 rfl rfl (ltb rfl) (congrArg Value.bool b30_)) rfl (ltb rfl) (X_not rfl) <| L_op (.guard 11 false 44 rfl rfl (ltb rfl) (congrArg Value.bool b29_)) rfl (ltb rfl) (X_pick (b := true) (v := (.bool (!(decide (a0.kind = 3))))) (congrArg Value.bool b30_) rfl) <| L_nil <| thn_n ⟨(Kp.upd (Kp.upd (Kp.upd (Kp.refl _ _) rfl) rfl) rfl), (and_t b30_), (Ext.refl w23)⟩
              · exact L_skip rfl rfl (ltb rfl) (congrArg Value.bool b30_) rfl rfl (ltb rfl) <| L_skip rfl rfl (ltb rfl) (congrArg Value.bool b30_) rfl rfl (ltb rfl) <| L_op (.guard 11 false 44 rfl rfl (ltb rfl) (congrArg Value.bool b29_)) rfl (ltb rfl) (X_pick (b := false) (v := (.bool false)) (congrArg Value.bool b30_) rfl) <| L_nil <| thn_n ⟨(Kp.upd (Kp.upd (Kp.upd (Kp.refl _ _) rfl) rfl) rfl), (and_f b30_), (Ext.refl w23)⟩
            intro s36 w32 K33 h34 e35
            exact L_op (.plain rfl) rfl (ltb rfl) (X_pick (b := false) (v := (.bool (a0.opq && (!(decide (a0.kind = 3)))))) ((K33 44 rfl).trans (congrArg Value.bool b29_)) h34) <| L_nil <| thn_n ⟨(Kp.upd (Kp.cut (Kp.upd (Kp.upd (Kp.upd (Kp.refl _ _) rfl) rfl) rfl) K33 rfl) rfl), (or_f b29_), e35⟩
        intro s37 w31 K32 h33 e34
        refine L_op (.plain rfl) rfl (ltb rfl) (X_assign h33) <| L_nil <| thn_n ?_
        rcases bif_two H with ⟨q38, H⟩ | ⟨q38, H⟩
        · refine W_true (congrArg Value.bool q38) <| W_seq <| W_reg <| L_op (.plain rfl) rfl (ltb rfl) (X_assign (v := (.int .i64 3)) rfl) <| L_nil <| thn_n <| W_ret <| blk_r <| thn_r <| fin_r ?_
          obtain rfl := Option.some.inj H
          exact fin1 rfl (Ext.trans (Ext.trans (Ext.trans (Ext.trans (Ext.trans e5 e8) e11) e17) e26) e34)
        · refine W_false (congrArg Value.bool q38) <| W_seq <| W_reg <| L_op (.plain rfl) rfl (ltb rfl) (X_fieldAddr Tryd.underlying24 rfl Tryd.sizeOf3 rfl ((K32 1 rfl).trans ((K24 1 rfl).trans (K15 1 rfl)))) <| L_op (.plain rfl) rfl (ltb rfl) (X_loadB Tryd.isAgg3 (Blk.ext k6 (Ext.trans (Ext.trans (Ext.trans (Ext.trans e8 e11) e17) e26) e34)) rfl rfl) <| L_callP (.plain rfl) rfl (ltb rfl) rfl Tryd.call64 (spec_l01In.calls (w := w31) (a0 := a0.mode) (a1 := 0) (a2 := 511)) rfl <| fun w39 e40 => L_op (.plain rfl) rfl (ltb rfl) (X_not rfl) <| L_op (.plain rfl) rfl (ltb rfl) (X_move (v := (.bool (!(within a0.mode 0 511)))) rfl) <| L_grp 14 [(58, 72)] 71 (.bool ((!(within a0.mode 0 511)) || ((!decide (a0.mode = 0)) && ((decide (a0.kind = 4)) || (decide (a0.kind = 2)))))) ?_ ?_
          · rcases bool_two (!(within a0.mode 0 511)) with b40_ | b40_
            · exact L_skip rfl rfl (ltb rfl) (congrArg Value.bool b40_) rfl rfl (ltb rfl) <| L_skip rfl rfl (ltb rfl) (congrArg Value.bool b40_) rfl rfl (ltb rfl) <| L_skip rfl rfl (ltb rfl) (congrArg Value.bool b40_) rfl rfl (ltb rfl) <| L_skip rfl rfl (ltb rfl) (congrArg Value.bool b40_) rfl rfl (ltb rfl) <| L_skipU rfl rfl (ltb rfl) rfl rfl (ltb rfl) <| L_skipU rfl rfl (ltb rfl) rfl rfl (ltb rfl) <| L_skipU rfl rfl (ltb rfl) rfl rfl (ltb rfl) <| L_skipU rfl rfl (ltb rfl) rfl rfl (ltb rfl) <| L_skipU rfl rfl (ltb rfl) rfl rfl (ltb rfl) <| L_skipU rfl rfl (ltb rfl) rfl rfl (ltb rfl) <| L_skipU rfl rfl (ltb rfl) rfl rfl (ltb rfl) <| L_skipU rfl rfl (ltb rfl) rfl rfl (ltb rfl) <| L_skip rfl rfl (ltb rfl) (congrArg Value.bool b40_) rfl rfl (ltb rfl) <| L_op (.plain rfl) rfl (ltb rfl) (X_pick (b := true) (v := (.bool true)) (congrArg Value.bool b40_) rfl) <| L_nil <| thn_n ⟨(Kp.upd (Kp.upd (Kp.upd (Kp.upd (Kp.upd (Kp.upd (Kp.upd (Kp.upd (Kp.upd (Kp.upd (Kp.upd (Kp.upd (Kp.upd (Kp.upd (Kp.refl _ _) rfl) rfl) rfl) rfl) rfl) rfl) rfl) rfl) rfl) rfl) rfl) rfl) rfl) rfl), (or_t b40_), (Ext.refl w39)⟩
            · refine L_op (.guard 4 false 57 rfl rfl (ltb rfl) (congrArg Value.bool b40_)) rfl (ltb rfl) (X_fieldAddr Tryd.underlying24 rfl Tryd.sizeOf3 rfl ((K32 1 rfl).trans ((K24 1 rfl).trans (K15 1 rfl)))) <| L_op (.guard 4 false 57 rfl rfl (ltb rfl) (congrArg Value.bool b40_)) rfl (ltb rfl) (X_loadB Tryd.isAgg3 (Blk.ext k6 (Ext.trans (Ext.trans (Ext.trans (Ext.trans (Ext.trans e8 e11) e17) e26) e34) e40)) rfl rfl) <| L_op (.guard 4 false 57 rfl rfl (ltb rfl) (congrArg Value.bool b40_)) rfl (ltb rfl) (X_neq rfl rfl) <| L_op (.guard 4 false 57 rfl rfl (ltb rfl) (congrArg Value.bool b40_)) rfl (ltb rfl) (X_move (v := (.bool (!decide (a0.mode = 0)))) rfl) <| L_grp 9 [(62, 71)] 70 (.bool ((!decide (a0.mode = 0)) && ((decide (a0.kind = 4)) || (decide (a0.kind = 2))))) ?_ ?_
              · rcases bool_two (!decide (a0.mode = 0)) with b41_ | b41_
                · refine L_op (.guard 8 true 61 rfl rfl (ltb rfl) (congrArg Value.bool b41_)) rfl (ltb rfl) (X_fieldAddr Tryd.underlying24 rfl Tryd.sizeOf3 rfl ((K32 1 rfl).trans ((K24 1 rfl).trans (K15 1 rfl)))) <| L_op (.guard 8 true 61 rfl rfl (ltb rfl) (congrArg Value.bool b41_)) rfl (ltb rfl) (X_loadB Tryd.isAgg3 (Blk.ext k6 (Ext.trans (Ext.trans (Ext.trans (Ext.trans (Ext.trans e8 e11) e17) e26) e34) e40)) rfl rfl) <| L_op (.guard 8 true 61 rfl rfl (ltb rfl) (congrArg Value.bool b41_)) rfl (ltb rfl) (X_eql rfl rfl) <| L_op (.guard 8 true 61 rfl rfl (ltb rfl) (congrArg Value.bool b41_)) rfl (ltb rfl) (X_move (v := (.bool (decide (a0.kind = 4)))) rfl) <| L_grp 4 [(66, 70)] 69 (.bool ((decide (a0.kind = 4)) || (decide (a0.kind = 2)))) ?_ ?_
                  · rcases bool_two (decide (a0.kind = 4)) with b42_ | b42_
                    · exact L_skip rfl rfl (ltb rfl) (congrArg Value.bool b42_) rfl rfl (ltb rfl) <| L_skip rfl rfl (ltb rfl) (congrArg Value.bool b42_) rfl rfl (ltb rfl) <| L_skip rfl rfl (ltb rfl) (congrArg Value.bool b42_) rfl rfl (ltb rfl) <| L_op (.guard 8 true 61 rfl rfl (ltb rfl) (congrArg Value.bool b41_)) rfl (ltb rfl) (X_pick (b := true) (v := (.bool true)) (congrArg Value.bool b42_) rfl) <| L_nil <| thn_n ⟨(Kp.upd (Kp.upd (Kp.upd (Kp.upd (Kp.refl _ _) rfl) rfl) rfl) rfl), (or_t b42_), (Ext.refl w39)⟩
                    · exact L_op (.guard 12 false 65 rfl rfl (ltb rfl) (congrArg Value.bool b42_)) rfl (ltb rfl) (X_fieldAddr Tryd.underlying24 rfl Tryd.sizeOf3 rfl ((K32 1 rfl).trans ((K24 1 rfl).trans (K15 1 rfl)))) <| L_op (.guard 12 false 65 rfl rfl (ltb rfl) (congrArg Value.bool b42_)) rfl (ltb rfl) (X_loadB Tryd.isAgg3 (Blk.ext k6 (Ext.trans (Ext.trans (Ext.trans (Ext.trans (Ext.trans e8 e11) e17) e26) e34) e40)) rfl rfl) <| L_op (.guard 12 false 65 rfl rfl (ltb rfl) (congrArg Value.bool b42_)) rfl (ltb rfl) (X_eql rfl rfl) <| L_op (.guard 8 true 61 rfl rfl (ltb rfl) (congrArg Value.bool b41_)) rfl (ltb rfl) (X_pick (b := false) (v := (.bool (decide (a0.kind = 2)))) (congrArg Value.bool b42_) rfl) <| L_nil <| thn_n ⟨(Kp.upd (Kp.upd (Kp.upd (Kp.upd (Kp.refl _ _) rfl) rfl) rfl) rfl), (or_f b42_), (Ext.refl w39)⟩
                  intro s48 w44 K45 h46 e47
                  exact L_op (.guard 4 false 57 rfl rfl (ltb rfl) ((K45 57 rfl).trans (congrArg Value.bool b40_))) rfl (ltb rfl) (X_pick (b := true) (v := (.bool ((decide (a0.kind = 4)) || (decide (a0.kind = 2))))) ((K45 61 rfl).trans (congrArg Value.bool b41_)) h46) <| L_nil <| thn_n ⟨(Kp.upd (Kp.cut (Kp.upd (Kp.upd (Kp.upd (Kp.upd (Kp.refl _ _) rfl) rfl) rfl) rfl) K45 rfl) rfl), (and_t b41_), e47⟩
                · exact L_skip rfl rfl (ltb rfl) (congrArg Value.bool b41_) rfl rfl (ltb rfl) <| L_skip rfl rfl (ltb rfl) (congrArg Value.bool b41_) rfl rfl (ltb rfl) <| L_skip rfl rfl (ltb rfl) (congrArg Value.bool b41_) rfl rfl (ltb rfl) <| L_skip rfl rfl (ltb rfl) (congrArg Value.bool b41_) rfl rfl (ltb rfl) <| L_skipU rfl rfl (ltb rfl) rfl rfl (ltb rfl) <| L_skipU rfl rfl (ltb rfl) rfl rfl (ltb rfl) <| L_skipU rfl rfl (ltb rfl) rfl rfl (ltb rfl) <| L_skip rfl rfl (ltb rfl) (congrArg Value.bool b41_) rfl rfl (ltb rfl) <| L_op (.guard 4 false 57 rfl rfl (ltb rfl) (congrArg Value.bool b40_)) rfl (ltb rfl) (X_pick (b := false) (v := (.bool false)) (congrArg Value.bool b41_) rfl) <| L_nil <| thn_n ⟨(Kp.upd (Kp.upd (Kp.upd (Kp.upd (Kp.upd (Kp.upd (Kp.upd (Kp.upd (Kp.upd (Kp.refl _ _) rfl) rfl) rfl) rfl) rfl) rfl) rfl) rfl) rfl), (and_f b41_), (Ext.refl w39)⟩
              intro s49 w43 K44 h45 e46
              exact L_op (.plain rfl) rfl (ltb rfl) (X_pick (b := false) (v := (.bool ((!decide (a0.mode = 0)) && ((decide (a0.kind = 4)) || (decide (a0.kind = 2)))))) ((K44 57 rfl).trans (congrArg Value.bool b40_)) h45) <| L_nil <| thn_n ⟨(Kp.upd (Kp.cut (Kp.upd (Kp.upd (Kp.upd (Kp.upd (Kp.refl _ _) rfl) rfl) rfl) rfl) K44 rfl) rfl), (or_f b40_), e46⟩
          intro s50 w42 K43 h44 e45
          refine L_op (.plain rfl) rfl (ltb rfl) (X_assign h44) <| L_nil <| thn_n ?_
          rcases bif_two H with ⟨q51, H⟩ | ⟨q51, H⟩
          · refine W_true (congrArg Value.bool q51) <| W_seq <| W_reg <| L_op (.plain rfl) rfl (ltb rfl) (X_assign (v := (.int .i64 4)) rfl) <| L_nil <| thn_n <| W_ret <| blk_r <| thn_r <| fin_r ?_
            obtain rfl := Option.some.inj H
            exact fin1 rfl (Ext.trans (Ext.trans (Ext.trans (Ext.trans (Ext.trans (Ext.trans (Ext.trans e5 e8) e11) e17) e26) e34) e40) e45)
          · refine W_false (congrArg Value.bool q51) <| W_skip <| blk_n <| thn_n <| W_seq <| W_reg <| L_op (.plain rfl) rfl (ltb rfl) (X_assign (v := (.int .i64 0)) rfl) <| L_nil <| thn_n <| W_ret <| fin_r ?_
            obtain rfl := Option.some.inj H
            exact fin1 rfl (Ext.trans (Ext.trans (Ext.trans (Ext.trans (Ext.trans (Ext.trans (Ext.trans e5 e8) e11) e17) e26) e34) e40) e45)
theorem spec_l02Fault.calls {w : World} {a0 : Rec} :
    Calls Tryd.prog 43 #[.agg (encRec a0).toArray] w (Rt (RP w (.int .i64 (recFault a0)))) := spec_l02Fault.walk (spec_l02Fault.eq a0)
/-! spec.RecordFault -/
theorem spec_RecordFault.walk {w : World} {a0 : Rec} {r : Int} (H : spec_RecordFault.sh a0 = some r) :
    Calls Tryd.prog 18 #[.agg (encRec a0).toArray] w (Rt (RP w (.int .i64 r))) := by
  unfold spec_RecordFault.sh at H
  refine calls_of_W Tryd.func18 rfl (Nat.le_of_ble_eq_true rfl) Tryd.ntmps18 rfl ?_
  refine W_seq <| W_reg <| L_box (.plain rfl) rfl (ltb rfl) rfl rfl <| fun b1 w2 z3 z4 e5 k6 => L_op (.plain rfl) rfl (ltb rfl) (X_assign (v := (.int .i64 0)) rfl) <| L_nil <| thn_n <| W_seq <| W_reg <| L_op (.plain rfl) rfl (ltb rfl) (X_loadS Tryd.isAgg24 Tryd.sizeOf24 rfl rfl (Blk.at0 k6)) <| L_callP (.plain rfl) rfl (ltb rfl) rfl Tryd.call43 (spec_l02Fault.calls (w := w2) (a0 := a0)) rfl <| fun w7 e8 => L_op (.plain rfl) rfl (ltb rfl) (X_assign (v := (.int .i64 (recFault a0))) rfl) <| L_nil <| thn_n <| W_ret <| fin_r ?_
  obtain rfl := Option.some.inj H
  exact fin1 rfl (Ext.trans e5 e8)
theorem spec_RecordFault.calls {w : World} {a0 : Rec} :
    Calls Tryd.prog 18 #[.agg (encRec a0).toArray] w (Rt (RP w (.int .i64 (recFault a0)))) := spec_RecordFault.walk (spec_RecordFault.eq a0)
/-! impl.RecordFault -/
abbrev impl_RecordFault.e1 (a0 : Rec) := (((decide (a0.kind = 3)) || (decide (a0.kind = 4))) && (!decide (a0.body = ([] : List UInt8))))
abbrev impl_RecordFault.e2 (a0 : Rec) := ([.inl (!(within a0.kind 1 4)), .inr 9, .inl (!(pathOK a0.path)), .inr 10, .inl ((decide (20 < (a0.body.length : Int))) || ((decide (a0.kind = 2)) && (decide (a0.body = ([] : List UInt8))))), .inr 8, .inl ((impl_RecordFault.e1 a0) || ((!decide (a0.kind = 3)) && a0.opq)), .inr 3, .inl ((!(within a0.mode 0 511)) || (((decide (a0.kind = 2)) || (decide (a0.kind = 4))) && (!decide (a0.mode = 0)))), .inr 4] : List (Bool ⊕ Int))
abbrev impl_RecordFault.e3 (a0 : Rec) := ((decide (a0.kind = 2)) || (decide (a0.kind = 4)))
abbrev impl_RecordFault.e4 (a0 : Rec) := ((decide (a0.kind = 3)) || (decide (a0.kind = 4)))
abbrev impl_RecordFault.e5 (a0 : Rec) := ((decide (20 < (a0.body.length : Int))) || ((decide (a0.kind = 2)) && (decide (a0.body = ([] : List UInt8)))))
abbrev impl_RecordFault.e6 (a0 : Rec) := ((!(within a0.mode 0 511)) || ((impl_RecordFault.e3 a0) && (!decide (a0.mode = 0))))
abbrev impl_RecordFault.e7 (a0 : Rec) := ((!(decide (20 < (a0.body.length : Int)))) && (decide (a0.kind = 2)))
theorem impl_RecordFault.walk {w : World} {a0 : Rec} (gv : GV 0 w) {r : Int} (H : impl_RecordFault.sh a0 = some r) :
    Calls Tryd.prog 16 #[.agg (encRec a0).toArray] w (Rt (RP w (.int .i64 r))) := by
  unfold impl_RecordFault.sh at H
  refine calls_of_W Tryd.func16 rfl (Nat.le_of_ble_eq_true rfl) Tryd.ntmps16 rfl ?_
  refine W_seq <| W_reg <| L_box (.plain rfl) rfl (ltb rfl) rfl rfl <| fun b1 w2 z3 z4 e5 k6 => L_op (.plain rfl) rfl (ltb rfl) (X_assign (v := (.int .i64 0)) rfl) <| L_nil <| thn_n <| W_seq <| W_reg <| L_op (.plain rfl) rfl (ltb rfl) (X_fieldAddr Tryd.underlying24 rfl Tryd.sizeOf3 rfl rfl) <| L_op (.plain rfl) rfl (ltb rfl) (X_loadB Tryd.isAgg3 k6 rfl rfl) <| L_op (.plain rfl) rfl (ltb rfl) (X_eql rfl rfl) <| L_op (.plain rfl) rfl (ltb rfl) (X_move (v := (.bool (decide (a0.kind = 3)))) rfl) <| L_grp 4 [(8, 12)] 11 (.bool (impl_RecordFault.e4 a0)) ?_ ?_
  · rcases bool_two (decide (a0.kind = 3)) with b6_ | b6_
    · exact L_skip rfl rfl (ltb rfl) (congrArg Value.bool b6_) rfl rfl (ltb rfl) <| L_skip rfl rfl (ltb rfl) (congrArg Value.bool b6_) rfl rfl (ltb rfl) <| L_skip rfl rfl (ltb rfl) (congrArg Value.bool b6_) rfl rfl (ltb rfl) <| L_op (.plain rfl) rfl (ltb rfl) (X_pick (b := true) (v := (.bool true)) (congrArg Value.bool b6_) rfl) <| L_nil <| thn_n ⟨(Kp.upd (Kp.upd (Kp.upd (Kp.upd (Kp.refl _ _) rfl) rfl) rfl) rfl), (or_t b6_), (Ext.refl w2)⟩
    · exact L_op (.guard 3 false 7 rfl rfl (ltb rfl) (congrArg Value.bool b6_)) rfl (ltb rfl) (X_fieldAddr Tryd.underlying24 rfl Tryd.sizeOf3 rfl rfl) <| L_op (.guard 3 false 7 rfl rfl (ltb rfl) (congrArg Value.bool b6_)) rfl (ltb rfl) (X_loadB Tryd.isAgg3 k6 rfl rfl) <| L_op (.guard 3 false 7 rfl rfl (ltb rfl) (congrArg Value.bool b6_)) rfl (ltb rfl) (X_eql rfl rfl) <| L_op (.plain rfl) rfl (ltb rfl) (X_pick (b := false) (v := (.bool (decide (a0.kind = 4)))) (congrArg Value.bool b6_) rfl) <| L_nil <| thn_n ⟨(Kp.upd (Kp.upd (Kp.upd (Kp.upd (Kp.refl _ _) rfl) rfl) rfl) rfl), (or_f b6_), (Ext.refl w2)⟩
  intro s12 w8 K9 h10 e11
  refine L_op (.plain rfl) rfl (ltb rfl) (X_assign (v := (.bool (impl_RecordFault.e4 a0))) h10) <| L_nil <| thn_n <| W_seq ?_
  obtain ⟨c25, H⟩ := bif_some H
  refine W_drawM [LEq (.pointer (some ⟨b1, 0, none⟩)), LEq (.int .i64 a0.kind), LEq (.bool (within a0.kind 1 4)), LEq (.bool (!(within a0.kind 1 4))), LEq (.iface 4 (.bool (!(within a0.kind 1 4)))), LEq (.iface 3 (.int .i64 9)), LEq (.pointer (some ⟨b1, 1, none⟩)), LEq (S a0.path), LEq (.bool (pathOK a0.path)), LEq (.bool (!(pathOK a0.path))), LEq (.iface 4 (.bool (!(pathOK a0.path)))), LEq (.iface 3 (.int .i64 10)), LEq (.pointer (some ⟨b1, 2, none⟩)), LEq (S a0.body), LEq (.int .i64 (a0.body.length : Int)), LEq (.bool (decide (20 < (a0.body.length : Int)))), LEq (.bool (decide (20 < (a0.body.length : Int)))), LIf (!(decide (20 < (a0.body.length : Int)))) (LEq (.pointer (some ⟨b1, 0, none⟩))), LIf (!(decide (20 < (a0.body.length : Int)))) (LEq (.int .i64 a0.kind)), LIf (!(decide (20 < (a0.body.length : Int)))) (LEq (.bool (decide (a0.kind = 2)))), LIf (!(decide (20 < (a0.body.length : Int)))) (LEq (.bool (decide (a0.kind = 2)))), LIf (impl_RecordFault.e7 a0) (LEq (.pointer (some ⟨b1, 2, none⟩))), LIf (impl_RecordFault.e7 a0) (LEq (S a0.body)), LIf (impl_RecordFault.e7 a0) (LEq (.bool (decide (a0.body = ([] : List UInt8))))), LIf (!(decide (20 < (a0.body.length : Int)))) (LEq (.bool ((decide (a0.kind = 2)) && (decide (a0.body = ([] : List UInt8)))))), LEq (.bool (impl_RecordFault.e5 a0)), LEq (.iface 4 (.bool (impl_RecordFault.e5 a0))), LEq (.iface 3 (.int .i64 8)), LEq (.bool (impl_RecordFault.e4 a0)), LEq (.bool (impl_RecordFault.e4 a0)), LIf (impl_RecordFault.e4 a0) (LEq (.pointer (some ⟨b1, 2, none⟩))), LIf (impl_RecordFault.e4 a0) (LEq (S a0.body)), LIf (impl_RecordFault.e4 a0) (LEq (.bool (!decide (a0.body = ([] : List UInt8))))), LEq (.bool (impl_RecordFault.e1 a0)), LEq (.bool (impl_RecordFault.e1 a0)), LIf (!(impl_RecordFault.e1 a0)) (LEq (.pointer (some ⟨b1, 0, none⟩))), LIf (!(impl_RecordFault.e1 a0)) (LEq (.int .i64 a0.kind)), LIf (!(impl_RecordFault.e1 a0)) (LEq (.bool (!decide (a0.kind = 3)))), LIf (!(impl_RecordFault.e1 a0)) (LEq (.bool (!decide (a0.kind = 3)))), LIf ((!(impl_RecordFault.e1 a0)) && (!decide (a0.kind = 3))) (LEq (.pointer (some ⟨b1, 4, none⟩))), LIf ((!(impl_RecordFault.e1 a0)) && (!decide (a0.kind = 3))) (LEq (.bool a0.opq)), LIf (!(impl_RecordFault.e1 a0)) (LEq (.bool ((!decide (a0.kind = 3)) && a0.opq))), LEq (.bool ((impl_RecordFault.e1 a0) || ((!decide (a0.kind = 3)) && a0.opq))), LEq (.iface 4 (.bool ((impl_RecordFault.e1 a0) || ((!decide (a0.kind = 3)) && a0.opq)))), LEq (.iface 3 (.int .i64 3)), LEq (.pointer (some ⟨b1, 3, none⟩)), LEq (.int .i64 a0.mode), LEq (.bool (within a0.mode 0 511)), LEq (.bool (!(within a0.mode 0 511))), LEq (.bool (!(within a0.mode 0 511))), LIf (!(!(within a0.mode 0 511))) (LEq (.pointer (some ⟨b1, 0, none⟩))), LIf (!(!(within a0.mode 0 511))) (LEq (.int .i64 a0.kind)), LIf (!(!(within a0.mode 0 511))) (LEq (.bool (decide (a0.kind = 2)))), LIf (!(!(within a0.mode 0 511))) (LEq (.bool (decide (a0.kind = 2)))), LIf ((!(!(within a0.mode 0 511))) && (!(decide (a0.kind = 2)))) (LEq (.pointer (some ⟨b1, 0, none⟩))), LIf ((!(!(within a0.mode 0 511))) && (!(decide (a0.kind = 2)))) (LEq (.int .i64 a0.kind)), LIf ((!(!(within a0.mode 0 511))) && (!(decide (a0.kind = 2)))) (LEq (.bool (decide (a0.kind = 4)))), LIf (!(!(within a0.mode 0 511))) (LEq (.bool (impl_RecordFault.e3 a0))), LIf (!(!(within a0.mode 0 511))) (LEq (.bool (impl_RecordFault.e3 a0))), LIf ((!(!(within a0.mode 0 511))) && (impl_RecordFault.e3 a0)) (LEq (.pointer (some ⟨b1, 3, none⟩))), LIf ((!(!(within a0.mode 0 511))) && (impl_RecordFault.e3 a0)) (LEq (.int .i64 a0.mode)), LIf ((!(!(within a0.mode 0 511))) && (impl_RecordFault.e3 a0)) (LEq (.bool (!decide (a0.mode = 0)))), LIf (!(!(within a0.mode 0 511))) (LEq (.bool ((impl_RecordFault.e3 a0) && (!decide (a0.mode = 0))))), LEq (.bool (impl_RecordFault.e6 a0)), LEq (.iface 4 (.bool (impl_RecordFault.e6 a0))), LEq (.iface 3 (.int .i64 4)), LRd 1 (encAny 4 3) (impl_RecordFault.e2 a0), LEq (.int .i64 (firstOf (impl_RecordFault.e2 a0))), LEq (.int .i64 (firstOf (impl_RecordFault.e2 a0)))] (by kernel_rfl) (by kernel_rfl) ⟨LEq.mono, LEq.mono, LEq.mono, LEq.mono, LEq.mono, LEq.mono, LEq.mono, LEq.mono, LEq.mono, LEq.mono, LEq.mono, LEq.mono, LEq.mono, LEq.mono, LEq.mono, LEq.mono, LEq.mono, (LIf.mono LEq.mono), (LIf.mono LEq.mono), (LIf.mono LEq.mono), (LIf.mono LEq.mono), (LIf.mono LEq.mono), (LIf.mono LEq.mono), (LIf.mono LEq.mono), (LIf.mono LEq.mono), LEq.mono, LEq.mono, LEq.mono, LEq.mono, LEq.mono, (LIf.mono LEq.mono), (LIf.mono LEq.mono), (LIf.mono LEq.mono), LEq.mono, LEq.mono, (LIf.mono LEq.mono), (LIf.mono LEq.mono), (LIf.mono LEq.mono), (LIf.mono LEq.mono), (LIf.mono LEq.mono), (LIf.mono LEq.mono), (LIf.mono LEq.mono), LEq.mono, LEq.mono, LEq.mono, LEq.mono, LEq.mono, LEq.mono, LEq.mono, LEq.mono, (LIf.mono LEq.mono), (LIf.mono LEq.mono), (LIf.mono LEq.mono), (LIf.mono LEq.mono), (LIf.mono LEq.mono), (LIf.mono LEq.mono), (LIf.mono LEq.mono), (LIf.mono LEq.mono), (LIf.mono LEq.mono), (LIf.mono LEq.mono), (LIf.mono LEq.mono), (LIf.mono LEq.mono), (LIf.mono LEq.mono), LEq.mono, LEq.mono, LEq.mono, LRd.mono, LEq.mono, LEq.mono, trivial⟩ ⟨?_, ?_, ?_, ?_, ?_, ?_, ?_, ?_, ?_, ?_, ?_, ?_, ?_, ?_, ?_, ?_, ?_, ?_, ?_, ?_, ?_, ?_, ?_, ?_, ?_, ?_, ?_, ?_, ?_, ?_, ?_, ?_, ?_, ?_, ?_, ?_, ?_, ?_, ?_, ?_, ?_, ?_, ?_, ?_, ?_, ?_, ?_, ?_, ?_, ?_, ?_, ?_, ?_, ?_, ?_, ?_, ?_, ?_, ?_, ?_, ?_, ?_, ?_, ?_, ?_, ?_, ?_, ?_, ?_, trivial⟩ ?_
  · intro s28 w29 e30 hf31 hd32 hu33
    exact L_op (.plain rfl) rfl (ltb rfl) (X_fieldAddr Tryd.underlying24 rfl Tryd.sizeOf3 rfl ((hf31 1 rfl).trans (K9 1 rfl))) <| L_nil <| stepEnd rfl rfl (Ext.refl w29) rfl
  · intro s34 w35 e36 hf37 hd38 hu39
    have d40 : s34 12 = (.pointer (some ⟨b1, 0, none⟩)) := (hd38 0 rfl)
    exact L_op (.plain rfl) rfl (ltb rfl) (X_loadB Tryd.isAgg3 (Blk.ext k6 (Ext.trans e11 e36)) d40 rfl) <| L_nil <| stepEnd rfl rfl (Ext.refl w35) rfl
  · intro s41 w42 e43 hf44 hd45 hu46
    have d47 : s41 13 = (.int .i64 a0.kind) := (hd45 1 rfl)
    exact L_callP (.plain rfl) rfl (ltb rfl) rfl Tryd.call42 (impl_within.calls (w := w42) (a0 := a0.kind) (a1 := 1) (a2 := 4)) (cons2 d47 (cons2 rfl (cons2 rfl rfl))) <| fun w48 e49 => L_nil <| stepEnd rfl rfl e49 rfl
  · intro s50 w51 e52 hf53 hd54 hu55
    have d56 : s50 14 = (.bool (within a0.kind 1 4)) := (hd54 2 rfl)
    exact L_op (.plain rfl) rfl (ltb rfl) (X_not d56) <| L_nil <| stepEnd rfl rfl (Ext.refl w51) rfl
  · intro s57 w58 e59 hf60 hd61 hu62
    have d63 : s57 15 = (.bool (!(within a0.kind 1 4))) := (hd61 3 rfl)
    exact L_op (.plain rfl) rfl (ltb rfl) (X_mkiface Tryd.underlying4 rfl d63) <| L_nil <| stepEnd rfl rfl (Ext.refl w58) rfl
  · intro s64 w65 e66 hf67 hd68 hu69
    exact L_op (.plain rfl) rfl (ltb rfl) (X_mkiface Tryd.underlying3 rfl rfl) <| L_nil <| stepEnd rfl rfl (Ext.refl w65) rfl
  · intro s70 w71 e72 hf73 hd74 hu75
    exact L_op (.plain rfl) rfl (ltb rfl) (X_fieldAddr Tryd.underlying24 rfl Tryd.sizeOf9 rfl ((hf73 1 rfl).trans (K9 1 rfl))) <| L_nil <| stepEnd rfl rfl (Ext.refl w71) rfl
  · intro s76 w77 e78 hf79 hd80 hu81
    have d82 : s76 18 = (.pointer (some ⟨b1, 1, none⟩)) := (hd80 6 rfl)
    exact L_op (.plain rfl) rfl (ltb rfl) (X_loadB Tryd.isAgg9 (Blk.ext k6 (Ext.trans e11 e78)) d82 rfl) <| L_nil <| stepEnd rfl rfl (Ext.refl w77) rfl
  · intro s83 w84 e85 hf86 hd87 hu88
    have d89 : s83 19 = (S a0.path) := (hd87 7 rfl)
    exact L_callP (.plain rfl) rfl (ltb rfl) rfl Tryd.call25 (impl_PathOK.calls (w := w84) (a0 := a0.path) (GV.ext gv (Ext.trans (Ext.trans e5 e11) e85))) (cons2 d89 rfl) <| fun w90 e91 => L_nil <| stepEnd rfl rfl e91 rfl
  · intro s92 w93 e94 hf95 hd96 hu97
    have d98 : s92 20 = (.bool (pathOK a0.path)) := (hd96 8 rfl)
    exact L_op (.plain rfl) rfl (ltb rfl) (X_not d98) <| L_nil <| stepEnd rfl rfl (Ext.refl w93) rfl
  · intro s99 w100 e101 hf102 hd103 hu104
    have d105 : s99 21 = (.bool (!(pathOK a0.path))) := (hd103 9 rfl)
    exact L_op (.plain rfl) rfl (ltb rfl) (X_mkiface Tryd.underlying4 rfl d105) <| L_nil <| stepEnd rfl rfl (Ext.refl w100) rfl
  · intro s106 w107 e108 hf109 hd110 hu111
    exact L_op (.plain rfl) rfl (ltb rfl) (X_mkiface Tryd.underlying3 rfl rfl) <| L_nil <| stepEnd rfl rfl (Ext.refl w107) rfl
  · intro s112 w113 e114 hf115 hd116 hu117
    exact L_op (.plain rfl) rfl (ltb rfl) (X_fieldAddr Tryd.underlying24 rfl Tryd.sizeOf9 rfl ((hf115 1 rfl).trans (K9 1 rfl))) <| L_nil <| stepEnd rfl rfl (Ext.refl w113) rfl
  · intro s118 w119 e120 hf121 hd122 hu123
    have d124 : s118 24 = (.pointer (some ⟨b1, 2, none⟩)) := (hd122 12 rfl)
    exact L_op (.plain rfl) rfl (ltb rfl) (X_loadB Tryd.isAgg9 (Blk.ext k6 (Ext.trans e11 e120)) d124 rfl) <| L_nil <| stepEnd rfl rfl (Ext.refl w119) rfl
  · intro s125 w126 e127 hf128 hd129 hu130
    have d131 : s125 25 = (S a0.body) := (hd129 13 rfl)
    exact L_op (.plain rfl) rfl (ltb rfl) (X_lenS Tryd.underlying9 d131) <| L_nil <| stepEnd rfl rfl (Ext.refl w126) rfl
  · intro s132 w133 e134 hf135 hd136 hu137
    have d138 : s132 26 = (.int .i64 (a0.body.length : Int)) := (hd136 14 rfl)
    exact L_op (.plain rfl) rfl (ltb rfl) (X_gtr d138 rfl) <| L_nil <| stepEnd rfl rfl (Ext.refl w133) rfl
  · intro s139 w140 e141 hf142 hd143 hu144
    have d145 : s139 27 = (.bool (decide (20 < (a0.body.length : Int)))) := (hd143 15 rfl)
    exact L_op (.plain rfl) rfl (ltb rfl) (X_move (v := (.bool (decide (20 < (a0.body.length : Int))))) d145) <| L_nil <| stepEnd rfl rfl (Ext.refl w140) rfl
  · intro s146 w147 e148 hf149 hd150 hu151
    rcases bool_two (!(decide (20 < (a0.body.length : Int)))) with b152 | b152
    · have g153 : (decide (20 < (a0.body.length : Int))) = false := (not_f b152)
      have d154 : s146 28 = (.bool (decide (20 < (a0.body.length : Int)))) := (hd150 16 rfl)
      have d155 : s146 28 = (.bool (decide (20 < (a0.body.length : Int)))) := (hd150 16 rfl)
      exact L_op (.guard 16 false 28 rfl rfl (ltb rfl) (d154.trans (congrArg Value.bool g153))) rfl (ltb rfl) (X_fieldAddr Tryd.underlying24 rfl Tryd.sizeOf3 rfl ((hf149 1 rfl).trans (K9 1 rfl))) <| L_nil <| stepEnd rfl rfl (Ext.refl w147) ⟨fun _ => rfl, fun h => absurd (b152.symm.trans h) (by decide)⟩
    · have d156 : s146 28 = (.bool (decide (20 < (a0.body.length : Int)))) := (hd150 16 rfl)
      have g157 : (decide (20 < (a0.body.length : Int))) = true := (not_ff b152)
      exact L_skip rfl rfl (ltb rfl) (d156.trans (congrArg Value.bool g157)) rfl rfl (ltb rfl) <| L_nil <| stepEnd rfl rfl (Ext.refl w147) ⟨fun h => absurd (b152.symm.trans h) (by decide), fun _ => rfl⟩
  · intro s158 w159 e160 hf161 hd162 hu163
    rcases bool_two (!(decide (20 < (a0.body.length : Int)))) with b164 | b164
    · have g165 : (decide (20 < (a0.body.length : Int))) = false := (not_f b164)
      have d166 : s158 28 = (.bool (decide (20 < (a0.body.length : Int)))) := (hd162 16 rfl)
      have d167 : s158 28 = (.bool (decide (20 < (a0.body.length : Int)))) := (hd162 16 rfl)
      have d168 : s158 29 = (.pointer (some ⟨b1, 0, none⟩)) := ((hd162 17 rfl).1 (not_mk (not_f b164)))
      exact L_op (.guard 16 false 28 rfl rfl (ltb rfl) (d166.trans (congrArg Value.bool g165))) rfl (ltb rfl) (X_loadB Tryd.isAgg3 (Blk.ext k6 (Ext.trans e11 e160)) d168 rfl) <| L_nil <| stepEnd rfl rfl (Ext.refl w159) ⟨fun _ => rfl, fun h => absurd (b164.symm.trans h) (by decide)⟩
    · have d169 : s158 28 = (.bool (decide (20 < (a0.body.length : Int)))) := (hd162 16 rfl)
      have g170 : (decide (20 < (a0.body.length : Int))) = true := (not_ff b164)
      exact L_skip rfl rfl (ltb rfl) (d169.trans (congrArg Value.bool g170)) rfl rfl (ltb rfl) <| L_nil <| stepEnd rfl rfl (Ext.refl w159) ⟨fun h => absurd (b164.symm.trans h) (by decide), fun _ => rfl⟩
  · intro s171 w172 e173 hf174 hd175 hu176
    rcases bool_two (!(decide (20 < (a0.body.length : Int)))) with b177 | b177
    · have g178 : (decide (20 < (a0.body.length : Int))) = false := (not_f b177)
      have d179 : s171 28 = (.bool (decide (20 < (a0.body.length : Int)))) := (hd175 16 rfl)
      have d180 : s171 28 = (.bool (decide (20 < (a0.body.length : Int)))) := (hd175 16 rfl)
      have d181 : s171 30 = (.int .i64 a0.kind) := ((hd175 18 rfl).1 (not_mk (not_f b177)))
      exact L_op (.guard 16 false 28 rfl rfl (ltb rfl) (d179.trans (congrArg Value.bool g178))) rfl (ltb rfl) (X_eql d181 rfl) <| L_nil <| stepEnd rfl rfl (Ext.refl w172) ⟨fun _ => rfl, fun h => absurd (b177.symm.trans h) (by decide)⟩
    · have d182 : s171 28 = (.bool (decide (20 < (a0.body.length : Int)))) := (hd175 16 rfl)
      have g183 : (decide (20 < (a0.body.length : Int))) = true := (not_ff b177)
      exact L_skip rfl rfl (ltb rfl) (d182.trans (congrArg Value.bool g183)) rfl rfl (ltb rfl) <| L_nil <| stepEnd rfl rfl (Ext.refl w172) ⟨fun h => absurd (b177.symm.trans h) (by decide), fun _ => rfl⟩
  · intro s184 w185 e186 hf187 hd188 hu189
    rcases bool_two (!(decide (20 < (a0.body.length : Int)))) with b190 | b190
    · have g191 : (decide (20 < (a0.body.length : Int))) = false := (not_f b190)
      have d192 : s184 28 = (.bool (decide (20 < (a0.body.length : Int)))) := (hd188 16 rfl)
      have d193 : s184 28 = (.bool (decide (20 < (a0.body.length : Int)))) := (hd188 16 rfl)
      have d194 : s184 31 = (.bool (decide (a0.kind = 2))) := ((hd188 19 rfl).1 (not_mk (not_f b190)))
      exact L_op (.guard 16 false 28 rfl rfl (ltb rfl) (d192.trans (congrArg Value.bool g191))) rfl (ltb rfl) (X_move (v := (.bool (decide (a0.kind = 2)))) d194) <| L_nil <| stepEnd rfl rfl (Ext.refl w185) ⟨fun _ => rfl, fun h => absurd (b190.symm.trans h) (by decide)⟩
    · have d195 : s184 28 = (.bool (decide (20 < (a0.body.length : Int)))) := (hd188 16 rfl)
      have g196 : (decide (20 < (a0.body.length : Int))) = true := (not_ff b190)
      exact L_skip rfl rfl (ltb rfl) (d195.trans (congrArg Value.bool g196)) rfl rfl (ltb rfl) <| L_nil <| stepEnd rfl rfl (Ext.refl w185) ⟨fun h => absurd (b190.symm.trans h) (by decide), fun _ => rfl⟩
  · intro s197 w198 e199 hf200 hd201 hu202
    rcases bool_two (impl_RecordFault.e7 a0) with b203 | b203
    · have g204 : (decide (a0.kind = 2)) = true := (and_r b203)
      have d205 : s197 32 = (.bool (decide (a0.kind = 2))) := ((hd201 20 rfl).1 (not_mk (not_f (and_l b203))))
      have d206 : s197 32 = (.bool (decide (a0.kind = 2))) := ((hd201 20 rfl).1 (not_mk (not_f (and_l b203))))
      exact L_op (.guard 20 true 32 rfl rfl (ltb rfl) (d205.trans (congrArg Value.bool g204))) rfl (ltb rfl) (X_fieldAddr Tryd.underlying24 rfl Tryd.sizeOf9 rfl ((hf200 1 rfl).trans (K9 1 rfl))) <| L_nil <| stepEnd rfl rfl (Ext.refl w198) ⟨fun _ => rfl, fun h => absurd (b203.symm.trans h) (by decide)⟩
    · rcases bool_two (!(decide (20 < (a0.body.length : Int)))) with b207 | b207
      · have d208 : s197 32 = (.bool (decide (a0.kind = 2))) := ((hd201 20 rfl).1 (not_mk (not_f b207)))
        have g209 : (decide (a0.kind = 2)) = false := (and_fr b203 b207)
        exact L_skip rfl rfl (ltb rfl) (d208.trans (congrArg Value.bool g209)) rfl rfl (ltb rfl) <| L_nil <| stepEnd rfl rfl (Ext.refl w198) ⟨fun h => absurd (b203.symm.trans h) (by decide), fun _ => rfl⟩
      · exact L_skipU rfl rfl (ltb rfl) ((hd201 20 rfl).2 b207) rfl (ltb rfl) <| L_nil <| stepEnd rfl rfl (Ext.refl w198) ⟨fun h => absurd (b203.symm.trans h) (by decide), fun _ => rfl⟩
  · intro s210 w211 e212 hf213 hd214 hu215
    rcases bool_two (impl_RecordFault.e7 a0) with b216 | b216
    · have g217 : (decide (a0.kind = 2)) = true := (and_r b216)
      have d218 : s210 32 = (.bool (decide (a0.kind = 2))) := ((hd214 20 rfl).1 (not_mk (not_f (and_l b216))))
      have d219 : s210 32 = (.bool (decide (a0.kind = 2))) := ((hd214 20 rfl).1 (not_mk (not_f (and_l b216))))
      have d220 : s210 33 = (.pointer (some ⟨b1, 2, none⟩)) := ((hd214 21 rfl).1 (and_mk (not_mk (not_f (and_l b216))) (and_r b216)))
      exact L_op (.guard 20 true 32 rfl rfl (ltb rfl) (d218.trans (congrArg Value.bool g217))) rfl (ltb rfl) (X_loadB Tryd.isAgg9 (Blk.ext k6 (Ext.trans e11 e212)) d220 rfl) <| L_nil <| stepEnd rfl rfl (Ext.refl w211) ⟨fun _ => rfl, fun h => absurd (b216.symm.trans h) (by decide)⟩
    · rcases bool_two (!(decide (20 < (a0.body.length : Int)))) with b221 | b221
      · have d222 : s210 32 = (.bool (decide (a0.kind = 2))) := ((hd214 20 rfl).1 (not_mk (not_f b221)))
        have g223 : (decide (a0.kind = 2)) = false := (and_fr b216 b221)
        exact L_skip rfl rfl (ltb rfl) (d222.trans (congrArg Value.bool g223)) rfl rfl (ltb rfl) <| L_nil <| stepEnd rfl rfl (Ext.refl w211) ⟨fun h => absurd (b216.symm.trans h) (by decide), fun _ => rfl⟩
      · exact L_skipU rfl rfl (ltb rfl) ((hd214 20 rfl).2 b221) rfl (ltb rfl) <| L_nil <| stepEnd rfl rfl (Ext.refl w211) ⟨fun h => absurd (b216.symm.trans h) (by decide), fun _ => rfl⟩
  · intro s224 w225 e226 hf227 hd228 hu229
    rcases bool_two (impl_RecordFault.e7 a0) with b230 | b230
    · have g231 : (decide (a0.kind = 2)) = true := (and_r b230)
      have d232 : s224 32 = (.bool (decide (a0.kind = 2))) := ((hd228 20 rfl).1 (not_mk (not_f (and_l b230))))
      have d233 : s224 32 = (.bool (decide (a0.kind = 2))) := ((hd228 20 rfl).1 (not_mk (not_f (and_l b230))))
      have d234 : s224 34 = (S a0.body) := ((hd228 22 rfl).1 (and_mk (not_mk (not_f (and_l b230))) (and_r b230)))
      exact L_op (.guard 20 true 32 rfl rfl (ltb rfl) (d232.trans (congrArg Value.bool g231))) rfl (ltb rfl) (X_seq d234 rfl) <| L_nil <| stepEnd rfl rfl (Ext.refl w225) ⟨fun _ => rfl, fun h => absurd (b230.symm.trans h) (by decide)⟩
    · rcases bool_two (!(decide (20 < (a0.body.length : Int)))) with b235 | b235
      · have d236 : s224 32 = (.bool (decide (a0.kind = 2))) := ((hd228 20 rfl).1 (not_mk (not_f b235)))
        have g237 : (decide (a0.kind = 2)) = false := (and_fr b230 b235)
        exact L_skip rfl rfl (ltb rfl) (d236.trans (congrArg Value.bool g237)) rfl rfl (ltb rfl) <| L_nil <| stepEnd rfl rfl (Ext.refl w225) ⟨fun h => absurd (b230.symm.trans h) (by decide), fun _ => rfl⟩
      · exact L_skipU rfl rfl (ltb rfl) ((hd228 20 rfl).2 b235) rfl (ltb rfl) <| L_nil <| stepEnd rfl rfl (Ext.refl w225) ⟨fun h => absurd (b230.symm.trans h) (by decide), fun _ => rfl⟩
  · intro s238 w239 e240 hf241 hd242 hu243
    rcases bool_two (!(decide (20 < (a0.body.length : Int)))) with b244 | b244
    · have g245 : (decide (20 < (a0.body.length : Int))) = false := (not_f b244)
      have d246 : s238 28 = (.bool (decide (20 < (a0.body.length : Int)))) := (hd242 16 rfl)
      rcases bool_two (decide (a0.kind = 2)) with b247 | b247
      · have d248 : s238 32 = (.bool (decide (a0.kind = 2))) := ((hd242 20 rfl).1 (not_mk (not_f b244)))
        have d249 : s238 35 = (.bool (decide (a0.body = ([] : List UInt8)))) := ((hd242 23 rfl).1 (and_mk (not_mk (not_f b244)) b247))
        exact L_op (.guard 16 false 28 rfl rfl (ltb rfl) (d246.trans (congrArg Value.bool g245))) rfl (ltb rfl) (X_pick (b := true) (v := (.bool (decide (a0.body = ([] : List UInt8))))) (d248.trans (congrArg Value.bool b247)) d249) <| L_nil <| stepEnd rfl rfl (Ext.refl w239) ⟨fun _ => (and_t b247), fun h => absurd (b244.symm.trans h) (by decide)⟩
      · have d250 : s238 32 = (.bool (decide (a0.kind = 2))) := ((hd242 20 rfl).1 (not_mk (not_f b244)))
        exact L_op (.guard 16 false 28 rfl rfl (ltb rfl) (d246.trans (congrArg Value.bool g245))) rfl (ltb rfl) (X_pick (b := false) (v := (.bool false)) (d250.trans (congrArg Value.bool b247)) rfl) <| L_nil <| stepEnd rfl rfl (Ext.refl w239) ⟨fun _ => (and_f b247), fun h => absurd (b244.symm.trans h) (by decide)⟩
    · have d251 : s238 28 = (.bool (decide (20 < (a0.body.length : Int)))) := (hd242 16 rfl)
      have g252 : (decide (20 < (a0.body.length : Int))) = true := (not_ff b244)
      exact L_skip rfl rfl (ltb rfl) (d251.trans (congrArg Value.bool g252)) rfl rfl (ltb rfl) <| L_nil <| stepEnd rfl rfl (Ext.refl w239) ⟨fun h => absurd (b244.symm.trans h) (by decide), fun _ => rfl⟩
  · intro s253 w254 e255 hf256 hd257 hu258
    rcases bool_two (decide (20 < (a0.body.length : Int))) with b259 | b259
    · have d260 : s253 28 = (.bool (decide (20 < (a0.body.length : Int)))) := (hd257 16 rfl)
      exact L_op (.plain rfl) rfl (ltb rfl) (X_pick (b := true) (v := (.bool true)) (d260.trans (congrArg Value.bool b259)) rfl) <| L_nil <| stepEnd rfl rfl (Ext.refl w254) (or_t b259)
    · have d261 : s253 28 = (.bool (decide (20 < (a0.body.length : Int)))) := (hd257 16 rfl)
      have d262 : s253 36 = (.bool ((decide (a0.kind = 2)) && (decide (a0.body = ([] : List UInt8))))) := ((hd257 24 rfl).1 (not_mk b259))
      exact L_op (.plain rfl) rfl (ltb rfl) (X_pick (b := false) (v := (.bool ((decide (a0.kind = 2)) && (decide (a0.body = ([] : List UInt8)))))) (d261.trans (congrArg Value.bool b259)) d262) <| L_nil <| stepEnd rfl rfl (Ext.refl w254) (or_f b259)
  · intro s263 w264 e265 hf266 hd267 hu268
    have d269 : s263 37 = (.bool (impl_RecordFault.e5 a0)) := (hd267 25 rfl)
    exact L_op (.plain rfl) rfl (ltb rfl) (X_mkiface Tryd.underlying4 rfl d269) <| L_nil <| stepEnd rfl rfl (Ext.refl w264) rfl
  · intro s270 w271 e272 hf273 hd274 hu275
    exact L_op (.plain rfl) rfl (ltb rfl) (X_mkiface Tryd.underlying3 rfl rfl) <| L_nil <| stepEnd rfl rfl (Ext.refl w271) rfl
  · intro s276 w277 e278 hf279 hd280 hu281
    exact L_op (.plain rfl) rfl (ltb rfl) (X_move (v := (.bool (impl_RecordFault.e4 a0))) (hf279 3 rfl)) <| L_nil <| stepEnd rfl rfl (Ext.refl w277) rfl
  · intro s282 w283 e284 hf285 hd286 hu287
    have d288 : s282 40 = (.bool (impl_RecordFault.e4 a0)) := (hd286 28 rfl)
    exact L_op (.plain rfl) rfl (ltb rfl) (X_move (v := (.bool (impl_RecordFault.e4 a0))) d288) <| L_nil <| stepEnd rfl rfl (Ext.refl w283) rfl
  · intro s289 w290 e291 hf292 hd293 hu294
    rcases bool_two (impl_RecordFault.e4 a0) with b295 | b295
    · have g296 : (impl_RecordFault.e4 a0) = true := b295
      have d297 : s289 41 = (.bool (impl_RecordFault.e4 a0)) := (hd293 29 rfl)
      have d298 : s289 41 = (.bool (impl_RecordFault.e4 a0)) := (hd293 29 rfl)
      exact L_op (.guard 29 true 41 rfl rfl (ltb rfl) (d297.trans (congrArg Value.bool g296))) rfl (ltb rfl) (X_fieldAddr Tryd.underlying24 rfl Tryd.sizeOf9 rfl ((hf292 1 rfl).trans (K9 1 rfl))) <| L_nil <| stepEnd rfl rfl (Ext.refl w290) ⟨fun _ => rfl, fun h => absurd (b295.symm.trans h) (by decide)⟩
    · have d299 : s289 41 = (.bool (impl_RecordFault.e4 a0)) := (hd293 29 rfl)
      have g300 : (impl_RecordFault.e4 a0) = false := b295
      exact L_skip rfl rfl (ltb rfl) (d299.trans (congrArg Value.bool g300)) rfl rfl (ltb rfl) <| L_nil <| stepEnd rfl rfl (Ext.refl w290) ⟨fun h => absurd (b295.symm.trans h) (by decide), fun _ => rfl⟩
  · intro s301 w302 e303 hf304 hd305 hu306
    rcases bool_two (impl_RecordFault.e4 a0) with b307 | b307
    · have g308 : (impl_RecordFault.e4 a0) = true := b307
      have d309 : s301 41 = (.bool (impl_RecordFault.e4 a0)) := (hd305 29 rfl)
      have d310 : s301 41 = (.bool (impl_RecordFault.e4 a0)) := (hd305 29 rfl)
      have d311 : s301 42 = (.pointer (some ⟨b1, 2, none⟩)) := ((hd305 30 rfl).1 b307)
      exact L_op (.guard 29 true 41 rfl rfl (ltb rfl) (d309.trans (congrArg Value.bool g308))) rfl (ltb rfl) (X_loadB Tryd.isAgg9 (Blk.ext k6 (Ext.trans e11 e303)) d311 rfl) <| L_nil <| stepEnd rfl rfl (Ext.refl w302) ⟨fun _ => rfl, fun h => absurd (b307.symm.trans h) (by decide)⟩
    · have d312 : s301 41 = (.bool (impl_RecordFault.e4 a0)) := (hd305 29 rfl)
      have g313 : (impl_RecordFault.e4 a0) = false := b307
      exact L_skip rfl rfl (ltb rfl) (d312.trans (congrArg Value.bool g313)) rfl rfl (ltb rfl) <| L_nil <| stepEnd rfl rfl (Ext.refl w302) ⟨fun h => absurd (b307.symm.trans h) (by decide), fun _ => rfl⟩
  · intro s314 w315 e316 hf317 hd318 hu319
    rcases bool_two (impl_RecordFault.e4 a0) with b320 | b320
    · have g321 : (impl_RecordFault.e4 a0) = true := b320
      have d322 : s314 41 = (.bool (impl_RecordFault.e4 a0)) := (hd318 29 rfl)
      have d323 : s314 41 = (.bool (impl_RecordFault.e4 a0)) := (hd318 29 rfl)
      have d324 : s314 43 = (S a0.body) := ((hd318 31 rfl).1 b320)
      exact L_op (.guard 29 true 41 rfl rfl (ltb rfl) (d322.trans (congrArg Value.bool g321))) rfl (ltb rfl) (X_sne d324 rfl) <| L_nil <| stepEnd rfl rfl (Ext.refl w315) ⟨fun _ => rfl, fun h => absurd (b320.symm.trans h) (by decide)⟩
    · have d325 : s314 41 = (.bool (impl_RecordFault.e4 a0)) := (hd318 29 rfl)
      have g326 : (impl_RecordFault.e4 a0) = false := b320
      exact L_skip rfl rfl (ltb rfl) (d325.trans (congrArg Value.bool g326)) rfl rfl (ltb rfl) <| L_nil <| stepEnd rfl rfl (Ext.refl w315) ⟨fun h => absurd (b320.symm.trans h) (by decide), fun _ => rfl⟩
  · intro s327 w328 e329 hf330 hd331 hu332
    rcases bool_two (impl_RecordFault.e4 a0) with b333 | b333
    · have d334 : s327 41 = (.bool (impl_RecordFault.e4 a0)) := (hd331 29 rfl)
      have d335 : s327 44 = (.bool (!decide (a0.body = ([] : List UInt8)))) := ((hd331 32 rfl).1 b333)
      exact L_op (.plain rfl) rfl (ltb rfl) (X_pick (b := true) (v := (.bool (!decide (a0.body = ([] : List UInt8))))) (d334.trans (congrArg Value.bool b333)) d335) <| L_nil <| stepEnd rfl rfl (Ext.refl w328) (and_t b333)
    · have d336 : s327 41 = (.bool (impl_RecordFault.e4 a0)) := (hd331 29 rfl)
      exact L_op (.plain rfl) rfl (ltb rfl) (X_pick (b := false) (v := (.bool false)) (d336.trans (congrArg Value.bool b333)) rfl) <| L_nil <| stepEnd rfl rfl (Ext.refl w328) (and_f b333)
  · intro s337 w338 e339 hf340 hd341 hu342
    have d343 : s337 45 = (.bool (impl_RecordFault.e1 a0)) := (hd341 33 rfl)
    exact L_op (.plain rfl) rfl (ltb rfl) (X_move d343) <| L_nil <| stepEnd rfl rfl (Ext.refl w338) rfl
  · intro s344 w345 e346 hf347 hd348 hu349
    rcases bool_two (!(impl_RecordFault.e1 a0)) with b350 | b350
    · have g351 : (impl_RecordFault.e1 a0) = false := (not_f b350)
      have d352 : s344 46 = (.bool (impl_RecordFault.e1 a0)) := (hd348 34 rfl)
      have d353 : s344 46 = (.bool (impl_RecordFault.e1 a0)) := (hd348 34 rfl)
      exact L_op (.guard 34 false 46 rfl rfl (ltb rfl) (d352.trans (congrArg Value.bool g351))) rfl (ltb rfl) (X_fieldAddr Tryd.underlying24 rfl Tryd.sizeOf3 rfl ((hf347 1 rfl).trans (K9 1 rfl))) <| L_nil <| stepEnd rfl rfl (Ext.refl w345) ⟨fun _ => rfl, fun h => absurd (b350.symm.trans h) (by decide)⟩
    · have d354 : s344 46 = (.bool (impl_RecordFault.e1 a0)) := (hd348 34 rfl)
      have g355 : (impl_RecordFault.e1 a0) = true := (not_ff b350)
      exact L_skip rfl rfl (ltb rfl) (d354.trans (congrArg Value.bool g355)) rfl rfl (ltb rfl) <| L_nil <| stepEnd rfl rfl (Ext.refl w345) ⟨fun h => absurd (b350.symm.trans h) (by decide), fun _ => rfl⟩
  · intro s356 w357 e358 hf359 hd360 hu361
    rcases bool_two (!(impl_RecordFault.e1 a0)) with b362 | b362
    · have g363 : (impl_RecordFault.e1 a0) = false := (not_f b362)
      have d364 : s356 46 = (.bool (impl_RecordFault.e1 a0)) := (hd360 34 rfl)
      have d365 : s356 46 = (.bool (impl_RecordFault.e1 a0)) := (hd360 34 rfl)
      have d366 : s356 47 = (.pointer (some ⟨b1, 0, none⟩)) := ((hd360 35 rfl).1 (not_mk (not_f b362)))
      exact L_op (.guard 34 false 46 rfl rfl (ltb rfl) (d364.trans (congrArg Value.bool g363))) rfl (ltb rfl) (X_loadB Tryd.isAgg3 (Blk.ext k6 (Ext.trans e11 e358)) d366 rfl) <| L_nil <| stepEnd rfl rfl (Ext.refl w357) ⟨fun _ => rfl, fun h => absurd (b362.symm.trans h) (by decide)⟩
    · have d367 : s356 46 = (.bool (impl_RecordFault.e1 a0)) := (hd360 34 rfl)
      have g368 : (impl_RecordFault.e1 a0) = true := (not_ff b362)
      exact L_skip rfl rfl (ltb rfl) (d367.trans (congrArg Value.bool g368)) rfl rfl (ltb rfl) <| L_nil <| stepEnd rfl rfl (Ext.refl w357) ⟨fun h => absurd (b362.symm.trans h) (by decide), fun _ => rfl⟩
  · intro s369 w370 e371 hf372 hd373 hu374
    rcases bool_two (!(impl_RecordFault.e1 a0)) with b375 | b375
    · have g376 : (impl_RecordFault.e1 a0) = false := (not_f b375)
      have d377 : s369 46 = (.bool (impl_RecordFault.e1 a0)) := (hd373 34 rfl)
      have d378 : s369 46 = (.bool (impl_RecordFault.e1 a0)) := (hd373 34 rfl)
      have d379 : s369 48 = (.int .i64 a0.kind) := ((hd373 36 rfl).1 (not_mk (not_f b375)))
      exact L_op (.guard 34 false 46 rfl rfl (ltb rfl) (d377.trans (congrArg Value.bool g376))) rfl (ltb rfl) (X_neq d379 rfl) <| L_nil <| stepEnd rfl rfl (Ext.refl w370) ⟨fun _ => rfl, fun h => absurd (b375.symm.trans h) (by decide)⟩
    · have d380 : s369 46 = (.bool (impl_RecordFault.e1 a0)) := (hd373 34 rfl)
      have g381 : (impl_RecordFault.e1 a0) = true := (not_ff b375)
      exact L_skip rfl rfl (ltb rfl) (d380.trans (congrArg Value.bool g381)) rfl rfl (ltb rfl) <| L_nil <| stepEnd rfl rfl (Ext.refl w370) ⟨fun h => absurd (b375.symm.trans h) (by decide), fun _ => rfl⟩
  · intro s382 w383 e384 hf385 hd386 hu387
    rcases bool_two (!(impl_RecordFault.e1 a0)) with b388 | b388
    · have g389 : (impl_RecordFault.e1 a0) = false := (not_f b388)
      have d390 : s382 46 = (.bool (impl_RecordFault.e1 a0)) := (hd386 34 rfl)
      have d391 : s382 46 = (.bool (impl_RecordFault.e1 a0)) := (hd386 34 rfl)
      have d392 : s382 49 = (.bool (!decide (a0.kind = 3))) := ((hd386 37 rfl).1 (not_mk (not_f b388)))
      exact L_op (.guard 34 false 46 rfl rfl (ltb rfl) (d390.trans (congrArg Value.bool g389))) rfl (ltb rfl) (X_move (v := (.bool (!decide (a0.kind = 3)))) d392) <| L_nil <| stepEnd rfl rfl (Ext.refl w383) ⟨fun _ => rfl, fun h => absurd (b388.symm.trans h) (by decide)⟩
    · have d393 : s382 46 = (.bool (impl_RecordFault.e1 a0)) := (hd386 34 rfl)
      have g394 : (impl_RecordFault.e1 a0) = true := (not_ff b388)
      exact L_skip rfl rfl (ltb rfl) (d393.trans (congrArg Value.bool g394)) rfl rfl (ltb rfl) <| L_nil <| stepEnd rfl rfl (Ext.refl w383) ⟨fun h => absurd (b388.symm.trans h) (by decide), fun _ => rfl⟩
  · intro s395 w396 e397 hf398 hd399 hu400
    rcases bool_two ((!(impl_RecordFault.e1 a0)) && (!decide (a0.kind = 3))) with b401 | b401
    · have g402 : (!decide (a0.kind = 3)) = true := (and_r b401)
      have d403 : s395 50 = (.bool (!decide (a0.kind = 3))) := ((hd399 38 rfl).1 (not_mk (not_f (and_l b401))))
      have d404 : s395 50 = (.bool (!decide (a0.kind = 3))) := ((hd399 38 rfl).1 (not_mk (not_f (and_l b401))))
      exact L_op (.guard 38 true 50 rfl rfl (ltb rfl) (d403.trans (congrArg Value.bool g402))) rfl (ltb rfl) (X_fieldAddr Tryd.underlying24 rfl Tryd.sizeOf4 rfl ((hf398 1 rfl).trans (K9 1 rfl))) <| L_nil <| stepEnd rfl rfl (Ext.refl w396) ⟨fun _ => rfl, fun h => absurd (b401.symm.trans h) (by decide)⟩
    · rcases bool_two (!(impl_RecordFault.e1 a0)) with b405 | b405
      · have d406 : s395 50 = (.bool (!decide (a0.kind = 3))) := ((hd399 38 rfl).1 (not_mk (not_f b405)))
        have g407 : (!decide (a0.kind = 3)) = false := (and_fr b401 b405)
        exact L_skip rfl rfl (ltb rfl) (d406.trans (congrArg Value.bool g407)) rfl rfl (ltb rfl) <| L_nil <| stepEnd rfl rfl (Ext.refl w396) ⟨fun h => absurd (b401.symm.trans h) (by decide), fun _ => rfl⟩
      · exact L_skipU rfl rfl (ltb rfl) ((hd399 38 rfl).2 b405) rfl (ltb rfl) <| L_nil <| stepEnd rfl rfl (Ext.refl w396) ⟨fun h => absurd (b401.symm.trans h) (by decide), fun _ => rfl⟩
  · intro s408 w409 e410 hf411 hd412 hu413
    rcases bool_two ((!(impl_RecordFault.e1 a0)) && (!decide (a0.kind = 3))) with b414 | b414
    · have g415 : (!decide (a0.kind = 3)) = true := (and_r b414)
      have d416 : s408 50 = (.bool (!decide (a0.kind = 3))) := ((hd412 38 rfl).1 (not_mk (not_f (and_l b414))))
      have d417 : s408 50 = (.bool (!decide (a0.kind = 3))) := ((hd412 38 rfl).1 (not_mk (not_f (and_l b414))))
      have d418 : s408 51 = (.pointer (some ⟨b1, 4, none⟩)) := ((hd412 39 rfl).1 (and_mk (not_mk (not_f (and_l b414))) (and_r b414)))
      exact L_op (.guard 38 true 50 rfl rfl (ltb rfl) (d416.trans (congrArg Value.bool g415))) rfl (ltb rfl) (X_loadB Tryd.isAgg4 (Blk.ext k6 (Ext.trans e11 e410)) d418 rfl) <| L_nil <| stepEnd rfl rfl (Ext.refl w409) ⟨fun _ => rfl, fun h => absurd (b414.symm.trans h) (by decide)⟩
    · rcases bool_two (!(impl_RecordFault.e1 a0)) with b419 | b419
      · have d420 : s408 50 = (.bool (!decide (a0.kind = 3))) := ((hd412 38 rfl).1 (not_mk (not_f b419)))
        have g421 : (!decide (a0.kind = 3)) = false := (and_fr b414 b419)
        exact L_skip rfl rfl (ltb rfl) (d420.trans (congrArg Value.bool g421)) rfl rfl (ltb rfl) <| L_nil <| stepEnd rfl rfl (Ext.refl w409) ⟨fun h => absurd (b414.symm.trans h) (by decide), fun _ => rfl⟩
      · exact L_skipU rfl rfl (ltb rfl) ((hd412 38 rfl).2 b419) rfl (ltb rfl) <| L_nil <| stepEnd rfl rfl (Ext.refl w409) ⟨fun h => absurd (b414.symm.trans h) (by decide), fun _ => rfl⟩
  · intro s422 w423 e424 hf425 hd426 hu427
    rcases bool_two (!(impl_RecordFault.e1 a0)) with b428 | b428
    · have g429 : (impl_RecordFault.e1 a0) = false := (not_f b428)
      have d430 : s422 46 = (.bool (impl_RecordFault.e1 a0)) := (hd426 34 rfl)
      rcases bool_two (!decide (a0.kind = 3)) with b431 | b431
      · have d432 : s422 50 = (.bool (!decide (a0.kind = 3))) := ((hd426 38 rfl).1 (not_mk (not_f b428)))
        have d433 : s422 52 = (.bool a0.opq) := ((hd426 40 rfl).1 (and_mk (not_mk (not_f b428)) b431))
        exact L_op (.guard 34 false 46 rfl rfl (ltb rfl) (d430.trans (congrArg Value.bool g429))) rfl (ltb rfl) (X_pick (b := true) (v := (.bool a0.opq)) (d432.trans (congrArg Value.bool b431)) d433) <| L_nil <| stepEnd rfl rfl (Ext.refl w423) ⟨fun _ => (and_t b431), fun h => absurd (b428.symm.trans h) (by decide)⟩
      · have d434 : s422 50 = (.bool (!decide (a0.kind = 3))) := ((hd426 38 rfl).1 (not_mk (not_f b428)))
        exact L_op (.guard 34 false 46 rfl rfl (ltb rfl) (d430.trans (congrArg Value.bool g429))) rfl (ltb rfl) (X_pick (b := false) (v := (.bool false)) (d434.trans (congrArg Value.bool b431)) rfl) <| L_nil <| stepEnd rfl rfl (Ext.refl w423) ⟨fun _ => (and_f b431), fun h => absurd (b428.symm.trans h) (by decide)⟩
    · have d435 : s422 46 = (.bool (impl_RecordFault.e1 a0)) := (hd426 34 rfl)
      have g436 : (impl_RecordFault.e1 a0) = true := (not_ff b428)
      exact L_skip rfl rfl (ltb rfl) (d435.trans (congrArg Value.bool g436)) rfl rfl (ltb rfl) <| L_nil <| stepEnd rfl rfl (Ext.refl w423) ⟨fun h => absurd (b428.symm.trans h) (by decide), fun _ => rfl⟩
  · intro s437 w438 e439 hf440 hd441 hu442
    rcases bool_two (impl_RecordFault.e1 a0) with b443 | b443
    · have d444 : s437 46 = (.bool (impl_RecordFault.e1 a0)) := (hd441 34 rfl)
      exact L_op (.plain rfl) rfl (ltb rfl) (X_pick (b := true) (v := (.bool true)) (d444.trans (congrArg Value.bool b443)) rfl) <| L_nil <| stepEnd rfl rfl (Ext.refl w438) (or_t b443)
    · have d445 : s437 46 = (.bool (impl_RecordFault.e1 a0)) := (hd441 34 rfl)
      have d446 : s437 53 = (.bool ((!decide (a0.kind = 3)) && a0.opq)) := ((hd441 41 rfl).1 (not_mk b443))
      exact L_op (.plain rfl) rfl (ltb rfl) (X_pick (b := false) (v := (.bool ((!decide (a0.kind = 3)) && a0.opq))) (d445.trans (congrArg Value.bool b443)) d446) <| L_nil <| stepEnd rfl rfl (Ext.refl w438) (or_f b443)
  · intro s447 w448 e449 hf450 hd451 hu452
    have d453 : s447 54 = (.bool ((impl_RecordFault.e1 a0) || ((!decide (a0.kind = 3)) && a0.opq))) := (hd451 42 rfl)
    exact L_op (.plain rfl) rfl (ltb rfl) (X_mkiface Tryd.underlying4 rfl d453) <| L_nil <| stepEnd rfl rfl (Ext.refl w448) rfl
  · intro s454 w455 e456 hf457 hd458 hu459
    exact L_op (.plain rfl) rfl (ltb rfl) (X_mkiface Tryd.underlying3 rfl rfl) <| L_nil <| stepEnd rfl rfl (Ext.refl w455) rfl
  · intro s460 w461 e462 hf463 hd464 hu465
    exact L_op (.plain rfl) rfl (ltb rfl) (X_fieldAddr Tryd.underlying24 rfl Tryd.sizeOf3 rfl ((hf463 1 rfl).trans (K9 1 rfl))) <| L_nil <| stepEnd rfl rfl (Ext.refl w461) rfl
  · intro s466 w467 e468 hf469 hd470 hu471
    have d472 : s466 57 = (.pointer (some ⟨b1, 3, none⟩)) := (hd470 45 rfl)
    exact L_op (.plain rfl) rfl (ltb rfl) (X_loadB Tryd.isAgg3 (Blk.ext k6 (Ext.trans e11 e468)) d472 rfl) <| L_nil <| stepEnd rfl rfl (Ext.refl w467) rfl
  · intro s473 w474 e475 hf476 hd477 hu478
    have d479 : s473 58 = (.int .i64 a0.mode) := (hd477 46 rfl)
    exact L_callP (.plain rfl) rfl (ltb rfl) rfl Tryd.call42 (impl_within.calls (w := w474) (a0 := a0.mode) (a1 := 0) (a2 := 511)) (cons2 d479 (cons2 rfl (cons2 rfl rfl))) <| fun w480 e481 => L_nil <| stepEnd rfl rfl e481 rfl
  · intro s482 w483 e484 hf485 hd486 hu487
    have d488 : s482 59 = (.bool (within a0.mode 0 511)) := (hd486 47 rfl)
    exact L_op (.plain rfl) rfl (ltb rfl) (X_not d488) <| L_nil <| stepEnd rfl rfl (Ext.refl w483) rfl
  · intro s489 w490 e491 hf492 hd493 hu494
    have d495 : s489 60 = (.bool (!(within a0.mode 0 511))) := (hd493 48 rfl)
    exact L_op (.plain rfl) rfl (ltb rfl) (X_move (v := (.bool (!(within a0.mode 0 511)))) d495) <| L_nil <| stepEnd rfl rfl (Ext.refl w490) rfl
  · intro s496 w497 e498 hf499 hd500 hu501
    rcases bool_two (!(!(within a0.mode 0 511))) with b502 | b502
    · have g503 : (!(within a0.mode 0 511)) = false := (not_f b502)
      have d504 : s496 61 = (.bool (!(within a0.mode 0 511))) := (hd500 49 rfl)
      have d505 : s496 61 = (.bool (!(within a0.mode 0 511))) := (hd500 49 rfl)
      exact L_op (.guard 49 false 61 rfl rfl (ltb rfl) (d504.trans (congrArg Value.bool g503))) rfl (ltb rfl) (X_fieldAddr Tryd.underlying24 rfl Tryd.sizeOf3 rfl ((hf499 1 rfl).trans (K9 1 rfl))) <| L_nil <| stepEnd rfl rfl (Ext.refl w497) ⟨fun _ => rfl, fun h => absurd (b502.symm.trans h) (by decide)⟩
    · have d506 : s496 61 = (.bool (!(within a0.mode 0 511))) := (hd500 49 rfl)
      have g507 : (!(within a0.mode 0 511)) = true := (not_ff b502)
      exact L_skip rfl rfl (ltb rfl) (d506.trans (congrArg Value.bool g507)) rfl rfl (ltb rfl) <| L_nil <| stepEnd rfl rfl (Ext.refl w497) ⟨fun h => absurd (b502.symm.trans h) (by decide), fun _ => rfl⟩
  · intro s508 w509 e510 hf511 hd512 hu513
    rcases bool_two (!(!(within a0.mode 0 511))) with b514 | b514
    · have g515 : (!(within a0.mode 0 511)) = false := (not_f b514)
      have d516 : s508 61 = (.bool (!(within a0.mode 0 511))) := (hd512 49 rfl)
      have d517 : s508 61 = (.bool (!(within a0.mode 0 511))) := (hd512 49 rfl)
      have d518 : s508 62 = (.pointer (some ⟨b1, 0, none⟩)) := ((hd512 50 rfl).1 (not_mk (not_f b514)))
      exact L_op (.guard 49 false 61 rfl rfl (ltb rfl) (d516.trans (congrArg Value.bool g515))) rfl (ltb rfl) (X_loadB Tryd.isAgg3 (Blk.ext k6 (Ext.trans e11 e510)) d518 rfl) <| L_nil <| stepEnd rfl rfl (Ext.refl w509) ⟨fun _ => rfl, fun h => absurd (b514.symm.trans h) (by decide)⟩
    · have d519 : s508 61 = (.bool (!(within a0.mode 0 511))) := (hd512 49 rfl)
      have g520 : (!(within a0.mode 0 511)) = true := (not_ff b514)
      exact L_skip rfl rfl (ltb rfl) (d519.trans (congrArg Value.bool g520)) rfl rfl (ltb rfl) <| L_nil <| stepEnd rfl rfl (Ext.refl w509) ⟨fun h => absurd (b514.symm.trans h) (by decide), fun _ => rfl⟩
  · intro s521 w522 e523 hf524 hd525 hu526
    rcases bool_two (!(!(within a0.mode 0 511))) with b527 | b527
    · have g528 : (!(within a0.mode 0 511)) = false := (not_f b527)
      have d529 : s521 61 = (.bool (!(within a0.mode 0 511))) := (hd525 49 rfl)
      have d530 : s521 61 = (.bool (!(within a0.mode 0 511))) := (hd525 49 rfl)
      have d531 : s521 63 = (.int .i64 a0.kind) := ((hd525 51 rfl).1 (not_mk (not_f b527)))
      exact L_op (.guard 49 false 61 rfl rfl (ltb rfl) (d529.trans (congrArg Value.bool g528))) rfl (ltb rfl) (X_eql d531 rfl) <| L_nil <| stepEnd rfl rfl (Ext.refl w522) ⟨fun _ => rfl, fun h => absurd (b527.symm.trans h) (by decide)⟩
    · have d532 : s521 61 = (.bool (!(within a0.mode 0 511))) := (hd525 49 rfl)
      have g533 : (!(within a0.mode 0 511)) = true := (not_ff b527)
      exact L_skip rfl rfl (ltb rfl) (d532.trans (congrArg Value.bool g533)) rfl rfl (ltb rfl) <| L_nil <| stepEnd rfl rfl (Ext.refl w522) ⟨fun h => absurd (b527.symm.trans h) (by decide), fun _ => rfl⟩
  · intro s534 w535 e536 hf537 hd538 hu539
    rcases bool_two (!(!(within a0.mode 0 511))) with b540 | b540
    · have g541 : (!(within a0.mode 0 511)) = false := (not_f b540)
      have d542 : s534 61 = (.bool (!(within a0.mode 0 511))) := (hd538 49 rfl)
      have d543 : s534 61 = (.bool (!(within a0.mode 0 511))) := (hd538 49 rfl)
      have d544 : s534 64 = (.bool (decide (a0.kind = 2))) := ((hd538 52 rfl).1 (not_mk (not_f b540)))
      exact L_op (.guard 49 false 61 rfl rfl (ltb rfl) (d542.trans (congrArg Value.bool g541))) rfl (ltb rfl) (X_move (v := (.bool (decide (a0.kind = 2)))) d544) <| L_nil <| stepEnd rfl rfl (Ext.refl w535) ⟨fun _ => rfl, fun h => absurd (b540.symm.trans h) (by decide)⟩
    · have d545 : s534 61 = (.bool (!(within a0.mode 0 511))) := (hd538 49 rfl)
      have g546 : (!(within a0.mode 0 511)) = true := (not_ff b540)
      exact L_skip rfl rfl (ltb rfl) (d545.trans (congrArg Value.bool g546)) rfl rfl (ltb rfl) <| L_nil <| stepEnd rfl rfl (Ext.refl w535) ⟨fun h => absurd (b540.symm.trans h) (by decide), fun _ => rfl⟩
  · intro s547 w548 e549 hf550 hd551 hu552
    rcases bool_two ((!(!(within a0.mode 0 511))) && (!(decide (a0.kind = 2)))) with b553 | b553
    · have g554 : (decide (a0.kind = 2)) = false := (not_f (and_r b553))
      have d555 : s547 65 = (.bool (decide (a0.kind = 2))) := ((hd551 53 rfl).1 (not_mk (not_f (and_l b553))))
      have d556 : s547 65 = (.bool (decide (a0.kind = 2))) := ((hd551 53 rfl).1 (not_mk (not_f (and_l b553))))
      exact L_op (.guard 53 false 65 rfl rfl (ltb rfl) (d555.trans (congrArg Value.bool g554))) rfl (ltb rfl) (X_fieldAddr Tryd.underlying24 rfl Tryd.sizeOf3 rfl ((hf550 1 rfl).trans (K9 1 rfl))) <| L_nil <| stepEnd rfl rfl (Ext.refl w548) ⟨fun _ => rfl, fun h => absurd (b553.symm.trans h) (by decide)⟩
    · rcases bool_two (!(!(within a0.mode 0 511))) with b557 | b557
      · have d558 : s547 65 = (.bool (decide (a0.kind = 2))) := ((hd551 53 rfl).1 (not_mk (not_f b557)))
        have g559 : (decide (a0.kind = 2)) = true := (not_ff (and_fr b553 b557))
        exact L_skip rfl rfl (ltb rfl) (d558.trans (congrArg Value.bool g559)) rfl rfl (ltb rfl) <| L_nil <| stepEnd rfl rfl (Ext.refl w548) ⟨fun h => absurd (b553.symm.trans h) (by decide), fun _ => rfl⟩
      · exact L_skipU rfl rfl (ltb rfl) ((hd551 53 rfl).2 b557) rfl (ltb rfl) <| L_nil <| stepEnd rfl rfl (Ext.refl w548) ⟨fun h => absurd (b553.symm.trans h) (by decide), fun _ => rfl⟩
  · intro s560 w561 e562 hf563 hd564 hu565
    rcases bool_two ((!(!(within a0.mode 0 511))) && (!(decide (a0.kind = 2)))) with b566 | b566
    · have g567 : (decide (a0.kind = 2)) = false := (not_f (and_r b566))
      have d568 : s560 65 = (.bool (decide (a0.kind = 2))) := ((hd564 53 rfl).1 (not_mk (not_f (and_l b566))))
      have d569 : s560 65 = (.bool (decide (a0.kind = 2))) := ((hd564 53 rfl).1 (not_mk (not_f (and_l b566))))
      have d570 : s560 66 = (.pointer (some ⟨b1, 0, none⟩)) := ((hd564 54 rfl).1 (and_mk (not_mk (not_f (and_l b566))) (not_mk (not_f (and_r b566)))))
      exact L_op (.guard 53 false 65 rfl rfl (ltb rfl) (d568.trans (congrArg Value.bool g567))) rfl (ltb rfl) (X_loadB Tryd.isAgg3 (Blk.ext k6 (Ext.trans e11 e562)) d570 rfl) <| L_nil <| stepEnd rfl rfl (Ext.refl w561) ⟨fun _ => rfl, fun h => absurd (b566.symm.trans h) (by decide)⟩
    · rcases bool_two (!(!(within a0.mode 0 511))) with b571 | b571
      · have d572 : s560 65 = (.bool (decide (a0.kind = 2))) := ((hd564 53 rfl).1 (not_mk (not_f b571)))
        have g573 : (decide (a0.kind = 2)) = true := (not_ff (and_fr b566 b571))
        exact L_skip rfl rfl (ltb rfl) (d572.trans (congrArg Value.bool g573)) rfl rfl (ltb rfl) <| L_nil <| stepEnd rfl rfl (Ext.refl w561) ⟨fun h => absurd (b566.symm.trans h) (by decide), fun _ => rfl⟩
      · exact L_skipU rfl rfl (ltb rfl) ((hd564 53 rfl).2 b571) rfl (ltb rfl) <| L_nil <| stepEnd rfl rfl (Ext.refl w561) ⟨fun h => absurd (b566.symm.trans h) (by decide), fun _ => rfl⟩
  · intro s574 w575 e576 hf577 hd578 hu579
    rcases bool_two ((!(!(within a0.mode 0 511))) && (!(decide (a0.kind = 2)))) with b580 | b580
    · have g581 : (decide (a0.kind = 2)) = false := (not_f (and_r b580))
      have d582 : s574 65 = (.bool (decide (a0.kind = 2))) := ((hd578 53 rfl).1 (not_mk (not_f (and_l b580))))
      have d583 : s574 65 = (.bool (decide (a0.kind = 2))) := ((hd578 53 rfl).1 (not_mk (not_f (and_l b580))))
      have d584 : s574 67 = (.int .i64 a0.kind) := ((hd578 55 rfl).1 (and_mk (not_mk (not_f (and_l b580))) (not_mk (not_f (and_r b580)))))
      exact L_op (.guard 53 false 65 rfl rfl (ltb rfl) (d582.trans (congrArg Value.bool g581))) rfl (ltb rfl) (X_eql d584 rfl) <| L_nil <| stepEnd rfl rfl (Ext.refl w575) ⟨fun _ => rfl, fun h => absurd (b580.symm.trans h) (by decide)⟩
    · rcases bool_two (!(!(within a0.mode 0 511))) with b585 | b585
      · have d586 : s574 65 = (.bool (decide (a0.kind = 2))) := ((hd578 53 rfl).1 (not_mk (not_f b585)))
        have g587 : (decide (a0.kind = 2)) = true := (not_ff (and_fr b580 b585))
        exact L_skip rfl rfl (ltb rfl) (d586.trans (congrArg Value.bool g587)) rfl rfl (ltb rfl) <| L_nil <| stepEnd rfl rfl (Ext.refl w575) ⟨fun h => absurd (b580.symm.trans h) (by decide), fun _ => rfl⟩
      · exact L_skipU rfl rfl (ltb rfl) ((hd578 53 rfl).2 b585) rfl (ltb rfl) <| L_nil <| stepEnd rfl rfl (Ext.refl w575) ⟨fun h => absurd (b580.symm.trans h) (by decide), fun _ => rfl⟩
  · intro s588 w589 e590 hf591 hd592 hu593
    rcases bool_two (!(!(within a0.mode 0 511))) with b594 | b594
    · have g595 : (!(within a0.mode 0 511)) = false := (not_f b594)
      have d596 : s588 61 = (.bool (!(within a0.mode 0 511))) := (hd592 49 rfl)
      rcases bool_two (decide (a0.kind = 2)) with b597 | b597
      · have d598 : s588 65 = (.bool (decide (a0.kind = 2))) := ((hd592 53 rfl).1 (not_mk (not_f b594)))
        exact L_op (.guard 49 false 61 rfl rfl (ltb rfl) (d596.trans (congrArg Value.bool g595))) rfl (ltb rfl) (X_pick (b := true) (v := (.bool true)) (d598.trans (congrArg Value.bool b597)) rfl) <| L_nil <| stepEnd rfl rfl (Ext.refl w589) ⟨fun _ => (or_t b597), fun h => absurd (b594.symm.trans h) (by decide)⟩
      · have d599 : s588 65 = (.bool (decide (a0.kind = 2))) := ((hd592 53 rfl).1 (not_mk (not_f b594)))
        have d600 : s588 68 = (.bool (decide (a0.kind = 4))) := ((hd592 56 rfl).1 (and_mk (not_mk (not_f b594)) (not_mk b597)))
        exact L_op (.guard 49 false 61 rfl rfl (ltb rfl) (d596.trans (congrArg Value.bool g595))) rfl (ltb rfl) (X_pick (b := false) (v := (.bool (decide (a0.kind = 4)))) (d599.trans (congrArg Value.bool b597)) d600) <| L_nil <| stepEnd rfl rfl (Ext.refl w589) ⟨fun _ => (or_f b597), fun h => absurd (b594.symm.trans h) (by decide)⟩
    · have d601 : s588 61 = (.bool (!(within a0.mode 0 511))) := (hd592 49 rfl)
      have g602 : (!(within a0.mode 0 511)) = true := (not_ff b594)
      exact L_skip rfl rfl (ltb rfl) (d601.trans (congrArg Value.bool g602)) rfl rfl (ltb rfl) <| L_nil <| stepEnd rfl rfl (Ext.refl w589) ⟨fun h => absurd (b594.symm.trans h) (by decide), fun _ => rfl⟩
  · intro s603 w604 e605 hf606 hd607 hu608
    rcases bool_two (!(!(within a0.mode 0 511))) with b609 | b609
    · have g610 : (!(within a0.mode 0 511)) = false := (not_f b609)
      have d611 : s603 61 = (.bool (!(within a0.mode 0 511))) := (hd607 49 rfl)
      have d612 : s603 61 = (.bool (!(within a0.mode 0 511))) := (hd607 49 rfl)
      have d613 : s603 69 = (.bool (impl_RecordFault.e3 a0)) := ((hd607 57 rfl).1 (not_mk (not_f b609)))
      exact L_op (.guard 49 false 61 rfl rfl (ltb rfl) (d611.trans (congrArg Value.bool g610))) rfl (ltb rfl) (X_move (v := (.bool (impl_RecordFault.e3 a0))) d613) <| L_nil <| stepEnd rfl rfl (Ext.refl w604) ⟨fun _ => rfl, fun h => absurd (b609.symm.trans h) (by decide)⟩
    · have d614 : s603 61 = (.bool (!(within a0.mode 0 511))) := (hd607 49 rfl)
      have g615 : (!(within a0.mode 0 511)) = true := (not_ff b609)
      exact L_skip rfl rfl (ltb rfl) (d614.trans (congrArg Value.bool g615)) rfl rfl (ltb rfl) <| L_nil <| stepEnd rfl rfl (Ext.refl w604) ⟨fun h => absurd (b609.symm.trans h) (by decide), fun _ => rfl⟩
  · intro s616 w617 e618 hf619 hd620 hu621
    rcases bool_two ((!(!(within a0.mode 0 511))) && (impl_RecordFault.e3 a0)) with b622 | b622
    · have g623 : (impl_RecordFault.e3 a0) = true := (and_r b622)
      have d624 : s616 70 = (.bool (impl_RecordFault.e3 a0)) := ((hd620 58 rfl).1 (not_mk (not_f (and_l b622))))
      have d625 : s616 70 = (.bool (impl_RecordFault.e3 a0)) := ((hd620 58 rfl).1 (not_mk (not_f (and_l b622))))
      exact L_op (.guard 58 true 70 rfl rfl (ltb rfl) (d624.trans (congrArg Value.bool g623))) rfl (ltb rfl) (X_fieldAddr Tryd.underlying24 rfl Tryd.sizeOf3 rfl ((hf619 1 rfl).trans (K9 1 rfl))) <| L_nil <| stepEnd rfl rfl (Ext.refl w617) ⟨fun _ => rfl, fun h => absurd (b622.symm.trans h) (by decide)⟩
    · rcases bool_two (!(!(within a0.mode 0 511))) with b626 | b626
      · have d627 : s616 70 = (.bool (impl_RecordFault.e3 a0)) := ((hd620 58 rfl).1 (not_mk (not_f b626)))
        have g628 : (impl_RecordFault.e3 a0) = false := (and_fr b622 b626)
        exact L_skip rfl rfl (ltb rfl) (d627.trans (congrArg Value.bool g628)) rfl rfl (ltb rfl) <| L_nil <| stepEnd rfl rfl (Ext.refl w617) ⟨fun h => absurd (b622.symm.trans h) (by decide), fun _ => rfl⟩
      · exact L_skipU rfl rfl (ltb rfl) ((hd620 58 rfl).2 b626) rfl (ltb rfl) <| L_nil <| stepEnd rfl rfl (Ext.refl w617) ⟨fun h => absurd (b622.symm.trans h) (by decide), fun _ => rfl⟩
  · intro s629 w630 e631 hf632 hd633 hu634
    rcases bool_two ((!(!(within a0.mode 0 511))) && (impl_RecordFault.e3 a0)) with b635 | b635
    · have g636 : (impl_RecordFault.e3 a0) = true := (and_r b635)
      have d637 : s629 70 = (.bool (impl_RecordFault.e3 a0)) := ((hd633 58 rfl).1 (not_mk (not_f (and_l b635))))
      have d638 : s629 70 = (.bool (impl_RecordFault.e3 a0)) := ((hd633 58 rfl).1 (not_mk (not_f (and_l b635))))
      have d639 : s629 71 = (.pointer (some ⟨b1, 3, none⟩)) := ((hd633 59 rfl).1 (and_mk (not_mk (not_f (and_l b635))) (and_r b635)))
      exact L_op (.guard 58 true 70 rfl rfl (ltb rfl) (d637.trans (congrArg Value.bool g636))) rfl (ltb rfl) (X_loadB Tryd.isAgg3 (Blk.ext k6 (Ext.trans e11 e631)) d639 rfl) <| L_nil <| stepEnd rfl rfl (Ext.refl w630) ⟨fun _ => rfl, fun h => absurd (b635.symm.trans h) (by decide)⟩
    · rcases bool_two (!(!(within a0.mode 0 511))) with b640 | b640
      · have d641 : s629 70 = (.bool (impl_RecordFault.e3 a0)) := ((hd633 58 rfl).1 (not_mk (not_f b640)))
        have g642 : (impl_RecordFault.e3 a0) = false := (and_fr b635 b640)
        exact L_skip rfl rfl (ltb rfl) (d641.trans (congrArg Value.bool g642)) rfl rfl (ltb rfl) <| L_nil <| stepEnd rfl rfl (Ext.refl w630) ⟨fun h => absurd (b635.symm.trans h) (by decide), fun _ => rfl⟩
      · exact L_skipU rfl rfl (ltb rfl) ((hd633 58 rfl).2 b640) rfl (ltb rfl) <| L_nil <| stepEnd rfl rfl (Ext.refl w630) ⟨fun h => absurd (b635.symm.trans h) (by decide), fun _ => rfl⟩
  · intro s643 w644 e645 hf646 hd647 hu648
    rcases bool_two ((!(!(within a0.mode 0 511))) && (impl_RecordFault.e3 a0)) with b649 | b649
    · have g650 : (impl_RecordFault.e3 a0) = true := (and_r b649)
      have d651 : s643 70 = (.bool (impl_RecordFault.e3 a0)) := ((hd647 58 rfl).1 (not_mk (not_f (and_l b649))))
      have d652 : s643 70 = (.bool (impl_RecordFault.e3 a0)) := ((hd647 58 rfl).1 (not_mk (not_f (and_l b649))))
      have d653 : s643 72 = (.int .i64 a0.mode) := ((hd647 60 rfl).1 (and_mk (not_mk (not_f (and_l b649))) (and_r b649)))
      exact L_op (.guard 58 true 70 rfl rfl (ltb rfl) (d651.trans (congrArg Value.bool g650))) rfl (ltb rfl) (X_neq d653 rfl) <| L_nil <| stepEnd rfl rfl (Ext.refl w644) ⟨fun _ => rfl, fun h => absurd (b649.symm.trans h) (by decide)⟩
    · rcases bool_two (!(!(within a0.mode 0 511))) with b654 | b654
      · have d655 : s643 70 = (.bool (impl_RecordFault.e3 a0)) := ((hd647 58 rfl).1 (not_mk (not_f b654)))
        have g656 : (impl_RecordFault.e3 a0) = false := (and_fr b649 b654)
        exact L_skip rfl rfl (ltb rfl) (d655.trans (congrArg Value.bool g656)) rfl rfl (ltb rfl) <| L_nil <| stepEnd rfl rfl (Ext.refl w644) ⟨fun h => absurd (b649.symm.trans h) (by decide), fun _ => rfl⟩
      · exact L_skipU rfl rfl (ltb rfl) ((hd647 58 rfl).2 b654) rfl (ltb rfl) <| L_nil <| stepEnd rfl rfl (Ext.refl w644) ⟨fun h => absurd (b649.symm.trans h) (by decide), fun _ => rfl⟩
  · intro s657 w658 e659 hf660 hd661 hu662
    rcases bool_two (!(!(within a0.mode 0 511))) with b663 | b663
    · have g664 : (!(within a0.mode 0 511)) = false := (not_f b663)
      have d665 : s657 61 = (.bool (!(within a0.mode 0 511))) := (hd661 49 rfl)
      rcases bool_two (impl_RecordFault.e3 a0) with b666 | b666
      · have d667 : s657 70 = (.bool (impl_RecordFault.e3 a0)) := ((hd661 58 rfl).1 (not_mk (not_f b663)))
        have d668 : s657 73 = (.bool (!decide (a0.mode = 0))) := ((hd661 61 rfl).1 (and_mk (not_mk (not_f b663)) b666))
        exact L_op (.guard 49 false 61 rfl rfl (ltb rfl) (d665.trans (congrArg Value.bool g664))) rfl (ltb rfl) (X_pick (b := true) (v := (.bool (!decide (a0.mode = 0)))) (d667.trans (congrArg Value.bool b666)) d668) <| L_nil <| stepEnd rfl rfl (Ext.refl w658) ⟨fun _ => (and_t b666), fun h => absurd (b663.symm.trans h) (by decide)⟩
      · have d669 : s657 70 = (.bool (impl_RecordFault.e3 a0)) := ((hd661 58 rfl).1 (not_mk (not_f b663)))
        exact L_op (.guard 49 false 61 rfl rfl (ltb rfl) (d665.trans (congrArg Value.bool g664))) rfl (ltb rfl) (X_pick (b := false) (v := (.bool false)) (d669.trans (congrArg Value.bool b666)) rfl) <| L_nil <| stepEnd rfl rfl (Ext.refl w658) ⟨fun _ => (and_f b666), fun h => absurd (b663.symm.trans h) (by decide)⟩
    · have d670 : s657 61 = (.bool (!(within a0.mode 0 511))) := (hd661 49 rfl)
      have g671 : (!(within a0.mode 0 511)) = true := (not_ff b663)
      exact L_skip rfl rfl (ltb rfl) (d670.trans (congrArg Value.bool g671)) rfl rfl (ltb rfl) <| L_nil <| stepEnd rfl rfl (Ext.refl w658) ⟨fun h => absurd (b663.symm.trans h) (by decide), fun _ => rfl⟩
  · intro s672 w673 e674 hf675 hd676 hu677
    rcases bool_two (!(within a0.mode 0 511)) with b678 | b678
    · have d679 : s672 61 = (.bool (!(within a0.mode 0 511))) := (hd676 49 rfl)
      exact L_op (.plain rfl) rfl (ltb rfl) (X_pick (b := true) (v := (.bool true)) (d679.trans (congrArg Value.bool b678)) rfl) <| L_nil <| stepEnd rfl rfl (Ext.refl w673) (or_t b678)
    · have d680 : s672 61 = (.bool (!(within a0.mode 0 511))) := (hd676 49 rfl)
      have d681 : s672 74 = (.bool ((impl_RecordFault.e3 a0) && (!decide (a0.mode = 0)))) := ((hd676 62 rfl).1 (not_mk b678))
      exact L_op (.plain rfl) rfl (ltb rfl) (X_pick (b := false) (v := (.bool ((impl_RecordFault.e3 a0) && (!decide (a0.mode = 0))))) (d680.trans (congrArg Value.bool b678)) d681) <| L_nil <| stepEnd rfl rfl (Ext.refl w673) (or_f b678)
  · intro s682 w683 e684 hf685 hd686 hu687
    have d688 : s682 75 = (.bool (impl_RecordFault.e6 a0)) := (hd686 63 rfl)
    exact L_op (.plain rfl) rfl (ltb rfl) (X_mkiface Tryd.underlying4 rfl d688) <| L_nil <| stepEnd rfl rfl (Ext.refl w683) rfl
  · intro s689 w690 e691 hf692 hd693 hu694
    exact L_op (.plain rfl) rfl (ltb rfl) (X_mkiface Tryd.underlying3 rfl rfl) <| L_nil <| stepEnd rfl rfl (Ext.refl w690) rfl
  · intro s695 w696 e697 hf698 hd699 hu700
    have d701 : s695 16 = (.iface 4 (.bool (!(within a0.kind 1 4)))) := (hd699 4 rfl)
    have d702 : s695 17 = (.iface 3 (.int .i64 9)) := (hd699 5 rfl)
    have d703 : s695 22 = (.iface 4 (.bool (!(pathOK a0.path)))) := (hd699 10 rfl)
    have d704 : s695 23 = (.iface 3 (.int .i64 10)) := (hd699 11 rfl)
    have d705 : s695 38 = (.iface 4 (.bool (impl_RecordFault.e5 a0))) := (hd699 26 rfl)
    have d706 : s695 39 = (.iface 3 (.int .i64 8)) := (hd699 27 rfl)
    have d707 : s695 55 = (.iface 4 (.bool ((impl_RecordFault.e1 a0) || ((!decide (a0.kind = 3)) && a0.opq)))) := (hd699 43 rfl)
    have d708 : s695 56 = (.iface 3 (.int .i64 3)) := (hd699 44 rfl)
    have d709 : s695 76 = (.iface 4 (.bool (impl_RecordFault.e6 a0))) := (hd699 64 rfl)
    have d710 : s695 77 = (.iface 3 (.int .i64 4)) := (hd699 65 rfl)
    exact L_lit (.plain rfl) rfl (ltb rfl) rfl Tryd.underlying67 Tryd.sizeOf20 Tryd.zeroValue20 rfl rfl rfl (vs := [(.iface 4 (.bool (!(within a0.kind 1 4)))), (.iface 3 (.int .i64 9)), (.iface 4 (.bool (!(pathOK a0.path)))), (.iface 3 (.int .i64 10)), (.iface 4 (.bool (impl_RecordFault.e5 a0))), (.iface 3 (.int .i64 8)), (.iface 4 (.bool ((impl_RecordFault.e1 a0) || ((!decide (a0.kind = 3)) && a0.opq)))), (.iface 3 (.int .i64 3)), (.iface 4 (.bool (impl_RecordFault.e6 a0))), (.iface 3 (.int .i64 4))]) (cons2 d701 (cons2 d702 (cons2 d703 (cons2 d704 (cons2 d705 (cons2 d706 (cons2 d707 (cons2 d708 (cons2 d709 (cons2 d710 rfl)))))))))) (lit_all rfl) <| fun b711 w712 z713 z714 e715 k716 => L_nil <| stepEnd rfl rfl e715 (Ow.rd (Ow.new (xs := [.inl (!(within a0.kind 1 4)), .inr 9, .inl (!(pathOK a0.path)), .inr 10, .inl (impl_RecordFault.e5 a0), .inr 8, .inl ((impl_RecordFault.e1 a0) || ((!decide (a0.kind = 3)) && a0.opq)), .inr 3, .inl (impl_RecordFault.e6 a0), .inr 4]) (sz := 1) (enc := (encAny 4 3)) (base := w696.heap.size) k716 (Nat.le_of_eq z713) rfl (fun _ _ => by first | rfl | exact encAny_len _ _ _) (Nat.le_of_ble_eq_true rfl)))
  · intro s717 w718 e719 hf720 hd721 hu722
    have d723 : Rd 1 (encAny 4 3) w718 (s717 78) (impl_RecordFault.e2 a0) := (hd721 66 rfl)
    have c724 := c25
    exact L_callP (.plain rfl) rfl (ltb rfl) rfl Tryd.call41 (impl_first.calls (w := w718) (a0 := (impl_RecordFault.e2 a0)) d723 (of_decide_eq_true c724)) rfl <| fun w725 e726 => L_nil <| stepEnd rfl rfl e726 rfl
  · intro s727 w728 e729 hf730 hd731 hu732
    have d733 : s727 79 = (.int .i64 (firstOf (impl_RecordFault.e2 a0))) := (hd731 67 rfl)
    exact L_op (.plain rfl) rfl (ltb rfl) (X_assign d733) <| L_nil <| stepEnd rfl rfl (Ext.refl w728) rfl
  intro s734 w735 e736 hf737 ha738
  have K739 := Kp.ofD (kp := [(2, 3), (12, 80)]) rfl hf737
  have d740 : s734 2 = (.int .i64 (firstOf (impl_RecordFault.e2 a0))) := ha738 68 rfl
  clear ha738 hf737
  refine thn_n <| W_ret <| fin_r ?_
  obtain rfl := Option.some.inj H
  exact fin1 d740 (Ext.trans (Ext.trans e5 e11) e736)
theorem impl_RecordFault.calls {w : World} {a0 : Rec} (gv : GV 0 w) :
    Calls Tryd.prog 16 #[.agg (encRec a0).toArray] w (Rt (RP w (.int .i64 (recFault a0)))) := impl_RecordFault.walk gv (impl_RecordFault.eq a0)
/-! impl.RecordOK -/
theorem impl_RecordOK.walk {w : World} {a0 : Rec} (gv : GV 0 w) {r : Bool} (H : impl_RecordOK.sh a0 = some r) :
    Calls Tryd.prog 17 #[.agg (encRec a0).toArray] w (Rt (RP w (.bool r))) := by
  unfold impl_RecordOK.sh at H
  refine calls_of_W Tryd.func17 rfl (Nat.le_of_ble_eq_true rfl) Tryd.ntmps17 rfl ?_
  refine W_seq <| W_reg <| L_box (.plain rfl) rfl (ltb rfl) rfl rfl <| fun b1 w2 z3 z4 e5 k6 => L_op (.plain rfl) rfl (ltb rfl) (X_assign (v := (.bool false)) rfl) <| L_nil <| thn_n <| W_seq <| W_reg <| L_op (.plain rfl) rfl (ltb rfl) (X_loadS Tryd.isAgg24 Tryd.sizeOf24 rfl rfl (Blk.at0 k6)) <| L_callP (.plain rfl) rfl (ltb rfl) rfl Tryd.call16 (impl_RecordFault.calls (w := w2) (a0 := a0) (GV.ext gv e5)) rfl <| fun w7 e8 => L_op (.plain rfl) rfl (ltb rfl) (X_eql rfl rfl) <| L_op (.plain rfl) rfl (ltb rfl) (X_assign (v := (.bool (decide ((recFault a0) = 0)))) rfl) <| L_nil <| thn_n <| W_ret <| fin_r ?_
  obtain rfl := Option.some.inj H
  exact fin1 rfl (Ext.trans e5 e8)
theorem impl_RecordOK.calls {w : World} {a0 : Rec} (gv : GV 0 w) :
    Calls Tryd.prog 17 #[.agg (encRec a0).toArray] w (Rt (RP w (.bool (decide (recFault a0 = 0))))) := impl_RecordOK.walk gv (impl_RecordOK.eq a0)
/-! spec.l02Made -/
theorem spec_l02Made.walk {w : World} {a0 : Rec} {r : Rec × Int} (H : spec_l02Made.sh a0 = some r) :
    Calls Tryd.prog 40 #[.agg (encRec a0).toArray] w (Rt (RP w (.tuple #[.agg (encRec r.1).toArray, .int .i64 r.2]))) := by
  unfold spec_l02Made.sh at H
  refine calls_of_WG Tryd.func40 rfl (Nat.le_of_ble_eq_true rfl) Tryd.ntmps40 ?_
  refine W_seq <| W_reg <| L_box (.plain rfl) rfl (ltb rfl) rfl rfl <| fun b1 w2 z3 z4 e5 k6 => L_alloc (.plain rfl) rfl (ltb rfl) rfl Tryd.zeroValue24 <| fun b7 w8 z9 z10 e11 k12 => L_op (.plain rfl) rfl (ltb rfl) (X_assign (v := (.int .i64 0)) rfl) <| L_nil <| thn_n <| W_seq <| W_seq <| W_reg <| L_op (.plain rfl) rfl (ltb rfl) (X_loadS Tryd.isAgg24 Tryd.sizeOf24 rfl rfl (Blk.at0 (Blk.ext k6 e11))) <| L_callP (.plain rfl) rfl (ltb rfl) rfl Tryd.call43 (spec_l02Fault.calls (w := w8) (a0 := a0)) rfl <| fun w13 e14 => L_op (.plain rfl) rfl (ltb rfl) (X_assign (v := (.int .i64 (recFault a0))) rfl) <| L_nil <| thn_n <| W_seq <| W_reg <| L_op (.plain rfl) rfl (ltb rfl) (X_move (v := (.int .i64 (recFault a0))) rfl) <| L_op (.plain rfl) rfl (ltb rfl) (X_neq rfl rfl) <| L_nil <| thn_n ?_
  rcases bif_two H with ⟨q15, H⟩ | ⟨q15, H⟩
  · refine W_true (congrArg Value.bool q15) <| W_seq <| W_reg <| L_op (.plain rfl) rfl (ltb rfl) (X_build1 (vs := []) (pl := #[(0, 1), (1, 1), (2, 1), (3, 1), (4, 1)]) Tryd.underlying24 Tryd.zeroValue24 rfl (fun _ => by kernel_rfl) rfl rfl rfl) <| L_op (.plain rfl) rfl (ltb rfl) (X_move (v := (.int .i64 (recFault a0))) rfl) <| L_storeA (.plain rfl) rfl rfl Tryd.sizeOf24 rfl rfl rfl rfl rfl (Blk.ext k12 e14) <| fun w16 h17 k18 => L_op (.plain rfl) rfl (ltb rfl) (X_assign (v := (.int .i64 (recFault a0))) rfl) <| L_nil <| thn_n <| W_ret <| thn_r <| finG_r ?_
    obtain rfl := Option.some.inj H
    exact finC2 rfl rfl k18 Tryd.isAgg24 Tryd.sizeOf24 rfl rfl (Ext.trans e5 (Below.trans (Ext.trans e11 e14) (Wr.below h17 (Nat.le_of_eq z9))))
  · refine W_false (congrArg Value.bool q15) <| W_skip <| thn_n <| W_seq <| W_reg <| L_op (.plain rfl) rfl (ltb rfl) (X_loadS Tryd.isAgg24 Tryd.sizeOf24 rfl rfl (Blk.at0 (Blk.ext k6 (Ext.trans e11 e14)))) <| L_storeA (.plain rfl) rfl rfl Tryd.sizeOf24 rfl rfl rfl rfl rfl (Blk.ext k12 e14) <| fun w19 h20 k21 => L_op (.plain rfl) rfl (ltb rfl) (X_assign (v := (.int .i64 0)) rfl) <| L_nil <| thn_n <| W_ret <| finG_r ?_
    obtain rfl := Option.some.inj H
    exact finC2 rfl rfl k21 Tryd.isAgg24 Tryd.sizeOf24 rfl rfl (Ext.trans e5 (Below.trans (Ext.trans e11 e14) (Wr.below h20 (Nat.le_of_eq z9))))
theorem spec_l02Made.calls {w : World} {a0 : Rec} :
    Calls Tryd.prog 40 #[.agg (encRec a0).toArray] w (Rt (RP w (.tuple #[.agg (encRec ((made a0).1)).toArray, .int .i64 ((made a0).2)]))) := spec_l02Made.walk (spec_l02Made.eq a0)
/-! spec.MakeWhite -/
theorem spec_MakeWhite.walk {w : World} {a0 : List UInt8} {r : Rec × Int} (H : spec_MakeWhite.sh a0 = some r) :
    Calls Tryd.prog 15 #[S a0] w (Rt (RP w (.tuple #[.agg (encRec r.1).toArray, .int .i64 r.2]))) := by
  unfold spec_MakeWhite.sh at H
  refine calls_of_WG Tryd.func15 rfl (Nat.le_of_ble_eq_true rfl) Tryd.ntmps15 ?_
  refine W_seq <| W_reg <| L_alloc (.plain rfl) rfl (ltb rfl) rfl Tryd.zeroValue24 <| fun b1 w2 z3 z4 e5 k6 => L_op (.plain rfl) rfl (ltb rfl) (X_assign (v := (.int .i64 0)) rfl) <| L_nil <| thn_n <| W_seq <| W_seq <| W_reg <| L_op (.plain rfl) rfl (ltb rfl) (X_move (v := (S a0)) rfl) <| L_op (.plain rfl) rfl (ltb rfl) (X_lenS Tryd.underlying9 rfl) <| L_op (.plain rfl) rfl (ltb rfl) (X_gtr rfl rfl) <| L_nil <| thn_n ?_
  rcases bif_two H with ⟨q7, H⟩ | ⟨q7, H⟩
  · refine W_true (congrArg Value.bool q7) <| W_seq <| W_reg <| L_op (.plain rfl) rfl (ltb rfl) (X_build1 (vs := []) (pl := #[(0, 1), (1, 1), (2, 1), (3, 1), (4, 1)]) Tryd.underlying24 Tryd.zeroValue24 rfl (fun _ => by kernel_rfl) rfl rfl rfl) <| L_storeA (.plain rfl) rfl rfl Tryd.sizeOf24 rfl rfl rfl rfl rfl k6 <| fun w8 h9 k10 => L_op (.plain rfl) rfl (ltb rfl) (X_assign (v := (.int .i64 2)) rfl) <| L_nil <| thn_n <| W_ret <| thn_r <| finG_r ?_
    obtain rfl := Option.some.inj H
    exact finC2 rfl rfl k10 Tryd.isAgg24 Tryd.sizeOf24 rfl rfl (Below.trans e5 (Wr.below h9 (Nat.le_of_eq z3)))
  · refine W_false (congrArg Value.bool q7) <| W_skip <| thn_n <| W_seq <| W_reg <| L_op (.plain rfl) rfl (ltb rfl) (X_move (v := (S a0)) rfl) <| L_op (.plain rfl) rfl (ltb rfl) (X_build1 (vs := [(0, (.int .i64 4)), (1, (S a0))]) (pl := #[(0, 1), (1, 1), (2, 1), (3, 1), (4, 1)]) Tryd.underlying24 Tryd.zeroValue24 rfl (fun _ => by kernel_rfl) rfl rfl rfl) <| L_callP (.plain rfl) rfl (ltb rfl) rfl Tryd.call40 (spec_l02Made.calls (w := w2) (a0 := (⟨4, a0, ([] : List UInt8), 0, false⟩ : Rec))) rfl <| fun w11 e12 => L_op (.plain rfl) rfl (ltb rfl) (X_extract rfl rfl) <| L_op (.plain rfl) rfl (ltb rfl) (X_extract (v := (.int .i64 ((made (⟨4, a0, ([] : List UInt8), 0, false⟩ : Rec)).2))) rfl rfl) <| L_storeA (.plain rfl) rfl rfl Tryd.sizeOf24 rfl rfl rfl rfl rfl (Blk.ext k6 e12) <| fun w13 h14 k15 => L_op (.plain rfl) rfl (ltb rfl) (X_assign (v := (.int .i64 ((made (⟨4, a0, ([] : List UInt8), 0, false⟩ : Rec)).2))) rfl) <| L_nil <| thn_n <| W_ret <| finG_r ?_
    obtain rfl := Option.some.inj H
    exact finC2 rfl rfl k15 Tryd.isAgg24 Tryd.sizeOf24 rfl rfl (Below.trans (Ext.trans e5 e12) (Wr.below h14 (Nat.le_of_eq z3)))
theorem spec_MakeWhite.calls {w : World} {a0 : List UInt8} :
    Calls Tryd.prog 15 #[S a0] w (Rt (RP w (.tuple #[.agg (encRec ((makeR ⟨4, a0, [], 0, false⟩).1)).toArray, .int .i64 ((makeR ⟨4, a0, [], 0, false⟩).2)]))) := spec_MakeWhite.walk (spec_MakeWhite.eq a0)
/-! spec.MakeDir -/
theorem spec_MakeDir.walk {w : World} {a0 : List UInt8} {a1 : Int} {a2 : Bool} {r : Rec × Int} (H : spec_MakeDir.sh a0 a1 a2 = some r) :
    Calls Tryd.prog 11 #[S a0, .int .i64 a1, .bool a2] w (Rt (RP w (.tuple #[.agg (encRec r.1).toArray, .int .i64 r.2]))) := by
  unfold spec_MakeDir.sh at H
  refine calls_of_WG Tryd.func11 rfl (Nat.le_of_ble_eq_true rfl) Tryd.ntmps11 ?_
  refine W_seq <| W_reg <| L_alloc (.plain rfl) rfl (ltb rfl) rfl Tryd.zeroValue24 <| fun b1 w2 z3 z4 e5 k6 => L_op (.plain rfl) rfl (ltb rfl) (X_assign (v := (.int .i64 0)) rfl) <| L_nil <| thn_n <| W_seq <| W_seq <| W_reg <| L_op (.plain rfl) rfl (ltb rfl) (X_move (v := (S a0)) rfl) <| L_op (.plain rfl) rfl (ltb rfl) (X_lenS Tryd.underlying9 rfl) <| L_op (.plain rfl) rfl (ltb rfl) (X_gtr rfl rfl) <| L_nil <| thn_n ?_
  rcases bif_two H with ⟨q7, H⟩ | ⟨q7, H⟩
  · refine W_true (congrArg Value.bool q7) <| W_seq <| W_reg <| L_op (.plain rfl) rfl (ltb rfl) (X_build1 (vs := []) (pl := #[(0, 1), (1, 1), (2, 1), (3, 1), (4, 1)]) Tryd.underlying24 Tryd.zeroValue24 rfl (fun _ => by kernel_rfl) rfl rfl rfl) <| L_storeA (.plain rfl) rfl rfl Tryd.sizeOf24 rfl rfl rfl rfl rfl k6 <| fun w8 h9 k10 => L_op (.plain rfl) rfl (ltb rfl) (X_assign (v := (.int .i64 2)) rfl) <| L_nil <| thn_n <| W_ret <| thn_r <| finG_r ?_
    obtain rfl := Option.some.inj H
    exact finC2 rfl rfl k10 Tryd.isAgg24 Tryd.sizeOf24 rfl rfl (Below.trans e5 (Wr.below h9 (Nat.le_of_eq z3)))
  · refine W_false (congrArg Value.bool q7) <| W_skip <| thn_n <| W_seq <| W_reg <| L_op (.plain rfl) rfl (ltb rfl) (X_move (v := (S a0)) rfl) <| L_op (.plain rfl) rfl (ltb rfl) (X_move (v := (.int .i64 a1)) rfl) <| L_op (.plain rfl) rfl (ltb rfl) (X_move (v := (.bool a2)) rfl) <| L_op (.plain rfl) rfl (ltb rfl) (X_build1 (vs := [(0, (.int .i64 3)), (1, (S a0)), (3, (.int .i64 a1)), (4, (.bool a2))]) (pl := #[(0, 1), (1, 1), (2, 1), (3, 1), (4, 1)]) Tryd.underlying24 Tryd.zeroValue24 rfl (fun _ => by kernel_rfl) rfl rfl rfl) <| L_callP (.plain rfl) rfl (ltb rfl) rfl Tryd.call40 (spec_l02Made.calls (w := w2) (a0 := (⟨3, a0, ([] : List UInt8), a1, a2⟩ : Rec))) rfl <| fun w11 e12 => L_op (.plain rfl) rfl (ltb rfl) (X_extract rfl rfl) <| L_op (.plain rfl) rfl (ltb rfl) (X_extract (v := (.int .i64 ((made (⟨3, a0, ([] : List UInt8), a1, a2⟩ : Rec)).2))) rfl rfl) <| L_storeA (.plain rfl) rfl rfl Tryd.sizeOf24 rfl rfl rfl rfl rfl (Blk.ext k6 e12) <| fun w13 h14 k15 => L_op (.plain rfl) rfl (ltb rfl) (X_assign (v := (.int .i64 ((made (⟨3, a0, ([] : List UInt8), a1, a2⟩ : Rec)).2))) rfl) <| L_nil <| thn_n <| W_ret <| finG_r ?_
    obtain rfl := Option.some.inj H
    exact finC2 rfl rfl k15 Tryd.isAgg24 Tryd.sizeOf24 rfl rfl (Below.trans (Ext.trans e5 e12) (Wr.below h14 (Nat.le_of_eq z3)))
theorem spec_MakeDir.calls {w : World} {a0 : List UInt8} {a1 : Int} {a2 : Bool} :
    Calls Tryd.prog 11 #[S a0, .int .i64 a1, .bool a2] w (Rt (RP w (.tuple #[.agg (encRec ((makeR ⟨3, a0, [], a1, a2⟩).1)).toArray, .int .i64 ((makeR ⟨3, a0, [], a1, a2⟩).2)]))) := spec_MakeDir.walk (spec_MakeDir.eq a0 a1 a2)
/-! spec.MakeFile -/
theorem spec_MakeFile.walk {w : World} {a0 : List UInt8} {a1 : List UInt8} {a2 : Int} {r : Rec × Int} (H : spec_MakeFile.sh a0 a1 a2 = some r) :
    Calls Tryd.prog 9 #[S a0, S a1, .int .i64 a2] w (Rt (RP w (.tuple #[.agg (encRec r.1).toArray, .int .i64 r.2]))) := by
  unfold spec_MakeFile.sh at H
  refine calls_of_WG Tryd.func9 rfl (Nat.le_of_ble_eq_true rfl) Tryd.ntmps9 ?_
  refine W_seq <| W_reg <| L_alloc (.plain rfl) rfl (ltb rfl) rfl Tryd.zeroValue24 <| fun b1 w2 z3 z4 e5 k6 => L_op (.plain rfl) rfl (ltb rfl) (X_assign (v := (.int .i64 0)) rfl) <| L_nil <| thn_n <| W_seq <| W_seq <| W_reg <| L_op (.plain rfl) rfl (ltb rfl) (X_move (v := (S a0)) rfl) <| L_op (.plain rfl) rfl (ltb rfl) (X_lenS Tryd.underlying9 rfl) <| L_op (.plain rfl) rfl (ltb rfl) (X_gtr rfl rfl) <| L_op (.plain rfl) rfl (ltb rfl) (X_move (v := (.bool (decide (65536 < (a0.length : Int))))) rfl) <| L_grp 4 [(12, 16)] 15 (.bool ((decide (65536 < (a0.length : Int))) || (decide (65536 < (a1.length : Int))))) ?_ ?_
  · rcases bool_two (decide (65536 < (a0.length : Int))) with b6_ | b6_
    · exact L_skip rfl rfl (ltb rfl) (congrArg Value.bool b6_) rfl rfl (ltb rfl) <| L_skip rfl rfl (ltb rfl) (congrArg Value.bool b6_) rfl rfl (ltb rfl) <| L_skip rfl rfl (ltb rfl) (congrArg Value.bool b6_) rfl rfl (ltb rfl) <| L_op (.plain rfl) rfl (ltb rfl) (X_pick (b := true) (v := (.bool true)) (congrArg Value.bool b6_) rfl) <| L_nil <| thn_n ⟨(Kp.upd (Kp.upd (Kp.upd (Kp.upd (Kp.refl _ _) rfl) rfl) rfl) rfl), (or_t b6_), (Ext.refl w2)⟩
    · exact L_op (.guard 3 false 11 rfl rfl (ltb rfl) (congrArg Value.bool b6_)) rfl (ltb rfl) (X_move (v := (S a1)) rfl) <| L_op (.guard 3 false 11 rfl rfl (ltb rfl) (congrArg Value.bool b6_)) rfl (ltb rfl) (X_lenS Tryd.underlying9 rfl) <| L_op (.guard 3 false 11 rfl rfl (ltb rfl) (congrArg Value.bool b6_)) rfl (ltb rfl) (X_gtr rfl rfl) <| L_op (.plain rfl) rfl (ltb rfl) (X_pick (b := false) (v := (.bool (decide (65536 < (a1.length : Int))))) (congrArg Value.bool b6_) rfl) <| L_nil <| thn_n ⟨(Kp.upd (Kp.upd (Kp.upd (Kp.upd (Kp.refl _ _) rfl) rfl) rfl) rfl), (or_f b6_), (Ext.refl w2)⟩
  intro s12 w8 K9 h10 e11
  refine L_nil <| thn_n ?_
  rcases bif_two H with ⟨q13, H⟩ | ⟨q13, H⟩
  · refine W_true (h10.trans (congrArg Value.bool q13)) <| W_seq <| W_reg <| L_op (.plain rfl) rfl (ltb rfl) (X_build1 (vs := []) (pl := #[(0, 1), (1, 1), (2, 1), (3, 1), (4, 1)]) Tryd.underlying24 Tryd.zeroValue24 rfl (fun _ => by kernel_rfl) rfl rfl rfl) <| L_storeA (.plain rfl) rfl rfl Tryd.sizeOf24 (K9 6 rfl) rfl rfl rfl rfl (Blk.ext k6 e11) <| fun w14 h15 k16 => L_op (.plain rfl) rfl (ltb rfl) (X_assign (v := (.int .i64 2)) rfl) <| L_nil <| thn_n <| W_ret <| thn_r <| finG_r ?_
    obtain rfl := Option.some.inj H
    exact finC2 rfl (K9 6 rfl) k16 Tryd.isAgg24 Tryd.sizeOf24 rfl rfl (Below.trans (Ext.trans e5 e11) (Wr.below h15 (Nat.le_of_eq z3)))
  · refine W_false (h10.trans (congrArg Value.bool q13)) <| W_skip <| thn_n <| W_seq <| W_reg <| L_op (.plain rfl) rfl (ltb rfl) (X_move (v := (S a0)) (K9 0 rfl)) <| L_op (.plain rfl) rfl (ltb rfl) (X_move (v := (S a1)) (K9 1 rfl)) <| L_op (.plain rfl) rfl (ltb rfl) (X_move (v := (.int .i64 a2)) (K9 2 rfl)) <| L_op (.plain rfl) rfl (ltb rfl) (X_build1 (vs := [(0, (.int .i64 1)), (1, (S a0)), (2, (S a1)), (3, (.int .i64 a2))]) (pl := #[(0, 1), (1, 1), (2, 1), (3, 1), (4, 1)]) Tryd.underlying24 Tryd.zeroValue24 rfl (fun _ => by kernel_rfl) rfl rfl rfl) <| L_callP (.plain rfl) rfl (ltb rfl) rfl Tryd.call40 (spec_l02Made.calls (w := w8) (a0 := (⟨1, a0, a1, a2, false⟩ : Rec))) rfl <| fun w17 e18 => L_op (.plain rfl) rfl (ltb rfl) (X_extract (v := (.agg (encRec ((made (⟨1, a0, a1, a2, false⟩ : Rec)).1)).toArray)) rfl rfl) <| L_op (.plain rfl) rfl (ltb rfl) (X_extract (v := (.int .i64 ((made (⟨1, a0, a1, a2, false⟩ : Rec)).2))) rfl rfl) <| L_storeA (.plain rfl) rfl rfl Tryd.sizeOf24 (K9 6 rfl) rfl rfl rfl rfl (Blk.ext k6 (Ext.trans e11 e18)) <| fun w19 h20 k21 => L_op (.plain rfl) rfl (ltb rfl) (X_assign (v := (.int .i64 ((made (⟨1, a0, a1, a2, false⟩ : Rec)).2))) rfl) <| L_nil <| thn_n <| W_ret <| finG_r ?_
    obtain rfl := Option.some.inj H
    exact finC2 rfl (K9 6 rfl) k21 Tryd.isAgg24 Tryd.sizeOf24 rfl rfl (Below.trans (Ext.trans (Ext.trans e5 e11) e18) (Wr.below h20 (Nat.le_of_eq z3)))
theorem spec_MakeFile.calls {w : World} {a0 : List UInt8} {a1 : List UInt8} {a2 : Int} :
    Calls Tryd.prog 9 #[S a0, S a1, .int .i64 a2] w (Rt (RP w (.tuple #[.agg (encRec ((makeR ⟨1, a0, a1, a2, false⟩).1)).toArray, .int .i64 ((makeR ⟨1, a0, a1, a2, false⟩).2)]))) := spec_MakeFile.walk (spec_MakeFile.eq a0 a1 a2)
/-! spec.MakeLink -/
theorem spec_MakeLink.walk {w : World} {a0 : List UInt8} {a1 : List UInt8} {r : Rec × Int} (H : spec_MakeLink.sh a0 a1 = some r) :
    Calls Tryd.prog 13 #[S a0, S a1] w (Rt (RP w (.tuple #[.agg (encRec r.1).toArray, .int .i64 r.2]))) := by
  unfold spec_MakeLink.sh at H
  refine calls_of_WG Tryd.func13 rfl (Nat.le_of_ble_eq_true rfl) Tryd.ntmps13 ?_
  refine W_seq <| W_reg <| L_alloc (.plain rfl) rfl (ltb rfl) rfl Tryd.zeroValue24 <| fun b1 w2 z3 z4 e5 k6 => L_op (.plain rfl) rfl (ltb rfl) (X_assign (v := (.int .i64 0)) rfl) <| L_nil <| thn_n <| W_seq <| W_seq <| W_reg <| L_op (.plain rfl) rfl (ltb rfl) (X_move (v := (S a0)) rfl) <| L_op (.plain rfl) rfl (ltb rfl) (X_lenS Tryd.underlying9 rfl) <| L_op (.plain rfl) rfl (ltb rfl) (X_gtr rfl rfl) <| L_op (.plain rfl) rfl (ltb rfl) (X_move (v := (.bool (decide (65536 < (a0.length : Int))))) rfl) <| L_grp 4 [(10, 14)] 13 (.bool ((decide (65536 < (a0.length : Int))) || (decide (65536 < (a1.length : Int))))) ?_ ?_
  · rcases bool_two (decide (65536 < (a0.length : Int))) with b6_ | b6_
    · exact L_skip rfl rfl (ltb rfl) (congrArg Value.bool b6_) rfl rfl (ltb rfl) <| L_skip rfl rfl (ltb rfl) (congrArg Value.bool b6_) rfl rfl (ltb rfl) <| L_skip rfl rfl (ltb rfl) (congrArg Value.bool b6_) rfl rfl (ltb rfl) <| L_op (.plain rfl) rfl (ltb rfl) (X_pick (b := true) (v := (.bool true)) (congrArg Value.bool b6_) rfl) <| L_nil <| thn_n ⟨(Kp.upd (Kp.upd (Kp.upd (Kp.upd (Kp.refl _ _) rfl) rfl) rfl) rfl), (or_t b6_), (Ext.refl w2)⟩
    · exact L_op (.guard 3 false 9 rfl rfl (ltb rfl) (congrArg Value.bool b6_)) rfl (ltb rfl) (X_move (v := (S a1)) rfl) <| L_op (.guard 3 false 9 rfl rfl (ltb rfl) (congrArg Value.bool b6_)) rfl (ltb rfl) (X_lenS Tryd.underlying9 rfl) <| L_op (.guard 3 false 9 rfl rfl (ltb rfl) (congrArg Value.bool b6_)) rfl (ltb rfl) (X_gtr rfl rfl) <| L_op (.plain rfl) rfl (ltb rfl) (X_pick (b := false) (v := (.bool (decide (65536 < (a1.length : Int))))) (congrArg Value.bool b6_) rfl) <| L_nil <| thn_n ⟨(Kp.upd (Kp.upd (Kp.upd (Kp.upd (Kp.refl _ _) rfl) rfl) rfl) rfl), (or_f b6_), (Ext.refl w2)⟩
  intro s12 w8 K9 h10 e11
  refine L_nil <| thn_n ?_
  rcases bif_two H with ⟨q13, H⟩ | ⟨q13, H⟩
  · refine W_true (h10.trans (congrArg Value.bool q13)) <| W_seq <| W_reg <| L_op (.plain rfl) rfl (ltb rfl) (X_build1 (vs := []) (pl := #[(0, 1), (1, 1), (2, 1), (3, 1), (4, 1)]) Tryd.underlying24 Tryd.zeroValue24 rfl (fun _ => by kernel_rfl) rfl rfl rfl) <| L_storeA (.plain rfl) rfl rfl Tryd.sizeOf24 (K9 4 rfl) rfl rfl rfl rfl (Blk.ext k6 e11) <| fun w14 h15 k16 => L_op (.plain rfl) rfl (ltb rfl) (X_assign (v := (.int .i64 2)) rfl) <| L_nil <| thn_n <| W_ret <| thn_r <| finG_r ?_
    obtain rfl := Option.some.inj H
    exact finC2 rfl (K9 4 rfl) k16 Tryd.isAgg24 Tryd.sizeOf24 rfl rfl (Below.trans (Ext.trans e5 e11) (Wr.below h15 (Nat.le_of_eq z3)))
  · refine W_false (h10.trans (congrArg Value.bool q13)) <| W_skip <| thn_n <| W_seq <| W_reg <| L_op (.plain rfl) rfl (ltb rfl) (X_move (v := (S a0)) (K9 0 rfl)) <| L_op (.plain rfl) rfl (ltb rfl) (X_move (v := (S a1)) (K9 1 rfl)) <| L_op (.plain rfl) rfl (ltb rfl) (X_build1 (vs := [(0, (.int .i64 2)), (1, (S a0)), (2, (S a1))]) (pl := #[(0, 1), (1, 1), (2, 1), (3, 1), (4, 1)]) Tryd.underlying24 Tryd.zeroValue24 rfl (fun _ => by kernel_rfl) rfl rfl rfl) <| L_callP (.plain rfl) rfl (ltb rfl) rfl Tryd.call40 (spec_l02Made.calls (w := w8) (a0 := (⟨2, a0, a1, 0, false⟩ : Rec))) rfl <| fun w17 e18 => L_op (.plain rfl) rfl (ltb rfl) (X_extract (v := (.agg (encRec ((made (⟨2, a0, a1, 0, false⟩ : Rec)).1)).toArray)) rfl rfl) <| L_op (.plain rfl) rfl (ltb rfl) (X_extract (v := (.int .i64 ((made (⟨2, a0, a1, 0, false⟩ : Rec)).2))) rfl rfl) <| L_storeA (.plain rfl) rfl rfl Tryd.sizeOf24 (K9 4 rfl) rfl rfl rfl rfl (Blk.ext k6 (Ext.trans e11 e18)) <| fun w19 h20 k21 => L_op (.plain rfl) rfl (ltb rfl) (X_assign (v := (.int .i64 ((made (⟨2, a0, a1, 0, false⟩ : Rec)).2))) rfl) <| L_nil <| thn_n <| W_ret <| finG_r ?_
    obtain rfl := Option.some.inj H
    exact finC2 rfl (K9 4 rfl) k21 Tryd.isAgg24 Tryd.sizeOf24 rfl rfl (Below.trans (Ext.trans (Ext.trans e5 e11) e18) (Wr.below h20 (Nat.le_of_eq z3)))
theorem spec_MakeLink.calls {w : World} {a0 : List UInt8} {a1 : List UInt8} :
    Calls Tryd.prog 13 #[S a0, S a1] w (Rt (RP w (.tuple #[.agg (encRec ((makeR ⟨2, a0, a1, 0, false⟩).1)).toArray, .int .i64 ((makeR ⟨2, a0, a1, 0, false⟩).2)]))) := spec_MakeLink.walk (spec_MakeLink.eq a0 a1)
/-! impl.made -/
theorem impl_made.walk {w : World} {a0 : Rec} (gv : GV 0 w) {r : Rec × Int} (H : impl_made.sh a0 = some r) :
    Calls Tryd.prog 39 #[.agg (encRec a0).toArray] w (Rt (RP w (.tuple #[.agg (encRec r.1).toArray, .int .i64 r.2]))) := by
  unfold impl_made.sh at H
  refine calls_of_WG Tryd.func39 rfl (Nat.le_of_ble_eq_true rfl) Tryd.ntmps39 ?_
  refine W_seq <| W_reg <| L_box (.plain rfl) rfl (ltb rfl) rfl rfl <| fun b1 w2 z3 z4 e5 k6 => L_alloc (.plain rfl) rfl (ltb rfl) rfl Tryd.zeroValue24 <| fun b7 w8 z9 z10 e11 k12 => L_op (.plain rfl) rfl (ltb rfl) (X_assign (v := (.int .i64 0)) rfl) <| L_nil <| thn_n <| W_seq ?_
  obtain ⟨c19, H⟩ := bif_some H
  obtain ⟨c30, H⟩ := bif_some H
  refine W_drawM [LEq (.pointer (some ⟨b1, 1, none⟩)), LEq (S a0.path), LEq (.pointer (some ⟨b1, 2, none⟩)), LEq (S a0.body), LRd 1 encS ([a0.path, a0.body] : List (List UInt8)), LEq (.bool (([a0.path, a0.body] : List (List UInt8)).any fun t => decide (65536 < t.length))), LEq (.iface 4 (.bool (([a0.path, a0.body] : List (List UInt8)).any fun t => decide (65536 < t.length)))), LEq (.iface 3 (.int .i64 2)), LEq (.iface 4 (.bool true)), LEq (.agg #[(.int .i64 a0.kind), (S a0.path), (S a0.body), (.int .i64 a0.mode), (.bool a0.opq)]), LEq (.int .i64 (recFault a0)), LEq (.iface 3 (.int .i64 (recFault a0))), LRd 1 (encAny 4 3) ([.inl (([a0.path, a0.body] : List (List UInt8)).any fun t => decide (65536 < t.length)), .inr 2, .inl true, .inr (recFault a0)] : List (Bool ⊕ Int)), LEq (.int .i64 (firstOf ([.inl (([a0.path, a0.body] : List (List UInt8)).any fun t => decide (65536 < t.length)), .inr 2, .inl true, .inr (recFault a0)] : List (Bool ⊕ Int)))), LEq (.int .i64 (firstOf ([.inl (([a0.path, a0.body] : List (List UInt8)).any fun t => decide (65536 < t.length)), .inr 2, .inl true, .inr (recFault a0)] : List (Bool ⊕ Int))))] (by kernel_rfl) (by kernel_rfl) ⟨LEq.mono, LEq.mono, LEq.mono, LEq.mono, LRd.mono, LEq.mono, LEq.mono, LEq.mono, LEq.mono, LEq.mono, LEq.mono, LEq.mono, LRd.mono, LEq.mono, LEq.mono, trivial⟩ ⟨?_, ?_, ?_, ?_, ?_, ?_, ?_, ?_, ?_, ?_, ?_, ?_, ?_, ?_, ?_, trivial⟩ ?_
  · intro s33 w34 e35 hf36 hd37 hu38
    exact L_op (.plain rfl) rfl (ltb rfl) (X_fieldAddr Tryd.underlying24 rfl Tryd.sizeOf9 rfl (hf36 1 rfl)) <| L_nil <| stepEnd rfl rfl (Ext.refl w34) rfl
  · intro s39 w40 e41 hf42 hd43 hu44
    have d45 : s39 5 = (.pointer (some ⟨b1, 1, none⟩)) := (hd43 0 rfl)
    exact L_op (.plain rfl) rfl (ltb rfl) (X_loadB Tryd.isAgg9 (Blk.ext k6 (Ext.trans e11 e41)) d45 rfl) <| L_nil <| stepEnd rfl rfl (Ext.refl w40) rfl
  · intro s46 w47 e48 hf49 hd50 hu51
    exact L_op (.plain rfl) rfl (ltb rfl) (X_fieldAddr Tryd.underlying24 rfl Tryd.sizeOf9 rfl (hf49 1 rfl)) <| L_nil <| stepEnd rfl rfl (Ext.refl w47) rfl
  · intro s52 w53 e54 hf55 hd56 hu57
    have d58 : s52 7 = (.pointer (some ⟨b1, 2, none⟩)) := (hd56 2 rfl)
    exact L_op (.plain rfl) rfl (ltb rfl) (X_loadB Tryd.isAgg9 (Blk.ext k6 (Ext.trans e11 e54)) d58 rfl) <| L_nil <| stepEnd rfl rfl (Ext.refl w53) rfl
  · intro s59 w60 e61 hf62 hd63 hu64
    have d65 : s59 6 = (S a0.path) := (hd63 1 rfl)
    have d66 : s59 8 = (S a0.body) := (hd63 3 rfl)
    exact L_lit (.plain rfl) rfl (ltb rfl) rfl Tryd.underlying27 Tryd.sizeOf9 Tryd.zeroValue9 rfl rfl rfl (vs := [(S a0.path), (S a0.body)]) (cons2 d65 (cons2 d66 rfl)) (lit_all rfl) <| fun b67 w68 z69 z70 e71 k72 => L_nil <| stepEnd rfl rfl e71 (Ow.rd (Ow.new (xs := [a0.path, a0.body]) (sz := 1) (enc := encS) (base := w60.heap.size) k72 (Nat.le_of_eq z69) rfl (fun _ _ => by rfl) (Nat.le_of_ble_eq_true rfl)))
  · intro s73 w74 e75 hf76 hd77 hu78
    have d79 : Rd 1 encS w74 (s73 9) ([a0.path, a0.body] : List (List UInt8)) := (hd77 4 rfl)
    have c80 := c19
    exact L_callP (.plain rfl) rfl (ltb rfl) rfl Tryd.call44 (impl_isLong.calls (w := w74) (a0 := ([a0.path, a0.body] : List (List UInt8))) d79 (of_decide_eq_true c80)) rfl <| fun w81 e82 => L_nil <| stepEnd rfl rfl e82 rfl
  · intro s83 w84 e85 hf86 hd87 hu88
    have d89 : s83 10 = (.bool (([a0.path, a0.body] : List (List UInt8)).any fun t => decide (65536 < t.length))) := (hd87 5 rfl)
    exact L_op (.plain rfl) rfl (ltb rfl) (X_mkiface Tryd.underlying4 rfl d89) <| L_nil <| stepEnd rfl rfl (Ext.refl w84) rfl
  · intro s90 w91 e92 hf93 hd94 hu95
    exact L_op (.plain rfl) rfl (ltb rfl) (X_mkiface Tryd.underlying3 rfl rfl) <| L_nil <| stepEnd rfl rfl (Ext.refl w91) rfl
  · intro s96 w97 e98 hf99 hd100 hu101
    exact L_op (.plain rfl) rfl (ltb rfl) (X_mkiface Tryd.underlying4 rfl rfl) <| L_nil <| stepEnd rfl rfl (Ext.refl w97) rfl
  · intro s102 w103 e104 hf105 hd106 hu107
    exact L_op (.plain rfl) rfl (ltb rfl) (X_loadS Tryd.isAgg24 Tryd.sizeOf24 rfl (hf105 1 rfl) (Blk.at0 (Blk.ext k6 (Ext.trans e11 e104)))) <| L_nil <| stepEnd rfl rfl (Ext.refl w103) rfl
  · intro s108 w109 e110 hf111 hd112 hu113
    have d114 : s108 14 = (.agg #[(.int .i64 a0.kind), (S a0.path), (S a0.body), (.int .i64 a0.mode), (.bool a0.opq)]) := (hd112 9 rfl)
    exact L_callP (.plain rfl) rfl (ltb rfl) rfl Tryd.call16 (impl_RecordFault.calls (w := w109) (a0 := a0) (GV.ext gv (Ext.trans (Ext.trans e5 e11) e110))) (cons2 d114 rfl) <| fun w115 e116 => L_nil <| stepEnd rfl rfl e116 rfl
  · intro s117 w118 e119 hf120 hd121 hu122
    have d123 : s117 15 = (.int .i64 (recFault a0)) := (hd121 10 rfl)
    exact L_op (.plain rfl) rfl (ltb rfl) (X_mkiface Tryd.underlying3 rfl d123) <| L_nil <| stepEnd rfl rfl (Ext.refl w118) rfl
  · intro s124 w125 e126 hf127 hd128 hu129
    have d130 : s124 11 = (.iface 4 (.bool (([a0.path, a0.body] : List (List UInt8)).any fun t => decide (65536 < t.length)))) := (hd128 6 rfl)
    have d131 : s124 12 = (.iface 3 (.int .i64 2)) := (hd128 7 rfl)
    have d132 : s124 13 = (.iface 4 (.bool true)) := (hd128 8 rfl)
    have d133 : s124 16 = (.iface 3 (.int .i64 (recFault a0))) := (hd128 11 rfl)
    exact L_lit (.plain rfl) rfl (ltb rfl) rfl Tryd.underlying67 Tryd.sizeOf20 Tryd.zeroValue20 rfl rfl rfl (vs := [(.iface 4 (.bool (([a0.path, a0.body] : List (List UInt8)).any fun t => decide (65536 < t.length)))), (.iface 3 (.int .i64 2)), (.iface 4 (.bool true)), (.iface 3 (.int .i64 (recFault a0)))]) (cons2 d130 (cons2 d131 (cons2 d132 (cons2 d133 rfl)))) (lit_all rfl) <| fun b134 w135 z136 z137 e138 k139 => L_nil <| stepEnd rfl rfl e138 (Ow.rd (Ow.new (xs := [.inl (([a0.path, a0.body] : List (List UInt8)).any fun t => decide (65536 < t.length)), .inr 2, .inl true, .inr (recFault a0)]) (sz := 1) (enc := (encAny 4 3)) (base := w125.heap.size) k139 (Nat.le_of_eq z136) rfl (fun _ _ => by first | rfl | exact encAny_len _ _ _) (Nat.le_of_ble_eq_true rfl)))
  · intro s140 w141 e142 hf143 hd144 hu145
    have d146 : Rd 1 (encAny 4 3) w141 (s140 17) ([.inl (([a0.path, a0.body] : List (List UInt8)).any fun t => decide (65536 < t.length)), .inr 2, .inl true, .inr (recFault a0)] : List (Bool ⊕ Int)) := (hd144 12 rfl)
    have c147 := c30
    exact L_callP (.plain rfl) rfl (ltb rfl) rfl Tryd.call41 (impl_first.calls (w := w141) (a0 := ([.inl (([a0.path, a0.body] : List (List UInt8)).any fun t => decide (65536 < t.length)), .inr 2, .inl true, .inr (recFault a0)] : List (Bool ⊕ Int))) d146 (of_decide_eq_true c147)) rfl <| fun w148 e149 => L_nil <| stepEnd rfl rfl e149 rfl
  · intro s150 w151 e152 hf153 hd154 hu155
    have d156 : s150 18 = (.int .i64 (firstOf ([.inl (([a0.path, a0.body] : List (List UInt8)).any fun t => decide (65536 < t.length)), .inr 2, .inl true, .inr (recFault a0)] : List (Bool ⊕ Int)))) := (hd154 13 rfl)
    exact L_op (.plain rfl) rfl (ltb rfl) (X_assign d156) <| L_nil <| stepEnd rfl rfl (Ext.refl w151) rfl
  intro s157 w158 e159 hf160 ha161
  have K162 := Kp.ofD (kp := [(4, 19)]) rfl hf160
  have d163 : s157 4 = (.int .i64 (firstOf ([.inl (([a0.path, a0.body] : List (List UInt8)).any fun t => decide (65536 < t.length)), .inr 2, .inl true, .inr (recFault a0)] : List (Bool ⊕ Int)))) := ha161 14 rfl
  clear ha161 hf160
  refine thn_n <| W_seq <| W_seq <| W_reg <| L_op (.plain rfl) rfl (ltb rfl) (X_move d163) <| L_op (.plain rfl) rfl (ltb rfl) (X_neq rfl rfl) <| L_nil <| thn_n ?_
  rcases bif_two H with ⟨q164, H⟩ | ⟨q164, H⟩
  · refine W_true (congrArg Value.bool q164) <| W_seq <| W_reg <| L_op (.plain rfl) rfl (ltb rfl) (X_build1 (vs := []) (pl := #[(0, 1), (1, 1), (2, 1), (3, 1), (4, 1)]) Tryd.underlying24 Tryd.zeroValue24 rfl (fun _ => by kernel_rfl) rfl rfl rfl) <| L_op (.plain rfl) rfl (ltb rfl) (X_move d163) <| L_storeA (.plain rfl) rfl rfl Tryd.sizeOf24 (K162 2 rfl) rfl rfl rfl rfl (Blk.ext k12 e159) <| fun w165 h166 k167 => L_op (.plain rfl) rfl (ltb rfl) (X_assign rfl) <| L_nil <| thn_n <| W_ret <| thn_r <| finG_r ?_
    obtain rfl := Option.some.inj H
    exact finC2 rfl (K162 2 rfl) k167 Tryd.isAgg24 Tryd.sizeOf24 rfl rfl (Ext.trans e5 (Below.trans (Ext.trans e11 e159) (Wr.below h166 (Nat.le_of_eq z9))))
  · refine W_false (congrArg Value.bool q164) <| W_skip <| thn_n <| W_seq <| W_reg <| L_op (.plain rfl) rfl (ltb rfl) (X_loadS Tryd.isAgg24 Tryd.sizeOf24 rfl (K162 1 rfl) (Blk.at0 (Blk.ext k6 (Ext.trans e11 e159)))) <| L_storeA (.plain rfl) rfl rfl Tryd.sizeOf24 (K162 2 rfl) rfl rfl rfl rfl (Blk.ext k12 e159) <| fun w168 h169 k170 => L_op (.plain rfl) rfl (ltb rfl) (X_assign (v := (.int .i64 0)) rfl) <| L_nil <| thn_n <| W_ret <| finG_r ?_
    obtain rfl := Option.some.inj H
    exact finC2 rfl (K162 2 rfl) k170 Tryd.isAgg24 Tryd.sizeOf24 rfl rfl (Ext.trans e5 (Below.trans (Ext.trans e11 e159) (Wr.below h169 (Nat.le_of_eq z9))))
theorem impl_made.calls {w : World} {a0 : Rec} (gv : GV 0 w) :
    Calls Tryd.prog 39 #[.agg (encRec a0).toArray] w (Rt (RP w (.tuple #[.agg (encRec ((makeR a0).1)).toArray, .int .i64 ((makeR a0).2)]))) := impl_made.walk gv (impl_made.eq a0)
/-! impl.MakeWhite -/
theorem impl_MakeWhite.walk {w : World} {a0 : List UInt8} (gv : GV 0 w) {r : Rec × Int} (H : impl_MakeWhite.sh a0 = some r) :
    Calls Tryd.prog 14 #[S a0] w (Rt (RP w (.tuple #[.agg (encRec r.1).toArray, .int .i64 r.2]))) := by
  unfold impl_MakeWhite.sh at H
  refine calls_of_WG Tryd.func14 rfl (Nat.le_of_ble_eq_true rfl) Tryd.ntmps14 ?_
  refine W_seq <| W_reg <| L_alloc (.plain rfl) rfl (ltb rfl) rfl Tryd.zeroValue24 <| fun b1 w2 z3 z4 e5 k6 => L_op (.plain rfl) rfl (ltb rfl) (X_assign (v := (.int .i64 0)) rfl) <| L_nil <| thn_n <| W_seq <| W_reg <| L_op (.plain rfl) rfl (ltb rfl) (X_move (v := (S a0)) rfl) <| L_op (.plain rfl) rfl (ltb rfl) (X_build1 (vs := [(0, (.int .i64 4)), (1, (S a0)), (2, (S ([] : List UInt8))), (3, (.int .i64 0)), (4, (.bool false))]) (pl := #[(0, 1), (1, 1), (2, 1), (3, 1), (4, 1)]) Tryd.underlying24 Tryd.zeroValue24 rfl (fun _ => by kernel_rfl) rfl rfl rfl) <| L_callP (.plain rfl) rfl (ltb rfl) rfl Tryd.call39 (impl_made.calls (w := w2) (a0 := (⟨4, a0, ([] : List UInt8), 0, false⟩ : Rec)) (GV.ext gv e5)) rfl <| fun w7 e8 => L_op (.plain rfl) rfl (ltb rfl) (X_extract rfl rfl) <| L_op (.plain rfl) rfl (ltb rfl) (X_extract (v := (.int .i64 ((makeR (⟨4, a0, ([] : List UInt8), 0, false⟩ : Rec)).2))) rfl rfl) <| L_storeA (.plain rfl) rfl rfl Tryd.sizeOf24 rfl rfl rfl rfl rfl (Blk.ext k6 e8) <| fun w9 h10 k11 => L_op (.plain rfl) rfl (ltb rfl) (X_assign (v := (.int .i64 ((makeR (⟨4, a0, ([] : List UInt8), 0, false⟩ : Rec)).2))) rfl) <| L_nil <| thn_n <| W_ret <| finG_r ?_
  obtain rfl := Option.some.inj H
  exact finC2 rfl rfl k11 Tryd.isAgg24 Tryd.sizeOf24 rfl rfl (Below.trans (Ext.trans e5 e8) (Wr.below h10 (Nat.le_of_eq z3)))
theorem impl_MakeWhite.calls {w : World} {a0 : List UInt8} (gv : GV 0 w) :
    Calls Tryd.prog 14 #[S a0] w (Rt (RP w (.tuple #[.agg (encRec ((makeR ⟨4, a0, [], 0, false⟩).1)).toArray, .int .i64 ((makeR ⟨4, a0, [], 0, false⟩).2)]))) := impl_MakeWhite.walk gv (impl_MakeWhite.eq a0)
/-! impl.MakeDir -/
theorem impl_MakeDir.walk {w : World} {a0 : List UInt8} {a1 : Int} {a2 : Bool} (gv : GV 0 w) {r : Rec × Int} (H : impl_MakeDir.sh a0 a1 a2 = some r) :
    Calls Tryd.prog 10 #[S a0, .int .i64 a1, .bool a2] w (Rt (RP w (.tuple #[.agg (encRec r.1).toArray, .int .i64 r.2]))) := by
  unfold impl_MakeDir.sh at H
  refine calls_of_WG Tryd.func10 rfl (Nat.le_of_ble_eq_true rfl) Tryd.ntmps10 ?_
  refine W_seq <| W_reg <| L_alloc (.plain rfl) rfl (ltb rfl) rfl Tryd.zeroValue24 <| fun b1 w2 z3 z4 e5 k6 => L_op (.plain rfl) rfl (ltb rfl) (X_assign (v := (.int .i64 0)) rfl) <| L_nil <| thn_n <| W_seq <| W_reg <| L_op (.plain rfl) rfl (ltb rfl) (X_move (v := (S a0)) rfl) <| L_op (.plain rfl) rfl (ltb rfl) (X_move (v := (.int .i64 a1)) rfl) <| L_op (.plain rfl) rfl (ltb rfl) (X_move (v := (.bool a2)) rfl) <| L_op (.plain rfl) rfl (ltb rfl) (X_build1 (vs := [(0, (.int .i64 3)), (1, (S a0)), (2, (S ([] : List UInt8))), (3, (.int .i64 a1)), (4, (.bool a2))]) (pl := #[(0, 1), (1, 1), (2, 1), (3, 1), (4, 1)]) Tryd.underlying24 Tryd.zeroValue24 rfl (fun _ => by kernel_rfl) rfl rfl rfl) <| L_callP (.plain rfl) rfl (ltb rfl) rfl Tryd.call39 (impl_made.calls (w := w2) (a0 := (⟨3, a0, ([] : List UInt8), a1, a2⟩ : Rec)) (GV.ext gv e5)) rfl <| fun w7 e8 => L_op (.plain rfl) rfl (ltb rfl) (X_extract rfl rfl) <| L_op (.plain rfl) rfl (ltb rfl) (X_extract (v := (.int .i64 ((makeR (⟨3, a0, ([] : List UInt8), a1, a2⟩ : Rec)).2))) rfl rfl) <| L_storeA (.plain rfl) rfl rfl Tryd.sizeOf24 rfl rfl rfl rfl rfl (Blk.ext k6 e8) <| fun w9 h10 k11 => L_op (.plain rfl) rfl (ltb rfl) (X_assign (v := (.int .i64 ((makeR (⟨3, a0, ([] : List UInt8), a1, a2⟩ : Rec)).2))) rfl) <| L_nil <| thn_n <| W_ret <| finG_r ?_
  obtain rfl := Option.some.inj H
  exact finC2 rfl rfl k11 Tryd.isAgg24 Tryd.sizeOf24 rfl rfl (Below.trans (Ext.trans e5 e8) (Wr.below h10 (Nat.le_of_eq z3)))
theorem impl_MakeDir.calls {w : World} {a0 : List UInt8} {a1 : Int} {a2 : Bool} (gv : GV 0 w) :
    Calls Tryd.prog 10 #[S a0, .int .i64 a1, .bool a2] w (Rt (RP w (.tuple #[.agg (encRec ((makeR ⟨3, a0, [], a1, a2⟩).1)).toArray, .int .i64 ((makeR ⟨3, a0, [], a1, a2⟩).2)]))) := impl_MakeDir.walk gv (impl_MakeDir.eq a0 a1 a2)
/-! impl.MakeFile -/
theorem impl_MakeFile.walk {w : World} {a0 : List UInt8} {a1 : List UInt8} {a2 : Int} (gv : GV 0 w) {r : Rec × Int} (H : impl_MakeFile.sh a0 a1 a2 = some r) :
    Calls Tryd.prog 8 #[S a0, S a1, .int .i64 a2] w (Rt (RP w (.tuple #[.agg (encRec r.1).toArray, .int .i64 r.2]))) := by
  unfold impl_MakeFile.sh at H
  refine calls_of_WG Tryd.func8 rfl (Nat.le_of_ble_eq_true rfl) Tryd.ntmps8 ?_
  refine W_seq <| W_reg <| L_alloc (.plain rfl) rfl (ltb rfl) rfl Tryd.zeroValue24 <| fun b1 w2 z3 z4 e5 k6 => L_op (.plain rfl) rfl (ltb rfl) (X_assign (v := (.int .i64 0)) rfl) <| L_nil <| thn_n <| W_seq <| W_reg <| L_op (.plain rfl) rfl (ltb rfl) (X_move (v := (S a0)) rfl) <| L_op (.plain rfl) rfl (ltb rfl) (X_move (v := (S a1)) rfl) <| L_op (.plain rfl) rfl (ltb rfl) (X_move (v := (.int .i64 a2)) rfl) <| L_op (.plain rfl) rfl (ltb rfl) (X_build1 (vs := [(0, (.int .i64 1)), (1, (S a0)), (2, (S a1)), (3, (.int .i64 a2)), (4, (.bool false))]) (pl := #[(0, 1), (1, 1), (2, 1), (3, 1), (4, 1)]) Tryd.underlying24 Tryd.zeroValue24 rfl (fun _ => by kernel_rfl) rfl rfl rfl) <| L_callP (.plain rfl) rfl (ltb rfl) rfl Tryd.call39 (impl_made.calls (w := w2) (a0 := (⟨1, a0, a1, a2, false⟩ : Rec)) (GV.ext gv e5)) rfl <| fun w7 e8 => L_op (.plain rfl) rfl (ltb rfl) (X_extract (v := (.agg (encRec ((makeR (⟨1, a0, a1, a2, false⟩ : Rec)).1)).toArray)) rfl rfl) <| L_op (.plain rfl) rfl (ltb rfl) (X_extract (v := (.int .i64 ((makeR (⟨1, a0, a1, a2, false⟩ : Rec)).2))) rfl rfl) <| L_storeA (.plain rfl) rfl rfl Tryd.sizeOf24 rfl rfl rfl rfl rfl (Blk.ext k6 e8) <| fun w9 h10 k11 => L_op (.plain rfl) rfl (ltb rfl) (X_assign (v := (.int .i64 ((makeR (⟨1, a0, a1, a2, false⟩ : Rec)).2))) rfl) <| L_nil <| thn_n <| W_ret <| finG_r ?_
  obtain rfl := Option.some.inj H
  exact finC2 rfl rfl k11 Tryd.isAgg24 Tryd.sizeOf24 rfl rfl (Below.trans (Ext.trans e5 e8) (Wr.below h10 (Nat.le_of_eq z3)))
theorem impl_MakeFile.calls {w : World} {a0 : List UInt8} {a1 : List UInt8} {a2 : Int} (gv : GV 0 w) :
    Calls Tryd.prog 8 #[S a0, S a1, .int .i64 a2] w (Rt (RP w (.tuple #[.agg (encRec ((makeR ⟨1, a0, a1, a2, false⟩).1)).toArray, .int .i64 ((makeR ⟨1, a0, a1, a2, false⟩).2)]))) := impl_MakeFile.walk gv (impl_MakeFile.eq a0 a1 a2)
/-! impl.MakeLink -/
theorem impl_MakeLink.walk {w : World} {a0 : List UInt8} {a1 : List UInt8} (gv : GV 0 w) {r : Rec × Int} (H : impl_MakeLink.sh a0 a1 = some r) :
    Calls Tryd.prog 12 #[S a0, S a1] w (Rt (RP w (.tuple #[.agg (encRec r.1).toArray, .int .i64 r.2]))) := by
  unfold impl_MakeLink.sh at H
  refine calls_of_WG Tryd.func12 rfl (Nat.le_of_ble_eq_true rfl) Tryd.ntmps12 ?_
  refine W_seq <| W_reg <| L_alloc (.plain rfl) rfl (ltb rfl) rfl Tryd.zeroValue24 <| fun b1 w2 z3 z4 e5 k6 => L_op (.plain rfl) rfl (ltb rfl) (X_assign (v := (.int .i64 0)) rfl) <| L_nil <| thn_n <| W_seq <| W_reg <| L_op (.plain rfl) rfl (ltb rfl) (X_move (v := (S a0)) rfl) <| L_op (.plain rfl) rfl (ltb rfl) (X_move (v := (S a1)) rfl) <| L_op (.plain rfl) rfl (ltb rfl) (X_build1 (vs := [(0, (.int .i64 2)), (1, (S a0)), (2, (S a1)), (3, (.int .i64 0)), (4, (.bool false))]) (pl := #[(0, 1), (1, 1), (2, 1), (3, 1), (4, 1)]) Tryd.underlying24 Tryd.zeroValue24 rfl (fun _ => by kernel_rfl) rfl rfl rfl) <| L_callP (.plain rfl) rfl (ltb rfl) rfl Tryd.call39 (impl_made.calls (w := w2) (a0 := (⟨2, a0, a1, 0, false⟩ : Rec)) (GV.ext gv e5)) rfl <| fun w7 e8 => L_op (.plain rfl) rfl (ltb rfl) (X_extract (v := (.agg (encRec ((makeR (⟨2, a0, a1, 0, false⟩ : Rec)).1)).toArray)) rfl rfl) <| L_op (.plain rfl) rfl (ltb rfl) (X_extract (v := (.int .i64 ((makeR (⟨2, a0, a1, 0, false⟩ : Rec)).2))) rfl rfl) <| L_storeA (.plain rfl) rfl rfl Tryd.sizeOf24 rfl rfl rfl rfl rfl (Blk.ext k6 e8) <| fun w9 h10 k11 => L_op (.plain rfl) rfl (ltb rfl) (X_assign (v := (.int .i64 ((makeR (⟨2, a0, a1, 0, false⟩ : Rec)).2))) rfl) <| L_nil <| thn_n <| W_ret <| finG_r ?_
  obtain rfl := Option.some.inj H
  exact finC2 rfl rfl k11 Tryd.isAgg24 Tryd.sizeOf24 rfl rfl (Below.trans (Ext.trans e5 e8) (Wr.below h10 (Nat.le_of_eq z3)))
theorem impl_MakeLink.calls {w : World} {a0 : List UInt8} {a1 : List UInt8} (gv : GV 0 w) :
    Calls Tryd.prog 12 #[S a0, S a1] w (Rt (RP w (.tuple #[.agg (encRec ((makeR ⟨2, a0, a1, 0, false⟩).1)).toArray, .int .i64 ((makeR ⟨2, a0, a1, 0, false⟩).2)]))) := impl_MakeLink.walk gv (impl_MakeLink.eq a0 a1)
/-! spec.l00Source -/
theorem spec_l00Source.walk {w : World} {a0 : List Int} {v_a0 : Value} (f_a0 : Rd 1 (Go.UL.encI .u8) w v_a0 a0) {r : Src} (H : spec_l00Source.sh a0 = some r) :
    Calls Tryd.prog 35 #[v_a0] w (Rt (RSN 62 v_a0 w r)) := by
  unfold spec_l00Source.sh at H
  refine calls_of_W Tryd.func35 rfl (Nat.le_of_ble_eq_true rfl) Tryd.ntmps35 rfl ?_
  refine W_seq <| W_reg <| L_op (.plain rfl) rfl (ltb rfl) (X_assign rfl) <| L_nil <| thn_n <| W_seq <| W_reg <| L_op (.plain rfl) rfl (ltb rfl) (X_move (v := v_a0) rfl) <| L_op (.plain rfl) rfl (ltb rfl) (X_move (v := v_a0) rfl) <| L_op (.plain rfl) rfl (ltb rfl) (X_lenR Tryd.underlying22 rfl f_a0) <| L_op (.plain rfl) rfl (ltb rfl) (X_rem rfl rfl (by decide)) <| L_op (.plain rfl) rfl (ltb rfl) (X_build1 (vs := [(0, v_a0), (2, (.int .i64 ((a0.length : Int).tmod 1000)))]) (pl := #[(0, 1), (1, 1), (2, 1)]) Tryd.underlying62 Tryd.zeroValue62 rfl (fun _ => by kernel_rfl) rfl rfl (by obtain ⟨A9, c9, e9⟩ := Rd.shape f_a0; rw [e9]; rfl)) <| L_box (.plain rfl) rfl (ltb rfl) rfl rfl <| fun b1 w2 z3 z4 e5 k6 => L_op (.plain rfl) rfl (ltb rfl) (X_assign (v := (.pointer (some ⟨b1, 0, none⟩))) rfl) <| L_nil <| thn_n <| W_ret <| fin_r ?_
  obtain rfl := Option.some.inj H
  exact fin1sn rfl e5 (Nat.le_trans ((Ext.refl w)).size (Nat.le_of_eq z3)) k6
theorem spec_l00Source.calls {w : World} {a0 : List Int} {r : Src} {v_a0 : Value} (f_a0 : Rd 1 (Go.UL.encI .u8) w v_a0 a0) (H : (spec_l00Source.sh a0) = some r) :
    Calls Tryd.prog 35 #[v_a0] w (Rt (RSN 62 v_a0 w r)) := spec_l00Source.walk f_a0 (spec_l00Source.eq a0 H)
/-! (*spec.l00Src).byte -/
abbrev draw_byte.e1 (a1 : Src) := (IntKind.wrap .i64 ((IntKind.wrap .i64 (a1.pos + 1)) - 1))
abbrev draw_byte.e2 (a0 : List Int) (a1 : Src) := (IntKind.wrap .i64 ((IntKind.wrap .i64 (a1.seed * 31)) + (IntKind.wrap .i64 (gt a0 (draw_byte.e1 a1)))))
theorem draw_byte.walk {w : World} {a0 : List Int} {a1 : Src} {wc : World} {cv : Value} {bs : Nat} (kc : Ext wc w) (fc : Rd 1 (Go.UL.encI .u8) wc cv a0) (hz : wc.heap.size ≤ bs) (ks : Blk w bs (encSrc cv a1).toArray 62) {r : Int × Src} (H : draw_byte.sh a0 a1 = some r) :
    Calls Tryd.prog 72 #[.pointer (some ⟨bs, 0, none⟩)] w (Rt (RS 62 bs cv w (.int .i64 r.1) r.2)) := by
  unfold draw_byte.sh at H
  refine calls_of_W Tryd.func72 rfl (Nat.le_of_ble_eq_true rfl) Tryd.ntmps72 rfl ?_
  refine W_seq <| W_reg <| L_op (.plain rfl) rfl (ltb rfl) (X_assign (v := (.int .i64 0)) rfl) <| L_nil <| thn_n <| W_seq <| W_reg <| L_op (.plain rfl) rfl (ltb rfl) (X_move (v := (.pointer (some ⟨bs, 0, none⟩))) rfl) <| L_op (.plain rfl) rfl (ltb rfl) (X_nil rfl) <| L_op (.plain rfl) rfl (ltb rfl) (X_fieldAddr Tryd.underlying62 rfl Tryd.sizeOf3 rfl rfl) <| L_op (.plain rfl) rfl (ltb rfl) (X_loadB Tryd.isAgg3 ks rfl rfl) <| L_op (.plain rfl) rfl (ltb rfl) (X_add rfl rfl) <| L_op (.plain rfl) rfl (ltb rfl) (X_nil rfl) <| L_op (.plain rfl) rfl (ltb rfl) (X_fieldAddr Tryd.underlying62 rfl Tryd.sizeOf3 rfl rfl) <| L_store1 (.plain rfl) rfl rfl Tryd.sizeOf3 rfl rfl rfl ks (ltb rfl) <| fun w1 h2 k3 => L_nil <| thn_n <| W_seq <| W_seq ?_
  refine W_drawM [LEq (.pointer (some ⟨bs, 0, none⟩)), LEq (.pointer (some ⟨bs, 0, none⟩)), LEq (.pointer (some ⟨bs, 1, none⟩)), LEq (.int .i64 (IntKind.wrap .i64 (a1.pos + 1))), LEq (.pointer (some ⟨bs, 0, none⟩)), LEq (.pointer (some ⟨bs, 0, none⟩)), LEq (.pointer (some ⟨bs, 0, none⟩)), LRd 1 (Go.UL.encI .u8) a0, LEq (.int .i64 (a0.length : Int)), LEq (.bool (decide ((IntKind.wrap .i64 (a1.pos + 1)) ≤ (a0.length : Int))))] (by kernel_rfl) (by kernel_rfl) ⟨LEq.mono, LEq.mono, LEq.mono, LEq.mono, LEq.mono, LEq.mono, LEq.mono, LRd.mono, LEq.mono, LEq.mono, trivial⟩ ⟨?_, ?_, ?_, ?_, ?_, ?_, ?_, ?_, ?_, ?_, trivial⟩ ?_
  · intro s4 w5 e6 hf7 hd8 hu9
    exact L_op (.plain rfl) rfl (ltb rfl) (X_move (v := (.pointer (some ⟨bs, 0, none⟩))) (hf7 0 rfl)) <| L_nil <| stepEnd rfl rfl (Ext.refl w5) rfl
  · intro s10 w11 e12 hf13 hd14 hu15
    have d16 : s10 10 = (.pointer (some ⟨bs, 0, none⟩)) := (hd14 0 rfl)
    exact L_op (.plain rfl) rfl (ltb rfl) (X_nil d16) <| L_nil <| stepEnd rfl rfl (Ext.refl w11) rfl
  · intro s17 w18 e19 hf20 hd21 hu22
    have d23 : s17 11 = (.pointer (some ⟨bs, 0, none⟩)) := (hd21 1 rfl)
    exact L_op (.plain rfl) rfl (ltb rfl) (X_fieldAddr Tryd.underlying62 rfl Tryd.sizeOf3 rfl d23) <| L_nil <| stepEnd rfl rfl (Ext.refl w18) rfl
  · intro s24 w25 e26 hf27 hd28 hu29
    have d30 : s24 12 = (.pointer (some ⟨bs, 1, none⟩)) := (hd28 2 rfl)
    exact L_op (.plain rfl) rfl (ltb rfl) (X_loadB Tryd.isAgg3 (Blk.ext k3 e26) d30 rfl) <| L_nil <| stepEnd rfl rfl (Ext.refl w25) rfl
  · intro s31 w32 e33 hf34 hd35 hu36
    exact L_op (.plain rfl) rfl (ltb rfl) (X_move (v := (.pointer (some ⟨bs, 0, none⟩))) (hf34 0 rfl)) <| L_nil <| stepEnd rfl rfl (Ext.refl w32) rfl
  · intro s37 w38 e39 hf40 hd41 hu42
    have d43 : s37 14 = (.pointer (some ⟨bs, 0, none⟩)) := (hd41 4 rfl)
    exact L_op (.plain rfl) rfl (ltb rfl) (X_nil d43) <| L_nil <| stepEnd rfl rfl (Ext.refl w38) rfl
  · intro s44 w45 e46 hf47 hd48 hu49
    have d50 : s44 15 = (.pointer (some ⟨bs, 0, none⟩)) := (hd48 5 rfl)
    exact L_op (.plain rfl) rfl (ltb rfl) (X_fieldAddr Tryd.underlying62 rfl Tryd.sizeOf22 rfl d50) <| L_nil <| stepEnd rfl rfl (Ext.refl w45) rfl
  · intro s51 w52 e53 hf54 hd55 hu56
    have d57 : s51 16 = (.pointer (some ⟨bs, 0, none⟩)) := (hd55 6 rfl)
    exact L_op (.plain rfl) rfl (ltb rfl) (X_loadB Tryd.isAgg22 (Blk.ext k3 e53) d57 rfl) <| L_nil <| stepEnd rfl rfl (Ext.refl w52) (Rd.ext fc (Ext.trans (Below.trans kc (Below.mono (Wr.below h2 hz) (Nat.le_refl _))) e53))
  · intro s58 w59 e60 hf61 hd62 hu63
    have d64 : Rd 1 (Go.UL.encI .u8) w59 (s58 17) a0 := (hd62 7 rfl)
    exact L_op (.plain rfl) rfl (ltb rfl) (X_lenR Tryd.underlying22 rfl d64) <| L_nil <| stepEnd rfl rfl (Ext.refl w59) rfl
  · intro s65 w66 e67 hf68 hd69 hu70
    have d71 : s65 13 = (.int .i64 (IntKind.wrap .i64 (a1.pos + 1))) := (hd69 3 rfl)
    have d72 : s65 18 = (.int .i64 (a0.length : Int)) := (hd69 8 rfl)
    exact L_op (.plain rfl) rfl (ltb rfl) (X_leq d71 d72) <| L_nil <| stepEnd rfl rfl (Ext.refl w66) rfl
  intro s73 w74 e75 hf76 ha77
  have K78 := Kp.ofD (kp := [(10, 20)]) rfl hf76
  have d79 : s73 19 = (.bool (decide ((IntKind.wrap .i64 (a1.pos + 1)) ≤ (a0.length : Int)))) := ha77 9 rfl
  clear ha77 hf76
  refine thn_n ?_
  rcases bif_two H with ⟨q80, H⟩ | ⟨q80, H⟩
  · refine W_true (d79.trans (congrArg Value.bool q80)) <| W_seq ?_
    obtain ⟨c81, H⟩ := bif_some H
    refine W_drawN 22 [LEq (.pointer (some ⟨bs, 0, none⟩)), LEq (.pointer (some ⟨bs, 0, none⟩)), LEq (.pointer (some ⟨bs, 0, none⟩)), LEq (.pointer (some ⟨bs, 2, none⟩)), LEq (.int .i64 a1.seed), LEq (.int .i64 (IntKind.wrap .i64 (a1.seed * 31))), LEq (.pointer (some ⟨bs, 0, none⟩)), LEq (.pointer (some ⟨bs, 0, none⟩)), LEq (.pointer (some ⟨bs, 0, none⟩)), LRd 1 (Go.UL.encI .u8) a0, LEq (.pointer (some ⟨bs, 0, none⟩)), LEq (.pointer (some ⟨bs, 0, none⟩)), LEq (.pointer (some ⟨bs, 1, none⟩)), LEq (.int .i64 (IntKind.wrap .i64 (a1.pos + 1))), LEq (.int .i64 (draw_byte.e1 a1)), LAt0 ((Go.UL.encI .u8) (gt a0 (draw_byte.e1 a1))), LEq (.int .u8 (gt a0 (draw_byte.e1 a1))), LEq (.int .i64 (IntKind.wrap .i64 (gt a0 (draw_byte.e1 a1)))), LEq (.int .i64 (draw_byte.e2 a0 a1)), LEq (.int .i64 (IntKind.wrap .i64 ((draw_byte.e2 a0 a1) + 7))), LEq (.int .i64 ((IntKind.wrap .i64 ((draw_byte.e2 a0 a1) + 7)).tmod 2147483648)), LEq (.pointer (some ⟨bs, 0, none⟩))] (by kernel_rfl) (by kernel_rfl) (by kernel_rfl) ⟨LEq.mono, LEq.mono, LEq.mono, LEq.mono, LEq.mono, LEq.mono, LEq.mono, LEq.mono, LEq.mono, LRd.mono, LEq.mono, LEq.mono, LEq.mono, LEq.mono, LEq.mono, LAt0.mono, LEq.mono, LEq.mono, LEq.mono, LEq.mono, LEq.mono, LEq.mono, trivial⟩ ⟨?_, ?_, ?_, ?_, ?_, ?_, ?_, ?_, ?_, ?_, ?_, ?_, ?_, ?_, ?_, ?_, ?_, ?_, ?_, ?_, ?_, ?_, trivial⟩ ?_
    · intro s84 w85 e86 hf87 hd88 hu89
      exact L_op (.plain rfl) rfl (ltb rfl) (X_move (v := (.pointer (some ⟨bs, 0, none⟩))) ((hf87 0 rfl).trans (K78 0 rfl))) <| L_nil <| stepEnd rfl rfl (Ext.refl w85) rfl
    · intro s90 w91 e92 hf93 hd94 hu95
      exact L_op (.plain rfl) rfl (ltb rfl) (X_move (v := (.pointer (some ⟨bs, 0, none⟩))) ((hf93 0 rfl).trans (K78 0 rfl))) <| L_nil <| stepEnd rfl rfl (Ext.refl w91) rfl
    · intro s96 w97 e98 hf99 hd100 hu101
      have d102 : s96 21 = (.pointer (some ⟨bs, 0, none⟩)) := (hd100 1 rfl)
      exact L_op (.plain rfl) rfl (ltb rfl) (X_nil d102) <| L_nil <| stepEnd rfl rfl (Ext.refl w97) rfl
    · intro s103 w104 e105 hf106 hd107 hu108
      have d109 : s103 22 = (.pointer (some ⟨bs, 0, none⟩)) := (hd107 2 rfl)
      exact L_op (.plain rfl) rfl (ltb rfl) (X_fieldAddr Tryd.underlying62 rfl Tryd.sizeOf3 rfl d109) <| L_nil <| stepEnd rfl rfl (Ext.refl w104) rfl
    · intro s110 w111 e112 hf113 hd114 hu115
      have d116 : s110 23 = (.pointer (some ⟨bs, 2, none⟩)) := (hd114 3 rfl)
      exact L_op (.plain rfl) rfl (ltb rfl) (X_loadB Tryd.isAgg3 (Blk.ext k3 (Ext.trans e75 e112)) d116 rfl) <| L_nil <| stepEnd rfl rfl (Ext.refl w111) rfl
    · intro s117 w118 e119 hf120 hd121 hu122
      have d123 : s117 24 = (.int .i64 a1.seed) := (hd121 4 rfl)
      exact L_op (.plain rfl) rfl (ltb rfl) (X_mul d123 rfl) <| L_nil <| stepEnd rfl rfl (Ext.refl w118) rfl
    · intro s124 w125 e126 hf127 hd128 hu129
      exact L_op (.plain rfl) rfl (ltb rfl) (X_move (v := (.pointer (some ⟨bs, 0, none⟩))) ((hf127 0 rfl).trans (K78 0 rfl))) <| L_nil <| stepEnd rfl rfl (Ext.refl w125) rfl
    · intro s130 w131 e132 hf133 hd134 hu135
      have d136 : s130 26 = (.pointer (some ⟨bs, 0, none⟩)) := (hd134 6 rfl)
      exact L_op (.plain rfl) rfl (ltb rfl) (X_nil d136) <| L_nil <| stepEnd rfl rfl (Ext.refl w131) rfl
    · intro s137 w138 e139 hf140 hd141 hu142
      have d143 : s137 27 = (.pointer (some ⟨bs, 0, none⟩)) := (hd141 7 rfl)
      exact L_op (.plain rfl) rfl (ltb rfl) (X_fieldAddr Tryd.underlying62 rfl Tryd.sizeOf22 rfl d143) <| L_nil <| stepEnd rfl rfl (Ext.refl w138) rfl
    · intro s144 w145 e146 hf147 hd148 hu149
      have d150 : s144 28 = (.pointer (some ⟨bs, 0, none⟩)) := (hd148 8 rfl)
      exact L_op (.plain rfl) rfl (ltb rfl) (X_loadB Tryd.isAgg22 (Blk.ext k3 (Ext.trans e75 e146)) d150 rfl) <| L_nil <| stepEnd rfl rfl (Ext.refl w145) (Rd.ext fc (Ext.trans (Ext.trans (Below.trans kc (Below.mono (Wr.below h2 hz) (Nat.le_refl _))) e75) e146))
    · intro s151 w152 e153 hf154 hd155 hu156
      exact L_op (.plain rfl) rfl (ltb rfl) (X_move (v := (.pointer (some ⟨bs, 0, none⟩))) ((hf154 0 rfl).trans (K78 0 rfl))) <| L_nil <| stepEnd rfl rfl (Ext.refl w152) rfl
    · intro s157 w158 e159 hf160 hd161 hu162
      have d163 : s157 30 = (.pointer (some ⟨bs, 0, none⟩)) := (hd161 10 rfl)
      exact L_op (.plain rfl) rfl (ltb rfl) (X_nil d163) <| L_nil <| stepEnd rfl rfl (Ext.refl w158) rfl
    · intro s164 w165 e166 hf167 hd168 hu169
      have d170 : s164 31 = (.pointer (some ⟨bs, 0, none⟩)) := (hd168 11 rfl)
      exact L_op (.plain rfl) rfl (ltb rfl) (X_fieldAddr Tryd.underlying62 rfl Tryd.sizeOf3 rfl d170) <| L_nil <| stepEnd rfl rfl (Ext.refl w165) rfl
    · intro s171 w172 e173 hf174 hd175 hu176
      have d177 : s171 32 = (.pointer (some ⟨bs, 1, none⟩)) := (hd175 12 rfl)
      exact L_op (.plain rfl) rfl (ltb rfl) (X_loadB Tryd.isAgg3 (Blk.ext k3 (Ext.trans e75 e173)) d177 rfl) <| L_nil <| stepEnd rfl rfl (Ext.refl w172) rfl
    · intro s178 w179 e180 hf181 hd182 hu183
      have d184 : s178 33 = (.int .i64 (IntKind.wrap .i64 (a1.pos + 1))) := (hd182 13 rfl)
      exact L_op (.plain rfl) rfl (ltb rfl) (X_sub d184 rfl) <| L_nil <| stepEnd rfl rfl (Ext.refl w179) rfl
    · intro s185 w186 e187 hf188 hd189 hu190
      have d191 : Rd 1 (Go.UL.encI .u8) w186 (s185 29) a0 := (hd189 9 rfl)
      have d192 : s185 34 = (.int .i64 (draw_byte.e1 a1)) := (hd189 14 rfl)
      have c193 := c81
      exact L_idx (.plain rfl) rfl (ltb rfl) rfl Tryd.underlying22 Tryd.sizeOf5 rfl d191 d192 c193 <| fun p194 h195 => L_nil <| stepEnd rfl rfl (Ext.refl w186) ⟨_, rfl, h195⟩
    · intro s196 w197 e198 hf199 hd200 hu201
      obtain ⟨p202, h203, h204⟩ := (hd200 15 rfl)
      exact L_op (.plain rfl) rfl (ltb rfl) (X_loadAt Tryd.isAgg5 h203 h204 rfl) <| L_nil <| stepEnd rfl rfl (Ext.refl w197) rfl
    · intro s205 w206 e207 hf208 hd209 hu210
      have d211 : s205 36 = (.int .u8 (gt a0 (draw_byte.e1 a1))) := (hd209 16 rfl)
      exact L_op (.plain rfl) rfl (ltb rfl) (X_convInt Tryd.underlying5 Tryd.underlying3 d211) <| L_nil <| stepEnd rfl rfl (Ext.refl w206) rfl
    · intro s212 w213 e214 hf215 hd216 hu217
      have d218 : s212 25 = (.int .i64 (IntKind.wrap .i64 (a1.seed * 31))) := (hd216 5 rfl)
      have d219 : s212 37 = (.int .i64 (IntKind.wrap .i64 (gt a0 (draw_byte.e1 a1)))) := (hd216 17 rfl)
      exact L_op (.plain rfl) rfl (ltb rfl) (X_add d218 d219) <| L_nil <| stepEnd rfl rfl (Ext.refl w213) rfl
    · intro s220 w221 e222 hf223 hd224 hu225
      have d226 : s220 38 = (.int .i64 (draw_byte.e2 a0 a1)) := (hd224 18 rfl)
      exact L_op (.plain rfl) rfl (ltb rfl) (X_add d226 rfl) <| L_nil <| stepEnd rfl rfl (Ext.refl w221) rfl
    · intro s227 w228 e229 hf230 hd231 hu232
      have d233 : s227 39 = (.int .i64 (IntKind.wrap .i64 ((draw_byte.e2 a0 a1) + 7))) := (hd231 19 rfl)
      exact L_op (.plain rfl) rfl (ltb rfl) (X_rem d233 rfl (by decide)) <| L_nil <| stepEnd rfl rfl (Ext.refl w228) rfl
    · intro s234 w235 e236 hf237 hd238 hu239
      have d240 : s234 20 = (.pointer (some ⟨bs, 0, none⟩)) := (hd238 0 rfl)
      exact L_op (.plain rfl) rfl (ltb rfl) (X_nil d240) <| L_nil <| stepEnd rfl rfl (Ext.refl w235) rfl
    intro s241 w242 e243 hf244 ha245
    have K246 := Kp.ofD (kp := [(20, 42)]) rfl hf244
    have d247 : s241 40 = (.int .i64 ((IntKind.wrap .i64 ((draw_byte.e2 a0 a1) + 7)).tmod 2147483648)) := ha245 20 rfl
    have d248 : s241 41 = (.pointer (some ⟨bs, 0, none⟩)) := ha245 21 rfl
    clear ha245 hf244
    refine L_op (.plain rfl) rfl (ltb rfl) (X_fieldAddr Tryd.underlying62 rfl Tryd.sizeOf3 rfl d248) <| L_store1 (.plain rfl) rfl rfl Tryd.sizeOf3 rfl d247 rfl (Blk.ext k3 (Ext.trans e75 e243)) (ltb rfl) <| fun w249 h250 k251 => L_nil <| thn_n <| W_seq ?_
    obtain ⟨c252, H⟩ := bif_some H
    refine W_drawM [LEq (.pointer (some ⟨bs, 0, none⟩)), LEq (.pointer (some ⟨bs, 0, none⟩)), LEq (.pointer (some ⟨bs, 0, none⟩)), LRd 1 (Go.UL.encI .u8) a0, LEq (.pointer (some ⟨bs, 0, none⟩)), LEq (.pointer (some ⟨bs, 0, none⟩)), LEq (.pointer (some ⟨bs, 1, none⟩)), LEq (.int .i64 (IntKind.wrap .i64 (a1.pos + 1))), LEq (.int .i64 (draw_byte.e1 a1)), LAt0 ((Go.UL.encI .u8) (gt a0 (draw_byte.e1 a1))), LEq (.int .u8 (gt a0 (draw_byte.e1 a1))), LEq (.int .i64 (IntKind.wrap .i64 (gt a0 (draw_byte.e1 a1)))), LEq (.int .i64 (IntKind.wrap .i64 (gt a0 (draw_byte.e1 a1))))] (by kernel_rfl) (by kernel_rfl) ⟨LEq.mono, LEq.mono, LEq.mono, LRd.mono, LEq.mono, LEq.mono, LEq.mono, LEq.mono, LEq.mono, LAt0.mono, LEq.mono, LEq.mono, LEq.mono, trivial⟩ ⟨?_, ?_, ?_, ?_, ?_, ?_, ?_, ?_, ?_, ?_, ?_, ?_, ?_, trivial⟩ ?_
    · intro s255 w256 e257 hf258 hd259 hu260
      exact L_op (.plain rfl) rfl (ltb rfl) (X_move (v := (.pointer (some ⟨bs, 0, none⟩))) ((hf258 0 rfl).trans ((K246 0 rfl).trans (K78 0 rfl)))) <| L_nil <| stepEnd rfl rfl (Ext.refl w256) rfl
    · intro s261 w262 e263 hf264 hd265 hu266
      have d267 : s261 43 = (.pointer (some ⟨bs, 0, none⟩)) := (hd265 0 rfl)
      exact L_op (.plain rfl) rfl (ltb rfl) (X_nil d267) <| L_nil <| stepEnd rfl rfl (Ext.refl w262) rfl
    · intro s268 w269 e270 hf271 hd272 hu273
      have d274 : s268 44 = (.pointer (some ⟨bs, 0, none⟩)) := (hd272 1 rfl)
      exact L_op (.plain rfl) rfl (ltb rfl) (X_fieldAddr Tryd.underlying62 rfl Tryd.sizeOf22 rfl d274) <| L_nil <| stepEnd rfl rfl (Ext.refl w269) rfl
    · intro s275 w276 e277 hf278 hd279 hu280
      have d281 : s275 45 = (.pointer (some ⟨bs, 0, none⟩)) := (hd279 2 rfl)
      exact L_op (.plain rfl) rfl (ltb rfl) (X_loadB Tryd.isAgg22 (Blk.ext k251 e277) d281 rfl) <| L_nil <| stepEnd rfl rfl (Ext.refl w276) (Rd.ext fc (Ext.trans (Below.trans (Ext.trans (Ext.trans (Below.trans kc (Below.mono (Wr.below h2 hz) (Nat.le_refl _))) e75) e243) (Below.mono (Wr.below h250 hz) (Nat.le_refl _))) e277))
    · intro s282 w283 e284 hf285 hd286 hu287
      exact L_op (.plain rfl) rfl (ltb rfl) (X_move (v := (.pointer (some ⟨bs, 0, none⟩))) ((hf285 0 rfl).trans ((K246 0 rfl).trans (K78 0 rfl)))) <| L_nil <| stepEnd rfl rfl (Ext.refl w283) rfl
    · intro s288 w289 e290 hf291 hd292 hu293
      have d294 : s288 47 = (.pointer (some ⟨bs, 0, none⟩)) := (hd292 4 rfl)
      exact L_op (.plain rfl) rfl (ltb rfl) (X_nil d294) <| L_nil <| stepEnd rfl rfl (Ext.refl w289) rfl
    · intro s295 w296 e297 hf298 hd299 hu300
      have d301 : s295 48 = (.pointer (some ⟨bs, 0, none⟩)) := (hd299 5 rfl)
      exact L_op (.plain rfl) rfl (ltb rfl) (X_fieldAddr Tryd.underlying62 rfl Tryd.sizeOf3 rfl d301) <| L_nil <| stepEnd rfl rfl (Ext.refl w296) rfl
    · intro s302 w303 e304 hf305 hd306 hu307
      have d308 : s302 49 = (.pointer (some ⟨bs, 1, none⟩)) := (hd306 6 rfl)
      exact L_op (.plain rfl) rfl (ltb rfl) (X_loadB Tryd.isAgg3 (Blk.ext k251 e304) d308 rfl) <| L_nil <| stepEnd rfl rfl (Ext.refl w303) rfl
    · intro s309 w310 e311 hf312 hd313 hu314
      have d315 : s309 50 = (.int .i64 (IntKind.wrap .i64 (a1.pos + 1))) := (hd313 7 rfl)
      exact L_op (.plain rfl) rfl (ltb rfl) (X_sub d315 rfl) <| L_nil <| stepEnd rfl rfl (Ext.refl w310) rfl
    · intro s316 w317 e318 hf319 hd320 hu321
      have d322 : Rd 1 (Go.UL.encI .u8) w317 (s316 46) a0 := (hd320 3 rfl)
      have d323 : s316 51 = (.int .i64 (draw_byte.e1 a1)) := (hd320 8 rfl)
      have c324 := c252
      exact L_idx (.plain rfl) rfl (ltb rfl) rfl Tryd.underlying22 Tryd.sizeOf5 rfl d322 d323 c324 <| fun p325 h326 => L_nil <| stepEnd rfl rfl (Ext.refl w317) ⟨_, rfl, h326⟩
    · intro s327 w328 e329 hf330 hd331 hu332
      obtain ⟨p333, h334, h335⟩ := (hd331 9 rfl)
      exact L_op (.plain rfl) rfl (ltb rfl) (X_loadAt Tryd.isAgg5 h334 h335 rfl) <| L_nil <| stepEnd rfl rfl (Ext.refl w328) rfl
    · intro s336 w337 e338 hf339 hd340 hu341
      have d342 : s336 53 = (.int .u8 (gt a0 (draw_byte.e1 a1))) := (hd340 10 rfl)
      exact L_op (.plain rfl) rfl (ltb rfl) (X_convInt Tryd.underlying5 Tryd.underlying3 d342) <| L_nil <| stepEnd rfl rfl (Ext.refl w337) rfl
    · intro s343 w344 e345 hf346 hd347 hu348
      have d349 : s343 54 = (.int .i64 (IntKind.wrap .i64 (gt a0 (draw_byte.e1 a1)))) := (hd347 11 rfl)
      exact L_op (.plain rfl) rfl (ltb rfl) (X_assign d349) <| L_nil <| stepEnd rfl rfl (Ext.refl w344) rfl
    intro s350 w351 e352 hf353 ha354
    have K355 := Kp.ofD (kp := [(2, 3), (43, 55)]) rfl hf353
    have d356 : s350 2 = (.int .i64 (IntKind.wrap .i64 (gt a0 (draw_byte.e1 a1)))) := ha354 12 rfl
    clear ha354 hf353
    refine thn_n <| W_ret <| thn_r <| fin_r ?_
    obtain rfl := Option.some.inj H
    exact fin1s d356 (Gr.trans (Gr.trans (Gr.trans (Gr.trans (Gr.ofWr h2) (Gr.ext e75)) (Gr.ext e243)) (Gr.ofWr h250)) (Gr.ext e352)) (Blk.ext k251 e352)
  · refine W_false (d79.trans (congrArg Value.bool q80)) <| W_skip <| thn_n <| W_seq <| W_seq <| W_reg <| L_op (.plain rfl) rfl (ltb rfl) (X_move (v := (.pointer (some ⟨bs, 0, none⟩))) (K78 0 rfl)) <| L_op (.plain rfl) rfl (ltb rfl) (X_nil rfl) <| L_op (.plain rfl) rfl (ltb rfl) (X_fieldAddr Tryd.underlying62 rfl Tryd.sizeOf3 rfl rfl) <| L_op (.plain rfl) rfl (ltb rfl) (X_loadB Tryd.isAgg3 (Blk.ext k3 e75) rfl rfl) <| L_op (.plain rfl) rfl (ltb rfl) (X_gtr rfl rfl) <| L_nil <| thn_n ?_
    rcases bif_two H with ⟨q357, H⟩ | ⟨q357, H⟩
    · refine W_true (congrArg Value.bool q357) <| W_seq <| W_reg <| L_op (.plain rfl) rfl (ltb rfl) (X_assign (v := (.int .i64 0)) rfl) <| L_nil <| thn_n <| W_ret <| thn_r <| fin_r ?_
      obtain rfl := Option.some.inj H
      exact fin1s rfl (Gr.trans (Gr.ofWr h2) (Gr.ext e75)) (Blk.ext k3 e75)
    · refine W_false (congrArg Value.bool q357) <| W_skip <| thn_n <| W_seq <| W_reg <| L_op (.plain rfl) rfl (ltb rfl) (X_move (v := (.pointer (some ⟨bs, 0, none⟩))) (K78 0 rfl)) <| L_op (.plain rfl) rfl (ltb rfl) (X_move (v := (.pointer (some ⟨bs, 0, none⟩))) (K78 0 rfl)) <| L_op (.plain rfl) rfl (ltb rfl) (X_nil rfl) <| L_op (.plain rfl) rfl (ltb rfl) (X_fieldAddr Tryd.underlying62 rfl Tryd.sizeOf3 rfl rfl) <| L_op (.plain rfl) rfl (ltb rfl) (X_loadB Tryd.isAgg3 (Blk.ext k3 e75) rfl rfl) <| L_op (.plain rfl) rfl (ltb rfl) (X_mul rfl rfl) <| L_op (.plain rfl) rfl (ltb rfl) (X_add rfl rfl) <| L_op (.plain rfl) rfl (ltb rfl) (X_rem rfl rfl (by decide)) <| L_op (.plain rfl) rfl (ltb rfl) (X_nil rfl) <| L_op (.plain rfl) rfl (ltb rfl) (X_fieldAddr Tryd.underlying62 rfl Tryd.sizeOf3 rfl rfl) <| L_store1 (.plain rfl) rfl rfl Tryd.sizeOf3 rfl rfl rfl (Blk.ext k3 e75) (ltb rfl) <| fun w358 h359 k360 => L_nil <| thn_n <| W_seq <| W_reg <| L_op (.plain rfl) rfl (ltb rfl) (X_move (v := (.pointer (some ⟨bs, 0, none⟩))) (K78 0 rfl)) <| L_op (.plain rfl) rfl (ltb rfl) (X_nil rfl) <| L_op (.plain rfl) rfl (ltb rfl) (X_fieldAddr Tryd.underlying62 rfl Tryd.sizeOf3 rfl rfl) <| L_op (.plain rfl) rfl (ltb rfl) (X_loadB Tryd.isAgg3 k360 rfl rfl) <| L_op (.plain rfl) rfl (ltb rfl) (X_quo rfl rfl (by decide)) <| L_op (.plain rfl) rfl (ltb rfl) (X_rem rfl rfl (by decide)) <| L_op (.plain rfl) rfl (ltb rfl) (X_assign rfl) <| L_nil <| thn_n <| W_ret <| fin_r ?_
      obtain rfl := Option.some.inj H
      exact fin1s rfl (Gr.trans (Gr.trans (Gr.ofWr h2) (Gr.ext e75)) (Gr.ofWr h359)) k360
theorem draw_byte.calls {w : World} {a0 : List Int} {a1 : Src} {r : Int × Src} {wc : World} {cv : Value} {bs : Nat} (kc : Ext wc w) (fc : Rd 1 (Go.UL.encI .u8) wc cv a0) (hz : wc.heap.size ≤ bs) (ks : Blk w bs (encSrc cv a1).toArray 62) (H : (draw_byte.sh a0 a1) = some r) :
    Calls Tryd.prog 72 #[.pointer (some ⟨bs, 0, none⟩)] w (Rt (RS 62 bs cv w (.int .i64 r.1) r.2)) := draw_byte.walk kc fc hz ks (draw_byte.eq a0 a1 H)
/-! (*spec.l00Src).next -/
theorem draw_next.walk {w : World} {a0 : List Int} {a1 : Src} {a2 : Int} {wc : World} {cv : Value} {bs : Nat} (kc : Ext wc w) (fc : Rd 1 (Go.UL.encI .u8) wc cv a0) (hz : wc.heap.size ≤ bs) (ks : Blk w bs (encSrc cv a1).toArray 62) {r : Int × Src} (H : draw_next.sh a0 a1 a2 = some r) :
    Calls Tryd.prog 59 #[.pointer (some ⟨bs, 0, none⟩), .int .i64 a2] w (Rt (RS 62 bs cv w (.int .i64 r.1) r.2)) := by
  unfold draw_next.sh at H
  refine calls_of_W Tryd.func59 rfl (Nat.le_of_ble_eq_true rfl) Tryd.ntmps59 rfl ?_
  refine W_seq <| W_reg <| L_op (.plain rfl) rfl (ltb rfl) (X_assign (v := (.int .i64 0)) rfl) <| L_nil <| thn_n <| W_seq <| W_seq <| W_reg <| L_op (.plain rfl) rfl (ltb rfl) (X_move (v := (.int .i64 a2)) rfl) <| L_op (.plain rfl) rfl (ltb rfl) (X_leq rfl rfl) <| L_nil <| thn_n ?_
  rcases bif_two H with ⟨q1, H⟩ | ⟨q1, H⟩
  · refine W_true (congrArg Value.bool q1) <| W_seq <| W_reg <| L_op (.plain rfl) rfl (ltb rfl) (X_assign (v := (.int .i64 0)) rfl) <| L_nil <| thn_n <| W_ret <| thn_r <| fin_r ?_
    obtain rfl := Option.some.inj H
    exact fin1s rfl (Gr.refl _ _ _) ks
  · refine W_false (congrArg Value.bool q1) <| W_skip <| thn_n <| W_seq <| W_seq <| W_reg <| L_op (.plain rfl) rfl (ltb rfl) (X_move (v := (.int .i64 a2)) rfl) <| L_op (.plain rfl) rfl (ltb rfl) (X_leq rfl rfl) <| L_nil <| thn_n ?_
    rcases bif_two H with ⟨q2, H⟩ | ⟨q2, H⟩
    · refine W_true (congrArg Value.bool q2) <| W_seq <| W_reg <| L_op (.plain rfl) rfl (ltb rfl) (X_move (v := (.pointer (some ⟨bs, 0, none⟩))) rfl) ?_
      obtain ⟨z3, x4, H⟩ := bind_some H
      refine L_callS (.plain rfl) rfl (ltb rfl) rfl Tryd.call72 (draw_byte.calls (w := w) (a0 := a0) (a1 := a1) kc fc hz ks x4) rfl <| fun w7 g8 k9 => L_op (.plain rfl) rfl (ltb rfl) (X_move (v := (.int .i64 a2)) rfl) ?_
      obtain ⟨c10, H⟩ := bif_some H
      refine L_op (.plain rfl) rfl (ltb rfl) (X_rem rfl rfl (of_decide_eq_true c10)) <| L_op (.plain rfl) rfl (ltb rfl) (X_assign (v := (.int .i64 (z3.1.tmod a2))) rfl) <| L_nil <| thn_n <| W_ret <| thn_r <| fin_r ?_
      obtain rfl := Option.some.inj H
      exact fin1s rfl g8 k9
    · refine W_false (congrArg Value.bool q2) <| W_skip <| thn_n <| W_seq <| W_reg <| L_op (.plain rfl) rfl (ltb rfl) (X_move (v := (.pointer (some ⟨bs, 0, none⟩))) rfl) ?_
      obtain ⟨z11, x12, H⟩ := bind_some H
      refine L_callS (.plain rfl) rfl (ltb rfl) rfl Tryd.call72 (draw_byte.calls (w := w) (a0 := a0) (a1 := a1) kc fc hz ks x12) rfl <| fun w15 g16 k17 => L_op (.plain rfl) rfl (ltb rfl) (X_assign (v := (.int .i64 z11.1)) rfl) <| L_nil <| thn_n <| W_seq <| W_reg <| L_op (.plain rfl) rfl (ltb rfl) (X_move (v := (.pointer (some ⟨bs, 0, none⟩))) rfl) ?_
      obtain ⟨z18, x19, H⟩ := bind_some H
      refine L_callS (.plain rfl) rfl (ltb rfl) rfl Tryd.call72 (draw_byte.calls (w := w15) (a0 := a0) (a1 := z11.2) (Ext.gr kc g16 hz) fc hz k17 x19) rfl <| fun w22 g23 k24 => L_op (.plain rfl) rfl (ltb rfl) (X_assign (v := (.int .i64 z18.1)) rfl) <| L_nil <| thn_n <| W_seq <| W_reg <| L_op (.plain rfl) rfl (ltb rfl) (X_move (v := (.pointer (some ⟨bs, 0, none⟩))) rfl) ?_
      obtain ⟨z25, x26, H⟩ := bind_some H
      refine L_callS (.plain rfl) rfl (ltb rfl) rfl Tryd.call72 (draw_byte.calls (w := w22) (a0 := a0) (a1 := z18.2) (Ext.gr (Ext.gr kc g16 hz) g23 hz) fc hz k24 x26) rfl <| fun w29 g30 k31 => L_op (.plain rfl) rfl (ltb rfl) (X_assign (v := (.int .i64 z25.1)) rfl) <| L_nil <| thn_n <| W_seq <| W_reg <| L_op (.plain rfl) rfl (ltb rfl) (X_move (v := (.int .i64 z11.1)) rfl) <| L_op (.plain rfl) rfl (ltb rfl) (X_mul rfl rfl) <| L_op (.plain rfl) rfl (ltb rfl) (X_move (v := (.int .i64 z18.1)) rfl) <| L_op (.plain rfl) rfl (ltb rfl) (X_mul rfl rfl) <| L_op (.plain rfl) rfl (ltb rfl) (X_add rfl rfl) <| L_op (.plain rfl) rfl (ltb rfl) (X_move (v := (.int .i64 z25.1)) rfl) <| L_op (.plain rfl) rfl (ltb rfl) (X_add rfl rfl) <| L_op (.plain rfl) rfl (ltb rfl) (X_move (v := (.int .i64 a2)) rfl) ?_
      obtain ⟨c32, H⟩ := bif_some H
      refine L_op (.plain rfl) rfl (ltb rfl) (X_rem rfl rfl (of_decide_eq_true c32)) <| L_op (.plain rfl) rfl (ltb rfl) (X_assign rfl) <| L_nil <| thn_n <| W_ret <| fin_r ?_
      obtain rfl := Option.some.inj H
      exact fin1s rfl (Gr.trans (Gr.trans g16 g23) g30) k31
theorem draw_next.calls {w : World} {a0 : List Int} {a1 : Src} {a2 : Int} {r : Int × Src} {wc : World} {cv : Value} {bs : Nat} (kc : Ext wc w) (fc : Rd 1 (Go.UL.encI .u8) wc cv a0) (hz : wc.heap.size ≤ bs) (ks : Blk w bs (encSrc cv a1).toArray 62) (H : (draw_next.sh a0 a1 a2) = some r) :
    Calls Tryd.prog 59 #[.pointer (some ⟨bs, 0, none⟩), .int .i64 a2] w (Rt (RS 62 bs cv w (.int .i64 r.1) r.2)) := draw_next.walk kc fc hz ks (draw_next.eq a0 a1 a2 H)
/-! (*spec.l00Src).chance -/
theorem draw_chance.walk {w : World} {a0 : List Int} {a1 : Src} {a2 : Int} {wc : World} {cv : Value} {bs : Nat} (kc : Ext wc w) (fc : Rd 1 (Go.UL.encI .u8) wc cv a0) (hz : wc.heap.size ≤ bs) (ks : Blk w bs (encSrc cv a1).toArray 62) {r : Bool × Src} (H : draw_chance.sh a0 a1 a2 = some r) :
    Calls Tryd.prog 62 #[.pointer (some ⟨bs, 0, none⟩), .int .i64 a2] w (Rt (RS 62 bs cv w (.bool r.1) r.2)) := by
  unfold draw_chance.sh at H
  refine calls_of_W Tryd.func62 rfl (Nat.le_of_ble_eq_true rfl) Tryd.ntmps62 rfl ?_
  refine W_seq <| W_reg <| L_op (.plain rfl) rfl (ltb rfl) (X_assign (v := (.bool false)) rfl) <| L_nil <| thn_n <| W_seq <| W_reg <| L_op (.plain rfl) rfl (ltb rfl) (X_move (v := (.pointer (some ⟨bs, 0, none⟩))) rfl) <| L_op (.plain rfl) rfl (ltb rfl) (X_move (v := (.int .i64 a2)) rfl) ?_
  obtain ⟨z1, x2, H⟩ := bind_some H
  refine L_callS (.plain rfl) rfl (ltb rfl) rfl Tryd.call59 (draw_next.calls (w := w) (a0 := a0) (a1 := a1) (a2 := a2) kc fc hz ks x2) rfl <| fun w5 g6 k7 => L_op (.plain rfl) rfl (ltb rfl) (X_move (v := (.int .i64 a2)) rfl) <| L_op (.plain rfl) rfl (ltb rfl) (X_sub rfl rfl) <| L_op (.plain rfl) rfl (ltb rfl) (X_eql rfl rfl) <| L_op (.plain rfl) rfl (ltb rfl) (X_assign (v := (.bool (decide (z1.1 = (IntKind.wrap .i64 (a2 - 1)))))) rfl) <| L_nil <| thn_n <| W_ret <| fin_r ?_
  obtain rfl := Option.some.inj H
  exact fin1s rfl g6 k7
theorem draw_chance.calls {w : World} {a0 : List Int} {a1 : Src} {a2 : Int} {r : Bool × Src} {wc : World} {cv : Value} {bs : Nat} (kc : Ext wc w) (fc : Rd 1 (Go.UL.encI .u8) wc cv a0) (hz : wc.heap.size ≤ bs) (ks : Blk w bs (encSrc cv a1).toArray 62) (H : (draw_chance.sh a0 a1 a2) = some r) :
    Calls Tryd.prog 62 #[.pointer (some ⟨bs, 0, none⟩), .int .i64 a2] w (Rt (RS 62 bs cv w (.bool r.1) r.2)) := draw_chance.walk kc fc hz ks (draw_chance.eq a0 a1 a2 H)
/-! (*spec.l00Src).pick -/
theorem draw_pick.walk {w : World} {a0 : List Int} {a1 : Src} {a2 : List (List UInt8)} {wc : World} {cv : Value} {bs : Nat} (kc : Ext wc w) (fc : Rd 1 (Go.UL.encI .u8) wc cv a0) (hz : wc.heap.size ≤ bs) (ks : Blk w bs (encSrc cv a1).toArray 62) {v_a2 : Value} {B_a2 : Nat} (o_a2 : Ow 9 1 encS B_a2 w v_a2 a2) (l_a2 : bs + 1 ≤ B_a2) {r : List UInt8 × Src} (H : draw_pick.sh a0 a1 a2 = some r) :
    Calls Tryd.prog 61 #[.pointer (some ⟨bs, 0, none⟩), v_a2] w (Rt (RS 62 bs cv w (S r.1) r.2)) := by
  unfold draw_pick.sh at H
  refine calls_of_W Tryd.func61 rfl (Nat.le_of_ble_eq_true rfl) Tryd.ntmps61 rfl ?_
  refine W_seq <| W_reg <| L_op (.plain rfl) rfl (ltb rfl) (X_assign (v := (S ([] : List UInt8))) rfl) <| L_nil <| thn_n <| W_seq <| W_seq <| W_reg <| L_op (.plain rfl) rfl (ltb rfl) (X_move (v := v_a2) rfl) <| L_op (.plain rfl) rfl (ltb rfl) (X_lenR Tryd.underlying27 rfl (Ow.rd o_a2)) <| L_op (.plain rfl) rfl (ltb rfl) (X_eql rfl rfl) <| L_nil <| thn_n ?_
  rcases bif_two H with ⟨q1, H⟩ | ⟨q1, H⟩
  · refine W_true (congrArg Value.bool q1) <| W_seq <| W_reg <| L_op (.plain rfl) rfl (ltb rfl) (X_assign (v := (S ([] : List UInt8))) rfl) <| L_nil <| thn_n <| W_ret <| thn_r <| fin_r ?_
    obtain rfl := Option.some.inj H
    exact fin1s rfl (Gr.refl _ _ _) ks
  · refine W_false (congrArg Value.bool q1) <| W_skip <| thn_n <| W_seq <| W_reg <| L_op (.plain rfl) rfl (ltb rfl) (X_move (v := v_a2) rfl) <| L_op (.plain rfl) rfl (ltb rfl) (X_move (v := (.pointer (some ⟨bs, 0, none⟩))) rfl) <| L_op (.plain rfl) rfl (ltb rfl) (X_move (v := v_a2) rfl) <| L_op (.plain rfl) rfl (ltb rfl) (X_lenR Tryd.underlying27 rfl (Ow.rd o_a2)) ?_
    obtain ⟨z2, x3, H⟩ := bind_some H
    refine L_callS (.plain rfl) rfl (ltb rfl) rfl Tryd.call59 (draw_next.calls (w := w) (a0 := a0) (a1 := a1) (a2 := (a2.length : Int)) kc fc hz ks x3) rfl <| fun w6 g7 k8 => ?_
    obtain ⟨c9, H⟩ := bif_some H
    refine L_idx (.plain rfl) rfl (ltb rfl) rfl Tryd.underlying27 Tryd.sizeOf9 rfl (Ow.rd (Ow.later o_a2 g7 l_a2)) rfl c9 <| fun p10 h11 => L_op (.plain rfl) rfl (ltb rfl) (X_loadAt Tryd.isAgg9 rfl h11 rfl) <| L_op (.plain rfl) rfl (ltb rfl) (X_assign (v := (S (gt a2 z2.1))) rfl) <| L_nil <| thn_n <| W_ret <| fin_r ?_
    obtain rfl := Option.some.inj H
    exact fin1s rfl g7 k8
theorem draw_pick.calls {w : World} {a0 : List Int} {a1 : Src} {a2 : List (List UInt8)} {r : List UInt8 × Src} {wc : World} {cv : Value} {bs : Nat} (kc : Ext wc w) (fc : Rd 1 (Go.UL.encI .u8) wc cv a0) (hz : wc.heap.size ≤ bs) (ks : Blk w bs (encSrc cv a1).toArray 62) {v_a2 : Value} {B_a2 : Nat} (o_a2 : Ow 9 1 encS B_a2 w v_a2 a2) (l_a2 : bs + 1 ≤ B_a2) (H : (draw_pick.sh a0 a1 a2) = some r) :
    Calls Tryd.prog 61 #[.pointer (some ⟨bs, 0, none⟩), v_a2] w (Rt (RS 62 bs cv w (S r.1) r.2)) := draw_pick.walk kc fc hz ks o_a2 l_a2 (draw_pick.eq a0 a1 a2 H)
/-! (*spec.l00Src).part -/
theorem draw_part.walk {w : World} {a0 : List Int} {a1 : Src} {wc : World} {cv : Value} {bs : Nat} (kc : Ext wc w) (fc : Rd 1 (Go.UL.encI .u8) wc cv a0) (hz : wc.heap.size ≤ bs) (ks : Blk w bs (encSrc cv a1).toArray 62) {r : List UInt8 × Src} (H : draw_part.sh a0 a1 = some r) :
    Calls Tryd.prog 63 #[.pointer (some ⟨bs, 0, none⟩)] w (Rt (RS 62 bs cv w (S r.1) r.2)) := by
  unfold draw_part.sh at H
  refine calls_of_W Tryd.func63 rfl (Nat.le_of_ble_eq_true rfl) Tryd.ntmps63 rfl ?_
  refine W_seq <| W_reg <| L_op (.plain rfl) rfl (ltb rfl) (X_assign (v := (S ([] : List UInt8))) rfl) <| L_nil <| thn_n <| W_seq <| W_reg <| L_op (.plain rfl) rfl (ltb rfl) (X_move (v := (.pointer (some ⟨bs, 0, none⟩))) rfl) <| L_lit (.plain rfl) rfl (ltb rfl) rfl Tryd.underlying27 Tryd.sizeOf9 Tryd.zeroValue9 rfl rfl rfl (vs := [(S ([97] : List UInt8)), (S ([98] : List UInt8)), (S ([99] : List UInt8)), (S ([97, 46, 98] : List UInt8)), (S ([120] : List UInt8))]) rfl (lit_all rfl) <| fun b1 w2 z3 z4 e5 k6 => ?_
  obtain ⟨z7, x8, H⟩ := bind_some H
  refine L_callS (.plain rfl) rfl (ltb rfl) rfl Tryd.call61 (draw_pick.calls (w := w2) (a0 := a0) (a1 := a1) (a2 := draw_part.lit1) (Ext.trans kc e5) fc hz (Blk.ext ks e5) (Ow.new (xs := draw_part.lit1) (sz := 1) (enc := encS) (base := w.heap.size) k6 (Nat.le_of_eq z3) rfl (fun _ _ => rfl) (Nat.le_of_ble_eq_true rfl)) (Nat.le_trans (Blk.lt ks) (Nat.le_refl _)) x8) rfl <| fun w11 g12 k13 => L_op (.plain rfl) rfl (ltb rfl) (X_assign (v := (S z7.1)) rfl) <| L_nil <| thn_n <| W_ret <| fin_r ?_
  obtain rfl := Option.some.inj H
  exact fin1s rfl (Gr.trans (Gr.ext e5) g12) k13
theorem draw_part.calls {w : World} {a0 : List Int} {a1 : Src} {r : List UInt8 × Src} {wc : World} {cv : Value} {bs : Nat} (kc : Ext wc w) (fc : Rd 1 (Go.UL.encI .u8) wc cv a0) (hz : wc.heap.size ≤ bs) (ks : Blk w bs (encSrc cv a1).toArray 62) (H : (draw_part.sh a0 a1) = some r) :
    Calls Tryd.prog 63 #[.pointer (some ⟨bs, 0, none⟩)] w (Rt (RS 62 bs cv w (S r.1) r.2)) := draw_part.walk kc fc hz ks (draw_part.eq a0 a1 H)
/-! (*spec.l00Src).path -/
theorem draw_path.walk {k : Nat} {w : World} {a0 : List Int} {a1 : Src} {wc : World} {cv : Value} {bs : Nat} (kc : Ext wc w) (fc : Rd 1 (Go.UL.encI .u8) wc cv a0) (hz : wc.heap.size ≤ bs) (ks : Blk w bs (encSrc cv a1).toArray 62) {r : List UInt8 × Src} (H : draw_path.sh k a0 a1 = some r) :
    Calls Tryd.prog 37 #[.pointer (some ⟨bs, 0, none⟩)] w (Rt (RS 62 bs cv w (S r.1) r.2)) := by
  unfold draw_path.sh at H
  refine calls_of_W Tryd.func37 rfl (Nat.le_of_ble_eq_true rfl) Tryd.ntmps37 rfl ?_
  refine W_seq <| W_reg <| L_op (.plain rfl) rfl (ltb rfl) (X_assign (v := (S ([] : List UInt8))) rfl) <| L_nil <| thn_n <| W_seq <| W_reg <| L_op (.plain rfl) rfl (ltb rfl) (X_move (v := (.pointer (some ⟨bs, 0, none⟩))) rfl) ?_
  obtain ⟨z1, x2, H⟩ := bind_some H
  refine L_callS (.plain rfl) rfl (ltb rfl) rfl Tryd.call63 (draw_part.calls (w := w) (a0 := a0) (a1 := a1) kc fc hz ks x2) rfl <| fun w5 g6 k7 => L_op (.plain rfl) rfl (ltb rfl) (X_assign (v := (S z1.1)) rfl) <| L_nil <| thn_n <| W_seq <| W_seq <| W_reg <| L_op (.plain rfl) rfl (ltb rfl) (X_move (v := (.pointer (some ⟨bs, 0, none⟩))) rfl) ?_
  obtain ⟨z8, x9, H⟩ := bind_some H
  refine L_callS (.plain rfl) rfl (ltb rfl) rfl Tryd.call59 (draw_next.calls (w := w5) (a0 := a0) (a1 := z1.2) (a2 := 3) (Ext.gr kc g6 hz) fc hz k7 x9) rfl <| fun w12 g13 k14 => L_op (.plain rfl) rfl (ltb rfl) (X_assign (v := (.int .i64 z8.1)) rfl) <| L_nil <| thn_n ?_
  obtain ⟨z18, L19, C20⟩ := bind_some H
  clear H
  refine  W_cutQ (fun s0 sQ wQ => ∃ (x3_21 : List UInt8) (y22 : Src), Kp [(3, 5), (9, 18)] s0 sQ ∧ sQ 3 = S x3_21 ∧ Blk wQ bs ((encSrc cv) y22).toArray 62 ∧ Gr bs (bs + 1) w12 wQ ∧ Ext wc wQ ∧ z18 = .inr (x3_21, y22)) ?_ ?_
  · refine W_block <| W_loopI (fun s0 kk sQ wQ => ∃ (x3_15 : List UInt8) (x4_16 : Int) (y17 : Src), Kp [(3, 5), (9, 18)] s0 sQ ∧ sQ 3 = S x3_15 ∧ sQ 4 = .int .i64 x4_16 ∧ Blk wQ bs ((encSrc cv) y17).toArray 62 ∧ Gr bs (bs + 1) w12 wQ ∧ Ext wc wQ ∧ loopF (draw_path.b1 a0) kk (x3_15, x4_16, y17) = some z18) k ⟨z1.1, z8.1, z8.2, (Kp.refl _ _), rfl, rfl, k14, (Gr.refl _ _ _), (Ext.gr (Ext.gr kc g6 hz) g13 hz), L19⟩ ?_
    rintro k27 s28 w29 ⟨x3_15, x4_16, y17, K30, h33, h34, h35, e31, e31c, L32⟩
    cases k27 with
    | zero => exact absurd L32 (by simp [loopF])
    | succ k27 =>
      obtain ⟨t36, H, S37⟩ := loopF_succ L32
      clear L32
      unfold draw_path.b1 at H
      refine W_seq <| W_seq <| W_reg <| L_op (.plain rfl) rfl (ltb rfl) (X_move (v := (.int .i64 x4_16)) h34) <| L_op (.plain rfl) rfl (ltb rfl) (X_gtr rfl rfl) <| L_nil <| thn_n ?_
      rcases bif_two H with ⟨q38, H⟩ | ⟨q38, H⟩
      · refine W_true (congrArg Value.bool q38) <| W_skip <| thn_n <| W_seq <| W_block <| W_reg <| L_op (.plain rfl) rfl (ltb rfl) (X_move (v := (S x3_15)) h33) <| L_op (.plain rfl) rfl (ltb rfl) (X_move (v := (.pointer (some ⟨bs, 0, none⟩))) (K30 0 rfl)) ?_
        obtain ⟨z39, x40, H⟩ := bind_some H
        refine L_callS (.plain rfl) rfl (ltb rfl) rfl Tryd.call63 (draw_part.calls (w := w29) (a0 := a0) (a1 := y17) e31c fc hz h35 x40) rfl <| fun w43 g44 k45 => ?_
        obtain ⟨c46, H⟩ := bif_some H
        refine L_op (.plain rfl) rfl (ltb rfl) (X_cat rfl rfl (of_decide_eq_true c46)) ?_
        obtain ⟨c47, H⟩ := bif_some H
        refine L_op (.plain rfl) rfl (ltb rfl) (X_cat rfl rfl (of_decide_eq_true c47)) <| L_op (.plain rfl) rfl (ltb rfl) (X_assign (v := (S (x3_15 ++ (([47] : List UInt8) ++ z39.1)))) rfl) <| L_nil <| blk_n <| thn_n <| W_reg <| L_op (.plain rfl) rfl (ltb rfl) (X_move (v := (.int .i64 x4_16)) h34) <| L_op (.plain rfl) rfl (ltb rfl) (X_sub rfl rfl) <| L_op (.plain rfl) rfl (ltb rfl) (X_assign (v := (.int .i64 (IntKind.wrap .i64 (x4_16 - 1)))) rfl) <| L_nil <| thn_n ?_
        obtain rfl := Option.some.inj H
        exact ⟨_, Nat.lt_succ_self _, x3_15 ++ (([47] : List UInt8) ++ z39.1), IntKind.wrap .i64 (x4_16 - 1), z39.2, (Kp.upd (Kp.upd (Kp.upd (Kp.upd (Kp.upd (Kp.upd (Kp.upd (Kp.upd (Kp.upd (Kp.upd (Kp.upd K30 rfl) rfl) rfl) rfl) rfl) rfl) rfl) rfl) rfl) rfl) rfl), rfl, rfl, k45, (Gr.trans e31 g44), (Ext.gr e31c g44 hz), S37⟩
      · refine W_false (congrArg Value.bool q38) <| W_exit <| thn_x <| thn_x <| blk_x <| thn_n ?_
        obtain rfl := Option.some.inj H
        obtain rfl := Option.some.inj S37
        exact ⟨x3_15, y17, (Kp.upd (Kp.upd K30 rfl) rfl), h33, h35, e31, e31c, rfl⟩
  · rintro s24 w23 ⟨x3_21, y22, K25, h48, h49, e26, e26c, y50⟩
    rw [y50] at C20
    have H := C20
    replace H : _ = some _ := H
    refine thn_n <| W_seq <| W_reg <| L_op (.plain rfl) rfl (ltb rfl) (X_move (v := (S x3_21)) h48) <| L_op (.plain rfl) rfl (ltb rfl) (X_assign (v := (S x3_21)) rfl) <| L_nil <| thn_n <| W_ret <| fin_r ?_
    obtain rfl := Option.some.inj H
    exact fin1s rfl (Gr.trans (Gr.trans g6 g13) e26) h49
theorem draw_path.calls {w : World} {a0 : List Int} {a1 : Src} {r : List UInt8 × Src} {wc : World} {cv : Value} {bs : Nat} (kc : Ext wc w) (fc : Rd 1 (Go.UL.encI .u8) wc cv a0) (hz : wc.heap.size ≤ bs) (ks : Blk w bs (encSrc cv a1).toArray 62) (H : (draw_path.sh 4 a0 a1) = some r) :
    Calls Tryd.prog 37 #[.pointer (some ⟨bs, 0, none⟩)] w (Rt (RS 62 bs cv w (S r.1) r.2)) := by
  obtain ⟨k, h⟩ := draw_path.eq a0 a1 H
  exact draw_path.walk kc fc hz ks h
/-! (*spec.l00Src).body -/
theorem draw_body.walk {w : World} {a0 : List Int} {a1 : Src} {wc : World} {cv : Value} {bs : Nat} (kc : Ext wc w) (fc : Rd 1 (Go.UL.encI .u8) wc cv a0) (hz : wc.heap.size ≤ bs) (ks : Blk w bs (encSrc cv a1).toArray 62) {r : List UInt8 × Src} (H : draw_body.sh a0 a1 = some r) :
    Calls Tryd.prog 60 #[.pointer (some ⟨bs, 0, none⟩)] w (Rt (RS 62 bs cv w (S r.1) r.2)) := by
  unfold draw_body.sh at H
  refine calls_of_W Tryd.func60 rfl (Nat.le_of_ble_eq_true rfl) Tryd.ntmps60 rfl ?_
  refine W_seq <| W_reg <| L_op (.plain rfl) rfl (ltb rfl) (X_assign (v := (S ([] : List UInt8))) rfl) <| L_nil <| thn_n <| W_seq <| W_reg <| L_op (.plain rfl) rfl (ltb rfl) (X_move (v := (.pointer (some ⟨bs, 0, none⟩))) rfl) <| L_lit (.plain rfl) rfl (ltb rfl) rfl Tryd.underlying27 Tryd.sizeOf9 Tryd.zeroValue9 rfl rfl rfl (vs := [(S ([] : List UInt8)), (S ([111, 110, 101] : List UInt8)), (S ([116, 119, 111] : List UInt8)), (S ([120, 0, 121] : List UInt8)), (S ([108, 111, 110, 103, 32, 108, 111, 110, 103, 32, 98, 111, 100, 121, 32, 104, 101, 114, 101, 33] : List UInt8))]) rfl (lit_all rfl) <| fun b1 w2 z3 z4 e5 k6 => ?_
  obtain ⟨z7, x8, H⟩ := bind_some H
  refine L_callS (.plain rfl) rfl (ltb rfl) rfl Tryd.call61 (draw_pick.calls (w := w2) (a0 := a0) (a1 := a1) (a2 := draw_body.lit1) (Ext.trans kc e5) fc hz (Blk.ext ks e5) (Ow.new (xs := draw_body.lit1) (sz := 1) (enc := encS) (base := w.heap.size) k6 (Nat.le_of_eq z3) rfl (fun _ _ => rfl) (Nat.le_of_ble_eq_true rfl)) (Nat.le_trans (Blk.lt ks) (Nat.le_refl _)) x8) rfl <| fun w11 g12 k13 => L_op (.plain rfl) rfl (ltb rfl) (X_assign (v := (S z7.1)) rfl) <| L_nil <| thn_n <| W_ret <| fin_r ?_
  obtain rfl := Option.some.inj H
  exact fin1s rfl (Gr.trans (Gr.ext e5) g12) k13
theorem draw_body.calls {w : World} {a0 : List Int} {a1 : Src} {r : List UInt8 × Src} {wc : World} {cv : Value} {bs : Nat} (kc : Ext wc w) (fc : Rd 1 (Go.UL.encI .u8) wc cv a0) (hz : wc.heap.size ≤ bs) (ks : Blk w bs (encSrc cv a1).toArray 62) (H : (draw_body.sh a0 a1) = some r) :
    Calls Tryd.prog 60 #[.pointer (some ⟨bs, 0, none⟩)] w (Rt (RS 62 bs cv w (S r.1) r.2)) := draw_body.walk kc fc hz ks (draw_body.eq a0 a1 H)
/-! (*spec.l00Src).anyPath -/
theorem draw_anyPath.walk {w : World} {a0 : List Int} {a1 : Src} {wc : World} {cv : Value} {bs : Nat} (kc : Ext wc w) (fc : Rd 1 (Go.UL.encI .u8) wc cv a0) (hz : wc.heap.size ≤ bs) (ks : Blk w bs (encSrc cv a1).toArray 62) {r : List UInt8 × Src} (H : draw_anyPath.sh a0 a1 = some r) :
    Calls Tryd.prog 38 #[.pointer (some ⟨bs, 0, none⟩)] w (Rt (RS 62 bs cv w (S r.1) r.2)) := by
  unfold draw_anyPath.sh at H
  refine calls_of_W Tryd.func38 rfl (Nat.le_of_ble_eq_true rfl) Tryd.ntmps38 rfl ?_
  refine W_seq <| W_reg <| L_op (.plain rfl) rfl (ltb rfl) (X_assign (v := (S ([] : List UInt8))) rfl) <| L_nil <| thn_n <| W_seq <| W_seq <| W_reg <| L_op (.plain rfl) rfl (ltb rfl) (X_move (v := (.pointer (some ⟨bs, 0, none⟩))) rfl) ?_
  obtain ⟨z1, x2, H⟩ := bind_some H
  refine L_callS (.plain rfl) rfl (ltb rfl) rfl Tryd.call59 (draw_next.calls (w := w) (a0 := a0) (a1 := a1) (a2 := 5) kc fc hz ks x2) rfl <| fun w5 g6 k7 => L_nil <| thn_n <| W_block <| W_seq <| W_reg <| L_op (.plain rfl) rfl (ltb rfl) (X_eql rfl rfl) <| L_op (.plain rfl) rfl (ltb rfl) (X_assign (v := (.bool (decide (z1.1 = 0)))) rfl) <| L_nil <| thn_n ?_
  rcases bif_two H with ⟨q8, H⟩ | ⟨q8, H⟩
  · refine W_true (congrArg Value.bool q8) <| W_seq <| W_reg <| L_op (.plain rfl) rfl (ltb rfl) (X_move (v := (.pointer (some ⟨bs, 0, none⟩))) rfl) <| L_lit (.plain rfl) rfl (ltb rfl) rfl Tryd.underlying27 Tryd.sizeOf9 Tryd.zeroValue9 rfl rfl rfl (vs := [(S ([] : List UInt8)), (S ([47] : List UInt8)), (S ([97, 47] : List UInt8)), (S ([47, 97] : List UInt8)), (S ([97, 47, 47, 98] : List UInt8)), (S ([46] : List UInt8)), (S ([46, 46] : List UInt8)), (S ([97, 47, 46, 46] : List UInt8)), (S ([97, 32, 98] : List UInt8)), (S ([128] : List UInt8)), (S ([97, 47, 98, 47, 99, 47, 100] : List UInt8)), (S ([97, 47, 98, 47, 99, 47, 100, 47, 101] : List UInt8)), (S ([108, 111, 110, 103, 110, 97, 109, 101] : List UInt8)), (S ([108, 111, 110, 103, 110, 97, 109, 101, 49] : List UInt8)), (S ([46, 46, 46] : List UInt8)), (S ([97, 0] : List UInt8))]) rfl (lit_all rfl) <| fun b9 w10 z11 z12 e13 k14 => ?_
    obtain ⟨z15, x16, H⟩ := bind_some H
    refine L_callS (.plain rfl) rfl (ltb rfl) rfl Tryd.call61 (draw_pick.calls (w := w10) (a0 := a0) (a1 := z1.2) (a2 := draw_anyPath.lit1) (Ext.trans (Ext.gr kc g6 hz) e13) fc hz (Blk.ext k7 e13) (Ow.new (xs := draw_anyPath.lit1) (sz := 1) (enc := encS) (base := w5.heap.size) k14 (Nat.le_of_eq z11) rfl (fun _ _ => rfl) (Nat.le_of_ble_eq_true rfl)) (Nat.le_trans (Blk.lt ks) (g6).size) x16) rfl <| fun w19 g20 k21 => L_op (.plain rfl) rfl (ltb rfl) (X_assign (v := (S z15.1)) rfl) <| L_nil <| thn_n <| W_ret <| blk_r <| thn_r <| fin_r ?_
    obtain rfl := Option.some.inj H
    exact fin1s rfl (Gr.trans (Gr.trans g6 (Gr.ext e13)) g20) k21
  · refine W_false (congrArg Value.bool q8) <| W_seq <| W_reg <| L_op (.plain rfl) rfl (ltb rfl) (X_eql rfl rfl) <| L_op (.plain rfl) rfl (ltb rfl) (X_assign (v := (.bool (decide (z1.1 = 1)))) rfl) <| L_nil <| thn_n ?_
    rcases bif_two H with ⟨q22, H⟩ | ⟨q22, H⟩
    · refine W_true (congrArg Value.bool q22) <| W_seq <| W_reg <| L_op (.plain rfl) rfl (ltb rfl) (X_move (v := (.pointer (some ⟨bs, 0, none⟩))) rfl) ?_
      obtain ⟨z23, x24, H⟩ := bind_some H
      refine L_callS (.plain rfl) rfl (ltb rfl) rfl Tryd.call37 (draw_path.calls (w := w5) (a0 := a0) (a1 := z1.2) (Ext.gr kc g6 hz) fc hz k7 x24) rfl <| fun w27 g28 k29 => L_op (.plain rfl) rfl (ltb rfl) (X_assign (v := (S z23.1)) rfl) <| L_nil <| thn_n <| W_seq <| W_reg <| L_op (.plain rfl) rfl (ltb rfl) (X_move (v := (.pointer (some ⟨bs, 0, none⟩))) rfl) <| L_op (.plain rfl) rfl (ltb rfl) (X_move (v := (S z23.1)) rfl) <| L_op (.plain rfl) rfl (ltb rfl) (X_lenS Tryd.underlying9 rfl) <| L_op (.plain rfl) rfl (ltb rfl) (X_add rfl rfl) ?_
      obtain ⟨z30, x31, H⟩ := bind_some H
      refine L_callS (.plain rfl) rfl (ltb rfl) rfl Tryd.call59 (draw_next.calls (w := w27) (a0 := a0) (a1 := z23.2) (a2 := IntKind.wrap .i64 ((z23.1.length : Int) + 1)) (Ext.gr (Ext.gr kc g6 hz) g28 hz) fc hz k29 x31) rfl <| fun w34 g35 k36 => L_op (.plain rfl) rfl (ltb rfl) (X_assign (v := (.int .i64 z30.1)) rfl) <| L_nil <| thn_n <| W_seq ?_
      obtain ⟨c37, H⟩ := bif_some H
      obtain ⟨z44, x45, H⟩ := bind_some H
      obtain ⟨c51, H⟩ := bif_some H
      obtain ⟨c52, H⟩ := bif_some H
      obtain ⟨c53, H⟩ := bif_some H
      refine W_drawS 12 [LEq (S z23.1), LEq (.int .i64 z30.1), LEq (S (sub z23.1 0 z30.1)), LEq (.pointer (some ⟨bs, 0, none⟩)), LOw 9 1 encS w34.heap.size draw_anyPath.lit2, LEq (S z44.1), LEq (S ((sub z23.1 0 z30.1) ++ z44.1)), LEq (S z23.1), LEq (.int .i64 z30.1), LEq (S (sub z23.1 z30.1 (z23.1.length : Int))), LEq (S (((sub z23.1 0 z30.1) ++ z44.1) ++ (sub z23.1 z30.1 (z23.1.length : Int)))), LEq (S (((sub z23.1 0 z30.1) ++ z44.1) ++ (sub z23.1 z30.1 (z23.1.length : Int))))] [(5, z44.2)] z30.2 [] (by kernel_rfl) (by kernel_rfl) (by kernel_rfl) (by kernel_rfl) rfl k36 ⟨LEq.keep, LEq.keep, LEq.keep, LEq.keep, (LOw.keep (Nat.le_trans (Blk.lt ks) ((Gr.trans (Gr.trans g6 g28) g35)).size)), LEq.keep, LEq.keep, LEq.keep, LEq.keep, LEq.keep, LEq.keep, LEq.keep, trivial⟩ ⟨?_, ?_, ?_, ?_, ?_, ?_, ?_, ?_, ?_, ?_, ?_, ?_, trivial⟩ ?_
      · intro s54 w55 dn56 hg57 hi58 hn59 hp60 hq61 hf62 hd63 hu64
        exact L_op (.plain rfl) rfl (ltb rfl) (X_move (v := (S z23.1)) (hf62 3 rfl)) <| L_nil <| stepQs rfl rfl rfl rfl (Ext.refl w55) rfl
      · intro s65 w66 dn67 hg68 hi69 hn70 hp71 hq72 hf73 hd74 hu75
        exact L_op (.plain rfl) rfl (ltb rfl) (X_move (v := (.int .i64 z30.1)) (hf73 4 rfl)) <| L_nil <| stepQs rfl rfl rfl rfl (Ext.refl w66) rfl
      · intro s76 w77 dn78 hg79 hi80 hn81 hp82 hq83 hf84 hd85 hu86
        have d87 : s76 21 = (S z23.1) := (hd85 0 rfl rfl)
        have d88 : s76 22 = (.int .i64 z30.1) := (hd85 1 rfl rfl)
        have c89 := c37
        exact L_op (.plain rfl) rfl (ltb rfl) (X_sliceS Tryd.underlying9 d87 (l := 0) (h := z30.1) rfl ⟨_, d88⟩ (inS_1 c89) (inS_2 c89) (inS_3 c89)) <| L_nil <| stepQs rfl rfl rfl rfl (Ext.refl w77) rfl
      · intro s90 w91 dn92 hg93 hi94 hn95 hp96 hq97 hf98 hd99 hu100
        exact L_op (.plain rfl) rfl (ltb rfl) (X_move (v := (.pointer (some ⟨bs, 0, none⟩))) (hf98 0 rfl)) <| L_nil <| stepQs rfl rfl rfl rfl (Ext.refl w91) rfl
      · intro s101 w102 dn103 hg104 hi105 hn106 hp107 hq108 hf109 hd110 hu111
        exact L_lit (.plain rfl) rfl (ltb rfl) rfl Tryd.underlying27 Tryd.sizeOf9 Tryd.zeroValue9 rfl rfl rfl (vs := [(S ([47] : List UInt8)), (S ([46] : List UInt8)), (S ([32] : List UInt8)), (S ([126] : List UInt8)), (S ([127] : List UInt8))]) rfl (lit_all rfl) <| fun b112 w113 z114 z115 e116 k117 => L_nil <| stepQs rfl rfl rfl rfl e116 (Ow.base (Ow.new (xs := draw_anyPath.lit3) (sz := 1) (enc := encS) (base := w102.heap.size) k117 (Nat.le_of_eq z114) rfl (fun _ _ => rfl) (Nat.le_of_ble_eq_true rfl)) (hg104).size)
      · intro s118 w119 dn120 hg121 hi122 hn123 hp124 hq125 hf126 hd127 hu128
        have k129 : Blk w119 bs (encSrc cv z30.2).toArray 62 := by
          have h := hi122
          simp only [InvS, srcAt, hn123, cond_true, cond_false] at h
          exact h
        have a130 : setD dn120 5 5 = true := setD_self
        have d131 : s118 24 = (.pointer (some ⟨bs, 0, none⟩)) := (hd127 3 rfl rfl)
        have d132 : Ow 9 1 encS w34.heap.size w119 (s118 25) draw_anyPath.lit2 := (hd127 4 rfl rfl)
        exact L_callS (.plain rfl) rfl (ltb rfl) rfl Tryd.call61 (draw_pick.calls (w := w119) (a0 := a0) (a1 := z30.2) (a2 := draw_anyPath.lit2) (Ext.gr (Ext.gr (Ext.gr (Ext.gr kc g6 hz) g28 hz) g35 hz) hg121 hz) fc hz k129 d132 (Nat.le_trans (Blk.lt ks) ((Gr.trans (Gr.trans g6 g28) g35)).size) x45) (cons2 d131 (cons2 rfl rfl)) <| fun w135 g136 k137 => L_nil <| stepQh rfl rfl rfl rfl g136 (by simp only [InvS, srcAt, a130, cond_true, cond_false]; exact k137) rfl
      · intro s138 w139 dn140 hg141 hi142 hn143 hp144 hq145 hf146 hd147 hu148
        have d149 : s138 23 = (S (sub z23.1 0 z30.1)) := (hd147 2 rfl rfl)
        have d150 : s138 26 = (S z44.1) := (hd147 5 rfl rfl)
        have c151 := c51
        exact L_op (.plain rfl) rfl (ltb rfl) (X_cat d149 d150 (of_decide_eq_true c151)) <| L_nil <| stepQs rfl rfl rfl rfl (Ext.refl w139) rfl
      · intro s152 w153 dn154 hg155 hi156 hn157 hp158 hq159 hf160 hd161 hu162
        exact L_op (.plain rfl) rfl (ltb rfl) (X_move (v := (S z23.1)) (hf160 3 rfl)) <| L_nil <| stepQs rfl rfl rfl rfl (Ext.refl w153) rfl
      · intro s163 w164 dn165 hg166 hi167 hn168 hp169 hq170 hf171 hd172 hu173
        exact L_op (.plain rfl) rfl (ltb rfl) (X_move (v := (.int .i64 z30.1)) (hf171 4 rfl)) <| L_nil <| stepQs rfl rfl rfl rfl (Ext.refl w164) rfl
      · intro s174 w175 dn176 hg177 hi178 hn179 hp180 hq181 hf182 hd183 hu184
        have d185 : s174 28 = (S z23.1) := (hd183 7 rfl rfl)
        have d186 : s174 29 = (.int .i64 z30.1) := (hd183 8 rfl rfl)
        have c187 := c52
        exact L_op (.plain rfl) rfl (ltb rfl) (X_sliceS Tryd.underlying9 d185 (l := z30.1) (h := (z23.1.length : Int)) ⟨_, d186⟩ rfl (inS_1 c187) (inS_2 c187) (inS_3 c187)) <| L_nil <| stepQs rfl rfl rfl rfl (Ext.refl w175) rfl
      · intro s188 w189 dn190 hg191 hi192 hn193 hp194 hq195 hf196 hd197 hu198
        have d199 : s188 27 = (S ((sub z23.1 0 z30.1) ++ z44.1)) := (hd197 6 rfl rfl)
        have d200 : s188 30 = (S (sub z23.1 z30.1 (z23.1.length : Int))) := (hd197 9 rfl rfl)
        have c201 := c53
        exact L_op (.plain rfl) rfl (ltb rfl) (X_cat d199 d200 (of_decide_eq_true c201)) <| L_nil <| stepQs rfl rfl rfl rfl (Ext.refl w189) rfl
      · intro s202 w203 dn204 hg205 hi206 hn207 hp208 hq209 hf210 hd211 hu212
        have d213 : s202 31 = (S (((sub z23.1 0 z30.1) ++ z44.1) ++ (sub z23.1 z30.1 (z23.1.length : Int)))) := (hd211 10 rfl rfl)
        exact L_op (.plain rfl) rfl (ltb rfl) (X_assign d213) <| L_nil <| stepQs rfl rfl rfl rfl (Ext.refl w203) rfl
      intro s214 w215 hg216 hb217 hf218 ha219
      have K220 := Kp.ofD (kp := [(2, 3), (21, 32)]) rfl hf218
      have k221 : Blk w215 bs (encSrc cv z44.2).toArray 62 := hb217
      have d222 : s214 2 = (S (((sub z23.1 0 z30.1) ++ z44.1) ++ (sub z23.1 z30.1 (z23.1.length : Int)))) := ha219 11 rfl rfl
      clear ha219 hf218
      refine L_nil <| thn_n <| W_ret <| blk_r <| thn_r <| fin_r ?_
      obtain rfl := Option.some.inj H
      exact fin1s d222 (Gr.trans (Gr.trans (Gr.trans g6 g28) g35) hg216) k221
    · refine W_false (congrArg Value.bool q22) <| W_skip <| blk_n <| thn_n <| W_seq <| W_reg <| L_op (.plain rfl) rfl (ltb rfl) (X_move (v := (.pointer (some ⟨bs, 0, none⟩))) rfl) ?_
      obtain ⟨z223, x224, H⟩ := bind_some H
      refine L_callS (.plain rfl) rfl (ltb rfl) rfl Tryd.call37 (draw_path.calls (w := w5) (a0 := a0) (a1 := z1.2) (Ext.gr kc g6 hz) fc hz k7 x224) rfl <| fun w227 g228 k229 => L_op (.plain rfl) rfl (ltb rfl) (X_assign (v := (S z223.1)) rfl) <| L_nil <| thn_n <| W_ret <| fin_r ?_
      obtain rfl := Option.some.inj H
      exact fin1s rfl (Gr.trans g6 g228) k229
theorem draw_anyPath.calls {w : World} {a0 : List Int} {a1 : Src} {r : List UInt8 × Src} {wc : World} {cv : Value} {bs : Nat} (kc : Ext wc w) (fc : Rd 1 (Go.UL.encI .u8) wc cv a0) (hz : wc.heap.size ≤ bs) (ks : Blk w bs (encSrc cv a1).toArray 62) (H : (draw_anyPath.sh a0 a1) = some r) :
    Calls Tryd.prog 38 #[.pointer (some ⟨bs, 0, none⟩)] w (Rt (RS 62 bs cv w (S r.1) r.2)) := draw_anyPath.walk kc fc hz ks (draw_anyPath.eq a0 a1 H)
/-! (*spec.l00Src).record -/
theorem draw_record.walk {w : World} {a0 : List Int} {a1 : Src} {a2 : List UInt8} {wc : World} {cv : Value} {bs : Nat} (kc : Ext wc w) (fc : Rd 1 (Go.UL.encI .u8) wc cv a0) (hz : wc.heap.size ≤ bs) (ks : Blk w bs (encSrc cv a1).toArray 62) {r : Rec × Src} (H : draw_record.sh a0 a1 a2 = some r) :
    Calls Tryd.prog 36 #[.pointer (some ⟨bs, 0, none⟩), S a2] w (Rt (RS 62 bs cv w (.agg (encRec r.1).toArray) r.2)) := by
  unfold draw_record.sh at H
  refine calls_of_WG Tryd.func36 rfl (Nat.le_of_ble_eq_true rfl) Tryd.ntmps36 ?_
  refine W_seq <| W_reg <| L_alloc (.plain rfl) rfl (ltb rfl) rfl Tryd.zeroValue24 <| fun b1 w2 z3 z4 e5 k6 => L_nil <| thn_n <| W_seq <| W_seq <| W_reg <| L_op (.plain rfl) rfl (ltb rfl) (X_move (v := (.pointer (some ⟨bs, 0, none⟩))) rfl) ?_
  obtain ⟨z7, x8, H⟩ := bind_some H
  refine L_callS (.plain rfl) rfl (ltb rfl) rfl Tryd.call59 (draw_next.calls (w := w2) (a0 := a0) (a1 := a1) (a2 := 8) (Ext.trans kc e5) fc hz (Blk.ext ks e5) x8) rfl <| fun w11 g12 k13 => L_nil <| thn_n ?_
  obtain ⟨z14, L15, C16⟩ := bind_some H
  clear H
  refine W_cutQ (fun s0 sQ wQ => ∃ (y17 : Src), Kp [(7, 32)] s0 sQ ∧ Blk wQ bs ((encSrc cv) y17).toArray 62 ∧ Blk wQ b1 (encRec (⟨0, ([] : List UInt8), ([] : List UInt8), 0, false⟩ : Rec)).toArray 24 ∧ Gr bs (bs + 1) w11 wQ ∧ Ext wc wQ ∧ z14 = .inr y17) ?_ ?_
  · have H := L15
    refine W_block <| W_seq <| W_seq <| W_reg <| L_op (.plain rfl) rfl (ltb rfl) (X_eql rfl rfl) <| L_op (.plain rfl) rfl (ltb rfl) (X_assign (v := (.bool (decide (z7.1 = 0)))) rfl) <| L_nil <| thn_n ?_
    obtain ⟨z18, L19, C20⟩ := bind_some H
    clear H
    refine W_cutQ (fun s0 sQ wQ => ∃ (x7_21 : Bool), Kp [(7, 8), (9, 11)] s0 sQ ∧ sQ 7 = .bool x7_21 ∧ Blk wQ bs ((encSrc cv) z7.2).toArray 62 ∧ Blk wQ b1 (encRec (⟨0, ([] : List UInt8), ([] : List UInt8), 0, false⟩ : Rec)).toArray 24 ∧ Gr bs (bs + 1) w11 wQ ∧ Ext wc wQ ∧ z18 = .inr x7_21) ?_ ?_
    · have H := L19
      rcases bif_two H with ⟨q22, H⟩ | ⟨q22, H⟩
      · refine W_true (congrArg Value.bool q22) <| W_skip <| thn_n ?_
        obtain rfl := Option.some.inj H
        exact ⟨(decide (z7.1 = 0)), (Kp.refl _ _), rfl, k13, (Gr.blk g12 k6 (Or.inl (Nat.le_trans (Nat.le_trans (Blk.lt ks) (Nat.le_refl _)) (Nat.le_of_eq z3)))), (Gr.refl _ _ _), (Ext.gr (Ext.trans kc e5) g12 hz), rfl⟩
      · refine W_false (congrArg Value.bool q22) <| W_seq <| W_reg <| L_op (.plain rfl) rfl (ltb rfl) (X_eql rfl rfl) <| L_op (.plain rfl) rfl (ltb rfl) (X_assign (v := (.bool (decide (z7.1 = 1)))) rfl) <| L_nil <| thn_n ?_
        rcases bif_two H with ⟨q23, H⟩ | ⟨q23, H⟩
        · refine W_true (congrArg Value.bool q23) <| W_skip <| thn_n ?_
          obtain rfl := Option.some.inj H
          exact ⟨(decide (z7.1 = 1)), (Kp.upd (Kp.upd (Kp.refl _ _) rfl) rfl), rfl, k13, (Gr.blk g12 k6 (Or.inl (Nat.le_trans (Nat.le_trans (Blk.lt ks) (Nat.le_refl _)) (Nat.le_of_eq z3)))), (Gr.refl _ _ _), (Ext.gr (Ext.trans kc e5) g12 hz), rfl⟩
        · refine W_false (congrArg Value.bool q23) <| W_reg <| L_op (.plain rfl) rfl (ltb rfl) (X_eql rfl rfl) <| L_op (.plain rfl) rfl (ltb rfl) (X_assign (v := (.bool (decide (z7.1 = 2)))) rfl) <| L_nil <| thn_n ?_
          obtain rfl := Option.some.inj H
          exact ⟨(decide (z7.1 = 2)), (Kp.upd (Kp.upd (Kp.upd (Kp.upd (Kp.refl _ _) rfl) rfl) rfl) rfl), rfl, k13, (Gr.blk g12 k6 (Or.inl (Nat.le_trans (Nat.le_trans (Blk.lt ks) (Nat.le_refl _)) (Nat.le_of_eq z3)))), (Gr.refl _ _ _), (Ext.gr (Ext.trans kc e5) g12 hz), rfl⟩
    · rintro s25 w24 ⟨x7_21, K26, h29, h30, h31, e27, e27c, y28⟩
      rw [y28] at C20
      have H := C20
      refine thn_n ?_
      rcases bif_two H with ⟨q32, H⟩ | ⟨q32, H⟩
      · refine W_true (h29.trans (congrArg Value.bool q32)) <| W_seq <| W_reg <| L_op (.plain rfl) rfl (ltb rfl) (X_move (v := (S a2)) (K26 1 rfl)) <| L_op (.plain rfl) rfl (ltb rfl) (X_move (v := (.pointer (some ⟨bs, 0, none⟩))) (K26 0 rfl)) ?_
        obtain ⟨z33, x34, H⟩ := bind_some H
        refine L_callS (.plain rfl) rfl (ltb rfl) rfl Tryd.call60 (draw_body.calls (w := w24) (a0 := a0) (a1 := z7.2) e27c fc hz h30 x34) rfl <| fun w37 g38 k39 => L_lit (.plain rfl) rfl (ltb rfl) rfl Tryd.underlying64 Tryd.sizeOf3 Tryd.zeroValue3 rfl rfl rfl (vs := [(.int .i64 420), (.int .i64 0), (.int .i64 511)]) rfl (lit_all rfl) <| fun b40 w41 z42 z43 e44 k45 => L_op (.plain rfl) rfl (ltb rfl) (X_move (v := (.pointer (some ⟨bs, 0, none⟩))) (K26 0 rfl)) ?_
        obtain ⟨z46, x47, H⟩ := bind_some H
        refine L_callS (.plain rfl) rfl (ltb rfl) rfl Tryd.call59 (draw_next.calls (w := w41) (a0 := a0) (a1 := z33.2) (a2 := 3) (Ext.trans (Ext.gr e27c g38 hz) e44) fc hz (Blk.ext k39 e44) x47) rfl <| fun w50 g51 k52 => ?_
        obtain ⟨c53, H⟩ := bif_some H
        refine L_idx (.plain rfl) rfl (ltb rfl) rfl Tryd.underlying64 Tryd.sizeOf3 rfl (Ow.rd (Ow.later (Ow.new (xs := [420, 0, 511]) (sz := 1) (enc := (Go.UL.encI .i64)) (base := w37.heap.size) k45 (Nat.le_of_eq z42) rfl (fun _ _ => by rfl) (Nat.le_of_ble_eq_true rfl)) g51 (Nat.le_trans (Blk.lt ks) ((Gr.trans (Gr.trans (Gr.trans (Gr.ext e5) g12) e27) g38)).size))) rfl c53 <| fun p54 h55 => L_op (.plain rfl) rfl (ltb rfl) (X_loadAt Tryd.isAgg3 rfl h55 rfl) <| L_op (.plain rfl) rfl (ltb rfl) (X_build1 (vs := [(0, (.int .i64 1)), (1, (S a2)), (2, (S z33.1)), (3, (.int .i64 (gt ([420, 0, 511] : List Int) z46.1)))]) (pl := #[(0, 1), (1, 1), (2, 1), (3, 1), (4, 1)]) Tryd.underlying24 Tryd.zeroValue24 rfl (fun _ => by kernel_rfl) rfl rfl rfl) <| L_storeA (.plain rfl) rfl rfl Tryd.sizeOf24 (K26 4 rfl) rfl rfl rfl rfl (Gr.blk g51 (Blk.ext (Gr.blk g38 h31 (Or.inl (Nat.le_trans (Nat.le_trans (Blk.lt ks) (Nat.le_refl _)) (Nat.le_of_eq z3)))) e44) (Or.inl (Nat.le_trans (Nat.le_trans (Blk.lt ks) (Nat.le_refl _)) (Nat.le_of_eq z3)))) <| fun w56 h57 k58 => L_nil <| thn_n <| W_ret <| blk_r <| thn_r <| thn_r <| finG_r ?_
        obtain rfl := Option.some.inj H
        have H := C16
        obtain rfl := Option.some.inj H
        exact finC1s rfl (K26 4 rfl) k58 Tryd.isAgg24 Tryd.sizeOf24 rfl (Gr.thn (Gr.trans (Gr.trans (Gr.trans (Gr.trans (Gr.trans (Gr.ext e5) g12) e27) g38) (Gr.ext e44)) g51) (Wr.below h57 (Nat.le_of_eq z3))) (Gr.blk (Gr.ofBelow (Wr.below h57 (Nat.le_of_eq z3))) k52 (Or.inr (Nat.le_trans (Blk.lt ks) (Nat.le_refl _))))
      · refine W_false (h29.trans (congrArg Value.bool q32)) <| W_seq <| W_reg <| L_op (.plain rfl) rfl (ltb rfl) (X_eql (K26 6 rfl) rfl) <| L_op (.plain rfl) rfl (ltb rfl) (X_assign (v := (.bool (decide (z7.1 = 3)))) rfl) <| L_nil <| thn_n ?_
        rcases bif_two H with ⟨q59, H⟩ | ⟨q59, H⟩
        · refine W_true (congrArg Value.bool q59) <| W_seq <| W_reg <| L_op (.plain rfl) rfl (ltb rfl) (X_move (v := (S a2)) (K26 1 rfl)) <| L_op (.plain rfl) rfl (ltb rfl) (X_move (v := (.pointer (some ⟨bs, 0, none⟩))) (K26 0 rfl)) <| L_lit (.plain rfl) rfl (ltb rfl) rfl Tryd.underlying27 Tryd.sizeOf9 Tryd.zeroValue9 rfl rfl rfl (vs := [(S ([97] : List UInt8)), (S ([46, 46, 47, 98] : List UInt8)), (S ([47] : List UInt8))]) rfl (lit_all rfl) <| fun b60 w61 z62 z63 e64 k65 => ?_
          obtain ⟨z66, x67, H⟩ := bind_some H
          refine L_callS (.plain rfl) rfl (ltb rfl) rfl Tryd.call61 (draw_pick.calls (w := w61) (a0 := a0) (a1 := z7.2) (a2 := ([([97] : List UInt8), ([46, 46, 47, 98] : List UInt8), ([47] : List UInt8)] : List (List UInt8))) (Ext.trans e27c e64) fc hz (Blk.ext h30 e64) (Ow.new (xs := [([97] : List UInt8), ([46, 46, 47, 98] : List UInt8), ([47] : List UInt8)]) (sz := 1) (enc := encS) (base := w24.heap.size) k65 (Nat.le_of_eq z62) rfl (fun _ _ => by rfl) (Nat.le_of_ble_eq_true rfl)) (Nat.le_trans (Blk.lt ks) ((Gr.trans (Gr.trans (Gr.ext e5) g12) e27)).size) x67) rfl <| fun w70 g71 k72 => L_op (.plain rfl) rfl (ltb rfl) (X_build1 (vs := [(0, (.int .i64 2)), (1, (S a2)), (2, (S z66.1))]) (pl := #[(0, 1), (1, 1), (2, 1), (3, 1), (4, 1)]) Tryd.underlying24 Tryd.zeroValue24 rfl (fun _ => by kernel_rfl) rfl rfl rfl) <| L_storeA (.plain rfl) rfl rfl Tryd.sizeOf24 (K26 4 rfl) rfl rfl rfl rfl (Gr.blk g71 (Blk.ext h31 e64) (Or.inl (Nat.le_trans (Nat.le_trans (Blk.lt ks) (Nat.le_refl _)) (Nat.le_of_eq z3)))) <| fun w73 h74 k75 => L_nil <| thn_n <| W_ret <| blk_r <| thn_r <| thn_r <| finG_r ?_
          obtain rfl := Option.some.inj H
          have H := C16
          obtain rfl := Option.some.inj H
          exact finC1s rfl (K26 4 rfl) k75 Tryd.isAgg24 Tryd.sizeOf24 rfl (Gr.thn (Gr.trans (Gr.trans (Gr.trans (Gr.trans (Gr.ext e5) g12) e27) (Gr.ext e64)) g71) (Wr.below h74 (Nat.le_of_eq z3))) (Gr.blk (Gr.ofBelow (Wr.below h74 (Nat.le_of_eq z3))) k72 (Or.inr (Nat.le_trans (Blk.lt ks) (Nat.le_refl _))))
        · refine W_false (congrArg Value.bool q59) <| W_seq <| W_seq <| W_reg <| L_op (.plain rfl) rfl (ltb rfl) (X_eql (K26 6 rfl) rfl) <| L_op (.plain rfl) rfl (ltb rfl) (X_assign (v := (.bool (decide (z7.1 = 4)))) rfl) <| L_nil <| thn_n ?_
          rcases bif_two H with ⟨q76, H⟩ | ⟨q76, H⟩
          · refine W_true (congrArg Value.bool q76) <| W_skip <| thn_n ?_
            rcases bif_two H with ⟨q77, H⟩ | ⟨q77, H⟩
            · refine W_true (congrArg Value.bool q77) <| W_seq <| W_reg <| L_op (.plain rfl) rfl (ltb rfl) (X_move (v := (S a2)) (K26 1 rfl)) <| L_op (.plain rfl) rfl (ltb rfl) (X_build1 (vs := [(0, (.int .i64 4)), (1, (S a2))]) (pl := #[(0, 1), (1, 1), (2, 1), (3, 1), (4, 1)]) Tryd.underlying24 Tryd.zeroValue24 rfl (fun _ => by kernel_rfl) rfl rfl rfl) <| L_storeA (.plain rfl) rfl rfl Tryd.sizeOf24 (K26 4 rfl) rfl rfl rfl rfl h31 <| fun w78 h79 k80 => L_nil <| thn_n <| W_ret <| blk_r <| thn_r <| thn_r <| finG_r ?_
              obtain rfl := Option.some.inj H
              have H := C16
              obtain rfl := Option.some.inj H
              exact finC1s rfl (K26 4 rfl) k80 Tryd.isAgg24 Tryd.sizeOf24 rfl (Gr.thn (Gr.trans (Gr.trans (Gr.ext e5) g12) e27) (Wr.below h79 (Nat.le_of_eq z3))) (Gr.blk (Gr.ofBelow (Wr.below h79 (Nat.le_of_eq z3))) h30 (Or.inr (Nat.le_trans (Blk.lt ks) (Nat.le_refl _))))
            · refine W_false (congrArg Value.bool q77) <| W_skip <| blk_n <| thn_n ?_
              obtain rfl := Option.some.inj H
              exact ⟨z7.2, (Kp.upd (Kp.upd (Kp.upd (Kp.upd (Kp.cut (Kp.upd (Kp.upd (Kp.refl _ _) rfl) rfl) K26 rfl) rfl) rfl) rfl) rfl), h30, h31, e27, e27c, rfl⟩
          · refine W_false (congrArg Value.bool q76) <| W_reg <| L_op (.plain rfl) rfl (ltb rfl) (X_eql (K26 6 rfl) rfl) <| L_op (.plain rfl) rfl (ltb rfl) (X_assign (v := (.bool (decide (z7.1 = 5)))) rfl) <| L_nil <| thn_n ?_
            rcases bif_two H with ⟨q81, H⟩ | ⟨q81, H⟩
            · refine W_true (congrArg Value.bool q81) <| W_seq <| W_reg <| L_op (.plain rfl) rfl (ltb rfl) (X_move (v := (S a2)) (K26 1 rfl)) <| L_op (.plain rfl) rfl (ltb rfl) (X_build1 (vs := [(0, (.int .i64 4)), (1, (S a2))]) (pl := #[(0, 1), (1, 1), (2, 1), (3, 1), (4, 1)]) Tryd.underlying24 Tryd.zeroValue24 rfl (fun _ => by kernel_rfl) rfl rfl rfl) <| L_storeA (.plain rfl) rfl rfl Tryd.sizeOf24 (K26 4 rfl) rfl rfl rfl rfl h31 <| fun w82 h83 k84 => L_nil <| thn_n <| W_ret <| blk_r <| thn_r <| thn_r <| finG_r ?_
              obtain rfl := Option.some.inj H
              have H := C16
              obtain rfl := Option.some.inj H
              exact finC1s rfl (K26 4 rfl) k84 Tryd.isAgg24 Tryd.sizeOf24 rfl (Gr.thn (Gr.trans (Gr.trans (Gr.ext e5) g12) e27) (Wr.below h83 (Nat.le_of_eq z3))) (Gr.blk (Gr.ofBelow (Wr.below h83 (Nat.le_of_eq z3))) h30 (Or.inr (Nat.le_trans (Blk.lt ks) (Nat.le_refl _))))
            · refine W_false (congrArg Value.bool q81) <| W_skip <| blk_n <| thn_n ?_
              obtain rfl := Option.some.inj H
              exact ⟨z7.2, (Kp.upd (Kp.upd (Kp.upd (Kp.upd (Kp.upd (Kp.upd (Kp.cut (Kp.upd (Kp.upd (Kp.refl _ _) rfl) rfl) K26 rfl) rfl) rfl) rfl) rfl) rfl) rfl), h30, h31, e27, e27c, rfl⟩
  · rintro s86 w85 ⟨y17, K87, h90, h91, e88, e88c, y89⟩
    rw [y89] at C16
    have H := C16
    refine thn_n <| W_seq ?_
    obtain ⟨z98, x99, H⟩ := bind_some H
    obtain ⟨c105, H⟩ := bif_some H
    obtain ⟨z108, x109, H⟩ := bind_some H
    refine W_drawS 9 [LEq (S a2), LOw 3 1 (Go.UL.encI .i64) w85.heap.size ([493, 448] : List Int), LEq (.pointer (some ⟨bs, 0, none⟩)), LEq (.int .i64 z98.1), LOp 3 1 (Go.UL.encI .i64) w85.heap.size ([493, 448] : List Int) z98.1, LEq (.int .i64 (gt ([493, 448] : List Int) z98.1)), LEq (.pointer (some ⟨bs, 0, none⟩)), LEq (.bool z108.1), LEq (.agg #[(.int .i64 3), (S a2), (S ([] : List UInt8)), (.int .i64 (gt ([493, 448] : List Int) z98.1)), (.bool z108.1)])] [(7, z108.2), (3, z98.2)] y17 [(7, 3, [])] (by kernel_rfl) (by kernel_rfl) (by kernel_rfl) (by kernel_rfl) rfl h90 ⟨LEq.keep, (LOw.keep (Nat.le_trans (Blk.lt ks) ((Gr.trans (Gr.trans (Gr.ext e5) g12) e88)).size)), LEq.keep, LEq.keep, (LOp.keep (Nat.le_trans (Blk.lt ks) ((Gr.trans (Gr.trans (Gr.ext e5) g12) e88)).size)), LEq.keep, LEq.keep, LEq.keep, LEq.keep, trivial⟩ ⟨?_, ?_, ?_, ?_, ?_, ?_, ?_, ?_, ?_, trivial⟩ ?_
    · intro s115 w116 dn117 hg118 hi119 hn120 hp121 hq122 hf123 hd124 hu125
      exact L_op (.plain rfl) rfl (ltb rfl) (X_move (v := (S a2)) ((hf123 1 rfl).trans (K87 1 rfl))) <| L_nil <| stepQs rfl rfl rfl rfl (Ext.refl w116) rfl
    · intro s126 w127 dn128 hg129 hi130 hn131 hp132 hq133 hf134 hd135 hu136
      exact L_lit (.plain rfl) rfl (ltb rfl) rfl Tryd.underlying64 Tryd.sizeOf3 Tryd.zeroValue3 rfl rfl rfl (vs := [(.int .i64 493), (.int .i64 448)]) rfl (lit_all rfl) <| fun b137 w138 z139 z140 e141 k142 => L_nil <| stepQs rfl rfl rfl rfl e141 (Ow.base (Ow.new (xs := [493, 448]) (sz := 1) (enc := (Go.UL.encI .i64)) (base := w127.heap.size) k142 (Nat.le_of_eq z139) rfl (fun _ _ => by rfl) (Nat.le_of_ble_eq_true rfl)) (hg129).size)
    · intro s143 w144 dn145 hg146 hi147 hn148 hp149 hq150 hf151 hd152 hu153
      exact L_op (.plain rfl) rfl (ltb rfl) (X_move (v := (.pointer (some ⟨bs, 0, none⟩))) ((hf151 0 rfl).trans (K87 0 rfl))) <| L_nil <| stepQs rfl rfl rfl rfl (Ext.refl w144) rfl
    · intro s154 w155 dn156 hg157 hi158 hn159 hp160 hq161 hf162 hd163 hu164
      have a166 : dn156 7 = false := hq161 7 rfl
      have k165 : Blk w155 bs (encSrc cv y17).toArray 62 := by
        have h := hi158
        simp only [InvS, srcAt, hn159, a166, cond_true, cond_false] at h
        exact h
      have a167 : setD dn156 3 3 = true := setD_self
      have a168 : setD dn156 3 7 = false := (setD_ne rfl).trans a166
      have d169 : s154 34 = (.pointer (some ⟨bs, 0, none⟩)) := (hd163 2 rfl rfl)
      exact L_callS (.plain rfl) rfl (ltb rfl) rfl Tryd.call59 (draw_next.calls (w := w155) (a0 := a0) (a1 := y17) (a2 := 2) (Ext.gr e88c hg157 hz) fc hz k165 x99) (cons2 d169 (cons2 rfl rfl)) <| fun w172 g173 k174 => L_nil <| stepQh rfl rfl rfl rfl g173 (by simp only [InvS, srcAt, a167, a168, cond_true, cond_false]; exact k174) rfl
    · intro s175 w176 dn177 hg178 hi179 hn180 hp181 hq182 hf183 hd184 hu185
      have d186 : Ow 3 1 (Go.UL.encI .i64) w85.heap.size w176 (s175 33) ([493, 448] : List Int) := (hd184 1 rfl rfl)
      have d187 : s175 35 = (.int .i64 z98.1) := (hd184 3 rfl rfl)
      have c188 := c105
      exact L_idxO (.plain rfl) rfl (ltb rfl) rfl Tryd.underlying64 Tryd.sizeOf3 rfl d186 d187 c188 <| fun p189 h190 => L_nil <| stepQs rfl rfl rfl rfl (Ext.refl w176) ⟨_, _, rfl, h190⟩
    · intro s191 w192 dn193 hg194 hi195 hn196 hp197 hq198 hf199 hd200 hu201
      obtain ⟨u202, p203, h204, o205⟩ := (hd200 4 rfl rfl)
      exact L_op (.plain rfl) rfl (ltb rfl) (X_loadAt Tryd.isAgg3 h204 (OP.at o205) rfl) <| L_nil <| stepQs rfl rfl rfl rfl (Ext.refl w192) rfl
    · intro s206 w207 dn208 hg209 hi210 hn211 hp212 hq213 hf214 hd215 hu216
      exact L_op (.plain rfl) rfl (ltb rfl) (X_move (v := (.pointer (some ⟨bs, 0, none⟩))) ((hf214 0 rfl).trans (K87 0 rfl))) <| L_nil <| stepQs rfl rfl rfl rfl (Ext.refl w207) rfl
    · intro s217 w218 dn219 hg220 hi221 hn222 hp223 hq224 hf225 hd226 hu227
      have a229 : dn219 3 = true := hp223 3 rfl
      have k228 : Blk w218 bs (encSrc cv z98.2).toArray 62 := by
        have h := hi221
        simp only [InvS, srcAt, a229, hn222, cond_true, cond_false] at h
        exact h
      have a231 : setD dn219 7 7 = true := setD_self
      have d232 : s217 38 = (.pointer (some ⟨bs, 0, none⟩)) := (hd226 6 rfl rfl)
      exact L_callS (.plain rfl) rfl (ltb rfl) rfl Tryd.call62 (draw_chance.calls (w := w218) (a0 := a0) (a1 := z98.2) (a2 := 3) (Ext.gr e88c hg220 hz) fc hz k228 x109) (cons2 d232 (cons2 rfl rfl)) <| fun w235 g236 k237 => L_nil <| stepQh rfl rfl rfl rfl g236 (by simp only [InvS, srcAt, a231, cond_true, cond_false]; exact k237) rfl
    · intro s238 w239 dn240 hg241 hi242 hn243 hp244 hq245 hf246 hd247 hu248
      have d249 : s238 32 = (S a2) := (hd247 0 rfl rfl)
      have d250 : s238 37 = (.int .i64 (gt ([493, 448] : List Int) z98.1)) := (hd247 5 rfl rfl)
      have d251 : s238 39 = (.bool z108.1) := (hd247 7 rfl rfl)
      exact L_op (.plain rfl) rfl (ltb rfl) (X_build1 (vs := [(0, (.int .i64 3)), (1, (S a2)), (3, (.int .i64 (gt ([493, 448] : List Int) z98.1))), (4, (.bool z108.1))]) (pl := #[(0, 1), (1, 1), (2, 1), (3, 1), (4, 1)]) Tryd.underlying24 Tryd.zeroValue24 rfl (fun _ => by kernel_rfl) rfl (cons2 rfl (cons2 d249 (cons2 d250 (cons2 d251 rfl)))) rfl) <| L_nil <| stepQs rfl rfl rfl rfl (Ext.refl w239) rfl
    intro s252 w253 hg254 hb255 hf256 ha257
    have K258 := Kp.ofD (kp := [(32, 41)]) rfl hf256
    have k259 : Blk w253 bs (encSrc cv z108.2).toArray 62 := hb255
    have d260 : s252 40 = (.agg #[(.int .i64 3), (S a2), (S ([] : List UInt8)), (.int .i64 (gt ([493, 448] : List Int) z98.1)), (.bool z108.1)]) := ha257 8 rfl rfl
    clear ha257 hf256
    refine L_storeA (.plain rfl) rfl rfl Tryd.sizeOf24 ((K258 4 rfl).trans (K87 4 rfl)) d260 rfl rfl rfl (Gr.blk hg254 h91 (Or.inl (Nat.le_trans (Nat.le_trans (Blk.lt ks) (Nat.le_refl _)) (Nat.le_of_eq z3)))) <| fun w261 h262 k263 => L_nil <| thn_n <| W_ret <| finG_r ?_
    obtain rfl := Option.some.inj H
    exact finC1s rfl ((K258 4 rfl).trans (K87 4 rfl)) k263 Tryd.isAgg24 Tryd.sizeOf24 rfl (Gr.thn (Gr.trans (Gr.trans (Gr.trans (Gr.ext e5) g12) e88) hg254) (Wr.below h262 (Nat.le_of_eq z3))) (Gr.blk (Gr.ofBelow (Wr.below h262 (Nat.le_of_eq z3))) k259 (Or.inr (Nat.le_trans (Blk.lt ks) (Nat.le_refl _))))
theorem draw_record.calls {w : World} {a0 : List Int} {a1 : Src} {a2 : List UInt8} {r : Rec × Src} {wc : World} {cv : Value} {bs : Nat} (kc : Ext wc w) (fc : Rd 1 (Go.UL.encI .u8) wc cv a0) (hz : wc.heap.size ≤ bs) (ks : Blk w bs (encSrc cv a1).toArray 62) (H : (draw_record.sh a0 a1 a2) = some r) :
    Calls Tryd.prog 36 #[.pointer (some ⟨bs, 0, none⟩), S a2] w (Rt (RS 62 bs cv w (.agg (encRec r.1).toArray) r.2)) := draw_record.walk kc fc hz ks (draw_record.eq a0 a1 a2 H)
/-! spec.AnyPathDrawn -/
theorem spec_AnyPathDrawn.walk {w : World} {a0 : List Int} {v_a0 : Value} (f_a0 : Rd 1 (Go.UL.encI .u8) w v_a0 a0) {r : List UInt8} (H : spec_AnyPathDrawn.sh a0 = some r) :
    Calls Tryd.prog 6 #[v_a0] w (Rt (RP w (S r))) := by
  unfold spec_AnyPathDrawn.sh at H
  refine calls_of_W Tryd.func6 rfl (Nat.le_of_ble_eq_true rfl) Tryd.ntmps6 rfl ?_
  refine W_seq <| W_reg <| L_op (.plain rfl) rfl (ltb rfl) (X_assign (v := (S ([] : List UInt8))) rfl) <| L_nil <| thn_n <| W_seq <| W_reg <| L_op (.plain rfl) rfl (ltb rfl) (X_move (v := v_a0) rfl) ?_
  obtain ⟨z1, x2, H⟩ := bind_some H
  refine L_callSN (.plain rfl) rfl (ltb rfl) rfl Tryd.call35 (spec_l00Source.calls (w := w) (a0 := a0) f_a0 x2) rfl <| fun b5 w3 z6 e4 k7 => ?_
  obtain ⟨z8, x9, H⟩ := bind_some H
  refine L_callS (.plain rfl) rfl (ltb rfl) rfl Tryd.call38 (draw_anyPath.calls (w := w3) (a0 := a0) (a1 := z1) e4 f_a0 z6 k7 x9) rfl <| fun w12 g13 k14 => L_op (.plain rfl) rfl (ltb rfl) (X_assign (v := (S z8.1)) rfl) <| L_nil <| thn_n <| W_ret <| fin_r ?_
  obtain rfl := Option.some.inj H
  exact fin1 rfl (Ext.gr e4 g13 z6)
theorem spec_AnyPathDrawn.calls {w : World} {a0 : List Int} {r : List UInt8} {v_a0 : Value} (f_a0 : Rd 1 (Go.UL.encI .u8) w v_a0 a0) (H : (spec_AnyPathDrawn.sh a0) = some r) :
    Calls Tryd.prog 6 #[v_a0] w (Rt (RP w (S r))) := spec_AnyPathDrawn.walk f_a0 (spec_AnyPathDrawn.eq a0 H)
end Go.Proofs.YtfefjaohlhkmaaaDoor
