/- The walks, by program (wip/tools). -/
import Derived.Test.YtfefjaohlhkmaaaGreatDoorProg
import Derived.Test.YtfefjaohlhkmaaaGreatDoorKI
import Derived.Test.YtfefjaohlhkmaaaGreatDoorKJ
import Derived.Test.YtfefjaohlhkmaaaGreatDoorKL
import Derived.Test.YtfefjaohlhkmaaaGreatDoortH
set_option linter.unusedVariables false
set_option linter.unusedSimpArgs false
set_option maxRecDepth 10000
namespace Go.Proofs.YtfefjaohlhkmaaaGreatDoor
open Go.UL Go.RowKit
theorem El.t22 : ElemI Tryz.prog 22 5 1 1 (.int .u8 0) := ElemI.mk' Tryz.underlying22 (by kernel_rfl) rfl rfl rfl
theorem El.t23 : ElemI Tryz.prog 23 35 1 24 (.slice none 0 0) := ElemI.mk' Tryz.underlying23 (by kernel_rfl) rfl rfl rfl
theorem El.t29 : ElemI Tryz.prog 29 60 4 48 (.agg #[.int .i64 0, .string ⟨#[]⟩, .string ⟨#[]⟩, .int .i64 0]) := ElemI.mk' Tryz.underlying29 (by kernel_rfl) rfl rfl rfl
theorem El.t35 : ElemI Tryz.prog 35 58 5 56 (.agg #[.int .i64 0, .string ⟨#[]⟩, .string ⟨#[]⟩, .int .i64 0, .bool false]) := ElemI.mk' Tryz.underlying35 (by kernel_rfl) rfl rfl rfl
theorem El.t42 : ElemI Tryz.prog 42 9 1 16 (.string ⟨#[]⟩) := ElemI.mk' Tryz.underlying42 (by kernel_rfl) rfl rfl rfl
theorem El.t78 : ElemI Tryz.prog 78 85 2 24 (.agg #[.string ⟨#[]⟩, .int .i64 0]) := ElemI.mk' Tryz.underlying78 (by kernel_rfl) rfl rfl rfl
theorem El.t87 : ElemI Tryz.prog 87 152 4 48 (.agg #[.int .i64 0, .string ⟨#[]⟩, .string ⟨#[]⟩, .int .i64 0]) := ElemI.mk' Tryz.underlying87 (by kernel_rfl) rfl rfl rfl
theorem El.t94 : ElemI Tryz.prog 94 99 1 24 (.slice none 0 0) := ElemI.mk' Tryz.underlying94 (by kernel_rfl) rfl rfl rfl
theorem El.t99 : ElemI Tryz.prog 99 159 5 56 (.agg #[.int .i64 0, .string ⟨#[]⟩, .string ⟨#[]⟩, .int .i64 0, .bool false]) := ElemI.mk' Tryz.underlying99 (by kernel_rfl) rfl rfl rfl
theorem El.t171 : ElemI Tryz.prog 171 20 1 16 (.nilIface) := ElemI.mk' Tryz.underlying171 (by kernel_rfl) rfl rfl rfl
theorem El.t188 : ElemI Tryz.prog 188 3 1 8 (.int .i64 0) := ElemI.mk' Tryz.underlying188 (by kernel_rfl) rfl rfl rfl
theorem El.t207 : ElemI Tryz.prog 207 23 1 24 (.slice none 0 0) := ElemI.mk' Tryz.underlying207 (by kernel_rfl) rfl rfl rfl
theorem Eqg.t58 : Tryz.prog.eqGuardType Tryz.prog.depth 58 = false := by kernel_rfl
theorem Eqs.t58 (a b : Rec) (w : World) : (Op.equal 58 (.agg (encRec a).toArray) (.agg (encRec b).toArray)).run Tryz.prog w = .ok (decide (a = b)) w := run_eqRec (d := 9998) (ti := 3) (ts := 9) (tb := 4) Tryz.underlying58 rfl Tryz.underlying3 Tryz.underlying9 Tryz.underlying4 Tryz.isAgg3 Tryz.isAgg9 Tryz.isAgg4 (by kernel_rfl)
theorem Eqg.t60 : Tryz.prog.eqGuardType Tryz.prog.depth 60 = false := by kernel_rfl
theorem Eqs.t60 (a b : Nd) (w : World) : (Op.equal 60 (.agg (encNd a).toArray) (.agg (encNd b).toArray)).run Tryz.prog w = .ok (decide (a = b)) w := run_eqNd (d := 9998) (ti := 3) (ts := 9) Tryz.underlying60 rfl Tryz.underlying3 Tryz.underlying9 Tryz.isAgg3 Tryz.isAgg9 (by kernel_rfl)
theorem Eqg.t152 : Tryz.prog.eqGuardType Tryz.prog.depth 152 = false := by kernel_rfl
theorem Eqs.t152 (a b : Nd) (w : World) : (Op.equal 152 (.agg (encNd a).toArray) (.agg (encNd b).toArray)).run Tryz.prog w = .ok (decide (a = b)) w := run_eqNd (d := 9998) (ti := 3) (ts := 9) Tryz.underlying152 rfl Tryz.underlying3 Tryz.underlying9 Tryz.isAgg3 Tryz.isAgg9 (by kernel_rfl)
theorem Eqg.t159 : Tryz.prog.eqGuardType Tryz.prog.depth 159 = false := by kernel_rfl
theorem Eqs.t159 (a b : Rec) (w : World) : (Op.equal 159 (.agg (encRec a).toArray) (.agg (encRec b).toArray)).run Tryz.prog w = .ok (decide (a = b)) w := run_eqRec (d := 9998) (ti := 3) (ts := 9) (tb := 4) Tryz.underlying159 rfl Tryz.underlying3 Tryz.underlying9 Tryz.underlying4 Tryz.isAgg3 Tryz.isAgg9 Tryz.isAgg4 (by kernel_rfl)
/-! impl.within -/
theorem impl_within.calls {w : World} {a0 : Int} {a1 : Int} {a2 : Int} :
  Calls Tryz.prog 196 #[.int .i64 a0, .int .i64 a1, .int .i64 a2] w (Rt (RP w (.bool (within a0 a1 a2)))) := by
 have H := impl_within.eq a0 a1 a2
 generalize (within a0 a1 a2) = r at H ⊢
 unfold impl_within.sh at H
 refine calls_of_W Tryz.func196 rfl (Nat.le_of_ble_eq_true rfl) Tryz.ntmps196 rfl ?_
 refine wr <| lp rfl rfl (xa (.bool false) rfl) <| nx <| wr <| lp rfl rfl (xm (.int .i64 a1) rfl) <| lp rfl rfl (xm (.int .i64 a0) rfl) <| lp rfl rfl (X_leq rfl rfl) <| lp rfl rfl (xm (.bool (decide (a1 ≤ a0))) rfl) <| L_grp 4 [(11, 15)] 14 (.bool ((decide (a1 ≤ a0)) && (decide (a0 ≤ a2)))) ?_ ?_
 ·rcases bool_two (decide (a1 ≤ a0)) with b0_ | b0_
  ·exact lg rfl rfl rfl rfl (cb b0_) (xm (.int .i64 a0) rfl) <| lg rfl rfl rfl rfl (cb b0_) (xm (.int .i64 a2) rfl) <| lg rfl rfl rfl rfl (cb b0_) (X_leq rfl rfl) <| lp rfl rfl (X_pick (b := true) (v := (.bool (decide (a0 ≤ a2)))) (cb b0_) rfl) <| nx ⟨(ku4 kz rfl), (and_t b0_), er⟩
  ·exact ls rfl rfl rfl (cb b0_) rfl <| ls rfl rfl rfl (cb b0_) rfl <| ls rfl rfl rfl (cb b0_) rfl <| lp rfl rfl (X_pick (b := false) (v := (.bool false)) (cb b0_) rfl) <| nx ⟨(ku4 kz rfl), (and_f b0_), er⟩
 intro s6 w2 K3 h4 e5
 refine lp rfl rfl (X_assign h4) <| nx <| W_ret <| fin_r ?_
 obtain rfl := si H
 exact fin1 rfl e5
/-! spec.l01In -/
theorem spec_l01In.calls {w : World} {a0 : Int} {a1 : Int} {a2 : Int} :
  Calls Tryz.prog 108 #[.int .i64 a0, .int .i64 a1, .int .i64 a2] w (Rt (RP w (.bool (within a0 a1 a2)))) := by
 have H := spec_l01In.eq a0 a1 a2
 generalize (within a0 a1 a2) = r at H ⊢
 unfold spec_l01In.sh at H
 refine calls_of_W Tryz.func108 rfl (Nat.le_of_ble_eq_true rfl) Tryz.ntmps108 rfl ?_
 refine wr <| lp rfl rfl (xa (.bool false) rfl) <| nx <| wr <| lp rfl rfl (xm (.int .i64 a0) rfl) <| lp rfl rfl (xm (.int .i64 a1) rfl) <| lp rfl rfl (X_geq rfl rfl) <| lp rfl rfl (xm (.bool (decide (a1 ≤ a0))) rfl) <| L_grp 4 [(11, 15)] 14 (.bool ((decide (a1 ≤ a0)) && (decide (a0 ≤ a2)))) ?_ ?_
 ·rcases bool_two (decide (a1 ≤ a0)) with b0_ | b0_
  ·exact lg rfl rfl rfl rfl (cb b0_) (xm (.int .i64 a0) rfl) <| lg rfl rfl rfl rfl (cb b0_) (xm (.int .i64 a2) rfl) <| lg rfl rfl rfl rfl (cb b0_) (X_leq rfl rfl) <| lp rfl rfl (X_pick (b := true) (v := (.bool (decide (a0 ≤ a2)))) (cb b0_) rfl) <| nx ⟨(ku4 kz rfl), (and_t b0_), er⟩
  ·exact ls rfl rfl rfl (cb b0_) rfl <| ls rfl rfl rfl (cb b0_) rfl <| ls rfl rfl rfl (cb b0_) rfl <| lp rfl rfl (X_pick (b := false) (v := (.bool false)) (cb b0_) rfl) <| nx ⟨(ku4 kz rfl), (and_f b0_), er⟩
 intro s6 w2 K3 h4 e5
 refine lp rfl rfl (X_assign h4) <| nx <| W_ret <| fin_r ?_
 obtain rfl := si H
 exact fin1 rfl e5
/-! spec.l01Part -/
theorem spec_l01Part.calls {w : World} {a0 : List UInt8} :
  Calls Tryz.prog 227 #[S a0] w (Rt (RP w (.bool (partOK a0)))) := by
 obtain ⟨k, H⟩ := spec_l01Part.eq a0
 generalize (partOK a0) = r at H ⊢
 unfold spec_l01Part.sh at H
 refine calls_of_W Tryz.func227 rfl (Nat.le_of_ble_eq_true rfl) Tryz.ntmps227 rfl ?_
 refine wr <| lp rfl rfl (xa (.bool false) rfl) <| nx <| W_seq <| wr <| lp rfl rfl (xm (S a0) rfl) <| lp rfl rfl (X_lenS Tryz.underlying9 rfl) <| lc rfl rfl rfl Tryz.call108 (spec_l01In.calls (w := w) (a0 := (a0.length : Int)) (a1 := 1) (a2 := 8)) rfl <| fun w1 e2 => lp rfl rfl (X_not rfl) <| lp rfl rfl (xm (.bool (!(within (a0.length : Int) 1 8))) rfl) <| L_grp 3 [(9, 12)] 11 (.bool ((!(within (a0.length : Int) 1 8)) || (decide (a0 = ([46] : List UInt8))))) ?_ ?_
 ·rcases bool_two (!(within (a0.length : Int) 1 8)) with b2_ | b2_
  ·exact ls rfl rfl rfl (cb b2_) rfl <| ls rfl rfl rfl (cb b2_) rfl <| lp rfl rfl (X_pick (b := true) (v := (.bool true)) (cb b2_) rfl) <| nx ⟨(ku3 kz rfl), (or_t b2_), er⟩
  ·exact lg rfl rfl rfl rfl (cb b2_) (xm (S a0) rfl) <| lg rfl rfl rfl rfl (cb b2_) (X_seq rfl rfl) <| lp rfl rfl (X_pick (b := false) (v := (.bool (decide (a0 = ([46] : List UInt8))))) (cb b2_) rfl) <| nx ⟨(ku3 kz rfl), (or_f b2_), er⟩
 intro s8 w4 K5 h6 e7
 refine lp rfl rfl (X_move h6) <| L_grp 3 [(13, 16)] 15 (.bool (((!(within (a0.length : Int) 1 8)) || (decide (a0 = ([46] : List UInt8)))) || (decide (a0 = ([46, 46] : List UInt8))))) ?_ ?_
 ·rcases bool_two ((!(within (a0.length : Int) 1 8)) || (decide (a0 = ([46] : List UInt8)))) with b8_ | b8_
  ·exact ls rfl rfl rfl (cb b8_) rfl <| ls rfl rfl rfl (cb b8_) rfl <| lp rfl rfl (X_pick (b := true) (v := (.bool true)) (cb b8_) rfl) <| nx ⟨(ku3 kz rfl), (or_t b8_), er⟩
  ·exact lg rfl rfl rfl rfl (cb b8_) (xm (S a0) (K5 0 rfl)) <| lg rfl rfl rfl rfl (cb b8_) (X_seq rfl rfl) <| lp rfl rfl (X_pick (b := false) (v := (.bool (decide (a0 = ([46, 46] : List UInt8))))) (cb b8_) rfl) <| nx ⟨(ku3 kz rfl), (or_f b8_), er⟩
 intro s14 w10 K11 h12 e13
 refine nx ?_
 rcases bif_two H with ⟨q15, H⟩ | ⟨q15, H⟩
 ·refine W_true (h12.trans (cb q15)) <| wr <| lp rfl rfl (xa (.bool false) rfl) <| nx <| W_ret <| thn_r <| fin_r ?_
  obtain rfl := si H
  exact fin1 rfl ((e2.t e7).t e13)
 ·refine W_false (h12.trans (cb q15)) <| W_skip <| thn_n <| W_seq <| wr <| lp rfl rfl (xa (.int .i64 0) rfl) <| nx ?_
  obtain ⟨z17, L18, C19⟩ := bind_some H
  clear H
  refine  W_cutQ (fun s0 sQ wQ => Kp [(2, 4), (16, 38)] s0 sQ ∧ Ext w10 wQ ∧ z17 = .inr ()) ?_ ?_
  ·refine W_block <| W_loopI (fun s0 kk sQ wQ => ∃ (x3_16 : Int), Kp [(2, 4), (16, 38)] s0 sQ ∧ sQ 3 = .int .i64 x3_16 ∧ Ext w10 wQ ∧ loopF (spec_l01Part.b1 a0) kk x3_16 = some z17) k ⟨0, kz, rfl, er, L18⟩ ?_
   rintro k24 s25 w26 ⟨x3_16, K27, h30, e28, L29⟩
   cases k24 with
   | zero => exact absurd L29 (by simp [loopF])
   | succ k24 =>
    obtain ⟨t31, H, S32⟩ := loopF_succ L29
    clear L29
    unfold spec_l01Part.b1 at H
    refine W_seq <| wr <| lp rfl rfl (X_move h30) <| lp rfl rfl (xm (S a0) ((K27 0 rfl).trans ((K11 0 rfl).trans (K5 0 rfl)))) <| lp rfl rfl (X_lenS Tryz.underlying9 rfl) <| lp rfl rfl (X_lss rfl rfl) <| nx ?_
    rcases bif_two H with ⟨q33, H⟩ | ⟨q33, H⟩
    ·refine W_true (cb q33) <| W_skip <| thn_n <| W_seq <| W_block <| wr <| lp rfl rfl (xm (S a0) ((K27 0 rfl).trans ((K11 0 rfl).trans (K5 0 rfl)))) <| lp rfl rfl (X_move h30) ?_
     obtain ⟨c34, H⟩ := bif_some H
     refine lp rfl rfl (X_indexS Tryz.underlying9 rfl rfl (inR_lo c34) (inR_hi c34)) <| lp rfl rfl (X_lss rfl rfl) <| lp rfl rfl (xm (.bool (decide ((byt a0 x3_16) < 33))) rfl) ?_
     obtain ⟨z36, x37, H⟩ := bind_some H
     refine L_grpE 5 [(27, 32)] 31 (fun q => q = z36) ?_ ?_
     ·rcases bif_two x37 with ⟨b34_, H⟩ | ⟨b34_, H⟩
      ·refine ls rfl rfl rfl (cb b34_) rfl <| ls rfl rfl rfl (cb b34_) rfl <| ls rfl rfl rfl (cb b34_) rfl <| ls rfl rfl rfl (cb b34_) rfl <| lp rfl rfl (X_pick (b := true) (v := (.bool true)) (cb b34_) rfl) ?_
       obtain rfl := si H
       exact nx ⟨(ku1 (ku4 kz rfl) rfl), ⟨_, rfl, rfl⟩, er⟩
      ·refine lg rfl rfl rfl rfl (cb b34_) (xm (S a0) ((K27 0 rfl).trans ((K11 0 rfl).trans (K5 0 rfl)))) <| lg rfl rfl rfl rfl (cb b34_) (X_move h30) ?_
       obtain ⟨c36, H⟩ := bif_some H
       refine lg rfl rfl rfl rfl (cb b34_) (X_indexS Tryz.underlying9 rfl rfl (inR_lo c36) (inR_hi c36)) <| lg rfl rfl rfl rfl (cb b34_) (X_gtr rfl rfl) <| lp rfl rfl (X_pick (b := false) (v := (.bool (decide (126 < (byt a0 x3_16))))) (cb b34_) rfl) ?_
       obtain rfl := si H
       exact nx ⟨(ku1 (ku4 kz rfl) rfl), ⟨_, rfl, rfl⟩, er⟩
     intro s42 w38 z43 K39 hq h40 e41
     rw [hq] at h40; clear hq
     refine lp rfl rfl (X_move h40) ?_
     obtain ⟨z45, x46, H⟩ := bind_some H
     refine L_grpE 5 [(33, 38)] 37 (fun q => q = z45) ?_ ?_
     ·rcases bif_two x46 with ⟨b43_, H⟩ | ⟨b43_, H⟩
      ·refine ls rfl rfl rfl (cb b43_) rfl <| ls rfl rfl rfl (cb b43_) rfl <| ls rfl rfl rfl (cb b43_) rfl <| ls rfl rfl rfl (cb b43_) rfl <| lp rfl rfl (X_pick (b := true) (v := (.bool true)) (cb b43_) rfl) ?_
       obtain rfl := si H
       exact nx ⟨(ku1 (ku4 kz rfl) rfl), ⟨_, rfl, rfl⟩, er⟩
      ·refine lg rfl rfl rfl rfl (cb b43_) (xm (S a0) ((K39 0 rfl).trans ((K27 0 rfl).trans ((K11 0 rfl).trans (K5 0 rfl))))) <| lg rfl rfl rfl rfl (cb b43_) (xm (.int .i64 x3_16) ((K39 3 rfl).trans h30)) ?_
       obtain ⟨c45, H⟩ := bif_some H
       refine lg rfl rfl rfl rfl (cb b43_) (X_indexS Tryz.underlying9 rfl rfl (inR_lo c45) (inR_hi c45)) <| lg rfl rfl rfl rfl (cb b43_) (X_eql rfl rfl) <| lp rfl rfl (X_pick (b := false) (v := (.bool (decide ((byt a0 x3_16) = 47)))) (cb b43_) rfl) ?_
       obtain rfl := si H
       exact nx ⟨(ku1 (ku4 kz rfl) rfl), ⟨_, rfl, rfl⟩, er⟩
     intro s51 w47 z52 K48 hq h49 e50
     rw [hq] at h49; clear hq
     refine nx ?_
     rcases bif_two H with ⟨q53, H⟩ | ⟨q53, H⟩
     ·refine W_true (h49.trans (cb q53)) <| wr <| lp rfl rfl (xa (.bool false) rfl) <| nx <| W_ret <| blk_r <| thn_r <| thn_r <| blk_r <| thn_r <| thn_r <| fin_r ?_
      obtain rfl := si H
      obtain rfl := si S32
      have H := C19
      obtain rfl := si H
      exact fin1 rfl (((((e2.t e7).t e13).t e28).t e41).t e50)
     ·refine W_false (h49.trans (cb q53)) <| W_skip <| blk_n <| thn_n <| W_reg <| lp rfl rfl (xm (.int .i64 x3_16) ((K48 3 rfl).trans ((K39 3 rfl).trans h30))) <| lp rfl rfl (X_add rfl rfl) <| lp rfl rfl (xa (.int .i64 (IntKind.wrap .i64 (x3_16 + 1))) rfl) <| nx ?_
      obtain rfl := si H
      exact ⟨_, Nat.lt_succ_self _, IntKind.wrap .i64 (x3_16 + 1), (ku3 (Kp.cut (ku1 (Kp.cut (ku1 (ku8 K27 rfl) rfl) K39 rfl) rfl) K48 rfl) rfl), rfl, ((e28.t e41).t e50), S32⟩
    ·refine W_false (cb q33) <| W_exit <| thn_x <| thn_x <| blk_x <| thn_n ?_
     obtain rfl := si H
     obtain rfl := si S32
     exact ⟨(ku4 K27 rfl), e28, rfl⟩
  ·rintro s21 w20 ⟨K22, e23, y54⟩
   rw [y54] at C19
   have H := C19
   replace H : _ = some _ := H
   refine thn_n <| wr <| lp rfl rfl (xa (.bool true) rfl) <| nx <| W_ret <| fin_r ?_
   obtain rfl := si H
   exact fin1 rfl (((e2.t e7).t e13).t e23)
/-! impl.PartOK -/
theorem impl_PartOK.calls {w : World} {a0 : List UInt8} (h0 : a0.length ≤ 4611686018427387904) :
  Calls Tryz.prog 232 #[S a0] w (Rt (RP w (.bool (partOK a0)))) := by
 obtain ⟨k, H⟩ := impl_PartOK.eq a0 h0
 generalize (partOK a0) = r at H ⊢
 unfold impl_PartOK.sh at H
 refine calls_of_W Tryz.func232 rfl (Nat.le_of_ble_eq_true rfl) Tryz.ntmps232 rfl ?_
 refine wr <| lp rfl rfl (xa (.bool false) rfl) <| nx <| W_seq <| wr <| lp rfl rfl (xm (S a0) rfl) <| lp rfl rfl (X_lenS Tryz.underlying9 rfl) <| lp rfl rfl (xm (.int .i64 0) rfl) <| nx ?_
 obtain ⟨z2, L3, C4⟩ := bind_some H
 clear H
 refine  W_cutQ (fun s0 sQ wQ => Kp [(2, 4), (6, 22)] s0 sQ ∧ Ext w wQ ∧ z2 = .inr ()) ?_ ?_
 ·refine W_block <| W_loopI (fun s0 kk sQ wQ => ∃ (x6_1 : Int), Kp [(2, 4), (6, 22)] s0 sQ ∧ sQ 6 = .int .i64 x6_1 ∧ Ext w wQ ∧ loopF (impl_PartOK.b1 a0) kk x6_1 = some z2) k ⟨0, kz, rfl, er, L3⟩ ?_
  rintro k9 s10 w11 ⟨x6_1, K12, h15, e13, L14⟩
  cases k9 with
  | zero => exact absurd L14 (by simp [loopF])
  | succ k9 =>
   obtain ⟨t16, H, S17⟩ := loopF_succ L14
   clear L14
   unfold impl_PartOK.b1 at H
   refine wr <| lp rfl rfl (X_lss h15 (K12 5 rfl)) <| nx <| W_seq ?_
   rcases bif_two H with ⟨q18, H⟩ | ⟨q18, H⟩
   ·refine W_true (cb q18) <| W_skip <| thn_n <| W_seq <| W_block <| wr <| lp rfl rfl (X_move h15) <| lp rfl rfl (xa (.int .i64 x6_1) rfl) <| nx <| wr <| lp rfl rfl (xm (S a0) (K12 0 rfl)) <| lp rfl rfl (xm (.int .i64 x6_1) rfl) ?_
    obtain ⟨c19, H⟩ := bif_some H
    refine lp rfl rfl (X_indexS Tryz.underlying9 rfl rfl (inR_lo c19) (inR_hi c19)) <| lp rfl rfl (X_convInt Tryz.underlying5 Tryz.underlying3 rfl) <| lc rfl rfl rfl Tryz.call196 (impl_within.calls (w := w11) (a0 := IntKind.wrap .i64 (byt a0 x6_1)) (a1 := 33) (a2 := 126)) rfl <| fun w20 e21 => lp rfl rfl (X_not rfl) <| lp rfl rfl (xm (.bool (!(within (IntKind.wrap .i64 (byt a0 x6_1)) 33 126))) rfl) ?_
    obtain ⟨z23, x24, H⟩ := bind_some H
    refine L_grpE 5 [(16, 21)] 20 (fun q => q = z23) ?_ ?_
    ·rcases bif_two x24 with ⟨b21_, H⟩ | ⟨b21_, H⟩
     ·refine ls rfl rfl rfl (cb b21_) rfl <| ls rfl rfl rfl (cb b21_) rfl <| ls rfl rfl rfl (cb b21_) rfl <| ls rfl rfl rfl (cb b21_) rfl <| lp rfl rfl (X_pick (b := true) (v := (.bool true)) (cb b21_) rfl) ?_
      obtain rfl := si H
      exact nx ⟨(ku1 (ku4 kz rfl) rfl), ⟨_, rfl, rfl⟩, er⟩
     ·refine lg rfl rfl rfl rfl (cb b21_) (xm (S a0) (K12 0 rfl)) <| lg rfl rfl rfl rfl (cb b21_) (xm (.int .i64 x6_1) rfl) ?_
      obtain ⟨c23, H⟩ := bif_some H
      refine lg rfl rfl rfl rfl (cb b21_) (X_indexS Tryz.underlying9 rfl rfl (inR_lo c23) (inR_hi c23)) <| lg rfl rfl rfl rfl (cb b21_) (X_eql rfl rfl) <| lp rfl rfl (X_pick (b := false) (v := (.bool (decide ((byt a0 x6_1) = 47)))) (cb b21_) rfl) ?_
      obtain rfl := si H
      exact nx ⟨(ku1 (ku4 kz rfl) rfl), ⟨_, rfl, rfl⟩, er⟩
    intro s29 w25 z30 K26 hq h27 e28
    rw [hq] at h27; clear hq
    refine nx ?_
    rcases bif_two H with ⟨q31, H⟩ | ⟨q31, H⟩
    ·refine W_true (h27.trans (cb q31)) <| wr <| lp rfl rfl (xa (.bool false) rfl) <| nx <| W_ret <| blk_r <| thn_r <| thn_r <| blk_r <| thn_r <| thn_r <| fin_r ?_
     obtain rfl := si H
     obtain rfl := si S17
     have H := C4
     obtain rfl := si H
     exact fin1 rfl ((e13.t e21).t e28)
    ·refine W_false (h27.trans (cb q31)) <| W_skip <| blk_n <| thn_n <| W_reg <| lp rfl rfl (X_add ((K26 6 rfl).trans h15) rfl) <| lp rfl rfl (xm (.int .i64 (IntKind.wrap .i64 (x6_1 + 1))) rfl) <| nx ?_
     obtain rfl := si H
     exact ⟨_, Nat.lt_succ_self _, IntKind.wrap .i64 (x6_1 + 1), (ku2 (Kp.cut (ku2 (ku8 K12 rfl) rfl) K26 rfl) rfl), rfl, ((e13.t e21).t e28), S17⟩
   ·refine W_false (cb q18) <| W_exit <| thn_x <| thn_x <| blk_x <| thn_n ?_
    obtain rfl := si H
    obtain rfl := si S17
    exact ⟨(ku1 K12 rfl), e13, rfl⟩
 ·rintro s6 w5 ⟨K7, e8, y32⟩
  rw [y32] at C4
  have H := C4
  replace H : _ = some _ := H
  refine thn_n <| wr <| lp rfl rfl (xm (S a0) (K7 0 rfl)) <| lp rfl rfl (X_lenS Tryz.underlying9 rfl) <| lc rfl rfl rfl Tryz.call196 (impl_within.calls (w := w5) (a0 := (a0.length : Int)) (a1 := 1) (a2 := 8)) rfl <| fun w33 e34 => lp rfl rfl (xm (.bool (within (a0.length : Int) 1 8)) rfl) <| L_grp 3 [(26, 29)] 28 (.bool ((within (a0.length : Int) 1 8) && (!decide (a0 = ([46] : List UInt8))))) ?_ ?_
  ·rcases bool_two (within (a0.length : Int) 1 8) with b34_ | b34_
   ·exact lg rfl rfl rfl rfl (cb b34_) (xm (S a0) (K7 0 rfl)) <| lg rfl rfl rfl rfl (cb b34_) (X_sne rfl rfl) <| lp rfl rfl (X_pick (b := true) (v := (.bool (!decide (a0 = ([46] : List UInt8))))) (cb b34_) rfl) <| nx ⟨(ku3 kz rfl), (and_t b34_), er⟩
   ·exact ls rfl rfl rfl (cb b34_) rfl <| ls rfl rfl rfl (cb b34_) rfl <| lp rfl rfl (X_pick (b := false) (v := (.bool false)) (cb b34_) rfl) <| nx ⟨(ku3 kz rfl), (and_f b34_), er⟩
  intro s40 w36 K37 h38 e39
  refine lp rfl rfl (X_move h38) <| L_grp 3 [(30, 33)] 32 (.bool (((within (a0.length : Int) 1 8) && (!decide (a0 = ([46] : List UInt8)))) && (!decide (a0 = ([46, 46] : List UInt8))))) ?_ ?_
  ·rcases bool_two ((within (a0.length : Int) 1 8) && (!decide (a0 = ([46] : List UInt8)))) with b40_ | b40_
   ·exact lg rfl rfl rfl rfl (cb b40_) (xm (S a0) ((K37 0 rfl).trans (K7 0 rfl))) <| lg rfl rfl rfl rfl (cb b40_) (X_sne rfl rfl) <| lp rfl rfl (X_pick (b := true) (v := (.bool (!decide (a0 = ([46, 46] : List UInt8))))) (cb b40_) rfl) <| nx ⟨(ku3 kz rfl), (and_t b40_), er⟩
   ·exact ls rfl rfl rfl (cb b40_) rfl <| ls rfl rfl rfl (cb b40_) rfl <| lp rfl rfl (X_pick (b := false) (v := (.bool false)) (cb b40_) rfl) <| nx ⟨(ku3 kz rfl), (and_f b40_), er⟩
  intro s46 w42 K43 h44 e45
  refine lp rfl rfl (X_assign h44) <| nx <| W_ret <| fin_r ?_
  obtain rfl := si H
  exact fin1 rfl (((e8.t e34).t e39).t e45)
/-! spec.l00Cut -/
theorem spec_l00Cut.calls {w : World} {a0 : List UInt8} {a1 : Int} (h0 : a0.length ≤ 1048576) :
  Calls Tryz.prog 209 #[S a0, .int .u8 a1] w (Rt (RO 9 1 encS w (cut a1 a0))) := by
 obtain ⟨k, H⟩ := spec_l00Cut.eq a0 a1 h0
 generalize (cut a1 a0) = r at H ⊢
 unfold spec_l00Cut.sh at H
 refine calls_of_W Tryz.func209 rfl (Nat.le_of_ble_eq_true rfl) Tryz.ntmps209 rfl ?_
 refine wr <| lp rfl rfl (xa (.slice none 0 0) rfl) <| nx <| wr <| L_lit (.plain rfl) rfl (ltb rfl) rfl Tryz.underlying42 Tryz.sizeOf9 Tryz.zeroValue9 rfl rfl rfl (vs := []) rfl (lit_all rfl) <| fun b1 w2 z3 z4 e5 k6 => lp rfl rfl (xa (.slice (some ⟨b1, 0, none⟩) 0 0) rfl) <| nx <| wr <| lp rfl rfl (xa (.int .i64 0) rfl) <| nx <| W_seq <| wr <| lp rfl rfl (xa (.int .i64 0) rfl) <| nx ?_
 obtain ⟨z11, L12, C13⟩ := bind_some H
 clear H
 refine  W_cutQ (fun s0 sQ wQ => ∃ (x5_14 : List (List UInt8)) (v15 : Value) (x6_16 : Int), Kp [(5, 8), (9, 29)] s0 sQ ∧ sQ 5 = v15 ∧ Ow 9 1 encS w2.heap.size wQ v15 x5_14 ∧ sQ 6 = .int .i64 x6_16 ∧ Ext w2 wQ ∧ z11 = .inr (x5_14, x6_16)) ?_ ?_
 ·refine W_block <| W_loopI (fun s0 kk sQ wQ => ∃ (x5_7 : List (List UInt8)) (v8 : Value) (x6_9 : Int) (x7_10 : Int), Kp [(5, 8), (9, 29)] s0 sQ ∧ sQ 5 = v8 ∧ Ow 9 1 encS w2.heap.size wQ v8 x5_7 ∧ sQ 6 = .int .i64 x6_9 ∧ sQ 7 = .int .i64 x7_10 ∧ Ext w2 wQ ∧ loopF (spec_l00Cut.b1 a0 a1) kk (x5_7, x6_9, x7_10) = some z11) k ⟨([] : List (List UInt8)), (.slice (some ⟨b1, 0, none⟩) 0 0), 0, 0, kz, rfl, (Ow.zero), rfl, rfl, er, L12⟩ ?_
  rintro k21 s22 w23 ⟨x5_7, v8, x6_9, x7_10, K24, h27, h28, h29, h30, e25, L26⟩
  cases k21 with
  | zero => exact absurd L26 (by simp [loopF])
  | succ k21 =>
   obtain ⟨t31, H, S32⟩ := loopF_succ L26
   clear L26
   unfold spec_l00Cut.b1 at H
   refine W_seq <| wr <| lp rfl rfl (X_move h30) <| lp rfl rfl (xm (S a0) (K24 0 rfl)) <| lp rfl rfl (X_lenS Tryz.underlying9 rfl) <| lp rfl rfl (X_lss rfl rfl) <| nx ?_
   rcases bif_two H with ⟨q33, H⟩ | ⟨q33, H⟩
   ·refine W_true (cb q33) <| W_skip <| thn_n <| W_seq <| W_block <| wr <| lp rfl rfl (xm (S a0) (K24 0 rfl)) <| lp rfl rfl (X_move h30) ?_
    obtain ⟨c34, H⟩ := bif_some H
    refine lp rfl rfl (X_indexS Tryz.underlying9 rfl rfl (inR_lo c34) (inR_hi c34)) <| lp rfl rfl (xm (.int .u8 a1) (K24 1 rfl)) <| lp rfl rfl (X_eql rfl rfl) <| nx ?_
    rcases bif_two H with ⟨q35, H⟩ | ⟨q35, H⟩
    ·refine W_true (cb q35) <| wr <| lp rfl rfl (X_move h27) <| lp rfl rfl (xm (S a0) (K24 0 rfl)) <| lp rfl rfl (X_move h29) <| lp rfl rfl (X_move h30) ?_
     obtain ⟨c36, H⟩ := bif_some H
     refine lp rfl rfl (X_sliceS Tryz.underlying9 rfl (l := x6_9) (h := x7_10) ⟨_, rfl⟩ ⟨_, rfl⟩ (inS_1 c36) (inS_2 c36) (inS_3 c36)) <| L_lit (.plain rfl) rfl (ltb rfl) rfl Tryz.underlying42 Tryz.sizeOf9 Tryz.zeroValue9 rfl rfl rfl (vs := [(S (sub a0 x6_9 x7_10))]) rfl (lit_all rfl) <| fun b37 w38 z39 z40 e41 k42 => ?_
     obtain ⟨c43, H⟩ := bif_some H
     refine L_append (enc := encS) (.plain rfl) rfl (ltb rfl) rfl El.t42 rfl rfl (Ow.ext h28 e41) (Ow.rd (Ow.new (xs := [sub a0 x6_9 x7_10]) (sz := 1) (enc := encS) (base := w23.heap.size) k42 (Nat.le_of_eq z39) rfl (fun _ _ => by rfl) (Nat.le_of_ble_eq_true rfl))) (ones_S _) (od c43) ((e25.t e41)).size <| fun v44 w45 o46 z47 g48 => lp rfl rfl (xa v44 rfl) <| nx <| W_reg <| lp rfl rfl (X_move h30) <| lp rfl rfl (X_add rfl rfl) <| lp rfl rfl (xa (.int .i64 (IntKind.wrap .i64 (x7_10 + 1))) rfl) <| L_nil <| blk_n <| thn_n <| W_reg <| lp rfl rfl (X_move h30) <| lp rfl rfl (X_add rfl rfl) <| lp rfl rfl (xa (.int .i64 (IntKind.wrap .i64 (x7_10 + 1))) rfl) <| nx ?_
     obtain rfl := si H
     exact ⟨_, Nat.lt_succ_self _, x5_7 ++ ([sub a0 x6_9 x7_10] : List (List UInt8)), v44, IntKind.wrap .i64 (x7_10 + 1), IntKind.wrap .i64 (x7_10 + 1), (ku3 (ku4 (ku8 (ku8 K24 rfl) rfl) rfl) rfl), rfl, o46, rfl, rfl, (g48 _ (e25.t e41)), S32⟩
    ·refine W_false (cb q35) <| W_skip <| blk_n <| thn_n <| W_reg <| lp rfl rfl (X_move h30) <| lp rfl rfl (X_add rfl rfl) <| lp rfl rfl (xa (.int .i64 (IntKind.wrap .i64 (x7_10 + 1))) rfl) <| nx ?_
     obtain rfl := si H
     exact ⟨_, Nat.lt_succ_self _, x5_7, v8, x6_9, IntKind.wrap .i64 (x7_10 + 1), (ku4 (ku8 K24 rfl) rfl), h27, h28, h29, rfl, e25, S32⟩
   ·refine W_false (cb q33) <| W_exit <| thn_x <| thn_x <| blk_x <| thn_n ?_
    obtain rfl := si H
    obtain rfl := si S32
    exact ⟨x5_7, v8, x6_9, (ku4 K24 rfl), h27, h28, h29, e25, rfl⟩
 ·rintro s18 w17 ⟨x5_14, v15, x6_16, K19, h49, h50, h51, e20, y52⟩
  rw [y52] at C13
  have H := C13
  replace H : _ = some _ := H
  refine thn_n <| wr <| lp rfl rfl (X_move h49) <| lp rfl rfl (xm (S a0) (K19 0 rfl)) <| lp rfl rfl (X_move h51) ?_
  obtain ⟨c53, H⟩ := bif_some H
  refine lp rfl rfl (X_sliceS Tryz.underlying9 rfl (l := x6_16) (h := (a0.length : Int)) ⟨_, rfl⟩ rfl (inS_1 c53) (inS_2 c53) (inS_3 c53)) <| L_lit (.plain rfl) rfl (ltb rfl) rfl Tryz.underlying42 Tryz.sizeOf9 Tryz.zeroValue9 rfl rfl rfl (vs := [(S (sub a0 x6_16 (a0.length : Int)))]) rfl (lit_all rfl) <| fun b54 w55 z56 z57 e58 k59 => ?_
  obtain ⟨c60, H⟩ := bif_some H
  refine L_append (enc := encS) (.plain rfl) rfl (ltb rfl) rfl El.t42 rfl rfl (Ow.ext h50 e58) (Ow.rd (Ow.new (xs := [sub a0 x6_16 (a0.length : Int)]) (sz := 1) (enc := encS) (base := w17.heap.size) k59 (Nat.le_of_eq z56) rfl (fun _ _ => by rfl) (Nat.le_of_ble_eq_true rfl))) (ones_S _) (od c60) ((e20.t e58)).size <| fun v61 w62 o63 z64 g65 => lp rfl rfl (xa v61 rfl) <| nx <| W_ret <| fin_r ?_
  obtain rfl := si H
  exact fin1o rfl (e5.t (g65 _ (e20.t e58))) o63 (e5).size
/-! impl.parts -/
theorem impl_parts.calls {w : World} {a0 : List UInt8} (gv : GV 0 w) (h0 : a0.length ≤ 1048576) :
  Calls Tryz.prog 212 #[S a0] w (Rt (RO 9 1 encS w (cut 47 a0))) := by
 have H := impl_parts.eq a0 h0
 generalize (cut 47 a0) = r at H ⊢
 unfold impl_parts.sh at H
 refine calls_of_W Tryz.func212 rfl (Nat.le_of_ble_eq_true rfl) Tryz.ntmps212 rfl ?_
 refine wr <| lp rfl rfl (xa (.slice none 0 0) rfl) <| nx <| wr <| lp rfl rfl (xm (S a0) rfl) ?_
 obtain ⟨c1, H⟩ := bif_some H
 obtain ⟨c2, H⟩ := bif_some H
 refine L_callO (.plain rfl) rfl (ltb rfl) rfl Tryz.call263 (strings_Split.calls (w := w) (a0 := a0) (a1 := ([47] : List UInt8)) gv (od c1) (od c2)) rfl <| fun v5 w3 e4 o6 => lp rfl rfl (xa v5 rfl) <| nx <| W_ret <| fin_r ?_
 obtain rfl := si H
 exact fin1o rfl e4 o6 (er).size
/-! impl.all(string)$1 -/
theorem impl_allS_1.walk {w : World} {a0 : List UInt8} {a1 : List UInt8 → Option Bool} {v_a1 : Value} (f_a1 : ∀ (x0 : List UInt8) (r : Bool), a1 x0 = some r → FnAt Tryz.prog w v_a1 [(S x0)] (.bool r)) (g_a1 : v_a1.cells = #[v_a1]) {b_a1 : Nat} (k_a1 : Blk w b_a1 #[v_a1] 130) {r : Bool} (H : impl_allS_1.sh a0 a1 = some r) :
  Calls Tryz.prog 272 #[S a0, .pointer (some ⟨b_a1, 0, none⟩)] w (Rt (RP w (.bool r))) := by
 unfold impl_allS_1.sh at H
 refine calls_of_W Tryz.func272 rfl (Nat.le_of_ble_eq_true rfl) Tryz.ntmps272 rfl ?_
 refine wr <| lp rfl rfl (xa (.bool false) rfl) <| nx <| wr <| lp rfl rfl (X_loadB Tryz.isAgg130 k_a1 rfl rfl) <| lp rfl rfl (xm (S a0) rfl) ?_
 obtain ⟨z1, x2, H⟩ := bind_some H
 refine L_callF (.plain rfl) rfl (ltb rfl) rfl rfl (FnAt.ext (f_a1 _ _ x2) er) rfl <| fun w3 e4 => lp rfl rfl (X_not rfl) <| lp rfl rfl (xa (.bool (!z1)) rfl) <| nx <| W_ret <| fin_r ?_
 obtain rfl := si H
 exact fin1 rfl e4
theorem impl_allS_1.calls {w : World} {a0 : List UInt8} {a1 : List UInt8 → Option Bool} {r : Bool} {v_a1 : Value} (f_a1 : ∀ (x0 : List UInt8) (r : Bool), a1 x0 = some r → FnAt Tryz.prog w v_a1 [(S x0)] (.bool r)) (g_a1 : v_a1.cells = #[v_a1]) {b_a1 : Nat} (k_a1 : Blk w b_a1 #[v_a1] 130) (H : ((a1 a0).map (!·)) = some r) :
  Calls Tryz.prog 272 #[S a0, .pointer (some ⟨b_a1, 0, none⟩)] w (Rt (RP w (.bool r))) := impl_allS_1.walk f_a1 g_a1 k_a1 (impl_allS_1.eq a0 a1 H)
/-! slices.IndexFunc(()string,string) -/
theorem slices_IndexFuncS.walk {k : Nat} {w : World} {a0 : List (List UInt8)} {a1 : List UInt8 → Option Bool} {v_a0 : Value} (f_a0 : Rd 1 encS w v_a0 a0) {v_a1 : Value} (f_a1 : ∀ (x0 : List UInt8) (r : Bool), a1 x0 = some r → FnAt Tryz.prog w v_a1 [(S x0)] (.bool r)) (g_a1 : v_a1.cells = #[v_a1]) {r : Int} (H : slices_IndexFuncS.sh k a0 a1 = some r) :
  Calls Tryz.prog 279 #[v_a0, v_a1] w (Rt (RP w (.int .i64 r))) := by
 unfold slices_IndexFuncS.sh at H
 refine calls_of_W Tryz.func279 rfl (Nat.le_of_ble_eq_true rfl) Tryz.ntmps279 rfl ?_
 refine wr <| lp rfl rfl (xa (.int .i64 0) rfl) <| nx <| W_seq <| wr <| lp rfl rfl (xm v_a0 rfl) <| lp rfl rfl (X_lenR Tryz.underlying42 rfl f_a0) <| lp rfl rfl (xm (.int .i64 0) rfl) <| nx ?_
 obtain ⟨z2, L3, C4⟩ := bind_some H
 clear H
 refine  W_cutQ (fun s0 sQ wQ => Kp [(4, 6), (8, 19)] s0 sQ ∧ Ext w wQ ∧ z2 = .inr ()) ?_ ?_
 ·refine W_block <| W_loopI (fun s0 kk sQ wQ => ∃ (x8_1 : Int), Kp [(4, 6), (8, 19)] s0 sQ ∧ sQ 8 = .int .i64 x8_1 ∧ Ext w wQ ∧ loopF (slices_IndexFuncS.b1 a0 a1) kk x8_1 = some z2) k ⟨0, kz, rfl, er, L3⟩ ?_
  rintro k9 s10 w11 ⟨x8_1, K12, h15, e13, L14⟩
  cases k9 with
  | zero => exact absurd L14 (by simp [loopF])
  | succ k9 =>
   obtain ⟨t16, H, S17⟩ := loopF_succ L14
   clear L14
   unfold slices_IndexFuncS.b1 at H
   refine wr <| lp rfl rfl (X_lss h15 (K12 7 rfl)) <| nx <| W_seq ?_
   rcases bif_two H with ⟨q18, H⟩ | ⟨q18, H⟩
   ·refine W_true (cb q18) <| W_skip <| thn_n <| W_seq <| W_block <| wr <| lp rfl rfl (X_move h15) <| lp rfl rfl (xa (.int .i64 x8_1) rfl) <| nx <| wr <| lp rfl rfl (xm v_a1 (K12 1 rfl)) <| lp rfl rfl (xm v_a0 (K12 0 rfl)) <| lp rfl rfl (xm (.int .i64 x8_1) rfl) ?_
    obtain ⟨c19, H⟩ := bif_some H
    refine L_idx (.plain rfl) rfl (ltb rfl) rfl Tryz.underlying42 Tryz.sizeOf9 rfl (Rd.ext f_a0 e13) rfl c19 <| fun p20 h21 => lp rfl rfl (X_loadAt Tryz.isAgg9 rfl h21 rfl) ?_
    obtain ⟨z22, x23, H⟩ := bind_some H
    refine L_callF (.plain rfl) rfl (ltb rfl) rfl rfl (FnAt.ext (f_a1 _ _ x23) e13) rfl <| fun w24 e25 => nx ?_
    rcases bif_two H with ⟨q26, H⟩ | ⟨q26, H⟩
    ·refine W_true (cb q26) <| wr <| lp rfl rfl (xm (.int .i64 x8_1) rfl) <| lp rfl rfl (xa (.int .i64 x8_1) rfl) <| nx <| W_ret <| blk_r <| thn_r <| thn_r <| blk_r <| thn_r <| thn_r <| fin_r ?_
     obtain rfl := si H
     obtain rfl := si S17
     have H := C4
     obtain rfl := si H
     exact fin1 rfl (e13.t e25)
    ·refine W_false (cb q26) <| W_skip <| blk_n <| thn_n <| W_reg <| lp rfl rfl (X_add h15 rfl) <| lp rfl rfl (xm (.int .i64 (IntKind.wrap .i64 (x8_1 + 1))) rfl) <| nx ?_
     obtain rfl := si H
     exact ⟨_, Nat.lt_succ_self _, IntKind.wrap .i64 (x8_1 + 1), (ku3 (ku8 K12 rfl) rfl), rfl, (e13.t e25), S17⟩
   ·refine W_false (cb q18) <| W_exit <| thn_x <| thn_x <| blk_x <| thn_n ?_
    obtain rfl := si H
    obtain rfl := si S17
    exact ⟨(ku1 K12 rfl), e13, rfl⟩
 ·rintro s6 w5 ⟨K7, e8, y27⟩
  rw [y27] at C4
  have H := C4
  replace H : _ = some _ := H
  refine thn_n <| wr <| lp rfl rfl (xa (.int .i64 (-1)) rfl) <| nx <| W_ret <| fin_r ?_
  obtain rfl := si H
  exact fin1 rfl e8
theorem slices_IndexFuncS.calls {w : World} {a0 : List (List UInt8)} {a1 : List UInt8 → Option Bool} {r : Int} {v_a0 : Value} (f_a0 : Rd 1 encS w v_a0 a0) {v_a1 : Value} (f_a1 : ∀ (x0 : List UInt8) (r : Bool), a1 x0 = some r → FnAt Tryz.prog w v_a1 [(S x0)] (.bool r)) (g_a1 : v_a1.cells = #[v_a1]) (h0 : a0.length ≤ 4611686018427387904) (H : (idxO a1 a0) = some r) :
  Calls Tryz.prog 279 #[v_a0, v_a1] w (Rt (RP w (.int .i64 r))) := by
 obtain ⟨k, h⟩ := slices_IndexFuncS.eq a0 a1 h0 H
 exact slices_IndexFuncS.walk f_a0 f_a1 g_a1 h
/-! slices.ContainsFunc(()string,string) -/
theorem slices_ContainsFuncS.walk {w : World} {a0 : List (List UInt8)} {a1 : List UInt8 → Option Bool} {v_a0 : Value} (f_a0 : Rd 1 encS w v_a0 a0) {v_a1 : Value} (f_a1 : ∀ (x0 : List UInt8) (r : Bool), a1 x0 = some r → FnAt Tryz.prog w v_a1 [(S x0)] (.bool r)) (g_a1 : v_a1.cells = #[v_a1]) {r : Bool} (H : slices_ContainsFuncS.sh a0 a1 = some r) :
  Calls Tryz.prog 259 #[v_a0, v_a1] w (Rt (RP w (.bool r))) := by
 unfold slices_ContainsFuncS.sh at H
 refine calls_of_W Tryz.func259 rfl (Nat.le_of_ble_eq_true rfl) Tryz.ntmps259 rfl ?_
 refine wr <| lp rfl rfl (xa (.bool false) rfl) <| nx <| wr <| lp rfl rfl (xm v_a0 rfl) <| lp rfl rfl (xm v_a1 rfl) ?_
 obtain ⟨c1, H⟩ := bif_some H
 obtain ⟨z2, x3, H⟩ := bind_some H
 refine lc rfl rfl rfl Tryz.call279 (slices_IndexFuncS.calls (w := w) (a0 := a0) (a1 := a1) f_a0 (fun x0 r h => FnAt.ext (f_a1 x0 r h) er) g_a1 (od c1) x3) rfl <| fun w4 e5 => lp rfl rfl (X_geq rfl rfl) <| lp rfl rfl (xa (.bool (decide (0 ≤ z2))) rfl) <| nx <| W_ret <| fin_r ?_
 obtain rfl := si H
 exact fin1 rfl e5
theorem slices_ContainsFuncS.calls {w : World} {a0 : List (List UInt8)} {a1 : List UInt8 → Option Bool} {r : Bool} {v_a0 : Value} (f_a0 : Rd 1 encS w v_a0 a0) {v_a1 : Value} (f_a1 : ∀ (x0 : List UInt8) (r : Bool), a1 x0 = some r → FnAt Tryz.prog w v_a1 [(S x0)] (.bool r)) (g_a1 : v_a1.cells = #[v_a1]) (h0 : a0.length ≤ 4611686018427387904) (H : (anyO a1 a0) = some r) :
  Calls Tryz.prog 259 #[v_a0, v_a1] w (Rt (RP w (.bool r))) := slices_ContainsFuncS.walk f_a0 f_a1 g_a1 (slices_ContainsFuncS.eq a0 a1 h0 H)
/-! impl.all(string) -/
theorem impl_allS.walk {w : World} {a0 : List (List UInt8)} {a1 : List UInt8 → Option Bool} {v_a0 : Value} (f_a0 : Rd 1 encS w v_a0 a0) {v_a1 : Value} (f_a1 : ∀ (x0 : List UInt8) (r : Bool), a1 x0 = some r → FnAt Tryz.prog w v_a1 [(S x0)] (.bool r)) (g_a1 : v_a1.cells = #[v_a1]) {r : Bool} (H : impl_allS.sh a0 a1 = some r) :
  Calls Tryz.prog 230 #[v_a0, v_a1] w (Rt (RP w (.bool r))) := by
 unfold impl_allS.sh at H
 refine calls_of_W Tryz.func230 rfl (Nat.le_of_ble_eq_true rfl) Tryz.ntmps230 rfl ?_
 refine wr <| L_box (.plain rfl) rfl (ltb rfl) rfl rfl <| fun b1 w2 z3 z4 e5 k6 => lp rfl rfl (xa (.bool false) rfl) <| nx <| wr <| lp rfl rfl (xm v_a0 rfl) <| lp rfl rfl (X_makeFunc (vs := #[]) (us := #[.pointer (some ⟨b1, 0, none⟩)]) rfl rfl) ?_
 obtain ⟨c11, H⟩ := bif_some H
 obtain ⟨z12, x13, H⟩ := bind_some H
 refine lc rfl rfl rfl Tryz.call259 (slices_ContainsFuncS.calls (w := w2) (a0 := a0) (a1 := (fun (x0_ : List UInt8) => ((a1 x0_).map (!·)))) (Rd.ext f_a0 e5) (fun x0_ r h => by exact FnAt.mk Tryz.call272 (by rfl) fun w9 k10 => impl_allS_1.calls (w := w9) (a0 := x0_) (a1 := a1) (fun x0 r h => FnAt.ext (f_a1 x0 r h) (e5.t k10)) g_a1 (Blk.ext (Blk.cs k6 g_a1) k10) h) rfl (od c11) x13) rfl <| fun w14 e15 => lp rfl rfl (X_not rfl) <| lp rfl rfl (xa (.bool (!z12)) rfl) <| nx <| W_ret <| fin_r ?_
 obtain rfl := si H
 exact fin1 rfl (e5.t e15)
theorem impl_allS.calls {w : World} {a0 : List (List UInt8)} {a1 : List UInt8 → Option Bool} {r : Bool} {v_a0 : Value} (f_a0 : Rd 1 encS w v_a0 a0) {v_a1 : Value} (f_a1 : ∀ (x0 : List UInt8) (r : Bool), a1 x0 = some r → FnAt Tryz.prog w v_a1 [(S x0)] (.bool r)) (g_a1 : v_a1.cells = #[v_a1]) (h0 : a0.length ≤ 4611686018427387904) (H : (allO a1 a0) = some r) :
  Calls Tryz.prog 230 #[v_a0, v_a1] w (Rt (RP w (.bool r))) := impl_allS.walk f_a0 f_a1 g_a1 (impl_allS.eq a0 a1 h0 H)
/-! impl.PathOK -/
theorem impl_PathOK.calls {w : World} {a0 : List UInt8} (gv : GV 0 w) :
  Calls Tryz.prog 150 #[S a0] w (Rt (RP w (.bool (pathOK a0)))) := by
 have H := impl_PathOK.eq a0
 generalize (pathOK a0) = r at H ⊢
 unfold impl_PathOK.sh at H
 refine calls_of_W Tryz.func150 rfl (Nat.le_of_ble_eq_true rfl) Tryz.ntmps150 rfl ?_
 refine wr <| lp rfl rfl (xa (.bool false) rfl) <| nx <| wr <| lp rfl rfl (xm (S a0) rfl) <| lp rfl rfl (X_lenS Tryz.underlying9 rfl) <| lp rfl rfl (X_lss rfl rfl) <| lp rfl rfl (xm (.bool (decide ((a0.length : Int) < 36))) rfl) ?_
 obtain ⟨z2, x3, H⟩ := bind_some H
 refine L_grpE 5 [(7, 12)] 11 (fun q => q = z2) ?_ ?_
 ·rcases bif_two x3 with ⟨b0_, H⟩ | ⟨b0_, H⟩
  ·refine lg rfl rfl rfl rfl (cb b0_) (xm (S a0) rfl) ?_
   obtain ⟨c2, H⟩ := bif_some H
   refine L_callO (tg rfl rfl rfl (cb b0_)) rfl (ltb rfl) rfl Tryz.call212 (impl_parts.calls (w := w) (a0 := a0) gv (od c2)) rfl <| fun v5 w3 e4 o6 => lg rfl rfl rfl rfl (cb b0_) (X_lenR Tryz.underlying42 rfl (Ow.rd o6)) <| lg rfl rfl rfl rfl (cb b0_) (X_leq rfl rfl) <| lp rfl rfl (X_pick (b := true) (v := (.bool (decide (((cut 47 a0).length : Int) ≤ 4)))) (cb b0_) rfl) ?_
   obtain rfl := si H
   exact nx ⟨(ku1 (ku4 kz rfl) rfl), ⟨_, rfl, rfl⟩, e4⟩
  ·refine ls rfl rfl rfl (cb b0_) rfl <| ls rfl rfl rfl (cb b0_) rfl <| ls rfl rfl rfl (cb b0_) rfl <| ls rfl rfl rfl (cb b0_) rfl <| lp rfl rfl (X_pick (b := false) (v := (.bool false)) (cb b0_) rfl) ?_
   obtain rfl := si H
   exact nx ⟨(ku1 (ku4 kz rfl) rfl), ⟨_, rfl, rfl⟩, er⟩
 intro s8 w4 z9 K5 hq h6 e7
 rw [hq] at h6; clear hq
 refine lp rfl rfl (X_move h6) ?_
 obtain ⟨z11, x12, H⟩ := bind_some H
 refine L_grpE 4 [(13, 17)] 16 (fun q => q = z11) ?_ ?_
 ·rcases bif_two x12 with ⟨b9_, H⟩ | ⟨b9_, H⟩
  ·refine lg rfl rfl rfl rfl (cb b9_) (xm (S a0) (K5 0 rfl)) ?_
   obtain ⟨c11, H⟩ := bif_some H
   refine L_callO (tg rfl rfl rfl (cb b9_)) rfl (ltb rfl) rfl Tryz.call212 (impl_parts.calls (w := w4) (a0 := a0) (GV.ext gv e7) (od c11)) rfl <| fun v14 w12 e13 o15 => ?_
   obtain ⟨c20, H⟩ := bif_some H
   obtain ⟨z21, x22, H⟩ := bind_some H
   refine L_callP (tg rfl rfl rfl (cb b9_)) rfl (ltb rfl) rfl Tryz.call230 (impl_allS.calls (w := w12) (a0 := (cut 47 a0)) (a1 := (fun (x0_ : List UInt8) => bif decide (x0_.length ≤ 4611686018427387904) then (some (partOK x0_)) else none)) (Ow.rd o15) (fun x0_ r h => by obtain ⟨q0, h⟩ := bif_some h; have h := si h; subst h; exact FnAt.mk Tryz.call232 (by rfl) fun w18 k19 => impl_PartOK.calls (w := w18) (a0 := x0_) (od q0)) rfl (od c20) x22) rfl <| fun w23 e24 => lp rfl rfl (X_pick (b := true) (v := (.bool z21)) (cb b9_) rfl) ?_
   obtain rfl := si H
   exact nx ⟨(ku4 kz rfl), ⟨_, rfl, rfl⟩, (e13.t e24)⟩
  ·refine ls rfl rfl rfl (cb b9_) rfl <| ls rfl rfl rfl (cb b9_) rfl <| ls rfl rfl rfl (cb b9_) rfl <| lp rfl rfl (X_pick (b := false) (v := (.bool false)) (cb b9_) rfl) ?_
   obtain rfl := si H
   exact nx ⟨(ku4 kz rfl), ⟨_, rfl, rfl⟩, er⟩
 intro s25 w13 z26 K14 hq h15 e16
 rw [hq] at h15; clear hq
 refine lp rfl rfl (X_assign h15) <| nx <| W_ret <| fin_r ?_
 obtain rfl := si H
 exact fin1 rfl (e7.t e16)
/-! impl.isLong$1 -/
theorem impl_isLong_1.calls {w : World} {a0 : List UInt8} :
  Calls Tryz.prog 231 #[S a0] w (Rt (RP w (.bool (decide (a0.length ≤ 65536))))) := by
 have H := impl_isLong_1.eq a0
 generalize (decide (a0.length ≤ 65536)) = r at H ⊢
 unfold impl_isLong_1.sh at H
 refine calls_of_W Tryz.func231 rfl (Nat.le_of_ble_eq_true rfl) Tryz.ntmps231 rfl ?_
 refine wr <| lp rfl rfl (xa (.bool false) rfl) <| nx <| wr <| lp rfl rfl (xm (S a0) rfl) <| lp rfl rfl (X_lenS Tryz.underlying9 rfl) <| lp rfl rfl (X_leq rfl rfl) <| lp rfl rfl (xa (.bool (decide ((a0.length : Int) ≤ 65536))) rfl) <| nx <| W_ret <| fin_r ?_
 obtain rfl := si H
 exact fin1 rfl er
/-! impl.isLong -/
theorem impl_isLong.calls {w : World} {a0 : List (List UInt8)} {v_a0 : Value} (f_a0 : Rd 1 encS w v_a0 a0) (h0 : a0.length ≤ 4611686018427387904) :
  Calls Tryz.prog 149 #[v_a0] w (Rt (RP w (.bool (a0.any fun t => decide (65536 < t.length))))) := by
 have H := impl_isLong.eq a0 h0
 generalize (a0.any fun t => decide (65536 < t.length)) = r at H ⊢
 unfold impl_isLong.sh at H
 refine calls_of_W Tryz.func149 rfl (Nat.le_of_ble_eq_true rfl) Tryz.ntmps149 rfl ?_
 refine wr <| lp rfl rfl (xa (.bool false) rfl) <| nx <| wr <| lp rfl rfl (xm v_a0 rfl) ?_
 obtain ⟨c5, H⟩ := bif_some H
 obtain ⟨z6, x7, H⟩ := bind_some H
 refine lc rfl rfl rfl Tryz.call230 (impl_allS.calls (w := w) (a0 := a0) (a1 := (fun (x0_ : List UInt8) => some (decide (x0_.length ≤ 65536)))) f_a0 (fun x0_ r h => by have h := si h; subst h; exact FnAt.mk Tryz.call231 (by rfl) fun w3 k4 => impl_isLong_1.calls (w := w3) (a0 := x0_)) rfl (od c5) x7) rfl <| fun w8 e9 => lp rfl rfl (X_not rfl) <| lp rfl rfl (xa (.bool (!z6)) rfl) <| nx <| W_ret <| fin_r ?_
 obtain rfl := si H
 exact fin1 rfl e9
/-! impl.first -/
theorem impl_first.calls {w : World} {a0 : List (Bool ⊕ Int)} {v_a0 : Value} (f_a0 : Rd 1 (encAny 4 3) w v_a0 a0) (h0 : a0.length ≤ 4611686018427387904) :
  Calls Tryz.prog 125 #[v_a0] w (Rt (RP w (.int .i64 (firstOf a0)))) := by
 obtain ⟨k, H⟩ := impl_first.eq a0 h0
 generalize (firstOf a0) = r at H ⊢
 unfold impl_first.sh at H
 refine calls_of_W Tryz.func125 rfl (Nat.le_of_ble_eq_true rfl) Tryz.ntmps125 rfl ?_
 refine wr <| lp rfl rfl (xa (.int .i64 0) rfl) <| nx <| W_seq <| wr <| lp rfl rfl (xa (.int .i64 0) rfl) <| nx ?_
 obtain ⟨z2, L3, C4⟩ := bind_some H
 clear H
 refine  W_cutQ (fun s0 sQ wQ => Kp [(2, 34)] s0 sQ ∧ Ext w wQ ∧ z2 = .inr ()) ?_ ?_
 ·refine W_block <| W_loopI (fun s0 kk sQ wQ => ∃ (x3_1 : Int), Kp [(2, 34)] s0 sQ ∧ sQ 3 = .int .i64 x3_1 ∧ Ext w wQ ∧ loopF (impl_first.b1 a0) kk x3_1 = some z2) k ⟨0, kz, rfl, er, L3⟩ ?_
  rintro k9 s10 w11 ⟨x3_1, K12, h15, e13, L14⟩
  cases k9 with
  | zero => exact absurd L14 (by simp [loopF])
  | succ k9 =>
   obtain ⟨t16, H, S17⟩ := loopF_succ L14
   clear L14
   unfold impl_first.b1 at H
   refine W_seq <| wr <| lp rfl rfl (X_move h15) <| lp rfl rfl (X_add rfl rfl) <| lp rfl rfl (xm v_a0 (K12 0 rfl)) <| lp rfl rfl (X_lenR Tryz.underlying171 rfl (Rd.ext f_a0 e13)) <| lp rfl rfl (X_lss rfl rfl) <| nx ?_
   rcases bif_two H with ⟨q18, H⟩ | ⟨q18, H⟩
   ·refine W_true (cb q18) <| W_skip <| thn_n <| W_seq <| W_block <| wr <| lp rfl rfl (xm v_a0 (K12 0 rfl)) <| lp rfl rfl (X_move h15) ?_
    obtain ⟨c19, H⟩ := bif_some H
    refine L_idx (.plain rfl) rfl (ltb rfl) rfl Tryz.underlying171 Tryz.sizeOf20 rfl (Rd.ext f_a0 e13) rfl c19 <| fun p20 h21 => lp rfl rfl (X_loadAt Tryz.isAgg20 rfl h21 rfl) <| lp rfl rfl (X_taB Tryz.underlying4 Tryz.zeroValue4 (by decide) rfl) <| lp rfl rfl (xm (.tuple #[(.bool (anyB (gt a0 x3_1))), (.bool (isB (gt a0 x3_1)))]) rfl) <| lp rfl rfl (X_extract (v := (.bool (anyB (gt a0 x3_1)))) rfl rfl) <| lp rfl rfl (X_extract (v := (.bool (isB (gt a0 x3_1)))) rfl rfl) <| lp rfl rfl (xa (.bool (anyB (gt a0 x3_1))) rfl) <| lp rfl rfl (xa (.bool (isB (gt a0 x3_1))) rfl) <| nx <| wr <| lp rfl rfl (xm (.bool (anyB (gt a0 x3_1))) rfl) <| nx ?_
    rcases bif_two H with ⟨q22, H⟩ | ⟨q22, H⟩
    ·refine W_true (cb q22) <| wr <| lp rfl rfl (xm v_a0 (K12 0 rfl)) <| lp rfl rfl (X_move h15) <| lp rfl rfl (X_add rfl rfl) ?_
     obtain ⟨c23, H⟩ := bif_some H
     refine L_idx (.plain rfl) rfl (ltb rfl) rfl Tryz.underlying171 Tryz.sizeOf20 rfl (Rd.ext f_a0 e13) rfl c23 <| fun p24 h25 => lp rfl rfl (X_loadAt Tryz.isAgg20 rfl h25 rfl) <| lp rfl rfl (X_taI Tryz.underlying3 Tryz.zeroValue3 (by decide) rfl) <| lp rfl rfl (X_move rfl) <| lp rfl rfl (X_extract (v := (.int .i64 (anyI (gt a0 (IntKind.wrap .i64 (x3_1 + 1)))))) rfl rfl) <| lp rfl rfl (X_extract (v := (.bool (!isB (gt a0 (IntKind.wrap .i64 (x3_1 + 1)))))) rfl rfl) <| lp rfl rfl (xa (.int .i64 (anyI (gt a0 (IntKind.wrap .i64 (x3_1 + 1))))) rfl) <| lp rfl rfl (xa (.bool (!isB (gt a0 (IntKind.wrap .i64 (x3_1 + 1))))) rfl) <| nx <| wr <| lp rfl rfl (xm (.int .i64 (anyI (gt a0 (IntKind.wrap .i64 (x3_1 + 1))))) rfl) <| lp rfl rfl (xa (.int .i64 (anyI (gt a0 (IntKind.wrap .i64 (x3_1 + 1))))) rfl) <| nx <| W_ret <| blk_r <| thn_r <| thn_r <| blk_r <| thn_r <| thn_r <| fin_r ?_
     obtain rfl := si H
     obtain rfl := si S17
     have H := C4
     obtain rfl := si H
     exact fin1 rfl e13
    ·refine W_false (cb q22) <| W_skip <| blk_n <| thn_n <| W_reg <| lp rfl rfl (X_move h15) <| lp rfl rfl (X_add rfl rfl) <| lp rfl rfl (xa (.int .i64 (IntKind.wrap .i64 (x3_1 + 2))) rfl) <| nx ?_
     obtain rfl := si H
     exact ⟨_, Nat.lt_succ_self _, IntKind.wrap .i64 (x3_1 + 2), (ku3 (ku8 (ku8 K12 rfl) rfl) rfl), rfl, e13, S17⟩
   ·refine W_false (cb q18) <| W_exit <| thn_x <| thn_x <| blk_x <| thn_n ?_
    obtain rfl := si H
    obtain rfl := si S17
    exact ⟨(ku1 (ku4 K12 rfl) rfl), e13, rfl⟩
 ·rintro s6 w5 ⟨K7, e8, y26⟩
  rw [y26] at C4
  have H := C4
  replace H : _ = some _ := H
  refine thn_n <| wr <| lp rfl rfl (xa (.int .i64 0) rfl) <| nx <| W_ret <| fin_r ?_
  obtain rfl := si H
  exact fin1 rfl e8
/-! spec.l01OK -/
theorem spec_l01OK.calls {w : World} {a0 : List UInt8} :
  Calls Tryz.prog 146 #[S a0] w (Rt (RP w (.bool (pathOK a0)))) := by
 obtain ⟨k, H⟩ := spec_l01OK.eq a0
 generalize (pathOK a0) = r at H ⊢
 unfold spec_l01OK.sh at H
 refine calls_of_W Tryz.func146 rfl (Nat.le_of_ble_eq_true rfl) Tryz.ntmps146 rfl ?_
 refine wr <| lp rfl rfl (xa (.bool false) rfl) <| nx <| W_seq <| wr <| lp rfl rfl (xm (S a0) rfl) <| lp rfl rfl (X_lenS Tryz.underlying9 rfl) <| lp rfl rfl (X_gtr rfl rfl) <| nx ?_
 rcases bif_two H with ⟨q1, H⟩ | ⟨q1, H⟩
 ·refine W_true (cb q1) <| wr <| lp rfl rfl (xa (.bool false) rfl) <| nx <| W_ret <| thn_r <| fin_r ?_
  obtain rfl := si H
  exact fin1 rfl er
 ·refine W_false (cb q1) <| W_skip <| thn_n <| wr <| lp rfl rfl (xm (S a0) rfl) ?_
  obtain ⟨c2, H⟩ := bif_some H
  refine L_callO (.plain rfl) rfl (ltb rfl) rfl Tryz.call209 (spec_l00Cut.calls (w := w) (a0 := a0) (a1 := 47) (od c2)) rfl <| fun v5 w3 e4 o6 => lp rfl rfl (xa v5 rfl) <| nx <| W_seq <| wr <| lp rfl rfl (xm v5 rfl) <| lp rfl rfl (X_lenR Tryz.underlying42 rfl (Ow.rd o6)) <| lp rfl rfl (X_gtr rfl rfl) <| nx ?_
  rcases bif_two H with ⟨q7, H⟩ | ⟨q7, H⟩
  ·refine W_true (cb q7) <| wr <| lp rfl rfl (xa (.bool false) rfl) <| nx <| W_ret <| thn_r <| fin_r ?_
   obtain rfl := si H
   exact fin1 rfl e4
  ·refine W_false (cb q7) <| W_skip <| thn_n <| W_seq <| wr <| lp rfl rfl (xa (.int .i64 0) rfl) <| nx ?_
   obtain ⟨z9, L10, C11⟩ := bind_some H
   clear H
   refine  W_cutQ (fun s0 sQ wQ => Kp [(2, 3), (4, 5), (13, 25)] s0 sQ ∧ Ext w3 wQ ∧ z9 = .inr ()) ?_ ?_
   ·refine W_block <| W_loopI (fun s0 kk sQ wQ => ∃ (x4_8 : Int), Kp [(2, 3), (4, 5), (13, 25)] s0 sQ ∧ sQ 4 = .int .i64 x4_8 ∧ Ext w3 wQ ∧ loopF (spec_l01OK.b1 a0) kk x4_8 = some z9) k ⟨0, kz, rfl, er, L10⟩ ?_
    rintro k16 s17 w18 ⟨x4_8, K19, h22, e20, L21⟩
    cases k16 with
    | zero => exact absurd L21 (by simp [loopF])
    | succ k16 =>
     obtain ⟨t23, H, S24⟩ := loopF_succ L21
     clear L21
     unfold spec_l01OK.b1 at H
     refine W_seq <| wr <| lp rfl rfl (X_move h22) <| lp rfl rfl (xm v5 (K19 3 rfl)) <| lp rfl rfl (X_lenR Tryz.underlying42 rfl (Ow.rd (Ow.ext o6 e20))) <| lp rfl rfl (X_lss rfl rfl) <| nx ?_
     rcases bif_two H with ⟨q25, H⟩ | ⟨q25, H⟩
     ·refine W_true (cb q25) <| W_skip <| thn_n <| W_seq <| W_block <| wr <| lp rfl rfl (xm v5 (K19 3 rfl)) <| lp rfl rfl (X_move h22) ?_
      obtain ⟨c26, H⟩ := bif_some H
      refine L_idx (.plain rfl) rfl (ltb rfl) rfl Tryz.underlying42 Tryz.sizeOf9 rfl (Ow.rd (Ow.ext o6 e20)) rfl c26 <| fun p27 h28 => lp rfl rfl (X_loadAt Tryz.isAgg9 rfl h28 rfl) <| lc rfl rfl rfl Tryz.call227 (spec_l01Part.calls (w := w18) (a0 := gt (cut 47 a0) x4_8)) rfl <| fun w29 e30 => lp rfl rfl (X_not rfl) <| nx ?_
      rcases bif_two H with ⟨q31, H⟩ | ⟨q31, H⟩
      ·refine W_true (cb q31) <| wr <| lp rfl rfl (xa (.bool false) rfl) <| nx <| W_ret <| blk_r <| thn_r <| thn_r <| blk_r <| thn_r <| thn_r <| fin_r ?_
       obtain rfl := si H
       obtain rfl := si S24
       have H := C11
       obtain rfl := si H
       exact fin1 rfl ((e4.t e20).t e30)
      ·refine W_false (cb q31) <| W_skip <| blk_n <| thn_n <| W_reg <| lp rfl rfl (X_move h22) <| lp rfl rfl (X_add rfl rfl) <| lp rfl rfl (xa (.int .i64 (IntKind.wrap .i64 (x4_8 + 1))) rfl) <| nx ?_
       obtain rfl := si H
       exact ⟨_, Nat.lt_succ_self _, IntKind.wrap .i64 (x4_8 + 1), (ku1 (ku4 (ku8 K19 rfl) rfl) rfl), rfl, (e20.t e30), S24⟩
     ·refine W_false (cb q25) <| W_exit <| thn_x <| thn_x <| blk_x <| thn_n ?_
      obtain rfl := si H
      obtain rfl := si S24
      exact ⟨(ku4 K19 rfl), e20, rfl⟩
   ·rintro s13 w12 ⟨K14, e15, y32⟩
    rw [y32] at C11
    have H := C11
    replace H : _ = some _ := H
    refine thn_n <| wr <| lp rfl rfl (xa (.bool true) rfl) <| nx <| W_ret <| fin_r ?_
    obtain rfl := si H
    exact fin1 rfl (e4.t e15)
/-! spec.l02Fault -/
theorem spec_l02Fault.calls {w : World} {a0 : Rec} :
  Calls Tryz.prog 237 #[.agg (encRec a0).toArray] w (Rt (RP w (.int .i64 (recFault a0)))) := by
 have H := spec_l02Fault.eq a0
 generalize (recFault a0) = r at H ⊢
 unfold spec_l02Fault.sh at H
 refine calls_of_W Tryz.func237 rfl (Nat.le_of_ble_eq_true rfl) Tryz.ntmps237 rfl ?_
 refine wr <| L_box (.plain rfl) rfl (ltb rfl) rfl rfl <| fun b1 w2 z3 z4 e5 k6 => lp rfl rfl (xa (.int .i64 0) rfl) <| nx <| wr <| lp rfl rfl (X_fieldAddr Tryz.underlying58 rfl Tryz.sizeOf3 rfl rfl) <| lp rfl rfl (X_loadB Tryz.isAgg3 k6 rfl rfl) <| lp rfl rfl (X_eql rfl rfl) <| lp rfl rfl (xa (.bool (decide (a0.kind = 3))) rfl) <| nx <| W_seq <| W_block <| wr <| lp rfl rfl (X_fieldAddr Tryz.underlying58 rfl Tryz.sizeOf3 rfl rfl) <| lp rfl rfl (X_loadB Tryz.isAgg3 k6 rfl rfl) <| lc rfl rfl rfl Tryz.call108 (spec_l01In.calls (w := w2) (a0 := a0.kind) (a1 := 1) (a2 := 4)) rfl <| fun w7 e8 => lp rfl rfl (X_not rfl) <| lp rfl rfl (xa (.bool (!(within a0.kind 1 4))) rfl) <| nx ?_
 rcases bif_two H with ⟨q9, H⟩ | ⟨q9, H⟩
 ·refine W_true (cb q9) <| wr <| lp rfl rfl (xa (.int .i64 9) rfl) <| nx <| W_ret <| blk_r <| thn_r <| fin_r ?_
  obtain rfl := si H
  exact fin1 rfl (e5.t e8)
 ·refine W_false (cb q9) <| wr <| lp rfl rfl (X_fieldAddr Tryz.underlying58 rfl Tryz.sizeOf9 rfl rfl) <| lp rfl rfl (X_loadB Tryz.isAgg9 (Blk.ext k6 e8) rfl rfl) <| lc rfl rfl rfl Tryz.call146 (spec_l01OK.calls (w := w7) (a0 := a0.path)) rfl <| fun w10 e11 => lp rfl rfl (X_not rfl) <| lp rfl rfl (xa (.bool (!(pathOK a0.path))) rfl) <| nx ?_
  rcases bif_two H with ⟨q12, H⟩ | ⟨q12, H⟩
  ·refine W_true (cb q12) <| wr <| lp rfl rfl (xa (.int .i64 10) rfl) <| nx <| W_ret <| blk_r <| thn_r <| fin_r ?_
   obtain rfl := si H
   exact fin1 rfl ((e5.t e8).t e11)
  ·refine W_false (cb q12) <| wr <| lp rfl rfl (X_fieldAddr Tryz.underlying58 rfl Tryz.sizeOf9 rfl rfl) <| lp rfl rfl (X_loadB Tryz.isAgg9 (Blk.ext k6 (e8.t e11)) rfl rfl) <| lp rfl rfl (X_lenS Tryz.underlying9 rfl) <| lp rfl rfl (X_gtr rfl rfl) <| lp rfl rfl (xm (.bool (decide (20 < (a0.body.length : Int)))) rfl) <| L_grp 9 [(23, 32)] 31 (.bool ((decide (20 < (a0.body.length : Int))) || ((decide (a0.kind = 2)) && (decide (a0.body = ([] : List UInt8)))))) ?_ ?_
   ·rcases bool_two (decide (20 < (a0.body.length : Int))) with b12_ | b12_
    ·exact ls rfl rfl rfl (cb b12_) rfl <| ls rfl rfl rfl (cb b12_) rfl <| ls rfl rfl rfl (cb b12_) rfl <| ls rfl rfl rfl (cb b12_) rfl <| lu rfl rfl rfl rfl rfl <| lu rfl rfl rfl rfl rfl <| lu rfl rfl rfl rfl rfl <| ls rfl rfl rfl (cb b12_) rfl <| lp rfl rfl (X_pick (b := true) (v := (.bool true)) (cb b12_) rfl) <| nx ⟨(ku1 (ku8 kz rfl) rfl), (or_t b12_), er⟩
    ·refine lg rfl rfl rfl rfl (cb b12_) (X_fieldAddr Tryz.underlying58 rfl Tryz.sizeOf3 rfl rfl) <| lg rfl rfl rfl rfl (cb b12_) (X_loadB Tryz.isAgg3 (Blk.ext k6 (e8.t e11)) rfl rfl) <| lg rfl rfl rfl rfl (cb b12_) (X_eql rfl rfl) <| lg rfl rfl rfl rfl (cb b12_) (xm (.bool (decide (a0.kind = 2))) rfl) <| L_grp 4 [(27, 31)] 30 (.bool ((decide (a0.kind = 2)) && (decide (a0.body = ([] : List UInt8))))) ?_ ?_
     ·rcases bool_two (decide (a0.kind = 2)) with b13_ | b13_
      ·exact lg rfl rfl rfl rfl (cb b13_) (X_fieldAddr Tryz.underlying58 rfl Tryz.sizeOf9 rfl rfl) <| lg rfl rfl rfl rfl (cb b13_) (X_loadB Tryz.isAgg9 (Blk.ext k6 (e8.t e11)) rfl rfl) <| lg rfl rfl rfl rfl (cb b13_) (X_seq rfl rfl) <| lg rfl rfl rfl rfl (cb b12_) (X_pick (b := true) (v := (.bool (decide (a0.body = ([] : List UInt8))))) (cb b13_) rfl) <| nx ⟨(ku4 kz rfl), (and_t b13_), er⟩
      ·exact ls rfl rfl rfl (cb b13_) rfl <| ls rfl rfl rfl (cb b13_) rfl <| ls rfl rfl rfl (cb b13_) rfl <| lg rfl rfl rfl rfl (cb b12_) (X_pick (b := false) (v := (.bool false)) (cb b13_) rfl) <| nx ⟨(ku4 kz rfl), (and_f b13_), er⟩
     intro s19 w15 K16 h17 e18
     exact lp rfl rfl (X_pick (b := false) (v := (.bool ((decide (a0.kind = 2)) && (decide (a0.body = ([] : List UInt8)))))) ((K16 22 rfl).trans (cb b12_)) h17) <| nx ⟨(ku1 (Kp.cut (ku4 kz rfl) K16 rfl) rfl), (or_f b12_), e18⟩
   intro s20 w14 K15 h16 e17
   refine lp rfl rfl (X_assign h16) <| nx ?_
   rcases bif_two H with ⟨q21, H⟩ | ⟨q21, H⟩
   ·refine W_true (cb q21) <| wr <| lp rfl rfl (xa (.int .i64 8) rfl) <| nx <| W_ret <| blk_r <| thn_r <| fin_r ?_
    obtain rfl := si H
    exact fin1 rfl (((e5.t e8).t e11).t e17)
   ·refine W_false (cb q21) <| wr <| lp rfl rfl (X_fieldAddr Tryz.underlying58 rfl Tryz.sizeOf9 rfl (K15 1 rfl)) <| lp rfl rfl (X_loadB Tryz.isAgg9 (Blk.ext k6 ((e8.t e11).t e17)) rfl rfl) <| lp rfl rfl (X_sne rfl rfl) <| lp rfl rfl (xm (.bool (!decide (a0.body = ([] : List UInt8)))) rfl) <| L_grp 7 [(37, 44)] 43 (.bool ((!decide (a0.body = ([] : List UInt8))) && ((decide (a0.kind = 3)) || (decide (a0.kind = 4))))) ?_ ?_
    ·rcases bool_two (!decide (a0.body = ([] : List UInt8))) with b21_ | b21_
     ·refine lg rfl rfl rfl rfl (cb b21_) (xm (.bool (decide (a0.kind = 3))) (K15 3 rfl)) <| lg rfl rfl rfl rfl (cb b21_) (xm (.bool (decide (a0.kind = 3))) rfl) <| L_grp 4 [(39, 43)] 42 (.bool ((decide (a0.kind = 3)) || (decide (a0.kind = 4)))) ?_ ?_
      ·rcases bool_two (decide (a0.kind = 3)) with b22_ | b22_
       ·exact ls rfl rfl rfl (cb b22_) rfl <| ls rfl rfl rfl (cb b22_) rfl <| ls rfl rfl rfl (cb b22_) rfl <| lg rfl rfl rfl rfl (cb b21_) (X_pick (b := true) (v := (.bool true)) (cb b22_) rfl) <| nx ⟨(ku4 kz rfl), (or_t b22_), er⟩
       ·exact lg rfl rfl rfl rfl (cb b22_) (X_fieldAddr Tryz.underlying58 rfl Tryz.sizeOf3 rfl (K15 1 rfl)) <| lg rfl rfl rfl rfl (cb b22_) (X_loadB Tryz.isAgg3 (Blk.ext k6 ((e8.t e11).t e17)) rfl rfl) <| lg rfl rfl rfl rfl (cb b22_) (X_eql rfl rfl) <| lg rfl rfl rfl rfl (cb b21_) (X_pick (b := false) (v := (.bool (decide (a0.kind = 4)))) (cb b22_) rfl) <| nx ⟨(ku4 kz rfl), (or_f b22_), er⟩
      intro s28 w24 K25 h26 e27
      exact lp rfl rfl (X_pick (b := true) (v := (.bool ((decide (a0.kind = 3)) || (decide (a0.kind = 4))))) ((K25 36 rfl).trans (cb b21_)) h26) <| nx ⟨(ku1 (Kp.cut (ku2 kz rfl) K25 rfl) rfl), (and_t b21_), e27⟩
     ·exact ls rfl rfl rfl (cb b21_) rfl <| ls rfl rfl rfl (cb b21_) rfl <| lu rfl rfl rfl rfl rfl <| lu rfl rfl rfl rfl rfl <| lu rfl rfl rfl rfl rfl <| ls rfl rfl rfl (cb b21_) rfl <| lp rfl rfl (X_pick (b := false) (v := (.bool false)) (cb b21_) rfl) <| nx ⟨(ku3 (ku4 kz rfl) rfl), (and_f b21_), er⟩
    intro s29 w23 K24 h25 e26
    refine lp rfl rfl (X_move h25) <| L_grp 7 [(45, 52)] 51 (.bool (((!decide (a0.body = ([] : List UInt8))) && ((decide (a0.kind = 3)) || (decide (a0.kind = 4)))) || (a0.opq && (!(decide (a0.kind = 3)))))) ?_ ?_
    ·rcases bool_two ((!decide (a0.body = ([] : List UInt8))) && ((decide (a0.kind = 3)) || (decide (a0.kind = 4)))) with b29_ | b29_
     ·exact ls rfl rfl rfl (cb b29_) rfl <| ls rfl rfl rfl (cb b29_) rfl <| ls rfl rfl rfl (cb b29_) rfl <| lu rfl rfl rfl rfl rfl <| lu rfl rfl rfl rfl rfl <| ls rfl rfl rfl (cb b29_) rfl <| lp rfl rfl (X_pick (b := true) (v := (.bool true)) (cb b29_) rfl) <| nx ⟨(ku3 (ku4 kz rfl) rfl), (or_t b29_), er⟩
     ·refine lg rfl rfl rfl rfl (cb b29_) (X_fieldAddr Tryz.underlying58 rfl Tryz.sizeOf4 rfl ((K24 1 rfl).trans (K15 1 rfl))) <| lg rfl rfl rfl rfl (cb b29_) (X_loadB Tryz.isAgg4 (Blk.ext k6 (((e8.t e11).t e17).t e26)) rfl rfl) <| lg rfl rfl rfl rfl (cb b29_) (xm (.bool a0.opq) rfl) <| L_grp 3 [(48, 51)] 50 (.bool (a0.opq && (!(decide (a0.kind = 3))))) ?_ ?_
      ·rcases bool_two a0.opq with b30_ | b30_
       ·exact lg rfl rfl rfl rfl (cb b30_) (xm (.bool (decide (a0.kind = 3))) ((K24 3 rfl).trans (K15 3 rfl))) <| lg rfl rfl rfl rfl (cb b30_) (X_not rfl) <| lg rfl rfl rfl rfl (cb b29_) (X_pick (b := true) (v := (.bool (!(decide (a0.kind = 3))))) (cb b30_) rfl) <| nx ⟨(ku3 kz rfl), (and_t b30_), er⟩
       ·exact ls rfl rfl rfl (cb b30_) rfl <| ls rfl rfl rfl (cb b30_) rfl <| lg rfl rfl rfl rfl (cb b29_) (X_pick (b := false) (v := (.bool false)) (cb b30_) rfl) <| nx ⟨(ku3 kz rfl), (and_f b30_), er⟩
      intro s36 w32 K33 h34 e35
      exact lp rfl rfl (X_pick (b := false) (v := (.bool (a0.opq && (!(decide (a0.kind = 3)))))) ((K33 44 rfl).trans (cb b29_)) h34) <| nx ⟨(ku1 (Kp.cut (ku3 kz rfl) K33 rfl) rfl), (or_f b29_), e35⟩
    intro s37 w31 K32 h33 e34
    refine lp rfl rfl (X_assign h33) <| nx ?_
    rcases bif_two H with ⟨q38, H⟩ | ⟨q38, H⟩
    ·refine W_true (cb q38) <| wr <| lp rfl rfl (xa (.int .i64 3) rfl) <| nx <| W_ret <| blk_r <| thn_r <| fin_r ?_
     obtain rfl := si H
     exact fin1 rfl (((((e5.t e8).t e11).t e17).t e26).t e34)
    ·refine W_false (cb q38) <| wr <| lp rfl rfl (X_fieldAddr Tryz.underlying58 rfl Tryz.sizeOf3 rfl ((K32 1 rfl).trans ((K24 1 rfl).trans (K15 1 rfl)))) <| lp rfl rfl (X_loadB Tryz.isAgg3 (Blk.ext k6 ((((e8.t e11).t e17).t e26).t e34)) rfl rfl) <| lc rfl rfl rfl Tryz.call108 (spec_l01In.calls (w := w31) (a0 := a0.mode) (a1 := 0) (a2 := 511)) rfl <| fun w39 e40 => lp rfl rfl (X_not rfl) <| lp rfl rfl (xm (.bool (!(within a0.mode 0 511))) rfl) <| L_grp 14 [(58, 72)] 71 (.bool ((!(within a0.mode 0 511)) || ((!decide (a0.mode = 0)) && ((decide (a0.kind = 4)) || (decide (a0.kind = 2)))))) ?_ ?_
     ·rcases bool_two (!(within a0.mode 0 511)) with b40_ | b40_
      ·exact ls rfl rfl rfl (cb b40_) rfl <| ls rfl rfl rfl (cb b40_) rfl <| ls rfl rfl rfl (cb b40_) rfl <| ls rfl rfl rfl (cb b40_) rfl <| lu rfl rfl rfl rfl rfl <| lu rfl rfl rfl rfl rfl <| lu rfl rfl rfl rfl rfl <| lu rfl rfl rfl rfl rfl <| lu rfl rfl rfl rfl rfl <| lu rfl rfl rfl rfl rfl <| lu rfl rfl rfl rfl rfl <| lu rfl rfl rfl rfl rfl <| ls rfl rfl rfl (cb b40_) rfl <| lp rfl rfl (X_pick (b := true) (v := (.bool true)) (cb b40_) rfl) <| nx ⟨(ku2 (ku4 (ku8 kz rfl) rfl) rfl), (or_t b40_), er⟩
      ·refine lg rfl rfl rfl rfl (cb b40_) (X_fieldAddr Tryz.underlying58 rfl Tryz.sizeOf3 rfl ((K32 1 rfl).trans ((K24 1 rfl).trans (K15 1 rfl)))) <| lg rfl rfl rfl rfl (cb b40_) (X_loadB Tryz.isAgg3 (Blk.ext k6 (((((e8.t e11).t e17).t e26).t e34).t e40)) rfl rfl) <| lg rfl rfl rfl rfl (cb b40_) (X_neq rfl rfl) <| lg rfl rfl rfl rfl (cb b40_) (xm (.bool (!decide (a0.mode = 0))) rfl) <| L_grp 9 [(62, 71)] 70 (.bool ((!decide (a0.mode = 0)) && ((decide (a0.kind = 4)) || (decide (a0.kind = 2))))) ?_ ?_
       ·rcases bool_two (!decide (a0.mode = 0)) with b41_ | b41_
        ·refine lg rfl rfl rfl rfl (cb b41_) (X_fieldAddr Tryz.underlying58 rfl Tryz.sizeOf3 rfl ((K32 1 rfl).trans ((K24 1 rfl).trans (K15 1 rfl)))) <| lg rfl rfl rfl rfl (cb b41_) (X_loadB Tryz.isAgg3 (Blk.ext k6 (((((e8.t e11).t e17).t e26).t e34).t e40)) rfl rfl) <| lg rfl rfl rfl rfl (cb b41_) (X_eql rfl rfl) <| lg rfl rfl rfl rfl (cb b41_) (xm (.bool (decide (a0.kind = 4))) rfl) <| L_grp 4 [(66, 70)] 69 (.bool ((decide (a0.kind = 4)) || (decide (a0.kind = 2)))) ?_ ?_
         ·rcases bool_two (decide (a0.kind = 4)) with b42_ | b42_
          ·exact ls rfl rfl rfl (cb b42_) rfl <| ls rfl rfl rfl (cb b42_) rfl <| ls rfl rfl rfl (cb b42_) rfl <| lg rfl rfl rfl rfl (cb b41_) (X_pick (b := true) (v := (.bool true)) (cb b42_) rfl) <| nx ⟨(ku4 kz rfl), (or_t b42_), er⟩
          ·exact lg rfl rfl rfl rfl (cb b42_) (X_fieldAddr Tryz.underlying58 rfl Tryz.sizeOf3 rfl ((K32 1 rfl).trans ((K24 1 rfl).trans (K15 1 rfl)))) <| lg rfl rfl rfl rfl (cb b42_) (X_loadB Tryz.isAgg3 (Blk.ext k6 (((((e8.t e11).t e17).t e26).t e34).t e40)) rfl rfl) <| lg rfl rfl rfl rfl (cb b42_) (X_eql rfl rfl) <| lg rfl rfl rfl rfl (cb b41_) (X_pick (b := false) (v := (.bool (decide (a0.kind = 2)))) (cb b42_) rfl) <| nx ⟨(ku4 kz rfl), (or_f b42_), er⟩
         intro s48 w44 K45 h46 e47
         exact lg rfl rfl rfl rfl ((K45 57 rfl).trans (cb b40_)) (X_pick (b := true) (v := (.bool ((decide (a0.kind = 4)) || (decide (a0.kind = 2))))) ((K45 61 rfl).trans (cb b41_)) h46) <| nx ⟨(ku1 (Kp.cut (ku4 kz rfl) K45 rfl) rfl), (and_t b41_), e47⟩
        ·exact ls rfl rfl rfl (cb b41_) rfl <| ls rfl rfl rfl (cb b41_) rfl <| ls rfl rfl rfl (cb b41_) rfl <| ls rfl rfl rfl (cb b41_) rfl <| lu rfl rfl rfl rfl rfl <| lu rfl rfl rfl rfl rfl <| lu rfl rfl rfl rfl rfl <| ls rfl rfl rfl (cb b41_) rfl <| lg rfl rfl rfl rfl (cb b40_) (X_pick (b := false) (v := (.bool false)) (cb b41_) rfl) <| nx ⟨(ku1 (ku8 kz rfl) rfl), (and_f b41_), er⟩
       intro s49 w43 K44 h45 e46
       exact lp rfl rfl (X_pick (b := false) (v := (.bool ((!decide (a0.mode = 0)) && ((decide (a0.kind = 4)) || (decide (a0.kind = 2)))))) ((K44 57 rfl).trans (cb b40_)) h45) <| nx ⟨(ku1 (Kp.cut (ku4 kz rfl) K44 rfl) rfl), (or_f b40_), e46⟩
     intro s50 w42 K43 h44 e45
     refine lp rfl rfl (X_assign h44) <| nx ?_
     rcases bif_two H with ⟨q51, H⟩ | ⟨q51, H⟩
     ·refine W_true (cb q51) <| wr <| lp rfl rfl (xa (.int .i64 4) rfl) <| nx <| W_ret <| blk_r <| thn_r <| fin_r ?_
      obtain rfl := si H
      exact fin1 rfl (((((((e5.t e8).t e11).t e17).t e26).t e34).t e40).t e45)
     ·refine W_false (cb q51) <| W_skip <| blk_n <| thn_n <| wr <| lp rfl rfl (xa (.int .i64 0) rfl) <| nx <| W_ret <| fin_r ?_
      obtain rfl := si H
      exact fin1 rfl (((((((e5.t e8).t e11).t e17).t e26).t e34).t e40).t e45)
/-! spec.l02OK -/
theorem spec_l02OK.calls {w : World} {a0 : Rec} :
  Calls Tryz.prog 158 #[.agg (encRec a0).toArray] w (Rt (RP w (.bool (decide (recFault a0 = 0))))) := by
 have H := spec_l02OK.eq a0
 generalize (decide (recFault a0 = 0)) = r at H ⊢
 unfold spec_l02OK.sh at H
 refine calls_of_W Tryz.func158 rfl (Nat.le_of_ble_eq_true rfl) Tryz.ntmps158 rfl ?_
 refine wr <| L_box (.plain rfl) rfl (ltb rfl) rfl rfl <| fun b1 w2 z3 z4 e5 k6 => lp rfl rfl (xa (.bool false) rfl) <| nx <| wr <| lp rfl rfl (X_loadS Tryz.isAgg58 Tryz.sizeOf58 rfl rfl (Blk.at0 k6)) <| lc rfl rfl rfl Tryz.call237 (spec_l02Fault.calls (w := w2) (a0 := a0)) rfl <| fun w7 e8 => lp rfl rfl (X_eql rfl rfl) <| lp rfl rfl (xa (.bool (decide ((recFault a0) = 0))) rfl) <| nx <| W_ret <| fin_r ?_
 obtain rfl := si H
 exact fin1 rfl (e5.t e8)
/-! impl.RecordFault -/
abbrev impl_RecordFault.e1 (a0 : Rec) := ([.inl (!(within a0.kind 1 4)), .inr 9, .inl (!(pathOK a0.path)), .inr 10, .inl ((decide (20 < (a0.body.length : Int))) || ((decide (a0.kind = 2)) && (decide (a0.body = ([] : List UInt8))))), .inr 8, .inl ((((decide (a0.kind = 3)) || (decide (a0.kind = 4))) && (!decide (a0.body = ([] : List UInt8)))) || ((!decide (a0.kind = 3)) && a0.opq)), .inr 3, .inl ((!(within a0.mode 0 511)) || (((decide (a0.kind = 2)) || (decide (a0.kind = 4))) && (!decide (a0.mode = 0)))), .inr 4] : List (Bool ⊕ Int))
abbrev impl_RecordFault.e2 (a0 : Rec) := (((decide (a0.kind = 3)) || (decide (a0.kind = 4))) && (!decide (a0.body = ([] : List UInt8))))
abbrev impl_RecordFault.e3 (a0 : Rec) := ((decide (a0.kind = 2)) || (decide (a0.kind = 4)))
abbrev impl_RecordFault.e4 (a0 : Rec) := ((decide (20 < (a0.body.length : Int))) || ((decide (a0.kind = 2)) && (decide (a0.body = ([] : List UInt8)))))
theorem impl_RecordFault.walk {w : World} {a0 : Rec} (gv : GV 0 w) {r : Int} (H : impl_RecordFault.sh a0 = some r) :
  Calls Tryz.prog 269 #[.agg (encRec a0).toArray] w (Rt (RP w (.int .i64 r))) := by
 unfold impl_RecordFault.sh at H
 refine calls_of_W Tryz.func269 rfl (Nat.le_of_ble_eq_true rfl) Tryz.ntmps269 rfl ?_
 refine wr <| L_box (.plain rfl) rfl (ltb rfl) rfl rfl <| fun b1 w2 z3 z4 e5 k6 => lp rfl rfl (xa (.int .i64 0) rfl) <| nx <| wr <| lp rfl rfl (X_fieldAddr Tryz.underlying58 rfl Tryz.sizeOf3 rfl rfl) <| lp rfl rfl (X_loadB Tryz.isAgg3 k6 rfl rfl) <| lp rfl rfl (X_eql rfl rfl) <| lp rfl rfl (xm (.bool (decide (a0.kind = 3))) rfl) <| L_grp 4 [(8, 12)] 11 (.bool ((decide (a0.kind = 3)) || (decide (a0.kind = 4)))) ?_ ?_
 ·rcases bool_two (decide (a0.kind = 3)) with b6_ | b6_
  ·exact ls rfl rfl rfl (cb b6_) rfl <| ls rfl rfl rfl (cb b6_) rfl <| ls rfl rfl rfl (cb b6_) rfl <| lp rfl rfl (X_pick (b := true) (v := (.bool true)) (cb b6_) rfl) <| nx ⟨(ku4 kz rfl), (or_t b6_), er⟩
  ·exact lg rfl rfl rfl rfl (cb b6_) (X_fieldAddr Tryz.underlying58 rfl Tryz.sizeOf3 rfl rfl) <| lg rfl rfl rfl rfl (cb b6_) (X_loadB Tryz.isAgg3 k6 rfl rfl) <| lg rfl rfl rfl rfl (cb b6_) (X_eql rfl rfl) <| lp rfl rfl (X_pick (b := false) (v := (.bool (decide (a0.kind = 4)))) (cb b6_) rfl) <| nx ⟨(ku4 kz rfl), (or_f b6_), er⟩
 intro s12 w8 K9 h10 e11
 refine lp rfl rfl (X_assign h10) <| nx <| W_seq ?_
 obtain ⟨c25, H⟩ := bif_some H
 refine W_dM [LEq (.pointer (some ⟨b1, 0, none⟩)), LEq (.int .i64 a0.kind), LEq (.bool (within a0.kind 1 4)), LEq (.bool (!(within a0.kind 1 4))), LEq (.iface 4 (.bool (!(within a0.kind 1 4)))), LEq (.iface 3 (.int .i64 9)), LEq (.pointer (some ⟨b1, 1, none⟩)), LEq (S a0.path), LEq (.bool (pathOK a0.path)), LEq (.bool (!(pathOK a0.path))), LEq (.iface 4 (.bool (!(pathOK a0.path)))), LEq (.iface 3 (.int .i64 10)), LEq (.pointer (some ⟨b1, 2, none⟩)), LEq (S a0.body), LEq (.int .i64 (a0.body.length : Int)), LEq (.bool (decide (20 < (a0.body.length : Int)))), LEq (.bool (decide (20 < (a0.body.length : Int)))), LIf (!(decide (20 < (a0.body.length : Int)))) (LEq (.pointer (some ⟨b1, 0, none⟩))), LIf (!(decide (20 < (a0.body.length : Int)))) (LEq (.int .i64 a0.kind)), LIf (!(decide (20 < (a0.body.length : Int)))) (LEq (.bool (decide (a0.kind = 2)))), LIf (!(decide (20 < (a0.body.length : Int)))) (LEq (.bool (decide (a0.kind = 2)))), LIf ((!(decide (20 < (a0.body.length : Int)))) && (decide (a0.kind = 2))) (LEq (.pointer (some ⟨b1, 2, none⟩))), LIf ((!(decide (20 < (a0.body.length : Int)))) && (decide (a0.kind = 2))) (LEq (S a0.body)), LIf ((!(decide (20 < (a0.body.length : Int)))) && (decide (a0.kind = 2))) (LEq (.bool (decide (a0.body = ([] : List UInt8))))), LIf (!(decide (20 < (a0.body.length : Int)))) (LEq (.bool ((decide (a0.kind = 2)) && (decide (a0.body = ([] : List UInt8)))))), LEq (.bool (impl_RecordFault.e4 a0)), LEq (.iface 4 (.bool (impl_RecordFault.e4 a0))), LEq (.iface 3 (.int .i64 8)), LEq (.bool ((decide (a0.kind = 3)) || (decide (a0.kind = 4)))), LEq (.bool ((decide (a0.kind = 3)) || (decide (a0.kind = 4)))), LIf ((decide (a0.kind = 3)) || (decide (a0.kind = 4))) (LEq (.pointer (some ⟨b1, 2, none⟩))), LIf ((decide (a0.kind = 3)) || (decide (a0.kind = 4))) (LEq (S a0.body)), LIf ((decide (a0.kind = 3)) || (decide (a0.kind = 4))) (LEq (.bool (!decide (a0.body = ([] : List UInt8))))), LEq (.bool (impl_RecordFault.e2 a0)), LEq (.bool (impl_RecordFault.e2 a0)), LIf (!(impl_RecordFault.e2 a0)) (LEq (.pointer (some ⟨b1, 0, none⟩))), LIf (!(impl_RecordFault.e2 a0)) (LEq (.int .i64 a0.kind)), LIf (!(impl_RecordFault.e2 a0)) (LEq (.bool (!decide (a0.kind = 3)))), LIf (!(impl_RecordFault.e2 a0)) (LEq (.bool (!decide (a0.kind = 3)))), LIf ((!(impl_RecordFault.e2 a0)) && (!decide (a0.kind = 3))) (LEq (.pointer (some ⟨b1, 4, none⟩))), LIf ((!(impl_RecordFault.e2 a0)) && (!decide (a0.kind = 3))) (LEq (.bool a0.opq)), LIf (!(impl_RecordFault.e2 a0)) (LEq (.bool ((!decide (a0.kind = 3)) && a0.opq))), LEq (.bool ((impl_RecordFault.e2 a0) || ((!decide (a0.kind = 3)) && a0.opq))), LEq (.iface 4 (.bool ((impl_RecordFault.e2 a0) || ((!decide (a0.kind = 3)) && a0.opq)))), LEq (.iface 3 (.int .i64 3)), LEq (.pointer (some ⟨b1, 3, none⟩)), LEq (.int .i64 a0.mode), LEq (.bool (within a0.mode 0 511)), LEq (.bool (!(within a0.mode 0 511))), LEq (.bool (!(within a0.mode 0 511))), LIf (!(!(within a0.mode 0 511))) (LEq (.pointer (some ⟨b1, 0, none⟩))), LIf (!(!(within a0.mode 0 511))) (LEq (.int .i64 a0.kind)), LIf (!(!(within a0.mode 0 511))) (LEq (.bool (decide (a0.kind = 2)))), LIf (!(!(within a0.mode 0 511))) (LEq (.bool (decide (a0.kind = 2)))), LIf ((!(!(within a0.mode 0 511))) && (!(decide (a0.kind = 2)))) (LEq (.pointer (some ⟨b1, 0, none⟩))), LIf ((!(!(within a0.mode 0 511))) && (!(decide (a0.kind = 2)))) (LEq (.int .i64 a0.kind)), LIf ((!(!(within a0.mode 0 511))) && (!(decide (a0.kind = 2)))) (LEq (.bool (decide (a0.kind = 4)))), LIf (!(!(within a0.mode 0 511))) (LEq (.bool (impl_RecordFault.e3 a0))), LIf (!(!(within a0.mode 0 511))) (LEq (.bool (impl_RecordFault.e3 a0))), LIf ((!(!(within a0.mode 0 511))) && (impl_RecordFault.e3 a0)) (LEq (.pointer (some ⟨b1, 3, none⟩))), LIf ((!(!(within a0.mode 0 511))) && (impl_RecordFault.e3 a0)) (LEq (.int .i64 a0.mode)), LIf ((!(!(within a0.mode 0 511))) && (impl_RecordFault.e3 a0)) (LEq (.bool (!decide (a0.mode = 0)))), LIf (!(!(within a0.mode 0 511))) (LEq (.bool ((impl_RecordFault.e3 a0) && (!decide (a0.mode = 0))))), LEq (.bool ((!(within a0.mode 0 511)) || ((impl_RecordFault.e3 a0) && (!decide (a0.mode = 0))))), LEq (.iface 4 (.bool ((!(within a0.mode 0 511)) || ((impl_RecordFault.e3 a0) && (!decide (a0.mode = 0)))))), LEq (.iface 3 (.int .i64 4)), LRd 1 (encAny 4 3) (impl_RecordFault.e1 a0), LEq (.int .i64 (firstOf (impl_RecordFault.e1 a0))), LEq (.int .i64 (firstOf (impl_RecordFault.e1 a0)))] (by kernel_rfl) (by kernel_rfl) ⟨qm, qm, qm, qm, qm, qm, qm, qm, qm, qm, qm, qm, qm, qm, qm, qm, qm, lm, lm, lm, lm, lm, lm, lm, lm, qm, qm, qm, qm, qm, lm, lm, lm, qm, qm, lm, lm, lm, lm, lm, lm, lm, qm, qm, qm, qm, qm, qm, qm, qm, lm, lm, lm, lm, lm, lm, lm, lm, lm, lm, lm, lm, lm, qm, qm, qm, LRd.mono, qm, qm, trivial⟩ ⟨?_, ?_, ?_, ?_, ?_, ?_, ?_, ?_, ?_, ?_, ?_, ?_, ?_, ?_, ?_, ?_, ?_, ?_, ?_, ?_, ?_, ?_, ?_, ?_, ?_, ?_, ?_, ?_, ?_, ?_, ?_, ?_, ?_, ?_, ?_, ?_, ?_, ?_, ?_, ?_, ?_, ?_, ?_, ?_, ?_, ?_, ?_, ?_, ?_, ?_, ?_, ?_, ?_, ?_, ?_, ?_, ?_, ?_, ?_, ?_, ?_, ?_, ?_, ?_, ?_, ?_, ?_, ?_, ?_, trivial⟩ ?_
 ·exact fun s x e f d u => lp rfl rfl (X_fieldAddr Tryz.underlying58 rfl Tryz.sizeOf3 rfl ((f 1 rfl).trans (K9 1 rfl))) <| se rfl rfl
 ·exact fun s x e f d u => lp rfl rfl (X_loadB Tryz.isAgg3 (Blk.ext k6 (e11.t e)) (d 0 rfl) rfl) <| se rfl rfl
 ·exact fun s x e f d u => lc rfl rfl rfl Tryz.call196 (impl_within.calls (w := x) (a0 := a0.kind) (a1 := 1) (a2 := 4)) (cons2 (d 1 rfl) (cons2 rfl (cons2 rfl rfl))) <| fun w28 e29 => sx rfl e29 rfl
 ·exact fun s x e f d u => lp rfl rfl (X_not (d 2 rfl)) <| se rfl rfl
 ·exact fun s x e f d u => lp rfl rfl (X_mkiface Tryz.underlying4 rfl (d 3 rfl)) <| se rfl rfl
 ·exact fun s x e f d u => lp rfl rfl (X_mkiface Tryz.underlying3 rfl rfl) <| se rfl rfl
 ·exact fun s x e f d u => lp rfl rfl (X_fieldAddr Tryz.underlying58 rfl Tryz.sizeOf9 rfl ((f 1 rfl).trans (K9 1 rfl))) <| se rfl rfl
 ·exact fun s x e f d u => lp rfl rfl (X_loadB Tryz.isAgg9 (Blk.ext k6 (e11.t e)) (d 6 rfl) rfl) <| se rfl rfl
 ·exact fun s x e f d u => lc rfl rfl rfl Tryz.call150 (impl_PathOK.calls (w := x) (a0 := a0.path) (GV.ext gv ((e5.t e11).t e))) (cons2 (d 7 rfl) rfl) <| fun w30 e31 => sx rfl e31 rfl
 ·exact fun s x e f d u => lp rfl rfl (X_not (d 8 rfl)) <| se rfl rfl
 ·exact fun s x e f d u => lp rfl rfl (X_mkiface Tryz.underlying4 rfl (d 9 rfl)) <| se rfl rfl
 ·exact fun s x e f d u => lp rfl rfl (X_mkiface Tryz.underlying3 rfl rfl) <| se rfl rfl
 ·exact fun s x e f d u => lp rfl rfl (X_fieldAddr Tryz.underlying58 rfl Tryz.sizeOf9 rfl ((f 1 rfl).trans (K9 1 rfl))) <| se rfl rfl
 ·exact fun s x e f d u => lp rfl rfl (X_loadB Tryz.isAgg9 (Blk.ext k6 (e11.t e)) (d 12 rfl) rfl) <| se rfl rfl
 ·exact fun s x e f d u => lp rfl rfl (X_lenS Tryz.underlying9 (d 13 rfl)) <| se rfl rfl
 ·exact fun s x e f d u => lp rfl rfl (X_gtr (d 14 rfl) rfl) <| se rfl rfl
 ·exact fun s x e f d u => lp rfl rfl (X_move (d 15 rfl)) <| se rfl rfl
 ·exact fun s x e f d u => gF rfl rfl rfl rfl (d 16 rfl) rfl fun b t => lt t rfl rfl (X_fieldAddr Tryz.underlying58 rfl Tryz.sizeOf3 rfl ((f 1 rfl).trans (K9 1 rfl))) <| sg rfl rfl b rfl
 ·exact fun s x e f d u => gF rfl rfl rfl rfl (d 16 rfl) rfl fun b t => lt t rfl rfl (X_loadB Tryz.isAgg3 (Blk.ext k6 (e11.t e)) ((d 17 rfl).1 (not_mk (not_f b))) rfl) <| sg rfl rfl b rfl
 ·exact fun s x e f d u => gF rfl rfl rfl rfl (d 16 rfl) rfl fun b t => lt t rfl rfl (X_eql ((d 18 rfl).1 (not_mk (not_f b))) rfl) <| sg rfl rfl b rfl
 ·exact fun s x e f d u => gF rfl rfl rfl rfl (d 16 rfl) rfl fun b t => lt t rfl rfl (xm (.bool (decide (a0.kind = 2))) ((d 19 rfl).1 (not_mk (not_f b)))) <| sg rfl rfl b rfl
 ·exact fun s x e f d u => hT rfl rfl rfl rfl (d 20 rfl) rfl fun b t => lt t rfl rfl (X_fieldAddr Tryz.underlying58 rfl Tryz.sizeOf9 rfl ((f 1 rfl).trans (K9 1 rfl))) <| sg rfl rfl b rfl
 ·exact fun s x e f d u => hT rfl rfl rfl rfl (d 20 rfl) rfl fun b t => lt t rfl rfl (X_loadB Tryz.isAgg9 (Blk.ext k6 (e11.t e)) ((d 21 rfl).1 (and_mk (not_mk (not_f (and_l b))) (and_r b))) rfl) <| sg rfl rfl b rfl
 ·exact fun s x e f d u => hT rfl rfl rfl rfl (d 20 rfl) rfl fun b t => lt t rfl rfl (X_seq ((d 22 rfl).1 (and_mk (not_mk (not_f (and_l b))) (and_r b))) rfl) <| sg rfl rfl b rfl
 ·exact fun s x e f d u => gF rfl rfl rfl rfl (d 16 rfl) rfl fun b t => lt t rfl rfl (X_pickA ((d 20 rfl).1 (not_mk (not_f b))) rfl fun h => ((d 23 rfl).1 (and_mk (not_mk (not_f b)) h))) <| sg rfl rfl b rfl
 ·exact fun s x e f d u => lp rfl rfl (X_pickO (d 16 rfl) rfl fun h => ((d 24 rfl).1 (not_mk h))) <| se rfl rfl
 ·exact fun s x e f d u => lp rfl rfl (X_mkiface Tryz.underlying4 rfl (d 25 rfl)) <| se rfl rfl
 ·exact fun s x e f d u => lp rfl rfl (X_mkiface Tryz.underlying3 rfl rfl) <| se rfl rfl
 ·exact fun s x e f d u => lp rfl rfl (xm (.bool ((decide (a0.kind = 3)) || (decide (a0.kind = 4)))) (f 3 rfl)) <| se rfl rfl
 ·exact fun s x e f d u => lp rfl rfl (X_move (d 28 rfl)) <| se rfl rfl
 ·exact fun s x e f d u => gT rfl rfl rfl rfl (d 29 rfl) rfl fun b t => lt t rfl rfl (X_fieldAddr Tryz.underlying58 rfl Tryz.sizeOf9 rfl ((f 1 rfl).trans (K9 1 rfl))) <| sg rfl rfl b rfl
 ·exact fun s x e f d u => gT rfl rfl rfl rfl (d 29 rfl) rfl fun b t => lt t rfl rfl (X_loadB Tryz.isAgg9 (Blk.ext k6 (e11.t e)) ((d 30 rfl).1 b) rfl) <| sg rfl rfl b rfl
 ·exact fun s x e f d u => gT rfl rfl rfl rfl (d 29 rfl) rfl fun b t => lt t rfl rfl (X_sne ((d 31 rfl).1 b) rfl) <| sg rfl rfl b rfl
 ·exact fun s x e f d u => lp rfl rfl (X_pickA (d 29 rfl) rfl fun h => ((d 32 rfl).1 h)) <| se rfl rfl
 ·exact fun s x e f d u => lp rfl rfl (X_move (d 33 rfl)) <| se rfl rfl
 ·exact fun s x e f d u => gF rfl rfl rfl rfl (d 34 rfl) rfl fun b t => lt t rfl rfl (X_fieldAddr Tryz.underlying58 rfl Tryz.sizeOf3 rfl ((f 1 rfl).trans (K9 1 rfl))) <| sg rfl rfl b rfl
 ·exact fun s x e f d u => gF rfl rfl rfl rfl (d 34 rfl) rfl fun b t => lt t rfl rfl (X_loadB Tryz.isAgg3 (Blk.ext k6 (e11.t e)) ((d 35 rfl).1 (not_mk (not_f b))) rfl) <| sg rfl rfl b rfl
 ·exact fun s x e f d u => gF rfl rfl rfl rfl (d 34 rfl) rfl fun b t => lt t rfl rfl (X_neq ((d 36 rfl).1 (not_mk (not_f b))) rfl) <| sg rfl rfl b rfl
 ·exact fun s x e f d u => gF rfl rfl rfl rfl (d 34 rfl) rfl fun b t => lt t rfl rfl (xm (.bool (!decide (a0.kind = 3))) ((d 37 rfl).1 (not_mk (not_f b)))) <| sg rfl rfl b rfl
 ·exact fun s x e f d u => hT rfl rfl rfl rfl (d 38 rfl) rfl fun b t => lt t rfl rfl (X_fieldAddr Tryz.underlying58 rfl Tryz.sizeOf4 rfl ((f 1 rfl).trans (K9 1 rfl))) <| sg rfl rfl b rfl
 ·exact fun s x e f d u => hT rfl rfl rfl rfl (d 38 rfl) rfl fun b t => lt t rfl rfl (X_loadB Tryz.isAgg4 (Blk.ext k6 (e11.t e)) ((d 39 rfl).1 (and_mk (not_mk (not_f (and_l b))) (and_r b))) rfl) <| sg rfl rfl b rfl
 ·exact fun s x e f d u => gF rfl rfl rfl rfl (d 34 rfl) rfl fun b t => lt t rfl rfl (X_pickA ((d 38 rfl).1 (not_mk (not_f b))) rfl fun h => ((d 40 rfl).1 (and_mk (not_mk (not_f b)) h))) <| sg rfl rfl b rfl
 ·exact fun s x e f d u => lp rfl rfl (X_pickO (d 34 rfl) rfl fun h => ((d 41 rfl).1 (not_mk h))) <| se rfl rfl
 ·exact fun s x e f d u => lp rfl rfl (X_mkiface Tryz.underlying4 rfl (d 42 rfl)) <| se rfl rfl
 ·exact fun s x e f d u => lp rfl rfl (X_mkiface Tryz.underlying3 rfl rfl) <| se rfl rfl
 ·exact fun s x e f d u => lp rfl rfl (X_fieldAddr Tryz.underlying58 rfl Tryz.sizeOf3 rfl ((f 1 rfl).trans (K9 1 rfl))) <| se rfl rfl
 ·exact fun s x e f d u => lp rfl rfl (X_loadB Tryz.isAgg3 (Blk.ext k6 (e11.t e)) (d 45 rfl) rfl) <| se rfl rfl
 ·exact fun s x e f d u => lc rfl rfl rfl Tryz.call196 (impl_within.calls (w := x) (a0 := a0.mode) (a1 := 0) (a2 := 511)) (cons2 (d 46 rfl) (cons2 rfl (cons2 rfl rfl))) <| fun w32 e33 => sx rfl e33 rfl
 ·exact fun s x e f d u => lp rfl rfl (X_not (d 47 rfl)) <| se rfl rfl
 ·exact fun s x e f d u => lp rfl rfl (X_move (d 48 rfl)) <| se rfl rfl
 ·exact fun s x e f d u => gF rfl rfl rfl rfl (d 49 rfl) rfl fun b t => lt t rfl rfl (X_fieldAddr Tryz.underlying58 rfl Tryz.sizeOf3 rfl ((f 1 rfl).trans (K9 1 rfl))) <| sg rfl rfl b rfl
 ·exact fun s x e f d u => gF rfl rfl rfl rfl (d 49 rfl) rfl fun b t => lt t rfl rfl (X_loadB Tryz.isAgg3 (Blk.ext k6 (e11.t e)) ((d 50 rfl).1 (not_mk (not_f b))) rfl) <| sg rfl rfl b rfl
 ·exact fun s x e f d u => gF rfl rfl rfl rfl (d 49 rfl) rfl fun b t => lt t rfl rfl (X_eql ((d 51 rfl).1 (not_mk (not_f b))) rfl) <| sg rfl rfl b rfl
 ·exact fun s x e f d u => gF rfl rfl rfl rfl (d 49 rfl) rfl fun b t => lt t rfl rfl (xm (.bool (decide (a0.kind = 2))) ((d 52 rfl).1 (not_mk (not_f b)))) <| sg rfl rfl b rfl
 ·exact fun s x e f d u => hF rfl rfl rfl rfl (d 53 rfl) rfl fun b t => lt t rfl rfl (X_fieldAddr Tryz.underlying58 rfl Tryz.sizeOf3 rfl ((f 1 rfl).trans (K9 1 rfl))) <| sg rfl rfl b rfl
 ·exact fun s x e f d u => hF rfl rfl rfl rfl (d 53 rfl) rfl fun b t => lt t rfl rfl (X_loadB Tryz.isAgg3 (Blk.ext k6 (e11.t e)) ((d 54 rfl).1 (and_mk (not_mk (not_f (and_l b))) (not_mk (not_f (and_r b))))) rfl) <| sg rfl rfl b rfl
 ·exact fun s x e f d u => hF rfl rfl rfl rfl (d 53 rfl) rfl fun b t => lt t rfl rfl (X_eql ((d 55 rfl).1 (and_mk (not_mk (not_f (and_l b))) (not_mk (not_f (and_r b))))) rfl) <| sg rfl rfl b rfl
 ·exact fun s x e f d u => gF rfl rfl rfl rfl (d 49 rfl) rfl fun b t => lt t rfl rfl (X_pickO ((d 53 rfl).1 (not_mk (not_f b))) rfl fun h => ((d 56 rfl).1 (and_mk (not_mk (not_f b)) (not_mk h)))) <| sg rfl rfl b rfl
 ·exact fun s x e f d u => gF rfl rfl rfl rfl (d 49 rfl) rfl fun b t => lt t rfl rfl (xm (.bool (impl_RecordFault.e3 a0)) ((d 57 rfl).1 (not_mk (not_f b)))) <| sg rfl rfl b rfl
 ·exact fun s x e f d u => hT rfl rfl rfl rfl (d 58 rfl) rfl fun b t => lt t rfl rfl (X_fieldAddr Tryz.underlying58 rfl Tryz.sizeOf3 rfl ((f 1 rfl).trans (K9 1 rfl))) <| sg rfl rfl b rfl
 ·exact fun s x e f d u => hT rfl rfl rfl rfl (d 58 rfl) rfl fun b t => lt t rfl rfl (X_loadB Tryz.isAgg3 (Blk.ext k6 (e11.t e)) ((d 59 rfl).1 (and_mk (not_mk (not_f (and_l b))) (and_r b))) rfl) <| sg rfl rfl b rfl
 ·exact fun s x e f d u => hT rfl rfl rfl rfl (d 58 rfl) rfl fun b t => lt t rfl rfl (X_neq ((d 60 rfl).1 (and_mk (not_mk (not_f (and_l b))) (and_r b))) rfl) <| sg rfl rfl b rfl
 ·exact fun s x e f d u => gF rfl rfl rfl rfl (d 49 rfl) rfl fun b t => lt t rfl rfl (X_pickA ((d 58 rfl).1 (not_mk (not_f b))) rfl fun h => ((d 61 rfl).1 (and_mk (not_mk (not_f b)) h))) <| sg rfl rfl b rfl
 ·exact fun s x e f d u => lp rfl rfl (X_pickO (d 49 rfl) rfl fun h => ((d 62 rfl).1 (not_mk h))) <| se rfl rfl
 ·exact fun s x e f d u => lp rfl rfl (X_mkiface Tryz.underlying4 rfl (d 63 rfl)) <| se rfl rfl
 ·exact fun s x e f d u => lp rfl rfl (X_mkiface Tryz.underlying3 rfl rfl) <| se rfl rfl
 ·exact fun s x e f d u => L_lit (.plain rfl) rfl (ltb rfl) rfl Tryz.underlying171 Tryz.sizeOf20 Tryz.zeroValue20 rfl rfl rfl (vs := [(.iface 4 (.bool (!(within a0.kind 1 4)))), (.iface 3 (.int .i64 9)), (.iface 4 (.bool (!(pathOK a0.path)))), (.iface 3 (.int .i64 10)), (.iface 4 (.bool (impl_RecordFault.e4 a0))), (.iface 3 (.int .i64 8)), (.iface 4 (.bool ((impl_RecordFault.e2 a0) || ((!decide (a0.kind = 3)) && a0.opq)))), (.iface 3 (.int .i64 3)), (.iface 4 (.bool ((!(within a0.mode 0 511)) || ((impl_RecordFault.e3 a0) && (!decide (a0.mode = 0)))))), (.iface 3 (.int .i64 4))]) (cons2 (d 4 rfl) (cons2 (d 5 rfl) (cons2 (d 10 rfl) (cons2 (d 11 rfl) (cons2 (d 26 rfl) (cons2 (d 27 rfl) (cons2 (d 43 rfl) (cons2 (d 44 rfl) (cons2 (d 64 rfl) (cons2 (d 65 rfl) rfl)))))))))) (lit_all rfl) <| fun b34 w35 z36 z37 e38 k39 => sx rfl e38 (Ow.rd (Ow.new (xs := [.inl (!(within a0.kind 1 4)), .inr 9, .inl (!(pathOK a0.path)), .inr 10, .inl (impl_RecordFault.e4 a0), .inr 8, .inl ((impl_RecordFault.e2 a0) || ((!decide (a0.kind = 3)) && a0.opq)), .inr 3, .inl ((!(within a0.mode 0 511)) || ((impl_RecordFault.e3 a0) && (!decide (a0.mode = 0)))), .inr 4]) (sz := 1) (enc := (encAny 4 3)) (base := x.heap.size) k39 (Nat.le_of_eq z36) rfl (fun _ _ => by first | rfl | exact encAny_len _ _ _) (Nat.le_of_ble_eq_true rfl)))
 ·intro s x e f d u
  have d40 : Rd 1 (encAny 4 3) x (s 78) (impl_RecordFault.e1 a0) := (d 66 rfl)
  exact lc rfl rfl rfl Tryz.call125 (impl_first.calls (w := x) (a0 := (impl_RecordFault.e1 a0)) d40 (od c25)) rfl <| fun w42 e43 => sx rfl e43 rfl
 ·exact fun s x e f d u => lp rfl rfl (X_assign (d 67 rfl)) <| se rfl rfl
 intro s44 w45 e46 hf47 ha48
 have K49 := Kp.ofD (kp := [(2, 3), (12, 80)]) rfl hf47
 have d50 : s44 2 = (.int .i64 (firstOf (impl_RecordFault.e1 a0))) := ha48 68 rfl
 clear ha48 hf47
 refine thn_n <| W_ret <| fin_r ?_
 obtain rfl := si H
 exact fin1 d50 ((e5.t e11).t e46)
theorem impl_RecordFault.calls {w : World} {a0 : Rec} (gv : GV 0 w) :
  Calls Tryz.prog 269 #[.agg (encRec a0).toArray] w (Rt (RP w (.int .i64 (recFault a0)))) := impl_RecordFault.walk gv (impl_RecordFault.eq a0)
/-! impl.RecordOK -/
theorem impl_RecordOK.calls {w : World} {a0 : Rec} (gv : GV 0 w) :
  Calls Tryz.prog 224 #[.agg (encRec a0).toArray] w (Rt (RP w (.bool (decide (recFault a0 = 0))))) := by
 have H := impl_RecordOK.eq a0
 generalize (decide (recFault a0 = 0)) = r at H ⊢
 unfold impl_RecordOK.sh at H
 refine calls_of_W Tryz.func224 rfl (Nat.le_of_ble_eq_true rfl) Tryz.ntmps224 rfl ?_
 refine wr <| L_box (.plain rfl) rfl (ltb rfl) rfl rfl <| fun b1 w2 z3 z4 e5 k6 => lp rfl rfl (xa (.bool false) rfl) <| nx <| wr <| lp rfl rfl (X_loadS Tryz.isAgg58 Tryz.sizeOf58 rfl rfl (Blk.at0 k6)) <| lc rfl rfl rfl Tryz.call269 (impl_RecordFault.calls (w := w2) (a0 := a0) (GV.ext gv e5)) rfl <| fun w7 e8 => lp rfl rfl (X_eql rfl rfl) <| lp rfl rfl (xa (.bool (decide ((recFault a0) = 0))) rfl) <| nx <| W_ret <| fin_r ?_
 obtain rfl := si H
 exact fin1 rfl (e5.t e8)
/-! spec.l01Below -/
theorem spec_l01Below.calls {w : World} {a0 : List UInt8} {a1 : List UInt8} :
  Calls Tryz.prog 171 #[S a0, S a1] w (Rt (RP w (.bool ((decide (a1 = []) && !decide (a0 = [])) || belowP a0 a1)))) := by
 have H := spec_l01Below.eq a0 a1
 generalize ((decide (a1 = []) && !decide (a0 = [])) || belowP a0 a1) = r at H ⊢
 unfold spec_l01Below.sh at H
 refine calls_of_W Tryz.func171 rfl (Nat.le_of_ble_eq_true rfl) Tryz.ntmps171 rfl ?_
 refine wr <| lp rfl rfl (xa (.bool false) rfl) <| nx <| wr <| lp rfl rfl (xm (S a1) rfl) <| lp rfl rfl (X_lenS Tryz.underlying9 rfl) <| lp rfl rfl (xa (.int .i64 (a1.length : Int)) rfl) <| nx <| wr <| lp rfl rfl (xm (S a1) rfl) <| lp rfl rfl (X_seq rfl rfl) <| lp rfl rfl (xm (.bool (decide (a1 = ([] : List UInt8)))) rfl) <| L_grp 3 [(11, 14)] 13 (.bool ((decide (a1 = ([] : List UInt8))) && (!decide (a0 = ([] : List UInt8))))) ?_ ?_
 ·rcases bool_two (decide (a1 = ([] : List UInt8))) with b0_ | b0_
  ·exact lg rfl rfl rfl rfl (cb b0_) (xm (S a0) rfl) <| lg rfl rfl rfl rfl (cb b0_) (X_sne rfl rfl) <| lp rfl rfl (X_pick (b := true) (v := (.bool (!decide (a0 = ([] : List UInt8))))) (cb b0_) rfl) <| nx ⟨(ku3 kz rfl), (and_t b0_), er⟩
  ·exact ls rfl rfl rfl (cb b0_) rfl <| ls rfl rfl rfl (cb b0_) rfl <| lp rfl rfl (X_pick (b := false) (v := (.bool false)) (cb b0_) rfl) <| nx ⟨(ku3 kz rfl), (and_f b0_), er⟩
 intro s6 w2 K3 h4 e5
 refine lp rfl rfl (X_move h4) ?_
 obtain ⟨z8, x9, H⟩ := bind_some H
 refine L_grpE 18 [(15, 33)] 32 (fun q => q = z8) ?_ ?_
 ·rcases bif_two x9 with ⟨b6_, H⟩ | ⟨b6_, H⟩
  ·refine ls rfl rfl rfl (cb b6_) rfl <| ls rfl rfl rfl (cb b6_) rfl <| ls rfl rfl rfl (cb b6_) rfl <| ls rfl rfl rfl (cb b6_) rfl <| ls rfl rfl rfl (cb b6_) rfl <| lu rfl rfl rfl rfl rfl <| lu rfl rfl rfl rfl rfl <| lu rfl rfl rfl rfl rfl <| lu rfl rfl rfl rfl rfl <| lu rfl rfl rfl rfl rfl <| ls rfl rfl rfl (cb b6_) rfl <| ls rfl rfl rfl (cb b6_) rfl <| lu rfl rfl rfl rfl rfl <| lu rfl rfl rfl rfl rfl <| lu rfl rfl rfl rfl rfl <| lu rfl rfl rfl rfl rfl <| ls rfl rfl rfl (cb b6_) rfl <| lp rfl rfl (X_pick (b := true) (v := (.bool true)) (cb b6_) rfl) ?_
   obtain rfl := si H
   exact nx ⟨(ku2 (ku8 (ku8 kz rfl) rfl) rfl), ⟨_, rfl, rfl⟩, er⟩
  ·refine lg rfl rfl rfl rfl (cb b6_) (xm (S a0) (K3 0 rfl)) <| lg rfl rfl rfl rfl (cb b6_) (X_lenS Tryz.underlying9 rfl) <| lg rfl rfl rfl rfl (cb b6_) (xm (.int .i64 (a1.length : Int)) (K3 5 rfl)) <| lg rfl rfl rfl rfl (cb b6_) (X_gtr rfl rfl) <| lg rfl rfl rfl rfl (cb b6_) (xm (.bool (decide ((a1.length : Int) < (a0.length : Int)))) rfl) ?_
   obtain ⟨z9, x10, H⟩ := bind_some H
   refine L_grpE 6 [(20, 26)] 25 (fun q => q = z9) ?_ ?_
   ·rcases bif_two x10 with ⟨b7_, H⟩ | ⟨b7_, H⟩
    ·refine lg rfl rfl rfl rfl (cb b7_) (xm (S a0) (K3 0 rfl)) <| lg rfl rfl rfl rfl (cb b7_) (xm (.int .i64 (a1.length : Int)) (K3 5 rfl)) ?_
     obtain ⟨c9, H⟩ := bif_some H
     refine lg rfl rfl rfl rfl (cb b7_) (X_sliceS Tryz.underlying9 rfl (l := 0) (h := (a1.length : Int)) rfl ⟨_, rfl⟩ (inS_1 c9) (inS_2 c9) (inS_3 c9)) <| lg rfl rfl rfl rfl (cb b7_) (xm (S a1) (K3 1 rfl)) <| lg rfl rfl rfl rfl (cb b7_) (X_seq rfl rfl) <| lg rfl rfl rfl rfl (cb b6_) (X_pick (b := true) (v := (.bool (decide ((sub a0 0 (a1.length : Int)) = a1)))) (cb b7_) rfl) ?_
     obtain rfl := si H
     exact nx ⟨(ku2 (ku4 kz rfl) rfl), ⟨_, rfl, rfl⟩, er⟩
    ·refine ls rfl rfl rfl (cb b7_) rfl <| ls rfl rfl rfl (cb b7_) rfl <| ls rfl rfl rfl (cb b7_) rfl <| ls rfl rfl rfl (cb b7_) rfl <| ls rfl rfl rfl (cb b7_) rfl <| lg rfl rfl rfl rfl (cb b6_) (X_pick (b := false) (v := (.bool false)) (cb b7_) rfl) ?_
     obtain rfl := si H
     exact nx ⟨(ku2 (ku4 kz rfl) rfl), ⟨_, rfl, rfl⟩, er⟩
   intro s15 w11 z16 K12 hq h13 e14
   rw [hq] at h13; clear hq
   refine lg rfl rfl rfl rfl ((K12 14 rfl).trans (cb b6_)) (X_move h13) ?_
   obtain ⟨z18, x19, H⟩ := bind_some H
   refine L_grpE 5 [(27, 32)] 31 (fun q => q = z18) ?_ ?_
   ·rcases bif_two x19 with ⟨b16_, H⟩ | ⟨b16_, H⟩
    ·refine lg rfl rfl rfl rfl (cb b16_) (xm (S a0) ((K12 0 rfl).trans (K3 0 rfl))) <| lg rfl rfl rfl rfl (cb b16_) (xm (.int .i64 (a1.length : Int)) ((K12 5 rfl).trans (K3 5 rfl))) ?_
     obtain ⟨c18, H⟩ := bif_some H
     refine lg rfl rfl rfl rfl (cb b16_) (X_indexS Tryz.underlying9 rfl rfl (inR_lo c18) (inR_hi c18)) <| lg rfl rfl rfl rfl (cb b16_) (X_eql rfl rfl) <| lg rfl rfl rfl rfl ((K12 14 rfl).trans (cb b6_)) (X_pick (b := true) (v := (.bool (decide ((byt a0 (a1.length : Int)) = 47)))) (cb b16_) rfl) ?_
     obtain rfl := si H
     exact nx ⟨(ku1 (ku4 kz rfl) rfl), ⟨_, rfl, rfl⟩, er⟩
    ·refine ls rfl rfl rfl (cb b16_) rfl <| ls rfl rfl rfl (cb b16_) rfl <| ls rfl rfl rfl (cb b16_) rfl <| ls rfl rfl rfl (cb b16_) rfl <| lg rfl rfl rfl rfl ((K12 14 rfl).trans (cb b6_)) (X_pick (b := false) (v := (.bool false)) (cb b16_) rfl) ?_
     obtain rfl := si H
     exact nx ⟨(ku1 (ku4 kz rfl) rfl), ⟨_, rfl, rfl⟩, er⟩
   intro s24 w20 z25 K21 hq h22 e23
   rw [hq] at h22; clear hq
   refine lp rfl rfl (X_pick (b := false) (v := (.bool z18)) (((K21 14 rfl).trans (K12 14 rfl)).trans (cb b6_)) h22) ?_
   obtain rfl := si H
   exact nx ⟨(ku1 (Kp.cut (ku1 (Kp.cut (ku1 (ku4 kz rfl) rfl) K12 rfl) rfl) K21 rfl) rfl), ⟨_, rfl, rfl⟩, (e14.t e23)⟩
 intro s26 w10 z27 K11 hq h12 e13
 rw [hq] at h12; clear hq
 refine lp rfl rfl (X_assign h12) <| nx <| W_ret <| fin_r ?_
 obtain rfl := si H
 exact fin1 rfl (e5.t e13)
/-! spec.IsBelow -/
theorem spec_IsBelow.calls {w : World} {a0 : List UInt8} {a1 : List UInt8} :
  Calls Tryz.prog 68 #[S a0, S a1] w (Rt (RP w (.bool (isBelow a0 a1)))) := by
 have H := spec_IsBelow.eq a0 a1
 generalize (isBelow a0 a1) = r at H ⊢
 unfold spec_IsBelow.sh at H
 refine calls_of_W Tryz.func68 rfl (Nat.le_of_ble_eq_true rfl) Tryz.ntmps68 rfl ?_
 refine wr <| lp rfl rfl (xa (.bool false) rfl) <| nx <| W_seq <| wr <| lp rfl rfl (xm (S a0) rfl) <| lp rfl rfl (X_lenS Tryz.underlying9 rfl) <| lp rfl rfl (X_gtr rfl rfl) <| lp rfl rfl (xm (.bool (decide (65536 < (a0.length : Int)))) rfl) <| L_grp 4 [(9, 13)] 12 (.bool ((decide (65536 < (a0.length : Int))) || (decide (65536 < (a1.length : Int))))) ?_ ?_
 ·rcases bool_two (decide (65536 < (a0.length : Int))) with b0_ | b0_
  ·exact ls rfl rfl rfl (cb b0_) rfl <| ls rfl rfl rfl (cb b0_) rfl <| ls rfl rfl rfl (cb b0_) rfl <| lp rfl rfl (X_pick (b := true) (v := (.bool true)) (cb b0_) rfl) <| nx ⟨(ku4 kz rfl), (or_t b0_), er⟩
  ·exact lg rfl rfl rfl rfl (cb b0_) (xm (S a1) rfl) <| lg rfl rfl rfl rfl (cb b0_) (X_lenS Tryz.underlying9 rfl) <| lg rfl rfl rfl rfl (cb b0_) (X_gtr rfl rfl) <| lp rfl rfl (X_pick (b := false) (v := (.bool (decide (65536 < (a1.length : Int))))) (cb b0_) rfl) <| nx ⟨(ku4 kz rfl), (or_f b0_), er⟩
 intro s6 w2 K3 h4 e5
 refine nx ?_
 rcases bif_two H with ⟨q7, H⟩ | ⟨q7, H⟩
 ·refine W_true (h4.trans (cb q7)) <| wr <| lp rfl rfl (xa (.bool false) rfl) <| nx <| W_ret <| thn_r <| fin_r ?_
  obtain rfl := si H
  exact fin1 rfl e5
 ·refine W_false (h4.trans (cb q7)) <| W_skip <| thn_n <| wr <| lp rfl rfl (xm (S a0) (K3 0 rfl)) <| lc rfl rfl rfl Tryz.call146 (spec_l01OK.calls (w := w2) (a0 := a0)) rfl <| fun w8 e9 => lp rfl rfl (xm (.bool (pathOK a0)) rfl) <| L_grp 7 [(16, 23)] 22 (.bool ((pathOK a0) && ((decide (a1 = ([] : List UInt8))) || (pathOK a1)))) ?_ ?_
  ·rcases bool_two (pathOK a0) with b9_ | b9_
   ·refine lg rfl rfl rfl rfl (cb b9_) (xm (S a1) (K3 1 rfl)) <| lg rfl rfl rfl rfl (cb b9_) (X_seq rfl rfl) <| lg rfl rfl rfl rfl (cb b9_) (xm (.bool (decide (a1 = ([] : List UInt8)))) rfl) <| L_grp 3 [(19, 22)] 21 (.bool ((decide (a1 = ([] : List UInt8))) || (pathOK a1))) ?_ ?_
    ·rcases bool_two (decide (a1 = ([] : List UInt8))) with b10_ | b10_
     ·exact ls rfl rfl rfl (cb b10_) rfl <| ls rfl rfl rfl (cb b10_) rfl <| lg rfl rfl rfl rfl (cb b9_) (X_pick (b := true) (v := (.bool true)) (cb b10_) rfl) <| nx ⟨(ku3 kz rfl), (or_t b10_), er⟩
     ·exact lg rfl rfl rfl rfl (cb b10_) (xm (S a1) (K3 1 rfl)) <| L_callP (tg rfl rfl rfl (cb b10_)) rfl (ltb rfl) rfl Tryz.call146 (spec_l01OK.calls (w := w8) (a0 := a1)) rfl <| fun w12 e13 => lg rfl rfl rfl rfl (cb b9_) (X_pick (b := false) (v := (.bool (pathOK a1))) (cb b10_) rfl) <| nx ⟨(ku3 kz rfl), (or_f b10_), e13⟩
    intro s16 w12 K13 h14 e15
    exact lp rfl rfl (X_pick (b := true) (v := (.bool ((decide (a1 = ([] : List UInt8))) || (pathOK a1)))) ((K13 15 rfl).trans (cb b9_)) h14) <| nx ⟨(ku1 (Kp.cut (ku3 kz rfl) K13 rfl) rfl), (and_t b9_), e15⟩
   ·exact ls rfl rfl rfl (cb b9_) rfl <| ls rfl rfl rfl (cb b9_) rfl <| ls rfl rfl rfl (cb b9_) rfl <| lu rfl rfl rfl rfl rfl <| lu rfl rfl rfl rfl rfl <| ls rfl rfl rfl (cb b9_) rfl <| lp rfl rfl (X_pick (b := false) (v := (.bool false)) (cb b9_) rfl) <| nx ⟨(ku3 (ku4 kz rfl) rfl), (and_f b9_), er⟩
  intro s17 w11 K12 h13 e14
  refine lp rfl rfl (X_move h13) <| L_grp 4 [(24, 28)] 27 (.bool (((pathOK a0) && ((decide (a1 = ([] : List UInt8))) || (pathOK a1))) && ((decide (a1 = []) && !decide (a0 = [])) || belowP a0 a1))) ?_ ?_
  ·rcases bool_two ((pathOK a0) && ((decide (a1 = ([] : List UInt8))) || (pathOK a1))) with b17_ | b17_
   ·exact lg rfl rfl rfl rfl (cb b17_) (xm (S a0) ((K12 0 rfl).trans (K3 0 rfl))) <| lg rfl rfl rfl rfl (cb b17_) (xm (S a1) ((K12 1 rfl).trans (K3 1 rfl))) <| L_callP (tg rfl rfl rfl (cb b17_)) rfl (ltb rfl) rfl Tryz.call171 (spec_l01Below.calls (w := w11) (a0 := a0) (a1 := a1)) rfl <| fun w19 e20 => lp rfl rfl (X_pick (b := true) (v := (.bool ((decide (a1 = []) && !decide (a0 = [])) || belowP a0 a1))) (cb b17_) rfl) <| nx ⟨(ku4 kz rfl), (and_t b17_), e20⟩
   ·exact ls rfl rfl rfl (cb b17_) rfl <| ls rfl rfl rfl (cb b17_) rfl <| ls rfl rfl rfl (cb b17_) rfl <| lp rfl rfl (X_pick (b := false) (v := (.bool false)) (cb b17_) rfl) <| nx ⟨(ku4 kz rfl), (and_f b17_), er⟩
  intro s23 w19 K20 h21 e22
  refine lp rfl rfl (X_assign h21) <| nx <| W_ret <| fin_r ?_
  obtain rfl := si H
  exact fin1 rfl (((e5.t e9).t e14).t e22)
/-! impl.isPlace -/
theorem impl_isPlace.calls {w : World} {a0 : List UInt8} (gv : GV 0 w) :
  Calls Tryz.prog 165 #[S a0] w (Rt (RP w (.bool (decide (a0 = []) || pathOK a0)))) := by
 have H := impl_isPlace.eq a0
 generalize (decide (a0 = []) || pathOK a0) = r at H ⊢
 unfold impl_isPlace.sh at H
 refine calls_of_W Tryz.func165 rfl (Nat.le_of_ble_eq_true rfl) Tryz.ntmps165 rfl ?_
 refine wr <| lp rfl rfl (xa (.bool false) rfl) <| nx <| wr <| lp rfl rfl (xm (S a0) rfl) <| lp rfl rfl (X_seq rfl rfl) <| lp rfl rfl (xm (.bool (decide (a0 = ([] : List UInt8)))) rfl) <| L_grp 3 [(6, 9)] 8 (.bool ((decide (a0 = ([] : List UInt8))) || (pathOK a0))) ?_ ?_
 ·rcases bool_two (decide (a0 = ([] : List UInt8))) with b0_ | b0_
  ·exact ls rfl rfl rfl (cb b0_) rfl <| ls rfl rfl rfl (cb b0_) rfl <| lp rfl rfl (X_pick (b := true) (v := (.bool true)) (cb b0_) rfl) <| nx ⟨(ku3 kz rfl), (or_t b0_), er⟩
  ·exact lg rfl rfl rfl rfl (cb b0_) (xm (S a0) rfl) <| L_callP (tg rfl rfl rfl (cb b0_)) rfl (ltb rfl) rfl Tryz.call150 (impl_PathOK.calls (w := w) (a0 := a0) gv) rfl <| fun w2 e3 => lp rfl rfl (X_pick (b := false) (v := (.bool (pathOK a0))) (cb b0_) rfl) <| nx ⟨(ku3 kz rfl), (or_f b0_), e3⟩
 intro s6 w2 K3 h4 e5
 refine lp rfl rfl (X_assign h4) <| nx <| W_ret <| fin_r ?_
 obtain rfl := si H
 exact fin1 rfl e5
/-! internal/stringslite.HasPrefix -/
theorem strings_HasPrefixL.calls {w : World} {a0 : List UInt8} {a1 : List UInt8} :
  Calls Tryz.prog 297 #[S a0, S a1] w (Rt (RP w (.bool (List.isPrefixOf a1 a0)))) := by
 have H := strings_HasPrefixL.eq a0 a1
 generalize (List.isPrefixOf a1 a0) = r at H ⊢
 unfold strings_HasPrefixL.sh at H
 refine calls_of_W Tryz.func297 rfl (Nat.le_of_ble_eq_true rfl) Tryz.ntmps297 rfl ?_
 refine wr <| lp rfl rfl (xa (.bool false) rfl) <| nx <| wr <| lp rfl rfl (xm (S a0) rfl) <| lp rfl rfl (X_lenS Tryz.underlying9 rfl) <| lp rfl rfl (xm (S a1) rfl) <| lp rfl rfl (X_lenS Tryz.underlying9 rfl) <| lp rfl rfl (X_geq rfl rfl) <| lp rfl rfl (xm (.bool (decide ((a1.length : Int) ≤ (a0.length : Int)))) rfl) ?_
 obtain ⟨z2, x3, H⟩ := bind_some H
 refine L_grpE 7 [(11, 18)] 17 (fun q => q = z2) ?_ ?_
 ·rcases bif_two x3 with ⟨b0_, H⟩ | ⟨b0_, H⟩
  ·refine lg rfl rfl rfl rfl (cb b0_) (xm (S a0) rfl) <| lg rfl rfl rfl rfl (cb b0_) (xm (S a1) rfl) <| lg rfl rfl rfl rfl (cb b0_) (X_lenS Tryz.underlying9 rfl) ?_
   obtain ⟨c2, H⟩ := bif_some H
   refine lg rfl rfl rfl rfl (cb b0_) (X_sliceS Tryz.underlying9 rfl (l := 0) (h := (a1.length : Int)) rfl ⟨_, rfl⟩ (inS_1 c2) (inS_2 c2) (inS_3 c2)) <| lg rfl rfl rfl rfl (cb b0_) (xm (S a1) rfl) <| lg rfl rfl rfl rfl (cb b0_) (X_seq rfl rfl) <| lp rfl rfl (X_pick (b := true) (v := (.bool (decide ((sub a0 0 (a1.length : Int)) = a1)))) (cb b0_) rfl) ?_
   obtain rfl := si H
   exact nx ⟨(ku3 (ku4 kz rfl) rfl), ⟨_, rfl, rfl⟩, er⟩
  ·refine ls rfl rfl rfl (cb b0_) rfl <| ls rfl rfl rfl (cb b0_) rfl <| ls rfl rfl rfl (cb b0_) rfl <| ls rfl rfl rfl (cb b0_) rfl <| ls rfl rfl rfl (cb b0_) rfl <| ls rfl rfl rfl (cb b0_) rfl <| lp rfl rfl (X_pick (b := false) (v := (.bool false)) (cb b0_) rfl) ?_
   obtain rfl := si H
   exact nx ⟨(ku3 (ku4 kz rfl) rfl), ⟨_, rfl, rfl⟩, er⟩
 intro s8 w4 z9 K5 hq h6 e7
 rw [hq] at h6; clear hq
 refine lp rfl rfl (X_assign h6) <| nx <| W_ret <| fin_r ?_
 obtain rfl := si H
 exact fin1 rfl e7
/-! strings.HasPrefix -/
theorem strings_HasPrefix.calls {w : World} {a0 : List UInt8} {a1 : List UInt8} :
  Calls Tryz.prog 275 #[S a0, S a1] w (Rt (RP w (.bool (List.isPrefixOf a1 a0)))) := by
 have H := strings_HasPrefix.eq a0 a1
 generalize (List.isPrefixOf a1 a0) = r at H ⊢
 unfold strings_HasPrefix.sh at H
 refine calls_of_W Tryz.func275 rfl (Nat.le_of_ble_eq_true rfl) Tryz.ntmps275 rfl ?_
 refine wr <| lp rfl rfl (xa (.bool false) rfl) <| nx <| wr <| lp rfl rfl (xm (S a0) rfl) <| lp rfl rfl (xm (S a1) rfl) <| lc rfl rfl rfl Tryz.call297 (strings_HasPrefixL.calls (w := w) (a0 := a0) (a1 := a1)) rfl <| fun w1 e2 => lp rfl rfl (xa (.bool (List.isPrefixOf a1 a0)) rfl) <| nx <| W_ret <| fin_r ?_
 obtain rfl := si H
 exact fin1 rfl e2
/-! impl.below -/
theorem impl_below.calls {w : World} {a0 : List UInt8} {a1 : List UInt8} (h0 : a1.length ≤ 1048576) :
  Calls Tryz.prog 244 #[S a0, S a1] w (Rt (RP w (.bool (decide (a1 = []) || belowP a0 a1)))) := by
 have H := impl_below.eq a0 a1 h0
 generalize (decide (a1 = []) || belowP a0 a1) = r at H ⊢
 unfold impl_below.sh at H
 refine calls_of_W Tryz.func244 rfl (Nat.le_of_ble_eq_true rfl) Tryz.ntmps244 rfl ?_
 refine wr <| lp rfl rfl (xa (.bool false) rfl) <| nx <| wr <| lp rfl rfl (xm (S a1) rfl) <| lp rfl rfl (X_seq rfl rfl) <| lp rfl rfl (xm (.bool (decide (a1 = ([] : List UInt8)))) rfl) ?_
 obtain ⟨z2, x3, H⟩ := bind_some H
 refine L_grpE 5 [(8, 13)] 12 (fun q => q = z2) ?_ ?_
 ·rcases bif_two x3 with ⟨b0_, H⟩ | ⟨b0_, H⟩
  ·refine ls rfl rfl rfl (cb b0_) rfl <| ls rfl rfl rfl (cb b0_) rfl <| ls rfl rfl rfl (cb b0_) rfl <| ls rfl rfl rfl (cb b0_) rfl <| lp rfl rfl (X_pick (b := true) (v := (.bool true)) (cb b0_) rfl) ?_
   obtain rfl := si H
   exact nx ⟨(ku1 (ku4 kz rfl) rfl), ⟨_, rfl, rfl⟩, er⟩
  ·refine lg rfl rfl rfl rfl (cb b0_) (xm (S a0) rfl) <| lg rfl rfl rfl rfl (cb b0_) (xm (S a1) rfl) ?_
   obtain ⟨c2, H⟩ := bif_some H
   refine lg rfl rfl rfl rfl (cb b0_) (X_cat rfl rfl (od c2)) <| L_callP (tg rfl rfl rfl (cb b0_)) rfl (ltb rfl) rfl Tryz.call275 (strings_HasPrefix.calls (w := w) (a0 := a0) (a1 := a1 ++ ([47] : List UInt8))) rfl <| fun w3 e4 => lp rfl rfl (X_pick (b := false) (v := (.bool (List.isPrefixOf (a1 ++ ([47] : List UInt8)) a0))) (cb b0_) rfl) ?_
   obtain rfl := si H
   exact nx ⟨(ku1 (ku4 kz rfl) rfl), ⟨_, rfl, rfl⟩, e4⟩
 intro s8 w4 z9 K5 hq h6 e7
 rw [hq] at h6; clear hq
 refine lp rfl rfl (X_assign h6) <| nx <| W_ret <| fin_r ?_
 obtain rfl := si H
 exact fin1 rfl e7
/-! spec.l01Join -/
theorem spec_l01Join.calls {w : World} {a0 : List UInt8} {a1 : List UInt8} (h0 : a0.length ≤ 1048576) (h1 : a1.length ≤ 1048576) :
  Calls Tryz.prog 241 #[S a0, S a1] w (Rt (RP w (S (joinP a0 a1)))) := by
 have H := spec_l01Join.eq a0 a1 h0 h1
 generalize (joinP a0 a1) = r at H ⊢
 unfold spec_l01Join.sh at H
 refine calls_of_W Tryz.func241 rfl (Nat.le_of_ble_eq_true rfl) Tryz.ntmps241 rfl ?_
 refine wr <| lp rfl rfl (xa (S ([] : List UInt8)) rfl) <| nx <| W_seq <| wr <| lp rfl rfl (xm (S a0) rfl) <| lp rfl rfl (X_seq rfl rfl) <| nx ?_
 rcases bif_two H with ⟨q1, H⟩ | ⟨q1, H⟩
 ·refine W_true (cb q1) <| wr <| lp rfl rfl (xm (S a1) rfl) <| lp rfl rfl (xa (S a1) rfl) <| nx <| W_ret <| thn_r <| fin_r ?_
  obtain rfl := si H
  exact fin1 rfl er
 ·refine W_false (cb q1) <| W_skip <| thn_n <| wr <| lp rfl rfl (xm (S a0) rfl) ?_
  obtain ⟨c2, H⟩ := bif_some H
  refine lp rfl rfl (X_cat rfl rfl (od c2)) <| lp rfl rfl (xm (S a1) rfl) ?_
  obtain ⟨c3, H⟩ := bif_some H
  refine lp rfl rfl (X_cat rfl rfl (od c3)) <| lp rfl rfl (xa (S ((a0 ++ ([47] : List UInt8)) ++ a1)) rfl) <| nx <| W_ret <| fin_r ?_
  obtain rfl := si H
  exact fin1 rfl er
/-! spec.l01Less -/
theorem spec_l01Less.calls {w : World} {a0 : List UInt8} {a1 : List UInt8} (h0 : a0.length ≤ 1048576) (h1 : a1.length ≤ 1048576) :
  Calls Tryz.prog 205 #[S a0, S a1] w (Rt (RP w (.bool (lessL (cut 47 a0) (cut 47 a1))))) := by
 obtain ⟨k, H⟩ := spec_l01Less.eq a0 a1 h0 h1
 generalize (lessL (cut 47 a0) (cut 47 a1)) = r at H ⊢
 unfold spec_l01Less.sh at H
 refine calls_of_W Tryz.func205 rfl (Nat.le_of_ble_eq_true rfl) Tryz.ntmps205 rfl ?_
 refine wr <| lp rfl rfl (xa (.bool false) rfl) <| nx <| wr <| lp rfl rfl (xm (S a0) rfl) ?_
 obtain ⟨c1, H⟩ := bif_some H
 refine L_callO (.plain rfl) rfl (ltb rfl) rfl Tryz.call209 (spec_l00Cut.calls (w := w) (a0 := a0) (a1 := 47) (od c1)) rfl <| fun v4 w2 e3 o5 => lp rfl rfl (xa v4 rfl) <| nx <| wr <| lp rfl rfl (xm (S a1) rfl) ?_
 obtain ⟨c6, H⟩ := bif_some H
 refine L_callO (.plain rfl) rfl (ltb rfl) rfl Tryz.call209 (spec_l00Cut.calls (w := w2) (a0 := a1) (a1 := 47) (od c6)) rfl <| fun v9 w7 e8 o10 => lp rfl rfl (xa v9 rfl) <| nx <| W_seq <| wr <| lp rfl rfl (xa (.int .i64 0) rfl) <| nx ?_
 obtain ⟨z12, L13, C14⟩ := bind_some H
 clear H
 refine  W_cutQ (fun s0 sQ wQ => Kp [(4, 5), (7, 8), (12, 42)] s0 sQ ∧ Ext w7 wQ ∧ z12 = .inr ()) ?_ ?_
 ·refine W_block <| W_loopI (fun s0 kk sQ wQ => ∃ (x7_11 : Int), Kp [(4, 5), (7, 8), (12, 42)] s0 sQ ∧ sQ 7 = .int .i64 x7_11 ∧ Ext w7 wQ ∧ loopF (spec_l01Less.b1 a0 a1) kk x7_11 = some z12) k ⟨0, kz, rfl, er, L13⟩ ?_
  rintro k19 s20 w21 ⟨x7_11, K22, h25, e23, L24⟩
  cases k19 with
  | zero => exact absurd L24 (by simp [loopF])
  | succ k19 =>
   obtain ⟨t26, H, S27⟩ := loopF_succ L24
   clear L24
   unfold spec_l01Less.b1 at H
   refine W_seq <| wr <| lp rfl rfl (X_move h25) <| lp rfl rfl (xm v4 (K22 5 rfl)) <| lp rfl rfl (X_lenR Tryz.underlying42 rfl (Ow.rd (Ow.ext o5 (e8.t e23)))) <| lp rfl rfl (X_lss rfl rfl) <| lp rfl rfl (xm (.bool (decide (x7_11 < ((cut 47 a0).length : Int)))) rfl) <| L_grp 5 [(17, 22)] 21 (.bool ((decide (x7_11 < ((cut 47 a0).length : Int))) && (decide (x7_11 < ((cut 47 a1).length : Int))))) ?_ ?_
   ·rcases bool_two (decide (x7_11 < ((cut 47 a0).length : Int))) with b27_ | b27_
    ·exact lg rfl rfl rfl rfl (cb b27_) (X_move h25) <| lg rfl rfl rfl rfl (cb b27_) (xm v9 (K22 6 rfl)) <| lg rfl rfl rfl rfl (cb b27_) (X_lenR Tryz.underlying42 rfl (Ow.rd (Ow.ext o10 e23))) <| lg rfl rfl rfl rfl (cb b27_) (X_lss rfl rfl) <| lp rfl rfl (X_pick (b := true) (v := (.bool (decide (x7_11 < ((cut 47 a1).length : Int))))) (cb b27_) rfl) <| nx ⟨(ku1 (ku4 kz rfl) rfl), (and_t b27_), er⟩
    ·exact ls rfl rfl rfl (cb b27_) rfl <| ls rfl rfl rfl (cb b27_) rfl <| ls rfl rfl rfl (cb b27_) rfl <| ls rfl rfl rfl (cb b27_) rfl <| lp rfl rfl (X_pick (b := false) (v := (.bool false)) (cb b27_) rfl) <| nx ⟨(ku1 (ku4 kz rfl) rfl), (and_f b27_), er⟩
   intro s33 w29 K30 h31 e32
   refine nx ?_
   rcases bif_two H with ⟨q34, H⟩ | ⟨q34, H⟩
   ·refine W_true (h31.trans (cb q34)) <| W_skip <| thn_n <| W_seq <| W_block <| W_seq ?_
    obtain ⟨c35, H⟩ := bif_some H
    obtain ⟨c38, H⟩ := bif_some H
    refine W_dM [LEq v4, LEq (.int .i64 x7_11), LAt0 (encS (gt (cut 47 a0) x7_11)), LEq (S (gt (cut 47 a0) x7_11)), LEq v9, LEq (.int .i64 x7_11), LAt0 (encS (gt (cut 47 a1) x7_11)), LEq (S (gt (cut 47 a1) x7_11)), LEq (.bool (!decide ((gt (cut 47 a0) x7_11) = (gt (cut 47 a1) x7_11))))] (by kernel_rfl) (by kernel_rfl) ⟨qm, qm, LAt0.mono, qm, qm, qm, LAt0.mono, qm, qm, trivial⟩ ⟨?_, ?_, ?_, ?_, ?_, ?_, ?_, ?_, ?_, trivial⟩ ?_
    ·exact fun s x e f d u => lp rfl rfl (xm v4 ((f 5 rfl).trans ((K30 5 rfl).trans (K22 5 rfl)))) <| se rfl rfl
    ·exact fun s x e f d u => lp rfl rfl (xm (.int .i64 x7_11) ((f 7 rfl).trans ((K30 7 rfl).trans h25))) <| se rfl rfl
    ·exact fun s x e f d u => L_idx (.plain rfl) rfl (ltb rfl) rfl Tryz.underlying42 Tryz.sizeOf9 (d 0 rfl) (Ow.rd (Ow.ext o5 (((e8.t e23).t e32).t e))) (d 1 rfl) c35 <| fun p42 h43 => se rfl ⟨_, rfl, h43⟩
    ·intro s x e f d u
     obtain ⟨p44, h45, h46⟩ := (d 2 rfl)
     exact lp rfl rfl (X_loadAt Tryz.isAgg9 h45 h46 rfl) <| se rfl rfl
    ·exact fun s x e f d u => lp rfl rfl (xm v9 ((f 6 rfl).trans ((K30 6 rfl).trans (K22 6 rfl)))) <| se rfl rfl
    ·exact fun s x e f d u => lp rfl rfl (xm (.int .i64 x7_11) ((f 7 rfl).trans ((K30 7 rfl).trans h25))) <| se rfl rfl
    ·exact fun s x e f d u => L_idx (.plain rfl) rfl (ltb rfl) rfl Tryz.underlying42 Tryz.sizeOf9 (d 4 rfl) (Ow.rd (Ow.ext o10 ((e23.t e32).t e))) (d 5 rfl) c38 <| fun p48 h49 => se rfl ⟨_, rfl, h49⟩
    ·intro s x e f d u
     obtain ⟨p50, h51, h52⟩ := (d 6 rfl)
     exact lp rfl rfl (X_loadAt Tryz.isAgg9 h51 h52 rfl) <| se rfl rfl
    ·exact fun s x e f d u => lp rfl rfl (X_sne (d 3 rfl) (d 7 rfl)) <| se rfl rfl
    intro s53 w54 e55 hf56 ha57
    have K58 := Kp.ofD (kp := [(24, 33)]) rfl hf56
    have d59 : s53 32 = (.bool (!decide ((gt (cut 47 a0) x7_11) = (gt (cut 47 a1) x7_11)))) := ha57 8 rfl
    clear ha57 hf56
    refine thn_n ?_
    rcases bif_two H with ⟨q60, H⟩ | ⟨q60, H⟩
    ·refine W_true (d59.trans (cb q60)) <| W_seq ?_
     obtain ⟨c61, H⟩ := bif_some H
     obtain ⟨c64, H⟩ := bif_some H
     refine W_dM [LEq v4, LEq (.int .i64 x7_11), LAt0 (encS (gt (cut 47 a0) x7_11)), LEq (S (gt (cut 47 a0) x7_11)), LEq v9, LEq (.int .i64 x7_11), LAt0 (encS (gt (cut 47 a1) x7_11)), LEq (S (gt (cut 47 a1) x7_11)), LEq (.bool (lt8 (gt (cut 47 a0) x7_11) (gt (cut 47 a1) x7_11))), LEq (.bool (lt8 (gt (cut 47 a0) x7_11) (gt (cut 47 a1) x7_11)))] (by kernel_rfl) (by kernel_rfl) ⟨qm, qm, LAt0.mono, qm, qm, qm, LAt0.mono, qm, qm, qm, trivial⟩ ⟨?_, ?_, ?_, ?_, ?_, ?_, ?_, ?_, ?_, ?_, trivial⟩ ?_
     ·exact fun s x e f d u => lp rfl rfl (xm v4 ((f 5 rfl).trans ((K58 5 rfl).trans ((K30 5 rfl).trans (K22 5 rfl))))) <| se rfl rfl
     ·exact fun s x e f d u => lp rfl rfl (xm (.int .i64 x7_11) ((f 7 rfl).trans ((K58 7 rfl).trans ((K30 7 rfl).trans h25)))) <| se rfl rfl
     ·exact fun s x e f d u => L_idx (.plain rfl) rfl (ltb rfl) rfl Tryz.underlying42 Tryz.sizeOf9 (d 0 rfl) (Ow.rd (Ow.ext o5 ((((e8.t e23).t e32).t e55).t e))) (d 1 rfl) c61 <| fun p68 h69 => se rfl ⟨_, rfl, h69⟩
     ·intro s x e f d u
      obtain ⟨p70, h71, h72⟩ := (d 2 rfl)
      exact lp rfl rfl (X_loadAt Tryz.isAgg9 h71 h72 rfl) <| se rfl rfl
     ·exact fun s x e f d u => lp rfl rfl (xm v9 ((f 6 rfl).trans ((K58 6 rfl).trans ((K30 6 rfl).trans (K22 6 rfl))))) <| se rfl rfl
     ·exact fun s x e f d u => lp rfl rfl (xm (.int .i64 x7_11) ((f 7 rfl).trans ((K58 7 rfl).trans ((K30 7 rfl).trans h25)))) <| se rfl rfl
     ·exact fun s x e f d u => L_idx (.plain rfl) rfl (ltb rfl) rfl Tryz.underlying42 Tryz.sizeOf9 (d 4 rfl) (Ow.rd (Ow.ext o10 (((e23.t e32).t e55).t e))) (d 5 rfl) c64 <| fun p74 h75 => se rfl ⟨_, rfl, h75⟩
     ·intro s x e f d u
      obtain ⟨p76, h77, h78⟩ := (d 6 rfl)
      exact lp rfl rfl (X_loadAt Tryz.isAgg9 h77 h78 rfl) <| se rfl rfl
     ·exact fun s x e f d u => lp rfl rfl (X_slt (d 3 rfl) (d 7 rfl)) <| se rfl rfl
     ·exact fun s x e f d u => lp rfl rfl (X_assign (d 8 rfl)) <| se rfl rfl
     intro s79 w80 e81 hf82 ha83
     have K84 := Kp.ofD (kp := [(4, 5), (33, 42)]) rfl hf82
     have d85 : s79 4 = (.bool (lt8 (gt (cut 47 a0) x7_11) (gt (cut 47 a1) x7_11))) := ha83 9 rfl
     clear ha83 hf82
     refine thn_n <| W_ret <| blk_r <| thn_r <| thn_r <| blk_r <| thn_r <| thn_r <| fin_r ?_
     obtain rfl := si H
     obtain rfl := si S27
     have H := C14
     obtain rfl := si H
     exact fin1 d85 (((((e3.t e8).t e23).t e32).t e55).t e81)
    ·refine W_false (d59.trans (cb q60)) <| W_skip <| blk_n <| thn_n <| W_reg <| lp rfl rfl (xm (.int .i64 x7_11) ((K58 7 rfl).trans ((K30 7 rfl).trans h25))) <| lp rfl rfl (X_add rfl rfl) <| lp rfl rfl (xa (.int .i64 (IntKind.wrap .i64 (x7_11 + 1))) rfl) <| nx ?_
     obtain rfl := si H
     exact ⟨_, Nat.lt_succ_self _, IntKind.wrap .i64 (x7_11 + 1), (ku3 (Kp.cut (Kp.cut (ku1 (ku4 K22 rfl) rfl) K30 rfl) K58 rfl) rfl), rfl, ((e23.t e32).t e55), S27⟩
   ·refine W_false (h31.trans (cb q34)) <| W_exit <| thn_x <| thn_x <| blk_x <| thn_n ?_
    obtain rfl := si H
    obtain rfl := si S27
    exact ⟨(Kp.cut (ku1 (ku4 K22 rfl) rfl) K30 rfl), (e23.t e32), rfl⟩
 ·rintro s16 w15 ⟨K17, e18, y86⟩
  rw [y86] at C14
  have H := C14
  replace H : _ = some _ := H
  refine thn_n <| wr <| lp rfl rfl (xm v4 (K17 5 rfl)) <| lp rfl rfl (X_lenR Tryz.underlying42 rfl (Ow.rd (Ow.ext o5 (e8.t e18)))) <| lp rfl rfl (xm v9 (K17 6 rfl)) <| lp rfl rfl (X_lenR Tryz.underlying42 rfl (Ow.rd (Ow.ext o10 e18))) <| lp rfl rfl (X_lss rfl rfl) <| lp rfl rfl (X_assign rfl) <| nx <| W_ret <| fin_r ?_
  obtain rfl := si H
  exact fin1 rfl ((e3.t e8).t e18)
/-! cmp.isNaN(string) -/
theorem cmp_isNaNS.walk {w : World} {a0 : List UInt8} {r : Bool} (H : cmp_isNaNS.sh a0 = some r) :
  Calls Tryz.prog 298 #[S a0] w (Rt (RP w (.bool r))) := by
 unfold cmp_isNaNS.sh at H
 refine calls_of_W Tryz.func298 rfl (Nat.le_of_ble_eq_true rfl) Tryz.ntmps298 rfl ?_
 refine wr <| lp rfl rfl (xa (.bool false) rfl) <| nx <| wr <| lp rfl rfl (xm (S a0) rfl) <| lp rfl rfl (xm (S a0) rfl) <| lp rfl rfl (X_sne rfl rfl) <| lp rfl rfl (xa (.bool (!decide (a0 = a0))) rfl) <| nx <| W_ret <| fin_r ?_
 obtain rfl := si H
 exact fin1 rfl er
theorem cmp_isNaNS.calls {w : World} {a0 : List UInt8} :
  Calls Tryz.prog 298 #[S a0] w (Rt (RP w (.bool false))) := cmp_isNaNS.walk (cmp_isNaNS.eq a0)
/-! cmp.Compare(string) -/
theorem cmp_CompareS.calls {w : World} {a0 : List UInt8} {a1 : List UInt8} :
  Calls Tryz.prog 277 #[S a0, S a1] w (Rt (RP w (.int .i64 (cmpS a0 a1)))) := by
 have H := cmp_CompareS.eq a0 a1
 generalize (cmpS a0 a1) = r at H ⊢
 unfold cmp_CompareS.sh at H
 refine calls_of_W Tryz.func277 rfl (Nat.le_of_ble_eq_true rfl) Tryz.ntmps277 rfl ?_
 refine wr <| lp rfl rfl (xa (.int .i64 0) rfl) <| nx <| wr <| lp rfl rfl (xm (S a0) rfl) <| lc rfl rfl rfl Tryz.call298 (cmp_isNaNS.calls (w := w) (a0 := a0)) rfl <| fun w1 e2 => lp rfl rfl (xa (.bool false) rfl) <| nx <| wr <| lp rfl rfl (xm (S a1) rfl) <| lc rfl rfl rfl Tryz.call298 (cmp_isNaNS.calls (w := w1) (a0 := a1)) rfl <| fun w3 e4 => lp rfl rfl (xa (.bool false) rfl) <| nx <| W_seq <| wr <| lp rfl rfl (xm (.bool false) rfl) <| nx ?_
 rcases bif_two H with ⟨q5, H⟩ | ⟨q5, H⟩
 ·refine W_true (cb q5) <| W_seq <| wr <| lp rfl rfl (xm (.bool false) rfl) <| nx ?_
  rcases bif_two H with ⟨q6, H⟩ | ⟨q6, H⟩
  ·refine W_true (cb q6) <| wr <| lp rfl rfl (xa (.int .i64 0) rfl) <| nx <| W_ret <| thn_r <| thn_r <| fin_r ?_
   obtain rfl := si H
   exact fin1 rfl (e2.t e4)
  ·refine W_false (cb q6) <| W_skip <| thn_n <| wr <| lp rfl rfl (xa (.int .i64 (-1)) rfl) <| nx <| W_ret <| thn_r <| fin_r ?_
   obtain rfl := si H
   exact fin1 rfl (e2.t e4)
 ·refine W_false (cb q5) <| W_skip <| thn_n <| W_seq <| wr <| lp rfl rfl (xm (.bool false) rfl) <| nx ?_
  rcases bif_two H with ⟨q7, H⟩ | ⟨q7, H⟩
  ·refine W_true (cb q7) <| wr <| lp rfl rfl (xa (.int .i64 1) rfl) <| nx <| W_ret <| thn_r <| fin_r ?_
   obtain rfl := si H
   exact fin1 rfl (e2.t e4)
  ·refine W_false (cb q7) <| W_skip <| thn_n <| W_seq <| wr <| lp rfl rfl (xm (S a0) rfl) <| lp rfl rfl (xm (S a1) rfl) <| lp rfl rfl (X_slt rfl rfl) <| nx ?_
   rcases bif_two H with ⟨q8, H⟩ | ⟨q8, H⟩
   ·refine W_true (cb q8) <| wr <| lp rfl rfl (xa (.int .i64 (-1)) rfl) <| nx <| W_ret <| thn_r <| fin_r ?_
    obtain rfl := si H
    exact fin1 rfl (e2.t e4)
   ·refine W_false (cb q8) <| W_skip <| thn_n <| W_seq <| wr <| lp rfl rfl (xm (S a0) rfl) <| lp rfl rfl (xm (S a1) rfl) <| lp rfl rfl (X_sgt rfl rfl) <| nx ?_
    rcases bif_two H with ⟨q9, H⟩ | ⟨q9, H⟩
    ·refine W_true (cb q9) <| wr <| lp rfl rfl (xa (.int .i64 1) rfl) <| nx <| W_ret <| thn_r <| fin_r ?_
     obtain rfl := si H
     exact fin1 rfl (e2.t e4)
    ·refine W_false (cb q9) <| W_skip <| thn_n <| wr <| lp rfl rfl (xa (.int .i64 0) rfl) <| nx <| W_ret <| fin_r ?_
     obtain rfl := si H
     exact fin1 rfl (e2.t e4)
/-! slices.Compare(()string,string) -/
theorem slices_CompareS.calls {w : World} {a0 : List (List UInt8)} {a1 : List (List UInt8)} {v_a0 : Value} (f_a0 : Rd 1 encS w v_a0 a0) {v_a1 : Value} (f_a1 : Rd 1 encS w v_a1 a1) (h0 : a0.length ≤ 4611686018427387904) (h1 : a1.length ≤ 4611686018427387904) :
  Calls Tryz.prog 246 #[v_a0, v_a1] w (Rt (RP w (.int .i64 (cmpL a0 a1)))) := by
 obtain ⟨k, H⟩ := slices_CompareS.eq a0 a1 h0 h1
 generalize (cmpL a0 a1) = r at H ⊢
 unfold slices_CompareS.sh at H
 refine calls_of_W Tryz.func246 rfl (Nat.le_of_ble_eq_true rfl) Tryz.ntmps246 rfl ?_
 refine wr <| lp rfl rfl (xa (.int .i64 0) rfl) <| nx <| W_seq <| wr <| lp rfl rfl (xm v_a0 rfl) <| lp rfl rfl (X_lenR Tryz.underlying42 rfl f_a0) <| lp rfl rfl (xm (.int .i64 0) rfl) <| nx ?_
 obtain ⟨z2, L3, C4⟩ := bind_some H
 clear H
 refine  W_cutQ (fun s0 sQ wQ => Kp [(4, 9), (11, 31)] s0 sQ ∧ Ext w wQ ∧ z2 = .inr ()) ?_ ?_
 ·refine W_block <| W_loopI (fun s0 kk sQ wQ => ∃ (x11_1 : Int), Kp [(4, 9), (11, 31)] s0 sQ ∧ sQ 11 = .int .i64 x11_1 ∧ Ext w wQ ∧ loopF (slices_CompareS.b1 a0 a1) kk x11_1 = some z2) k ⟨0, kz, rfl, er, L3⟩ ?_
  rintro k9 s10 w11 ⟨x11_1, K12, h15, e13, L14⟩
  cases k9 with
  | zero => exact absurd L14 (by simp [loopF])
  | succ k9 =>
   obtain ⟨t16, H, S17⟩ := loopF_succ L14
   clear L14
   unfold slices_CompareS.b1 at H
   refine wr <| lp rfl rfl (X_lss h15 (K12 10 rfl)) <| nx <| W_seq ?_
   rcases bif_two H with ⟨q18, H⟩ | ⟨q18, H⟩
   ·refine W_true (cb q18) <| W_skip <| thn_n <| W_seq <| W_block <| wr <| lp rfl rfl (X_move h15) ?_
    obtain ⟨c19, H⟩ := bif_some H
    refine L_idx (.plain rfl) rfl (ltb rfl) rfl Tryz.underlying42 Tryz.sizeOf9 (K12 9 rfl) (Rd.ext f_a0 e13) h15 c19 <| fun p20 h21 => lp rfl rfl (X_loadAt Tryz.isAgg9 rfl h21 rfl) <| lp rfl rfl (xa (.int .i64 x11_1) rfl) <| lp rfl rfl (xa (S (gt a0 x11_1)) rfl) <| nx <| W_seq <| wr <| lp rfl rfl (xm (.int .i64 x11_1) rfl) <| lp rfl rfl (xm v_a1 (K12 1 rfl)) <| lp rfl rfl (X_lenR Tryz.underlying42 rfl (Rd.ext f_a1 e13)) <| lp rfl rfl (X_geq rfl rfl) <| nx ?_
    rcases bif_two H with ⟨q22, H⟩ | ⟨q22, H⟩
    ·refine W_true (cb q22) <| wr <| lp rfl rfl (xa (.int .i64 1) rfl) <| nx <| W_ret <| thn_r <| blk_r <| thn_r <| thn_r <| blk_r <| thn_r <| thn_r <| fin_r ?_
     obtain rfl := si H
     obtain rfl := si S17
     have H := C4
     obtain rfl := si H
     exact fin1 rfl e13
    ·refine W_false (cb q22) <| W_skip <| thn_n <| wr <| lp rfl rfl (xm v_a1 (K12 1 rfl)) <| lp rfl rfl (xm (.int .i64 x11_1) rfl) ?_
     obtain ⟨c23, H⟩ := bif_some H
     refine L_idx (.plain rfl) rfl (ltb rfl) rfl Tryz.underlying42 Tryz.sizeOf9 rfl (Rd.ext f_a1 e13) rfl c23 <| fun p24 h25 => lp rfl rfl (X_loadAt Tryz.isAgg9 rfl h25 rfl) <| lp rfl rfl (xa (S (gt a1 x11_1)) rfl) <| nx <| wr <| lp rfl rfl (xm (S (gt a0 x11_1)) rfl) <| lp rfl rfl (xm (S (gt a1 x11_1)) rfl) <| lc rfl rfl rfl Tryz.call277 (cmp_CompareS.calls (w := w11) (a0 := gt a0 x11_1) (a1 := gt a1 x11_1)) rfl <| fun w26 e27 => lp rfl rfl (xa (.int .i64 (cmpS (gt a0 x11_1) (gt a1 x11_1))) rfl) <| nx <| wr <| lp rfl rfl (xm (.int .i64 (cmpS (gt a0 x11_1) (gt a1 x11_1))) rfl) <| lp rfl rfl (X_neq rfl rfl) <| nx ?_
     rcases bif_two H with ⟨q28, H⟩ | ⟨q28, H⟩
     ·refine W_true (cb q28) <| wr <| lp rfl rfl (xm (.int .i64 (cmpS (gt a0 x11_1) (gt a1 x11_1))) rfl) <| lp rfl rfl (xa (.int .i64 (cmpS (gt a0 x11_1) (gt a1 x11_1))) rfl) <| nx <| W_ret <| blk_r <| thn_r <| thn_r <| blk_r <| thn_r <| thn_r <| fin_r ?_
      obtain rfl := si H
      obtain rfl := si S17
      have H := C4
      obtain rfl := si H
      exact fin1 rfl (e13.t e27)
     ·refine W_false (cb q28) <| W_skip <| blk_n <| thn_n <| W_reg <| lp rfl rfl (X_add h15 rfl) <| lp rfl rfl (xm (.int .i64 (IntKind.wrap .i64 (x11_1 + 1))) rfl) <| nx ?_
      obtain rfl := si H
      exact ⟨_, Nat.lt_succ_self _, IntKind.wrap .i64 (x11_1 + 1), (ku3 (ku4 (ku8 (ku8 K12 rfl) rfl) rfl) rfl), rfl, (e13.t e27), S17⟩
   ·refine W_false (cb q18) <| W_exit <| thn_x <| thn_x <| blk_x <| thn_n ?_
    obtain rfl := si H
    obtain rfl := si S17
    exact ⟨(ku1 K12 rfl), e13, rfl⟩
 ·rintro s6 w5 ⟨K7, e8, y29⟩
  rw [y29] at C4
  have H := C4
  replace H : _ = some _ := H
  refine thn_n <| W_seq <| wr <| lp rfl rfl (xm v_a0 (K7 0 rfl)) <| lp rfl rfl (X_lenR Tryz.underlying42 rfl (Rd.ext f_a0 e8)) <| lp rfl rfl (xm v_a1 (K7 1 rfl)) <| lp rfl rfl (X_lenR Tryz.underlying42 rfl (Rd.ext f_a1 e8)) <| lp rfl rfl (X_lss rfl rfl) <| nx ?_
  rcases bif_two H with ⟨q30, H⟩ | ⟨q30, H⟩
  ·refine W_true (cb q30) <| wr <| lp rfl rfl (xa (.int .i64 (-1)) rfl) <| nx <| W_ret <| thn_r <| fin_r ?_
   obtain rfl := si H
   exact fin1 rfl e8
  ·refine W_false (cb q30) <| W_skip <| thn_n <| wr <| lp rfl rfl (xa (.int .i64 0) rfl) <| nx <| W_ret <| fin_r ?_
   obtain rfl := si H
   exact fin1 rfl e8
/-! impl.compare -/
theorem impl_compare.calls {w : World} {a0 : List UInt8} {a1 : List UInt8} (gv : GV 0 w) (h0 : a0.length ≤ 1048576) (h1 : a1.length ≤ 1048576) :
  Calls Tryz.prog 181 #[S a0, S a1] w (Rt (RP w (.int .i64 (cmpL (cut 47 a0) (cut 47 a1))))) := by
 have H := impl_compare.eq a0 a1 h0 h1
 generalize (cmpL (cut 47 a0) (cut 47 a1)) = r at H ⊢
 unfold impl_compare.sh at H
 refine calls_of_W Tryz.func181 rfl (Nat.le_of_ble_eq_true rfl) Tryz.ntmps181 rfl ?_
 refine wr <| lp rfl rfl (xa (.int .i64 0) rfl) <| nx <| wr <| lp rfl rfl (xm (S a0) rfl) ?_
 obtain ⟨c1, H⟩ := bif_some H
 refine L_callO (.plain rfl) rfl (ltb rfl) rfl Tryz.call212 (impl_parts.calls (w := w) (a0 := a0) gv (od c1)) rfl <| fun v4 w2 e3 o5 => lp rfl rfl (xm (S a1) rfl) ?_
 obtain ⟨c6, H⟩ := bif_some H
 refine L_callO (.plain rfl) rfl (ltb rfl) rfl Tryz.call212 (impl_parts.calls (w := w2) (a0 := a1) (GV.ext gv e3) (od c6)) rfl <| fun v9 w7 e8 o10 => ?_
 obtain ⟨c11, H⟩ := bif_some H
 obtain ⟨c12, H⟩ := bif_some H
 refine lc rfl rfl rfl Tryz.call246 (slices_CompareS.calls (w := w7) (a0 := (cut 47 a0)) (a1 := (cut 47 a1)) (Ow.rd (Ow.ext o5 e8)) (Ow.rd o10) (od c11) (od c12)) rfl <| fun w13 e14 => lp rfl rfl (xa (.int .i64 (cmpL (cut 47 a0) (cut 47 a1))) rfl) <| nx <| W_ret <| fin_r ?_
 obtain rfl := si H
 exact fin1 rfl ((e3.t e8).t e14)
/-! impl.PathLess -/
theorem impl_PathLess.calls {w : World} {a0 : List UInt8} {a1 : List UInt8} (gv : GV 0 w) :
  Calls Tryz.prog 81 #[S a0, S a1] w (Rt (RP w (.bool (pathLess a0 a1)))) := by
 have H := impl_PathLess.eq a0 a1
 generalize (pathLess a0 a1) = r at H ⊢
 unfold impl_PathLess.sh at H
 refine calls_of_W Tryz.func81 rfl (Nat.le_of_ble_eq_true rfl) Tryz.ntmps81 rfl ?_
 refine wr <| lp rfl rfl (xa (.bool false) rfl) <| nx <| wr <| lp rfl rfl (xm (S a0) rfl) <| lc rfl rfl rfl Tryz.call150 (impl_PathOK.calls (w := w) (a0 := a0) gv) rfl <| fun w1 e2 => lp rfl rfl (xm (.bool (pathOK a0)) rfl) <| L_grp 3 [(8, 11)] 10 (.bool ((pathOK a0) && (pathOK a1))) ?_ ?_
 ·rcases bool_two (pathOK a0) with b2_ | b2_
  ·exact lg rfl rfl rfl rfl (cb b2_) (xm (S a1) rfl) <| L_callP (tg rfl rfl rfl (cb b2_)) rfl (ltb rfl) rfl Tryz.call150 (impl_PathOK.calls (w := w1) (a0 := a1) (GV.ext gv e2)) rfl <| fun w4 e5 => lp rfl rfl (X_pick (b := true) (v := (.bool (pathOK a1))) (cb b2_) rfl) <| nx ⟨(ku3 kz rfl), (and_t b2_), e5⟩
  ·exact ls rfl rfl rfl (cb b2_) rfl <| ls rfl rfl rfl (cb b2_) rfl <| lp rfl rfl (X_pick (b := false) (v := (.bool false)) (cb b2_) rfl) <| nx ⟨(ku3 kz rfl), (and_f b2_), er⟩
 intro s8 w4 K5 h6 e7
 refine lp rfl rfl (X_move h6) ?_
 obtain ⟨z10, x11, H⟩ := bind_some H
 refine L_grpE 5 [(12, 17)] 16 (fun q => q = z10) ?_ ?_
 ·rcases bif_two x11 with ⟨b8_, H⟩ | ⟨b8_, H⟩
  ·refine lg rfl rfl rfl rfl (cb b8_) (xm (S a0) (K5 0 rfl)) <| lg rfl rfl rfl rfl (cb b8_) (xm (S a1) (K5 1 rfl)) ?_
   obtain ⟨c10, H⟩ := bif_some H
   obtain ⟨c11, H⟩ := bif_some H
   refine L_callP (tg rfl rfl rfl (cb b8_)) rfl (ltb rfl) rfl Tryz.call181 (impl_compare.calls (w := w4) (a0 := a0) (a1 := a1) (GV.ext gv (e2.t e7)) (od c10) (od c11)) rfl <| fun w12 e13 => lg rfl rfl rfl rfl (cb b8_) (X_lss rfl rfl) <| lp rfl rfl (X_pick (b := true) (v := (.bool (decide ((cmpL (cut 47 a0) (cut 47 a1)) < 0)))) (cb b8_) rfl) ?_
   obtain rfl := si H
   exact nx ⟨(ku1 (ku4 kz rfl) rfl), ⟨_, rfl, rfl⟩, e13⟩
  ·refine ls rfl rfl rfl (cb b8_) rfl <| ls rfl rfl rfl (cb b8_) rfl <| ls rfl rfl rfl (cb b8_) rfl <| ls rfl rfl rfl (cb b8_) rfl <| lp rfl rfl (X_pick (b := false) (v := (.bool false)) (cb b8_) rfl) ?_
   obtain rfl := si H
   exact nx ⟨(ku1 (ku4 kz rfl) rfl), ⟨_, rfl, rfl⟩, er⟩
 intro s16 w12 z17 K13 hq h14 e15
 rw [hq] at h14; clear hq
 refine lp rfl rfl (X_assign h14) <| nx <| W_ret <| fin_r ?_
 obtain rfl := si H
 exact fin1 rfl ((e2.t e7).t e15)
/-! spec.l01Ask -/
theorem spec_l01Ask.calls {w : World} {a0 : List UInt8} :
  Calls Tryz.prog 164 #[S a0] w (Rt (RP w (.int .i64 (askP a0)))) := by
 have H := spec_l01Ask.eq a0
 generalize (askP a0) = r at H ⊢
 unfold spec_l01Ask.sh at H
 refine calls_of_W Tryz.func164 rfl (Nat.le_of_ble_eq_true rfl) Tryz.ntmps164 rfl ?_
 refine wr <| lp rfl rfl (xa (.int .i64 0) rfl) <| nx <| W_seq <| wr <| lp rfl rfl (xm (S a0) rfl) <| lp rfl rfl (X_lenS Tryz.underlying9 rfl) <| lp rfl rfl (X_gtr rfl rfl) <| nx ?_
 rcases bif_two H with ⟨q1, H⟩ | ⟨q1, H⟩
 ·refine W_true (cb q1) <| wr <| lp rfl rfl (xa (.int .i64 2) rfl) <| nx <| W_ret <| thn_r <| fin_r ?_
  obtain rfl := si H
  exact fin1 rfl er
 ·refine W_false (cb q1) <| W_skip <| thn_n <| W_seq <| wr <| lp rfl rfl (xm (S a0) rfl) <| lc rfl rfl rfl Tryz.call146 (spec_l01OK.calls (w := w) (a0 := a0)) rfl <| fun w2 e3 => lp rfl rfl (X_not rfl) <| nx ?_
  rcases bif_two H with ⟨q4, H⟩ | ⟨q4, H⟩
  ·refine W_true (cb q4) <| wr <| lp rfl rfl (xa (.int .i64 10) rfl) <| nx <| W_ret <| thn_r <| fin_r ?_
   obtain rfl := si H
   exact fin1 rfl e3
  ·refine W_false (cb q4) <| W_skip <| thn_n <| wr <| lp rfl rfl (xa (.int .i64 0) rfl) <| nx <| W_ret <| fin_r ?_
   obtain rfl := si H
   exact fin1 rfl e3
/-! spec.l01Parent -/
theorem spec_l01Parent.calls {w : World} {a0 : List UInt8} (h0 : a0.length ≤ 4611686018427387904) :
  Calls Tryz.prog 161 #[S a0] w (Rt (RP w (S (parentP a0)))) := by
 obtain ⟨k, H⟩ := spec_l01Parent.eq a0 h0
 generalize (parentP a0) = r at H ⊢
 unfold spec_l01Parent.sh at H
 refine calls_of_W Tryz.func161 rfl (Nat.le_of_ble_eq_true rfl) Tryz.ntmps161 rfl ?_
 refine wr <| lp rfl rfl (xa (S ([] : List UInt8)) rfl) <| nx <| W_seq <| wr <| lp rfl rfl (xm (S a0) rfl) <| lp rfl rfl (X_lenS Tryz.underlying9 rfl) <| lp rfl rfl (X_sub rfl rfl) <| lp rfl rfl (xa (.int .i64 (IntKind.wrap .i64 ((a0.length : Int) - 1))) rfl) <| nx ?_
 obtain ⟨z2, L3, C4⟩ := bind_some H
 clear H
 refine  W_cutQ (fun s0 sQ wQ => Kp [(2, 4), (7, 18)] s0 sQ ∧ Ext w wQ ∧ z2 = .inr ()) ?_ ?_
 ·refine W_block <| W_loopI (fun s0 kk sQ wQ => ∃ (x3_1 : Int), Kp [(2, 4), (7, 18)] s0 sQ ∧ sQ 3 = .int .i64 x3_1 ∧ Ext w wQ ∧ loopF (spec_l01Parent.b1 a0) kk x3_1 = some z2) k ⟨IntKind.wrap .i64 ((a0.length : Int) - 1), kz, rfl, er, L3⟩ ?_
  rintro k9 s10 w11 ⟨x3_1, K12, h15, e13, L14⟩
  cases k9 with
  | zero => exact absurd L14 (by simp [loopF])
  | succ k9 =>
   obtain ⟨t16, H, S17⟩ := loopF_succ L14
   clear L14
   unfold spec_l01Parent.b1 at H
   refine W_seq <| wr <| lp rfl rfl (X_move h15) <| lp rfl rfl (X_geq rfl rfl) <| nx ?_
   rcases bif_two H with ⟨q18, H⟩ | ⟨q18, H⟩
   ·refine W_true (cb q18) <| W_skip <| thn_n <| W_seq <| W_block <| wr <| lp rfl rfl (xm (S a0) (K12 0 rfl)) <| lp rfl rfl (X_move h15) ?_
    obtain ⟨c19, H⟩ := bif_some H
    refine lp rfl rfl (X_indexS Tryz.underlying9 rfl rfl (inR_lo c19) (inR_hi c19)) <| lp rfl rfl (X_eql rfl rfl) <| nx ?_
    rcases bif_two H with ⟨q20, H⟩ | ⟨q20, H⟩
    ·refine W_true (cb q20) <| wr <| lp rfl rfl (xm (S a0) (K12 0 rfl)) <| lp rfl rfl (X_move h15) ?_
     obtain ⟨c21, H⟩ := bif_some H
     refine lp rfl rfl (X_sliceS Tryz.underlying9 rfl (l := 0) (h := x3_1) rfl ⟨_, rfl⟩ (inS_1 c21) (inS_2 c21) (inS_3 c21)) <| lp rfl rfl (xa (S (sub a0 0 x3_1)) rfl) <| nx <| W_ret <| blk_r <| thn_r <| thn_r <| blk_r <| thn_r <| thn_r <| fin_r ?_
     obtain rfl := si H
     obtain rfl := si S17
     have H := C4
     obtain rfl := si H
     exact fin1 rfl e13
    ·refine W_false (cb q20) <| W_skip <| blk_n <| thn_n <| W_reg <| lp rfl rfl (X_move h15) <| lp rfl rfl (X_sub rfl rfl) <| lp rfl rfl (xa (.int .i64 (IntKind.wrap .i64 (x3_1 - 1))) rfl) <| nx ?_
     obtain rfl := si H
     exact ⟨_, Nat.lt_succ_self _, IntKind.wrap .i64 (x3_1 - 1), (ku1 (ku8 K12 rfl) rfl), rfl, e13, S17⟩
   ·refine W_false (cb q18) <| W_exit <| thn_x <| thn_x <| blk_x <| thn_n ?_
    obtain rfl := si H
    obtain rfl := si S17
    exact ⟨(ku2 K12 rfl), e13, rfl⟩
 ·rintro s6 w5 ⟨K7, e8, y22⟩
  rw [y22] at C4
  have H := C4
  replace H : _ = some _ := H
  refine thn_n <| wr <| lp rfl rfl (xa (S ([] : List UInt8)) rfl) <| nx <| W_ret <| fin_r ?_
  obtain rfl := si H
  exact fin1 rfl e8
/-! spec.ParentOf -/
theorem spec_ParentOf.walk {w : World} {a0 : List UInt8} {r : List UInt8 × Int} (H : spec_ParentOf.sh a0 = some r) :
  Calls Tryz.prog 61 #[S a0] w (Rt (RP w (.tuple #[S r.1, .int .i64 r.2]))) := by
 unfold spec_ParentOf.sh at H
 refine calls_of_W Tryz.func61 rfl (Nat.le_of_ble_eq_true rfl) Tryz.ntmps61 rfl ?_
 refine wr <| lp rfl rfl (xa (S ([] : List UInt8)) rfl) <| lp rfl rfl (xa (.int .i64 0) rfl) <| nx <| W_seq <| wr <| lp rfl rfl (xm (S a0) rfl) <| lp rfl rfl (X_lenS Tryz.underlying9 rfl) <| lp rfl rfl (X_gtr rfl rfl) <| nx ?_
 rcases bif_two H with ⟨q1, H⟩ | ⟨q1, H⟩
 ·refine W_true (cb q1) <| wr <| lp rfl rfl (xa (S ([] : List UInt8)) rfl) <| lp rfl rfl (xa (.int .i64 2) rfl) <| nx <| W_ret <| thn_r <| fin_r ?_
  obtain rfl := si H
  exact fin2 rfl rfl er
 ·refine W_false (cb q1) <| W_skip <| thn_n <| W_seq <| wr <| lp rfl rfl (xm (S a0) rfl) <| lc rfl rfl rfl Tryz.call164 (spec_l01Ask.calls (w := w) (a0 := a0)) rfl <| fun w2 e3 => lp rfl rfl (xa (.int .i64 (askP a0)) rfl) <| nx <| wr <| lp rfl rfl (xm (.int .i64 (askP a0)) rfl) <| lp rfl rfl (X_neq rfl rfl) <| nx ?_
  rcases bif_two H with ⟨q4, H⟩ | ⟨q4, H⟩
  ·refine W_true (cb q4) <| wr <| lp rfl rfl (xm (.int .i64 (askP a0)) rfl) <| lp rfl rfl (xa (S ([] : List UInt8)) rfl) <| lp rfl rfl (xa (.int .i64 (askP a0)) rfl) <| nx <| W_ret <| thn_r <| fin_r ?_
   obtain rfl := si H
   exact fin2 rfl rfl e3
  ·refine W_false (cb q4) <| W_skip <| thn_n <| wr <| lp rfl rfl (xm (S a0) rfl) ?_
   obtain ⟨c5, H⟩ := bif_some H
   refine lc rfl rfl rfl Tryz.call161 (spec_l01Parent.calls (w := w2) (a0 := a0) (od c5)) rfl <| fun w6 e7 => lp rfl rfl (xa (S (parentP a0)) rfl) <| lp rfl rfl (xa (.int .i64 0) rfl) <| nx <| W_ret <| fin_r ?_
   obtain rfl := si H
   exact fin2 rfl rfl (e3.t e7)
theorem spec_ParentOf.calls {w : World} {a0 : List UInt8} :
  Calls Tryz.prog 61 #[S a0] w (Rt (RP w (.tuple #[S ((parentOf a0).1), .int .i64 ((parentOf a0).2)]))) := spec_ParentOf.walk (spec_ParentOf.eq a0)
/-! impl.parent -/
theorem impl_parent.calls {w : World} {a0 : List UInt8} (h0 : a0.length ≤ 1048576) :
  Calls Tryz.prog 143 #[S a0] w (Rt (RP w (S (parentP a0)))) := by
 have H := impl_parent.eq a0 h0
 generalize (parentP a0) = r at H ⊢
 unfold impl_parent.sh at H
 refine calls_of_W Tryz.func143 rfl (Nat.le_of_ble_eq_true rfl) Tryz.ntmps143 rfl ?_
 refine wr <| lp rfl rfl (xa (S ([] : List UInt8)) rfl) <| nx <| wr <| lp rfl rfl (xm (S a0) rfl) <| lp rfl rfl (xm (S a0) rfl) ?_
 obtain ⟨c1, H⟩ := bif_some H
 obtain ⟨c2, H⟩ := bif_some H
 refine lc rfl rfl rfl Tryz.call226 (strings_LastIndex.calls (w := w) (a0 := a0) (a1 := ([47] : List UInt8)) (od c1) (od c2)) rfl <| fun w3 e4 => lp rfl rfl (X_max rfl rfl) ?_
 obtain ⟨c5, H⟩ := bif_some H
 refine lp rfl rfl (X_sliceS Tryz.underlying9 rfl (l := 0) (h := (if ((lastSlash a0) < 0 : Prop) then 0 else (lastSlash a0))) rfl ⟨_, rfl⟩ (inS_1 c5) (inS_2 c5) (inS_3 c5)) <| lp rfl rfl (X_assign rfl) <| nx <| W_ret <| fin_r ?_
 obtain rfl := si H
 exact fin1 rfl e4
/-! spec.l03At -/
theorem spec_l03At.calls {w : World} {a0 : List Rec} {a1 : List UInt8} {v_a0 : Value} (f_a0 : Rd 5 encRec w v_a0 a0) (h0 : a0.length ≤ 1048576) :
  Calls Tryz.prog 145 #[v_a0, S a1] w (Rt (RP w (.int .i64 (findR a0 a1)))) := by
 obtain ⟨k, H⟩ := spec_l03At.eq a0 a1 h0
 generalize (findR a0 a1) = r at H ⊢
 unfold spec_l03At.sh at H
 refine calls_of_W Tryz.func145 rfl (Nat.le_of_ble_eq_true rfl) Tryz.ntmps145 rfl ?_
 refine wr <| lp rfl rfl (xa (.int .i64 0) rfl) <| nx <| W_seq <| wr <| lp rfl rfl (xa (.int .i64 0) rfl) <| nx ?_
 obtain ⟨z2, L3, C4⟩ := bind_some H
 clear H
 refine  W_cutQ (fun s0 sQ wQ => Kp [(4, 20)] s0 sQ ∧ Ext w wQ ∧ z2 = .inr ()) ?_ ?_
 ·refine W_block <| W_loopI (fun s0 kk sQ wQ => ∃ (x5_1 : Int), Kp [(4, 20)] s0 sQ ∧ sQ 5 = .int .i64 x5_1 ∧ Ext w wQ ∧ loopF (spec_l03At.b1 a0 a1) kk x5_1 = some z2) k ⟨0, kz, rfl, er, L3⟩ ?_
  rintro k9 s10 w11 ⟨x5_1, K12, h15, e13, L14⟩
  cases k9 with
  | zero => exact absurd L14 (by simp [loopF])
  | succ k9 =>
   obtain ⟨t16, H, S17⟩ := loopF_succ L14
   clear L14
   unfold spec_l03At.b1 at H
   refine W_seq <| wr <| lp rfl rfl (X_move h15) <| lp rfl rfl (xm v_a0 (K12 0 rfl)) <| lp rfl rfl (X_lenR Tryz.underlying35 rfl (Rd.ext f_a0 e13)) <| lp rfl rfl (X_lss rfl rfl) <| nx ?_
   rcases bif_two H with ⟨q18, H⟩ | ⟨q18, H⟩
   ·refine W_true (cb q18) <| W_skip <| thn_n <| W_seq <| W_block <| wr <| lp rfl rfl (xm v_a0 (K12 0 rfl)) <| lp rfl rfl (X_move h15) ?_
    obtain ⟨c19, H⟩ := bif_some H
    refine L_idx (.plain rfl) rfl (ltb rfl) rfl Tryz.underlying35 Tryz.sizeOf58 rfl (Rd.ext f_a0 e13) rfl c19 <| fun p20 h21 => lp rfl rfl (X_fieldAddr Tryz.underlying58 rfl Tryz.sizeOf9 rfl rfl) <| lp rfl rfl (X_loadF Tryz.isAgg9 (j := 1) h21 rfl rfl) <| lp rfl rfl (xm (S a1) (K12 1 rfl)) <| lp rfl rfl (X_seq rfl rfl) <| nx ?_
    rcases bif_two H with ⟨q22, H⟩ | ⟨q22, H⟩
    ·refine W_true (cb q22) <| wr <| lp rfl rfl (X_move h15) <| lp rfl rfl (xa (.int .i64 x5_1) rfl) <| nx <| W_ret <| blk_r <| thn_r <| thn_r <| blk_r <| thn_r <| thn_r <| fin_r ?_
     obtain rfl := si H
     obtain rfl := si S17
     have H := C4
     obtain rfl := si H
     exact fin1 rfl e13
    ·refine W_false (cb q22) <| W_skip <| blk_n <| thn_n <| W_reg <| lp rfl rfl (X_move h15) <| lp rfl rfl (X_add rfl rfl) <| lp rfl rfl (xa (.int .i64 (IntKind.wrap .i64 (x5_1 + 1))) rfl) <| nx ?_
     obtain rfl := si H
     exact ⟨_, Nat.lt_succ_self _, IntKind.wrap .i64 (x5_1 + 1), (ku2 (ku4 (ku8 K12 rfl) rfl) rfl), rfl, e13, S17⟩
   ·refine W_false (cb q18) <| W_exit <| thn_x <| thn_x <| blk_x <| thn_n ?_
    obtain rfl := si H
    obtain rfl := si S17
    exact ⟨(ku4 K12 rfl), e13, rfl⟩
 ·rintro s6 w5 ⟨K7, e8, y23⟩
  rw [y23] at C4
  have H := C4
  replace H : _ = some _ := H
  refine thn_n <| wr <| lp rfl rfl (xa (.int .i64 (-1)) rfl) <| nx <| W_ret <| fin_r ?_
  obtain rfl := si H
  exact fin1 rfl e8
/-! impl.isLongList(impl.Record) -/
theorem impl_isLongListR.calls {w : World} {a0 : List Rec} {v_a0 : Value} (f_a0 : Rd 5 encRec w v_a0 a0) :
  Calls Tryz.prog 126 #[v_a0] w (Rt (RP w (.bool (decide (4096 < a0.length))))) := by
 have H := impl_isLongListR.eq a0
 generalize (decide (4096 < a0.length)) = r at H ⊢
 unfold impl_isLongListR.sh at H
 refine calls_of_W Tryz.func126 rfl (Nat.le_of_ble_eq_true rfl) Tryz.ntmps126 rfl ?_
 refine wr <| lp rfl rfl (xa (.bool false) rfl) <| nx <| wr <| lp rfl rfl (xm v_a0 rfl) <| lp rfl rfl (X_lenR Tryz.underlying35 rfl f_a0) <| lp rfl rfl (X_gtr rfl rfl) <| lp rfl rfl (xa (.bool (decide (4096 < (a0.length : Int)))) rfl) <| nx <| W_ret <| fin_r ?_
 obtain rfl := si H
 exact fin1 rfl er
/-! impl.find$1 -/
theorem impl_find_1.calls {w : World} {a0 : Rec} {a1 : List UInt8} {b_a1 : Nat} (k_a1 : Blk w b_a1 #[(S a1)] 9) :
  Calls Tryz.prog 216 #[.agg (encRec a0).toArray, .pointer (some ⟨b_a1, 0, none⟩)] w (Rt (RP w (.bool (decide (a0.path = a1))))) := by
 have H := impl_find_1.eq a0 a1
 generalize (decide (a0.path = a1)) = r at H ⊢
 unfold impl_find_1.sh at H
 refine calls_of_W Tryz.func216 rfl (Nat.le_of_ble_eq_true rfl) Tryz.ntmps216 rfl ?_
 refine wr <| L_box (.plain rfl) rfl (ltb rfl) rfl rfl <| fun b1 w2 z3 z4 e5 k6 => lp rfl rfl (xa (.bool false) rfl) <| nx <| wr <| lp rfl rfl (X_fieldAddr Tryz.underlying58 rfl Tryz.sizeOf9 rfl rfl) <| lp rfl rfl (X_loadB Tryz.isAgg9 k6 rfl rfl) <| lp rfl rfl (X_loadB Tryz.isAgg9 (Blk.ext k_a1 e5) rfl rfl) <| lp rfl rfl (X_seq rfl rfl) <| lp rfl rfl (xa (.bool (decide (a0.path = a1))) rfl) <| nx <| W_ret <| fin_r ?_
 obtain rfl := si H
 exact fin1 rfl e5
/-! slices.IndexFunc(()impl.Record,impl.Record) -/
theorem slices_IndexFuncR.walk {k : Nat} {w : World} {a0 : List Rec} {a1 : Rec → Option Bool} {v_a0 : Value} (f_a0 : Rd 5 encRec w v_a0 a0) {v_a1 : Value} (f_a1 : ∀ (x0 : Rec) (r : Bool), a1 x0 = some r → FnAt Tryz.prog w v_a1 [(.agg (encRec x0).toArray)] (.bool r)) (g_a1 : v_a1.cells = #[v_a1]) {r : Int} (H : slices_IndexFuncR.sh k a0 a1 = some r) :
  Calls Tryz.prog 215 #[v_a0, v_a1] w (Rt (RP w (.int .i64 r))) := by
 unfold slices_IndexFuncR.sh at H
 refine calls_of_W Tryz.func215 rfl (Nat.le_of_ble_eq_true rfl) Tryz.ntmps215 rfl ?_
 refine wr <| lp rfl rfl (xa (.int .i64 0) rfl) <| nx <| W_seq <| wr <| lp rfl rfl (xm v_a0 rfl) <| lp rfl rfl (X_lenR Tryz.underlying35 rfl f_a0) <| lp rfl rfl (xm (.int .i64 0) rfl) <| nx ?_
 obtain ⟨z2, L3, C4⟩ := bind_some H
 clear H
 refine  W_cutQ (fun s0 sQ wQ => Kp [(4, 6), (8, 19)] s0 sQ ∧ Ext w wQ ∧ z2 = .inr ()) ?_ ?_
 ·refine W_block <| W_loopI (fun s0 kk sQ wQ => ∃ (x8_1 : Int), Kp [(4, 6), (8, 19)] s0 sQ ∧ sQ 8 = .int .i64 x8_1 ∧ Ext w wQ ∧ loopF (slices_IndexFuncR.b1 a0 a1) kk x8_1 = some z2) k ⟨0, kz, rfl, er, L3⟩ ?_
  rintro k9 s10 w11 ⟨x8_1, K12, h15, e13, L14⟩
  cases k9 with
  | zero => exact absurd L14 (by simp [loopF])
  | succ k9 =>
   obtain ⟨t16, H, S17⟩ := loopF_succ L14
   clear L14
   unfold slices_IndexFuncR.b1 at H
   refine wr <| lp rfl rfl (X_lss h15 (K12 7 rfl)) <| nx <| W_seq ?_
   rcases bif_two H with ⟨q18, H⟩ | ⟨q18, H⟩
   ·refine W_true (cb q18) <| W_skip <| thn_n <| W_seq <| W_block <| wr <| lp rfl rfl (X_move h15) <| lp rfl rfl (xa (.int .i64 x8_1) rfl) <| nx <| wr <| lp rfl rfl (xm v_a1 (K12 1 rfl)) <| lp rfl rfl (xm v_a0 (K12 0 rfl)) <| lp rfl rfl (xm (.int .i64 x8_1) rfl) ?_
    obtain ⟨c19, H⟩ := bif_some H
    refine L_idx (.plain rfl) rfl (ltb rfl) rfl Tryz.underlying35 Tryz.sizeOf58 rfl (Rd.ext f_a0 e13) rfl c19 <| fun p20 h21 => lp rfl rfl (X_loadS Tryz.isAgg58 Tryz.sizeOf58 rfl rfl h21) ?_
    obtain ⟨z22, x23, H⟩ := bind_some H
    refine L_callF (.plain rfl) rfl (ltb rfl) rfl rfl (FnAt.ext (f_a1 _ _ x23) e13) rfl <| fun w24 e25 => nx ?_
    rcases bif_two H with ⟨q26, H⟩ | ⟨q26, H⟩
    ·refine W_true (cb q26) <| wr <| lp rfl rfl (xm (.int .i64 x8_1) rfl) <| lp rfl rfl (xa (.int .i64 x8_1) rfl) <| nx <| W_ret <| blk_r <| thn_r <| thn_r <| blk_r <| thn_r <| thn_r <| fin_r ?_
     obtain rfl := si H
     obtain rfl := si S17
     have H := C4
     obtain rfl := si H
     exact fin1 rfl (e13.t e25)
    ·refine W_false (cb q26) <| W_skip <| blk_n <| thn_n <| W_reg <| lp rfl rfl (X_add h15 rfl) <| lp rfl rfl (xm (.int .i64 (IntKind.wrap .i64 (x8_1 + 1))) rfl) <| nx ?_
     obtain rfl := si H
     exact ⟨_, Nat.lt_succ_self _, IntKind.wrap .i64 (x8_1 + 1), (ku3 (ku8 K12 rfl) rfl), rfl, (e13.t e25), S17⟩
   ·refine W_false (cb q18) <| W_exit <| thn_x <| thn_x <| blk_x <| thn_n ?_
    obtain rfl := si H
    obtain rfl := si S17
    exact ⟨(ku1 K12 rfl), e13, rfl⟩
 ·rintro s6 w5 ⟨K7, e8, y27⟩
  rw [y27] at C4
  have H := C4
  replace H : _ = some _ := H
  refine thn_n <| wr <| lp rfl rfl (xa (.int .i64 (-1)) rfl) <| nx <| W_ret <| fin_r ?_
  obtain rfl := si H
  exact fin1 rfl e8
theorem slices_IndexFuncR.calls {w : World} {a0 : List Rec} {a1 : Rec → Option Bool} {r : Int} {v_a0 : Value} (f_a0 : Rd 5 encRec w v_a0 a0) {v_a1 : Value} (f_a1 : ∀ (x0 : Rec) (r : Bool), a1 x0 = some r → FnAt Tryz.prog w v_a1 [(.agg (encRec x0).toArray)] (.bool r)) (g_a1 : v_a1.cells = #[v_a1]) (h0 : a0.length ≤ 4611686018427387904) (H : (idxO a1 a0) = some r) :
  Calls Tryz.prog 215 #[v_a0, v_a1] w (Rt (RP w (.int .i64 r))) := by
 obtain ⟨k, h⟩ := slices_IndexFuncR.eq a0 a1 h0 H
 exact slices_IndexFuncR.walk f_a0 f_a1 g_a1 h
/-! impl.find -/
theorem impl_find.calls {w : World} {a0 : List Rec} {a1 : List UInt8} {v_a0 : Value} (f_a0 : Rd 5 encRec w v_a0 a0) (h0 : a0.length ≤ 1048576) :
  Calls Tryz.prog 135 #[v_a0, S a1] w (Rt (RP w (.int .i64 (findR a0 a1)))) := by
 have H := impl_find.eq a0 a1 h0
 generalize (findR a0 a1) = r at H ⊢
 unfold impl_find.sh at H
 refine calls_of_W Tryz.func135 rfl (Nat.le_of_ble_eq_true rfl) Tryz.ntmps135 rfl ?_
 refine wr <| L_box (.plain rfl) rfl (ltb rfl) rfl rfl <| fun b1 w2 z3 z4 e5 k6 => lp rfl rfl (xa (.int .i64 0) rfl) <| nx <| wr <| lp rfl rfl (xm v_a0 rfl) <| lp rfl rfl (X_makeFunc (vs := #[]) (us := #[.pointer (some ⟨b1, 0, none⟩)]) rfl rfl) ?_
 obtain ⟨c11, H⟩ := bif_some H
 obtain ⟨z12, x13, H⟩ := bind_some H
 refine lc rfl rfl rfl Tryz.call215 (slices_IndexFuncR.calls (w := w2) (a0 := a0) (a1 := (fun (x0_ : Rec) => some (decide (x0_.path = a1)))) (Rd.ext f_a0 e5) (fun x0_ r h => by have h := si h; subst h; exact FnAt.mk Tryz.call216 (by rfl) fun w9 k10 => impl_find_1.calls (w := w9) (a0 := x0_) (a1 := a1) (Blk.ext k6 k10)) rfl (od c11) x13) rfl <| fun w14 e15 => lp rfl rfl (xa (.int .i64 z12) rfl) <| nx <| W_ret <| fin_r ?_
 obtain rfl := si H
 exact fin1 rfl (e5.t e15)
/-! impl.faultAt -/
abbrev impl_faultAt.e1 (a0 : List Rec) (a1 : Int) (x6_19 : Int) := ([.inl (!(decide (recFault (gt a0 a1) = 0))), .inr (recFault (gt a0 a1)), .inl ((decide (0 < a1)) && (decide (((gt a0 (if ((IntKind.wrap .i64 (a1 - 1)) < 0 : Prop) then 0 else (IntKind.wrap .i64 (a1 - 1)))).path) = ((gt a0 a1).path)))), .inr 18, .inl ((decide (0 < a1)) && (!(pathLess ((gt a0 (if ((IntKind.wrap .i64 (a1 - 1)) < 0 : Prop) then 0 else (IntKind.wrap .i64 (a1 - 1)))).path) ((gt a0 a1).path)))), .inr 11, .inl (decide (x6_19 < 0)), .inr 12, .inl ((!decide ((parentP ((gt a0 a1).path)) = ([] : List UInt8))) && (!decide (((gt a0 (if (x6_19 < 0 : Prop) then 0 else x6_19)).kind) = 3))), .inr 13] : List (Bool ⊕ Int))
abbrev impl_faultAt.e2 (a1 : Int) := (if ((IntKind.wrap .i64 (a1 - 1)) < 0 : Prop) then 0 else (IntKind.wrap .i64 (a1 - 1)))
abbrev impl_faultAt.e3 (a0 : List Rec) (a1 : Int) := (!decide ((parentP ((gt a0 a1).path)) = ([] : List UInt8)))
abbrev impl_faultAt.e4 (a0 : List Rec) (a1 : Int) (x6_19 : Int) := ([.inl (decide (16 ≤ a1)), .inr 6, .inl true, .inr (firstOf (impl_faultAt.e1 a0 a1 x6_19))] : List (Bool ⊕ Int))
theorem impl_faultAt.walk {w : World} {a0 : List Rec} {a1 : Int} (gv : GV 0 w) {v_a0 : Value} (f_a0 : Rd 5 encRec w v_a0 a0) {r : Int} (H : impl_faultAt.sh a0 a1 = some r) :
  Calls Tryz.prog 228 #[v_a0, .int .i64 a1] w (Rt (RP w (.int .i64 r))) := by
 unfold impl_faultAt.sh at H
 refine calls_of_W Tryz.func228 rfl (Nat.le_of_ble_eq_true rfl) Tryz.ntmps228 rfl ?_
 refine wr <| lp rfl rfl (xa (.int .i64 0) rfl) <| nx <| wr <| lp rfl rfl (xm v_a0 rfl) <| lp rfl rfl (xm (.int .i64 a1) rfl) ?_
 obtain ⟨c1, H⟩ := bif_some H
 refine L_idx (.plain rfl) rfl (ltb rfl) rfl Tryz.underlying35 Tryz.sizeOf58 rfl f_a0 rfl c1 <| fun p2 h3 => lp rfl rfl (X_loadS Tryz.isAgg58 Tryz.sizeOf58 rfl rfl h3) <| L_alloc (.plain rfl) rfl (ltb rfl) rfl Tryz.zeroValue58 <| fun b4 w5 z6 z7 e8 k9 => L_storeA (.plain rfl) rfl rfl Tryz.sizeOf58 rfl rfl rfl rfl rfl k9 <| fun w10 h11 k12 => lp rfl rfl (xa (.int .i64 0) rfl) <| nx <| W_seq <| wr <| lp rfl rfl (X_fieldAddr Tryz.underlying58 rfl Tryz.sizeOf9 rfl rfl) <| lp rfl rfl (X_loadB Tryz.isAgg9 k12 rfl rfl) ?_
 obtain ⟨c13, H⟩ := bif_some H
 refine lc rfl rfl rfl Tryz.call143 (impl_parent.calls (w := w10) (a0 := (gt a0 a1).path) (od c13)) rfl <| fun w14 e15 => lp rfl rfl (xa (S (parentP ((gt a0 a1).path))) rfl) <| nx <| wr <| lp rfl rfl (xm (S (parentP ((gt a0 a1).path))) rfl) <| lp rfl rfl (X_sne rfl rfl) <| nx ?_
 obtain ⟨z16, L17, C18⟩ := bind_some H
 clear H
 refine W_cutQ (fun s0 sQ wQ => ∃ (x6_19 : Int), Kp [(6, 7), (17, 22)] s0 sQ ∧ sQ 6 = .int .i64 x6_19 ∧ Ext w14 wQ ∧ z16 = .inr x6_19) ?_ ?_
 ·have H := L17
  rcases bif_two H with ⟨q20, H⟩ | ⟨q20, H⟩
  ·refine W_true (cb q20) <| W_reg <| lp rfl rfl (xm v_a0 rfl) <| lp rfl rfl (xm (.int .i64 a1) rfl) ?_
   obtain ⟨c21, H⟩ := bif_some H
   refine L_sub (.plain rfl) rfl (ltb rfl) rfl Tryz.underlying35 Tryz.sizeOf58 rfl (Rd.ext f_a0 (Ext.trans (Below.trans e8 (Wr.below h11 (Nat.le_of_eq z6))) e15)) (l := 0) (h := a1) rfl ⟨_, rfl⟩ c21 <| fun v22 h23 => lp rfl rfl (xm (S (parentP ((gt a0 a1).path))) rfl) ?_
   obtain ⟨c24, H⟩ := bif_some H
   refine lc rfl rfl rfl Tryz.call135 (impl_find.calls (w := w14) (a0 := sub a0 0 a1) (a1 := (parentP ((gt a0 a1).path))) h23 (od c24)) rfl <| fun w25 e26 => lp rfl rfl (xa (.int .i64 (findR (sub a0 0 a1) (parentP ((gt a0 a1).path)))) rfl) <| nx ?_
   obtain rfl := si H
   exact ⟨(findR (sub a0 0 a1) (parentP ((gt a0 a1).path))), (ku2 (ku4 kz rfl) rfl), rfl, e26, rfl⟩
  ·refine W_false (cb q20) <| W_skip <| thn_n ?_
   obtain rfl := si H
   exact ⟨0, kz, rfl, er, rfl⟩
 ·rintro s28 w27 ⟨x6_19, K29, h32, e30, y31⟩
  rw [y31] at C18
  have H := C18
  refine thn_n <| W_seq ?_
  obtain ⟨c37, H⟩ := bif_some H
  obtain ⟨c40, H⟩ := bif_some H
  obtain ⟨c45, H⟩ := bif_some H
  obtain ⟨c48, H⟩ := bif_some H
  obtain ⟨c57, H⟩ := bif_some H
  obtain ⟨c66, H⟩ := bif_some H
  refine W_dM [LEq (.int .i64 a1), LEq (.bool (decide (16 ≤ a1))), LEq (.iface 4 (.bool (decide (16 ≤ a1)))), LEq (.iface 3 (.int .i64 6)), LEq (.iface 4 (.bool true)), LEq (.agg #[(.int .i64 ((gt a0 a1).kind)), (S ((gt a0 a1).path)), (S ((gt a0 a1).body)), (.int .i64 ((gt a0 a1).mode)), (.bool ((gt a0 a1).opq))]), LEq (.bool (decide (recFault (gt a0 a1) = 0))), LEq (.bool (!(decide (recFault (gt a0 a1) = 0)))), LEq (.iface 4 (.bool (!(decide (recFault (gt a0 a1) = 0))))), LEq (.agg #[(.int .i64 ((gt a0 a1).kind)), (S ((gt a0 a1).path)), (S ((gt a0 a1).body)), (.int .i64 ((gt a0 a1).mode)), (.bool ((gt a0 a1).opq))]), LEq (.int .i64 (recFault (gt a0 a1))), LEq (.iface 3 (.int .i64 (recFault (gt a0 a1)))), LEq (.int .i64 a1), LEq (.bool (decide (0 < a1))), LEq (.bool (decide (0 < a1))), LIf (decide (0 < a1)) (LEq v_a0), LIf (decide (0 < a1)) (LEq (.int .i64 a1)), LIf (decide (0 < a1)) (LEq (.int .i64 (IntKind.wrap .i64 (a1 - 1)))), LIf (decide (0 < a1)) (LEq (.int .i64 (impl_faultAt.e2 a1))), LIf (decide (0 < a1)) (LAt0 (encRec (gt a0 (impl_faultAt.e2 a1)))), LIf (decide (0 < a1)) (LAt 1 (encRec (gt a0 (impl_faultAt.e2 a1)))), LIf (decide (0 < a1)) (LEq (S ((gt a0 (impl_faultAt.e2 a1)).path))), LIf (decide (0 < a1)) (LEq (.pointer (some ⟨b4, 1, none⟩))), LIf (decide (0 < a1)) (LEq (S ((gt a0 a1).path))), LIf (decide (0 < a1)) (LEq (.bool (decide (((gt a0 (impl_faultAt.e2 a1)).path) = ((gt a0 a1).path))))), LEq (.bool ((decide (0 < a1)) && (decide (((gt a0 (impl_faultAt.e2 a1)).path) = ((gt a0 a1).path))))), LEq (.iface 4 (.bool ((decide (0 < a1)) && (decide (((gt a0 (impl_faultAt.e2 a1)).path) = ((gt a0 a1).path)))))), LEq (.iface 3 (.int .i64 18)), LEq (.int .i64 a1), LEq (.bool (decide (0 < a1))), LEq (.bool (decide (0 < a1))), LIf (decide (0 < a1)) (LEq v_a0), LIf (decide (0 < a1)) (LEq (.int .i64 a1)), LIf (decide (0 < a1)) (LEq (.int .i64 (IntKind.wrap .i64 (a1 - 1)))), LIf (decide (0 < a1)) (LEq (.int .i64 (impl_faultAt.e2 a1))), LIf (decide (0 < a1)) (LAt0 (encRec (gt a0 (impl_faultAt.e2 a1)))), LIf (decide (0 < a1)) (LAt 1 (encRec (gt a0 (impl_faultAt.e2 a1)))), LIf (decide (0 < a1)) (LEq (S ((gt a0 (impl_faultAt.e2 a1)).path))), LIf (decide (0 < a1)) (LEq (.pointer (some ⟨b4, 1, none⟩))), LIf (decide (0 < a1)) (LEq (S ((gt a0 a1).path))), LIf (decide (0 < a1)) (LEq (.bool (pathLess ((gt a0 (impl_faultAt.e2 a1)).path) ((gt a0 a1).path)))), LIf (decide (0 < a1)) (LEq (.bool (!(pathLess ((gt a0 (impl_faultAt.e2 a1)).path) ((gt a0 a1).path))))), LEq (.bool ((decide (0 < a1)) && (!(pathLess ((gt a0 (impl_faultAt.e2 a1)).path) ((gt a0 a1).path))))), LEq (.iface 4 (.bool ((decide (0 < a1)) && (!(pathLess ((gt a0 (impl_faultAt.e2 a1)).path) ((gt a0 a1).path)))))), LEq (.iface 3 (.int .i64 11)), LEq (.int .i64 x6_19), LEq (.bool (decide (x6_19 < 0))), LEq (.iface 4 (.bool (decide (x6_19 < 0)))), LEq (.iface 3 (.int .i64 12)), LEq (.pointer (some ⟨b4, 1, none⟩)), LEq (S ((gt a0 a1).path)), LEq (S (parentP ((gt a0 a1).path))), LEq (.bool (impl_faultAt.e3 a0 a1)), LEq (.bool (impl_faultAt.e3 a0 a1)), LIf (impl_faultAt.e3 a0 a1) (LEq v_a0), LIf (impl_faultAt.e3 a0 a1) (LEq (.int .i64 x6_19)), LIf (impl_faultAt.e3 a0 a1) (LEq (.int .i64 (if (x6_19 < 0 : Prop) then 0 else x6_19))), LIf (impl_faultAt.e3 a0 a1) (LAt0 (encRec (gt a0 (if (x6_19 < 0 : Prop) then 0 else x6_19)))), LIf (impl_faultAt.e3 a0 a1) (LAt 0 (encRec (gt a0 (if (x6_19 < 0 : Prop) then 0 else x6_19)))), LIf (impl_faultAt.e3 a0 a1) (LEq (.int .i64 ((gt a0 (if (x6_19 < 0 : Prop) then 0 else x6_19)).kind))), LIf (impl_faultAt.e3 a0 a1) (LEq (.bool (!decide (((gt a0 (if (x6_19 < 0 : Prop) then 0 else x6_19)).kind) = 3)))), LEq (.bool ((impl_faultAt.e3 a0 a1) && (!decide (((gt a0 (if (x6_19 < 0 : Prop) then 0 else x6_19)).kind) = 3)))), LEq (.iface 4 (.bool ((impl_faultAt.e3 a0 a1) && (!decide (((gt a0 (if (x6_19 < 0 : Prop) then 0 else x6_19)).kind) = 3))))), LEq (.iface 3 (.int .i64 13)), LRd 1 (encAny 4 3) (impl_faultAt.e1 a0 a1 x6_19), LEq (.int .i64 (firstOf (impl_faultAt.e1 a0 a1 x6_19))), LEq (.iface 3 (.int .i64 (firstOf (impl_faultAt.e1 a0 a1 x6_19)))), LRd 1 (encAny 4 3) (impl_faultAt.e4 a0 a1 x6_19), LEq (.int .i64 (firstOf (impl_faultAt.e4 a0 a1 x6_19))), LEq (.int .i64 (firstOf (impl_faultAt.e4 a0 a1 x6_19)))] (by kernel_rfl) (by kernel_rfl) ⟨qm, qm, qm, qm, qm, qm, qm, qm, qm, qm, qm, qm, qm, qm, qm, lm, lm, lm, lm, (LIf.mono LAt0.mono), (LIf.mono LAt.mono), lm, lm, lm, lm, qm, qm, qm, qm, qm, qm, lm, lm, lm, lm, (LIf.mono LAt0.mono), (LIf.mono LAt.mono), lm, lm, lm, lm, lm, qm, qm, qm, qm, qm, qm, qm, qm, qm, qm, qm, qm, lm, lm, lm, (LIf.mono LAt0.mono), (LIf.mono LAt.mono), lm, lm, qm, qm, qm, LRd.mono, qm, qm, LRd.mono, qm, qm, trivial⟩ ⟨?_, ?_, ?_, ?_, ?_, ?_, ?_, ?_, ?_, ?_, ?_, ?_, ?_, ?_, ?_, ?_, ?_, ?_, ?_, ?_, ?_, ?_, ?_, ?_, ?_, ?_, ?_, ?_, ?_, ?_, ?_, ?_, ?_, ?_, ?_, ?_, ?_, ?_, ?_, ?_, ?_, ?_, ?_, ?_, ?_, ?_, ?_, ?_, ?_, ?_, ?_, ?_, ?_, ?_, ?_, ?_, ?_, ?_, ?_, ?_, ?_, ?_, ?_, ?_, ?_, ?_, ?_, ?_, ?_, ?_, trivial⟩ ?_
  ·exact fun s x e f d u => lp rfl rfl (xm (.int .i64 a1) ((f 1 rfl).trans (K29 1 rfl))) <| se rfl rfl
  ·exact fun s x e f d u => lp rfl rfl (X_geq (d 0 rfl) rfl) <| se rfl rfl
  ·exact fun s x e f d u => lp rfl rfl (X_mkiface Tryz.underlying4 rfl (d 1 rfl)) <| se rfl rfl
  ·exact fun s x e f d u => lp rfl rfl (X_mkiface Tryz.underlying3 rfl rfl) <| se rfl rfl
  ·exact fun s x e f d u => lp rfl rfl (X_mkiface Tryz.underlying4 rfl rfl) <| se rfl rfl
  ·exact fun s x e f d u => lp rfl rfl (X_loadS Tryz.isAgg58 Tryz.sizeOf58 rfl ((f 5 rfl).trans (K29 5 rfl)) (Blk.at0 (Blk.ext k12 ((e15.t e30).t e)))) <| se rfl rfl
  ·exact fun s x e f d u => lc rfl rfl rfl Tryz.call224 (impl_RecordOK.calls (w := x) (a0 := (gt a0 a1)) (GV.ext gv (Ext.trans (Ext.trans (Ext.trans (Below.trans e8 (Wr.below h11 (Nat.le_of_eq z6))) e15) e30) e))) (cons2 (d 5 rfl) rfl) <| fun w69 e70 => sx rfl e70 rfl
  ·exact fun s x e f d u => lp rfl rfl (X_not (d 6 rfl)) <| se rfl rfl
  ·exact fun s x e f d u => lp rfl rfl (X_mkiface Tryz.underlying4 rfl (d 7 rfl)) <| se rfl rfl
  ·exact fun s x e f d u => lp rfl rfl (X_loadS Tryz.isAgg58 Tryz.sizeOf58 rfl ((f 5 rfl).trans (K29 5 rfl)) (Blk.at0 (Blk.ext k12 ((e15.t e30).t e)))) <| se rfl rfl
  ·exact fun s x e f d u => lc rfl rfl rfl Tryz.call269 (impl_RecordFault.calls (w := x) (a0 := (gt a0 a1)) (GV.ext gv (Ext.trans (Ext.trans (Ext.trans (Below.trans e8 (Wr.below h11 (Nat.le_of_eq z6))) e15) e30) e))) (cons2 (d 9 rfl) rfl) <| fun w71 e72 => sx rfl e72 rfl
  ·exact fun s x e f d u => lp rfl rfl (X_mkiface Tryz.underlying3 rfl (d 10 rfl)) <| se rfl rfl
  ·exact fun s x e f d u => lp rfl rfl (xm (.int .i64 a1) ((f 1 rfl).trans (K29 1 rfl))) <| se rfl rfl
  ·exact fun s x e f d u => lp rfl rfl (X_gtr (d 12 rfl) rfl) <| se rfl rfl
  ·exact fun s x e f d u => lp rfl rfl (X_move (d 13 rfl)) <| se rfl rfl
  ·exact fun s x e f d u => gT rfl rfl rfl rfl (d 14 rfl) rfl fun b t => lt t rfl rfl (xm v_a0 ((f 0 rfl).trans (K29 0 rfl))) <| sg rfl rfl b rfl
  ·exact fun s x e f d u => gT rfl rfl rfl rfl (d 14 rfl) rfl fun b t => lt t rfl rfl (xm (.int .i64 a1) ((f 1 rfl).trans (K29 1 rfl))) <| sg rfl rfl b rfl
  ·exact fun s x e f d u => gT rfl rfl rfl rfl (d 14 rfl) rfl fun b t => lt t rfl rfl (X_sub ((d 16 rfl).1 b) rfl) <| sg rfl rfl b rfl
  ·exact fun s x e f d u => gT rfl rfl rfl rfl (d 14 rfl) rfl fun b t => lt t rfl rfl (X_max ((d 17 rfl).1 b) rfl) <| sg rfl rfl b rfl
  ·exact fun s x e f d u => gT rfl rfl rfl rfl (d 14 rfl) rfl fun b t => L_idx t rfl (ltb rfl) rfl Tryz.underlying35 Tryz.sizeOf58 ((d 15 rfl).1 b) (Rd.ext f_a0 (Ext.trans (Ext.trans (Ext.trans (Below.trans e8 (Wr.below h11 (Nat.le_of_eq z6))) e15) e30) e)) ((d 18 rfl).1 b) (imp_take b c40) <| fun p74 h75 => sg rfl rfl b ⟨_, rfl, h75⟩
  ·intro s x e f d u
   refine gT rfl rfl rfl rfl (d 14 rfl) rfl fun b t => ?_
   obtain ⟨p76, h77, h78⟩ := ((d 19 rfl).1 b)
   exact lt t rfl rfl (X_fieldAddr Tryz.underlying58 rfl Tryz.sizeOf9 rfl h77) <| sg rfl rfl b ⟨_, rfl, h78⟩
  ·intro s x e f d u
   refine gT rfl rfl rfl rfl (d 14 rfl) rfl fun b t => ?_
   obtain ⟨p79, h80, h81⟩ := ((d 20 rfl).1 b)
   exact lt t rfl rfl (X_loadF Tryz.isAgg9 (j := 1) h81 h80 rfl) <| sg rfl rfl b rfl
  ·exact fun s x e f d u => gT rfl rfl rfl rfl (d 14 rfl) rfl fun b t => lt t rfl rfl (X_fieldAddr Tryz.underlying58 rfl Tryz.sizeOf9 rfl ((f 5 rfl).trans (K29 5 rfl))) <| sg rfl rfl b rfl
  ·exact fun s x e f d u => gT rfl rfl rfl rfl (d 14 rfl) rfl fun b t => lt t rfl rfl (X_loadB Tryz.isAgg9 (Blk.ext k12 ((e15.t e30).t e)) ((d 22 rfl).1 b) rfl) <| sg rfl rfl b rfl
  ·exact fun s x e f d u => gT rfl rfl rfl rfl (d 14 rfl) rfl fun b t => lt t rfl rfl (X_seq ((d 21 rfl).1 b) ((d 23 rfl).1 b)) <| sg rfl rfl b rfl
  ·exact fun s x e f d u => lp rfl rfl (X_pickA (d 14 rfl) rfl fun h => ((d 24 rfl).1 h)) <| se rfl rfl
  ·exact fun s x e f d u => lp rfl rfl (X_mkiface Tryz.underlying4 rfl (d 25 rfl)) <| se rfl rfl
  ·exact fun s x e f d u => lp rfl rfl (X_mkiface Tryz.underlying3 rfl rfl) <| se rfl rfl
  ·exact fun s x e f d u => lp rfl rfl (xm (.int .i64 a1) ((f 1 rfl).trans (K29 1 rfl))) <| se rfl rfl
  ·exact fun s x e f d u => lp rfl rfl (X_gtr (d 28 rfl) rfl) <| se rfl rfl
  ·exact fun s x e f d u => lp rfl rfl (X_move (d 29 rfl)) <| se rfl rfl
  ·exact fun s x e f d u => gT rfl rfl rfl rfl (d 30 rfl) rfl fun b t => lt t rfl rfl (xm v_a0 ((f 0 rfl).trans (K29 0 rfl))) <| sg rfl rfl b rfl
  ·exact fun s x e f d u => gT rfl rfl rfl rfl (d 30 rfl) rfl fun b t => lt t rfl rfl (xm (.int .i64 a1) ((f 1 rfl).trans (K29 1 rfl))) <| sg rfl rfl b rfl
  ·exact fun s x e f d u => gT rfl rfl rfl rfl (d 30 rfl) rfl fun b t => lt t rfl rfl (X_sub ((d 32 rfl).1 b) rfl) <| sg rfl rfl b rfl
  ·exact fun s x e f d u => gT rfl rfl rfl rfl (d 30 rfl) rfl fun b t => lt t rfl rfl (X_max ((d 33 rfl).1 b) rfl) <| sg rfl rfl b rfl
  ·exact fun s x e f d u => gT rfl rfl rfl rfl (d 30 rfl) rfl fun b t => L_idx t rfl (ltb rfl) rfl Tryz.underlying35 Tryz.sizeOf58 ((d 31 rfl).1 b) (Rd.ext f_a0 (Ext.trans (Ext.trans (Ext.trans (Below.trans e8 (Wr.below h11 (Nat.le_of_eq z6))) e15) e30) e)) ((d 34 rfl).1 b) (imp_take b c40) <| fun p83 h84 => sg rfl rfl b ⟨_, rfl, h84⟩
  ·intro s x e f d u
   refine gT rfl rfl rfl rfl (d 30 rfl) rfl fun b t => ?_
   obtain ⟨p85, h86, h87⟩ := ((d 35 rfl).1 b)
   exact lt t rfl rfl (X_fieldAddr Tryz.underlying58 rfl Tryz.sizeOf9 rfl h86) <| sg rfl rfl b ⟨_, rfl, h87⟩
  ·intro s x e f d u
   refine gT rfl rfl rfl rfl (d 30 rfl) rfl fun b t => ?_
   obtain ⟨p88, h89, h90⟩ := ((d 36 rfl).1 b)
   exact lt t rfl rfl (X_loadF Tryz.isAgg9 (j := 1) h90 h89 rfl) <| sg rfl rfl b rfl
  ·exact fun s x e f d u => gT rfl rfl rfl rfl (d 30 rfl) rfl fun b t => lt t rfl rfl (X_fieldAddr Tryz.underlying58 rfl Tryz.sizeOf9 rfl ((f 5 rfl).trans (K29 5 rfl))) <| sg rfl rfl b rfl
  ·exact fun s x e f d u => gT rfl rfl rfl rfl (d 30 rfl) rfl fun b t => lt t rfl rfl (X_loadB Tryz.isAgg9 (Blk.ext k12 ((e15.t e30).t e)) ((d 38 rfl).1 b) rfl) <| sg rfl rfl b rfl
  ·exact fun s x e f d u => gT rfl rfl rfl rfl (d 30 rfl) rfl fun b t => L_callP t rfl (ltb rfl) rfl Tryz.call81 (impl_PathLess.calls (w := x) (a0 := (gt a0 (impl_faultAt.e2 a1)).path) (a1 := (gt a0 a1).path) (GV.ext gv (Ext.trans (Ext.trans (Ext.trans (Below.trans e8 (Wr.below h11 (Nat.le_of_eq z6))) e15) e30) e))) (cons2 ((d 37 rfl).1 b) (cons2 ((d 39 rfl).1 b) rfl)) <| fun w91 e92 => sgx rfl rfl b e92 rfl
  ·exact fun s x e f d u => gT rfl rfl rfl rfl (d 30 rfl) rfl fun b t => lt t rfl rfl (X_not ((d 40 rfl).1 b)) <| sg rfl rfl b rfl
  ·exact fun s x e f d u => lp rfl rfl (X_pickA (d 30 rfl) rfl fun h => ((d 41 rfl).1 h)) <| se rfl rfl
  ·exact fun s x e f d u => lp rfl rfl (X_mkiface Tryz.underlying4 rfl (d 42 rfl)) <| se rfl rfl
  ·exact fun s x e f d u => lp rfl rfl (X_mkiface Tryz.underlying3 rfl rfl) <| se rfl rfl
  ·exact fun s x e f d u => lp rfl rfl (xm (.int .i64 x6_19) ((f 6 rfl).trans h32)) <| se rfl rfl
  ·exact fun s x e f d u => lp rfl rfl (X_lss (d 45 rfl) rfl) <| se rfl rfl
  ·exact fun s x e f d u => lp rfl rfl (X_mkiface Tryz.underlying4 rfl (d 46 rfl)) <| se rfl rfl
  ·exact fun s x e f d u => lp rfl rfl (X_mkiface Tryz.underlying3 rfl rfl) <| se rfl rfl
  ·exact fun s x e f d u => lp rfl rfl (X_fieldAddr Tryz.underlying58 rfl Tryz.sizeOf9 rfl ((f 5 rfl).trans (K29 5 rfl))) <| se rfl rfl
  ·exact fun s x e f d u => lp rfl rfl (X_loadB Tryz.isAgg9 (Blk.ext k12 ((e15.t e30).t e)) (d 49 rfl) rfl) <| se rfl rfl
  ·exact fun s x e f d u => lc rfl rfl rfl Tryz.call143 (impl_parent.calls (w := x) (a0 := (gt a0 a1).path) (od c45)) (cons2 (d 50 rfl) rfl) <| fun w94 e95 => sx rfl e95 rfl
  ·exact fun s x e f d u => lp rfl rfl (X_sne (d 51 rfl) rfl) <| se rfl rfl
  ·exact fun s x e f d u => lp rfl rfl (X_move (d 52 rfl)) <| se rfl rfl
  ·exact fun s x e f d u => gT rfl rfl rfl rfl (d 53 rfl) rfl fun b t => lt t rfl rfl (xm v_a0 ((f 0 rfl).trans (K29 0 rfl))) <| sg rfl rfl b rfl
  ·exact fun s x e f d u => gT rfl rfl rfl rfl (d 53 rfl) rfl fun b t => lt t rfl rfl (xm (.int .i64 x6_19) ((f 6 rfl).trans h32)) <| sg rfl rfl b rfl
  ·exact fun s x e f d u => gT rfl rfl rfl rfl (d 53 rfl) rfl fun b t => lt t rfl rfl (X_max ((d 55 rfl).1 b) rfl) <| sg rfl rfl b rfl
  ·exact fun s x e f d u => gT rfl rfl rfl rfl (d 53 rfl) rfl fun b t => L_idx t rfl (ltb rfl) rfl Tryz.underlying35 Tryz.sizeOf58 ((d 54 rfl).1 b) (Rd.ext f_a0 (Ext.trans (Ext.trans (Ext.trans (Below.trans e8 (Wr.below h11 (Nat.le_of_eq z6))) e15) e30) e)) ((d 56 rfl).1 b) (imp_take b c48) <| fun p97 h98 => sg rfl rfl b ⟨_, rfl, h98⟩
  ·intro s x e f d u
   refine gT rfl rfl rfl rfl (d 53 rfl) rfl fun b t => ?_
   obtain ⟨p99, h100, h101⟩ := ((d 57 rfl).1 b)
   exact lt t rfl rfl (X_fieldAddr Tryz.underlying58 rfl Tryz.sizeOf3 rfl h100) <| sg rfl rfl b ⟨_, rfl, h101⟩
  ·intro s x e f d u
   refine gT rfl rfl rfl rfl (d 53 rfl) rfl fun b t => ?_
   obtain ⟨p102, h103, h104⟩ := ((d 58 rfl).1 b)
   exact lt t rfl rfl (X_loadF Tryz.isAgg3 (j := 0) h104 h103 rfl) <| sg rfl rfl b rfl
  ·exact fun s x e f d u => gT rfl rfl rfl rfl (d 53 rfl) rfl fun b t => lt t rfl rfl (X_neq ((d 59 rfl).1 b) rfl) <| sg rfl rfl b rfl
  ·exact fun s x e f d u => lp rfl rfl (X_pickA (d 53 rfl) rfl fun h => ((d 60 rfl).1 h)) <| se rfl rfl
  ·exact fun s x e f d u => lp rfl rfl (X_mkiface Tryz.underlying4 rfl (d 61 rfl)) <| se rfl rfl
  ·exact fun s x e f d u => lp rfl rfl (X_mkiface Tryz.underlying3 rfl rfl) <| se rfl rfl
  ·exact fun s x e f d u => L_lit (.plain rfl) rfl (ltb rfl) rfl Tryz.underlying171 Tryz.sizeOf20 Tryz.zeroValue20 rfl rfl rfl (vs := [(.iface 4 (.bool (!(decide (recFault (gt a0 a1) = 0))))), (.iface 3 (.int .i64 (recFault (gt a0 a1)))), (.iface 4 (.bool ((decide (0 < a1)) && (decide (((gt a0 (impl_faultAt.e2 a1)).path) = ((gt a0 a1).path)))))), (.iface 3 (.int .i64 18)), (.iface 4 (.bool ((decide (0 < a1)) && (!(pathLess ((gt a0 (impl_faultAt.e2 a1)).path) ((gt a0 a1).path)))))), (.iface 3 (.int .i64 11)), (.iface 4 (.bool (decide (x6_19 < 0)))), (.iface 3 (.int .i64 12)), (.iface 4 (.bool ((impl_faultAt.e3 a0 a1) && (!decide (((gt a0 (if (x6_19 < 0 : Prop) then 0 else x6_19)).kind) = 3))))), (.iface 3 (.int .i64 13))]) (cons2 (d 8 rfl) (cons2 (d 11 rfl) (cons2 (d 26 rfl) (cons2 (d 27 rfl) (cons2 (d 43 rfl) (cons2 (d 44 rfl) (cons2 (d 47 rfl) (cons2 (d 48 rfl) (cons2 (d 62 rfl) (cons2 (d 63 rfl) rfl)))))))))) (lit_all rfl) <| fun b105 w106 z107 z108 e109 k110 => sx rfl e109 (Ow.rd (Ow.new (xs := [.inl (!(decide (recFault (gt a0 a1) = 0))), .inr (recFault (gt a0 a1)), .inl ((decide (0 < a1)) && (decide (((gt a0 (impl_faultAt.e2 a1)).path) = ((gt a0 a1).path)))), .inr 18, .inl ((decide (0 < a1)) && (!(pathLess ((gt a0 (impl_faultAt.e2 a1)).path) ((gt a0 a1).path)))), .inr 11, .inl (decide (x6_19 < 0)), .inr 12, .inl ((impl_faultAt.e3 a0 a1) && (!decide (((gt a0 (if (x6_19 < 0 : Prop) then 0 else x6_19)).kind) = 3))), .inr 13]) (sz := 1) (enc := (encAny 4 3)) (base := x.heap.size) k110 (Nat.le_of_eq z107) rfl (fun _ _ => by first | rfl | exact encAny_len _ _ _) (Nat.le_of_ble_eq_true rfl)))
  ·intro s x e f d u
   have d111 : Rd 1 (encAny 4 3) x (s 86) (impl_faultAt.e1 a0 a1 x6_19) := (d 64 rfl)
   exact lc rfl rfl rfl Tryz.call125 (impl_first.calls (w := x) (a0 := (impl_faultAt.e1 a0 a1 x6_19)) d111 (od c57)) rfl <| fun w113 e114 => sx rfl e114 rfl
  ·exact fun s x e f d u => lp rfl rfl (X_mkiface Tryz.underlying3 rfl (d 65 rfl)) <| se rfl rfl
  ·exact fun s x e f d u => L_lit (.plain rfl) rfl (ltb rfl) rfl Tryz.underlying171 Tryz.sizeOf20 Tryz.zeroValue20 rfl rfl rfl (vs := [(.iface 4 (.bool (decide (16 ≤ a1)))), (.iface 3 (.int .i64 6)), (.iface 4 (.bool true)), (.iface 3 (.int .i64 (firstOf (impl_faultAt.e1 a0 a1 x6_19))))]) (cons2 (d 2 rfl) (cons2 (d 3 rfl) (cons2 (d 4 rfl) (cons2 (d 66 rfl) rfl)))) (lit_all rfl) <| fun b115 w116 z117 z118 e119 k120 => sx rfl e119 (Ow.rd (Ow.new (xs := [.inl (decide (16 ≤ a1)), .inr 6, .inl true, .inr (firstOf (impl_faultAt.e1 a0 a1 x6_19))]) (sz := 1) (enc := (encAny 4 3)) (base := x.heap.size) k120 (Nat.le_of_eq z117) rfl (fun _ _ => by first | rfl | exact encAny_len _ _ _) (Nat.le_of_ble_eq_true rfl)))
  ·intro s x e f d u
   have d121 : Rd 1 (encAny 4 3) x (s 89) (impl_faultAt.e4 a0 a1 x6_19) := (d 67 rfl)
   exact lc rfl rfl rfl Tryz.call125 (impl_first.calls (w := x) (a0 := (impl_faultAt.e4 a0 a1 x6_19)) d121 (od c66)) rfl <| fun w123 e124 => sx rfl e124 rfl
  ·exact fun s x e f d u => lp rfl rfl (X_assign (d 68 rfl)) <| se rfl rfl
  intro s125 w126 e127 hf128 ha129
  have K130 := Kp.ofD (kp := [(4, 5), (22, 91)]) rfl hf128
  have d131 : s125 4 = (.int .i64 (firstOf (impl_faultAt.e4 a0 a1 x6_19))) := ha129 69 rfl
  clear ha129 hf128
  refine thn_n <| W_ret <| fin_r ?_
  obtain rfl := si H
  exact fin1 d131 (Ext.trans (Ext.trans (Ext.trans (Below.trans e8 (Wr.below h11 (Nat.le_of_eq z6))) e15) e30) e127)
theorem impl_faultAt.calls {w : World} {a0 : List Rec} {a1 : Int} (gv : GV 0 w) {v_a0 : Value} (f_a0 : Rd 5 encRec w v_a0 a0) (h0 : a0.length ≤ 1048576) (h1 : ∀ x ∈ a0, x.path.length ≤ 1048576) (h2 : inR a1 a0.length = true) :
  Calls Tryz.prog 228 #[v_a0, .int .i64 a1] w (Rt (RP w (.int .i64 (faultAt a0 a1)))) := impl_faultAt.walk gv f_a0 (impl_faultAt.eq a0 a1 h0 h1 h2)
/-! impl.fault -/
theorem impl_fault.walk {k : Nat} {w : World} {a0 : List Rec} (gv : GV 0 w) {v_a0 : Value} (f_a0 : Rd 5 encRec w v_a0 a0) {r : Int × Int} (H : impl_fault.sh k a0 = some r) :
  Calls Tryz.prog 147 #[v_a0] w (Rt (RP w (.tuple #[.int .i64 r.1, .int .i64 r.2]))) := by
 unfold impl_fault.sh at H
 refine calls_of_W Tryz.func147 rfl (Nat.le_of_ble_eq_true rfl) Tryz.ntmps147 rfl ?_
 refine wr <| lp rfl rfl (xa (.int .i64 0) rfl) <| lp rfl rfl (xa (.int .i64 0) rfl) <| nx <| W_seq <| wr <| lp rfl rfl (xm v_a0 rfl) <| lp rfl rfl (X_lenR Tryz.underlying35 rfl f_a0) <| lp rfl rfl (xm (.int .i64 0) rfl) <| nx ?_
 obtain ⟨z2, L3, C4⟩ := bind_some H
 clear H
 refine  W_cutQ (fun s0 sQ wQ => Kp [(2, 6), (8, 19)] s0 sQ ∧ Ext w wQ ∧ z2 = .inr ()) ?_ ?_
 ·refine W_block <| W_loopI (fun s0 kk sQ wQ => ∃ (x8_1 : Int), Kp [(2, 6), (8, 19)] s0 sQ ∧ sQ 8 = .int .i64 x8_1 ∧ Ext w wQ ∧ loopF (impl_fault.b1 a0) kk x8_1 = some z2) k ⟨0, kz, rfl, er, L3⟩ ?_
  rintro k9 s10 w11 ⟨x8_1, K12, h15, e13, L14⟩
  cases k9 with
  | zero => exact absurd L14 (by simp [loopF])
  | succ k9 =>
   obtain ⟨t16, H, S17⟩ := loopF_succ L14
   clear L14
   unfold impl_fault.b1 at H
   refine wr <| lp rfl rfl (X_lss h15 (K12 7 rfl)) <| nx <| W_seq ?_
   rcases bif_two H with ⟨q18, H⟩ | ⟨q18, H⟩
   ·refine W_true (cb q18) <| W_skip <| thn_n <| W_seq <| W_block <| wr <| lp rfl rfl (X_move h15) <| lp rfl rfl (xa (.int .i64 x8_1) rfl) <| nx <| wr <| lp rfl rfl (xm v_a0 (K12 0 rfl)) <| lp rfl rfl (xm (.int .i64 x8_1) rfl) ?_
    obtain ⟨c19, H⟩ := bif_some H
    obtain ⟨c20, H⟩ := bif_some H
    obtain ⟨c21, H⟩ := bif_some H
    refine lc rfl rfl rfl Tryz.call228 (impl_faultAt.calls (w := w11) (a0 := a0) (a1 := x8_1) (GV.ext gv e13) (Rd.ext f_a0 e13) (od c19) (od c20) (od c21)) rfl <| fun w22 e23 => lp rfl rfl (xa (.int .i64 (faultAt a0 x8_1)) rfl) <| nx <| wr <| lp rfl rfl (xm (.int .i64 (faultAt a0 x8_1)) rfl) <| lp rfl rfl (X_neq rfl rfl) <| nx ?_
    rcases bif_two H with ⟨q24, H⟩ | ⟨q24, H⟩
    ·refine W_true (cb q24) <| wr <| lp rfl rfl (xm (.int .i64 x8_1) rfl) <| lp rfl rfl (xm (.int .i64 (faultAt a0 x8_1)) rfl) <| lp rfl rfl (xa (.int .i64 x8_1) rfl) <| lp rfl rfl (xa (.int .i64 (faultAt a0 x8_1)) rfl) <| nx <| W_ret <| blk_r <| thn_r <| thn_r <| blk_r <| thn_r <| thn_r <| fin_r ?_
     obtain rfl := si H
     obtain rfl := si S17
     have H := C4
     obtain rfl := si H
     exact fin2 rfl rfl (e13.t e23)
    ·refine W_false (cb q24) <| W_skip <| blk_n <| thn_n <| W_reg <| lp rfl rfl (X_add h15 rfl) <| lp rfl rfl (xm (.int .i64 (IntKind.wrap .i64 (x8_1 + 1))) rfl) <| nx ?_
     obtain rfl := si H
     exact ⟨_, Nat.lt_succ_self _, IntKind.wrap .i64 (x8_1 + 1), (ku3 (ku8 K12 rfl) rfl), rfl, (e13.t e23), S17⟩
   ·refine W_false (cb q18) <| W_exit <| thn_x <| thn_x <| blk_x <| thn_n ?_
    obtain rfl := si H
    obtain rfl := si S17
    exact ⟨(ku1 K12 rfl), e13, rfl⟩
 ·rintro s6 w5 ⟨K7, e8, y25⟩
  rw [y25] at C4
  have H := C4
  replace H : _ = some _ := H
  refine thn_n <| wr <| lp rfl rfl (xa (.int .i64 0) rfl) <| lp rfl rfl (xa (.int .i64 0) rfl) <| nx <| W_ret <| fin_r ?_
  obtain rfl := si H
  exact fin2 rfl rfl e8
theorem impl_fault.calls {w : World} {a0 : List Rec} (gv : GV 0 w) {v_a0 : Value} (f_a0 : Rd 5 encRec w v_a0 a0) (h0 : a0.length ≤ 1048576) (h1 : ∀ x ∈ a0, x.path.length ≤ 1048576) :
  Calls Tryz.prog 147 #[v_a0] w (Rt (RP w (.tuple #[.int .i64 ((layerFault a0).1), .int .i64 ((layerFault a0).2)]))) := by
 obtain ⟨k, h⟩ := impl_fault.eq a0 h0 h1
 exact impl_fault.walk gv f_a0 h
/-! impl.LayerFault -/
theorem impl_LayerFault.walk {w : World} {a0 : List Rec} (gv : GV 0 w) {v_a0 : Value} (f_a0 : Rd 5 encRec w v_a0 a0) {r : Int × Int} (H : impl_LayerFault.sh a0 = some r) :
  Calls Tryz.prog 48 #[v_a0] w (Rt (RP w (.tuple #[.int .i64 r.1, .int .i64 r.2]))) := by
 unfold impl_LayerFault.sh at H
 refine calls_of_W Tryz.func48 rfl (Nat.le_of_ble_eq_true rfl) Tryz.ntmps48 rfl ?_
 refine wr <| lp rfl rfl (xa (.int .i64 0) rfl) <| lp rfl rfl (xa (.int .i64 0) rfl) <| nx <| W_seq <| wr <| lp rfl rfl (xm v_a0 rfl) <| lc rfl rfl rfl Tryz.call126 (impl_isLongListR.calls (w := w) (a0 := a0) f_a0) rfl <| fun w1 e2 => nx ?_
 rcases bif_two H with ⟨q3, H⟩ | ⟨q3, H⟩
 ·refine W_true (cb q3) <| wr <| lp rfl rfl (xa (.int .i64 0) rfl) <| lp rfl rfl (xa (.int .i64 2) rfl) <| nx <| W_ret <| thn_r <| fin_r ?_
  obtain rfl := si H
  exact fin2 rfl rfl e2
 ·refine W_false (cb q3) <| W_skip <| thn_n <| wr <| lp rfl rfl (xm v_a0 rfl) ?_
  obtain ⟨c4, H⟩ := bif_some H
  obtain ⟨c5, H⟩ := bif_some H
  refine lc rfl rfl rfl Tryz.call147 (impl_fault.calls (w := w1) (a0 := a0) (GV.ext gv e2) (Rd.ext f_a0 e2) (od c4) (od c5)) rfl <| fun w6 e7 => lp rfl rfl (X_extract (v := (.int .i64 ((layerFault a0).1))) rfl rfl) <| lp rfl rfl (X_extract (v := (.int .i64 ((layerFault a0).2))) rfl rfl) <| lp rfl rfl (xa (.int .i64 ((layerFault a0).1)) rfl) <| lp rfl rfl (xa (.int .i64 ((layerFault a0).2)) rfl) <| nx <| W_ret <| fin_r ?_
  obtain rfl := si H
  exact fin2 rfl rfl (e2.t e7)
theorem impl_LayerFault.calls {w : World} {a0 : List Rec} (gv : GV 0 w) {v_a0 : Value} (f_a0 : Rd 5 encRec w v_a0 a0) (h0 : a0.length ≤ 1048576) (h1 : ∀ x ∈ a0, x.path.length ≤ 1048576) :
  Calls Tryz.prog 48 #[v_a0] w (Rt (RP w (.tuple #[.int .i64 ((layerFaultL a0).1), .int .i64 ((layerFaultL a0).2)]))) := impl_LayerFault.walk gv f_a0 (impl_LayerFault.eq a0 h0 h1)
/-! impl.LayerOK -/
theorem impl_LayerOK.calls {w : World} {a0 : List Rec} (gv : GV 0 w) {v_a0 : Value} (f_a0 : Rd 5 encRec w v_a0 a0) (h0 : a0.length ≤ 1048576) (h1 : ∀ x ∈ a0, x.path.length ≤ 1048576) :
  Calls Tryz.prog 50 #[v_a0] w (Rt (RP w (.bool (decide ((layerFaultL a0).2 = 0))))) := by
 have H := impl_LayerOK.eq a0 h0 h1
 generalize (decide ((layerFaultL a0).2 = 0)) = r at H ⊢
 unfold impl_LayerOK.sh at H
 refine calls_of_W Tryz.func50 rfl (Nat.le_of_ble_eq_true rfl) Tryz.ntmps50 rfl ?_
 refine wr <| lp rfl rfl (xa (.bool false) rfl) <| nx <| wr <| lp rfl rfl (xm v_a0 rfl) ?_
 obtain ⟨c1, H⟩ := bif_some H
 obtain ⟨c2, H⟩ := bif_some H
 refine lc rfl rfl rfl Tryz.call48 (impl_LayerFault.calls (w := w) (a0 := a0) gv f_a0 (od c1) (od c2)) rfl <| fun w3 e4 => lp rfl rfl (X_move rfl) <| lp rfl rfl (X_extract (v := (.int .i64 ((layerFaultL a0).1))) rfl rfl) <| lp rfl rfl (X_extract (v := (.int .i64 ((layerFaultL a0).2))) rfl rfl) <| lp rfl rfl (xa (.int .i64 ((layerFaultL a0).1)) rfl) <| lp rfl rfl (xa (.int .i64 ((layerFaultL a0).2)) rfl) <| nx <| wr <| lp rfl rfl (xm (.int .i64 ((layerFaultL a0).2)) rfl) <| lp rfl rfl (X_eql rfl rfl) <| lp rfl rfl (xa (.bool (decide (((layerFaultL a0).2) = 0))) rfl) <| nx <| W_ret <| fin_r ?_
 obtain rfl := si H
 exact fin1 rfl e4
/-! slices.Equal(()impl.Record,impl.Record) -/
theorem slices_EqualR.calls {w : World} {a0 : List Rec} {a1 : List Rec} {v_a0 : Value} (f_a0 : Rd 5 encRec w v_a0 a0) {v_a1 : Value} (f_a1 : Rd 5 encRec w v_a1 a1) (h0 : a0.length ≤ 1048576) :
  Calls Tryz.prog 131 #[v_a0, v_a1] w (Rt (RP w (.bool (decide (a0 = a1))))) := by
 obtain ⟨k, H⟩ := slices_EqualR.eq a0 a1 h0
 generalize (decide (a0 = a1)) = r at H ⊢
 unfold slices_EqualR.sh at H
 refine calls_of_W Tryz.func131 rfl (Nat.le_of_ble_eq_true rfl) Tryz.ntmps131 rfl ?_
 refine wr <| lp rfl rfl (xa (.bool false) rfl) <| nx <| W_seq <| wr <| lp rfl rfl (xm v_a0 rfl) <| lp rfl rfl (X_lenR Tryz.underlying35 rfl f_a0) <| lp rfl rfl (xm v_a1 rfl) <| lp rfl rfl (X_lenR Tryz.underlying35 rfl f_a1) <| lp rfl rfl (X_neq rfl rfl) <| nx ?_
 rcases bif_two H with ⟨q1, H⟩ | ⟨q1, H⟩
 ·refine W_true (cb q1) <| wr <| lp rfl rfl (xa (.bool false) rfl) <| nx <| W_ret <| thn_r <| fin_r ?_
  obtain rfl := si H
  exact fin1 rfl er
 ·refine W_false (cb q1) <| W_skip <| thn_n <| W_seq <| wr <| lp rfl rfl (xm v_a0 rfl) <| lp rfl rfl (X_lenR Tryz.underlying35 rfl f_a0) <| lp rfl rfl (xm (.int .i64 0) rfl) <| nx ?_
  obtain ⟨z3, L4, C5⟩ := bind_some H
  clear H
  refine  W_cutQ (fun s0 sQ wQ => Kp [(4, 6), (13, 26)] s0 sQ ∧ Ext w wQ ∧ z3 = .inr ()) ?_ ?_
  ·refine W_block <| W_loopI (fun s0 kk sQ wQ => ∃ (x13_2 : Int), Kp [(4, 6), (13, 26)] s0 sQ ∧ sQ 13 = .int .i64 x13_2 ∧ Ext w wQ ∧ loopF (slices_EqualR.b1 a0 a1) kk x13_2 = some z3) k ⟨0, kz, rfl, er, L4⟩ ?_
   rintro k10 s11 w12 ⟨x13_2, K13, h16, e14, L15⟩
   cases k10 with
   | zero => exact absurd L15 (by simp [loopF])
   | succ k10 =>
    obtain ⟨t17, H, S18⟩ := loopF_succ L15
    clear L15
    unfold slices_EqualR.b1 at H
    refine wr <| lp rfl rfl (X_lss h16 (K13 12 rfl)) <| nx <| W_seq ?_
    rcases bif_two H with ⟨q19, H⟩ | ⟨q19, H⟩
    ·refine W_true (cb q19) <| W_skip <| thn_n <| W_seq <| W_block <| wr <| lp rfl rfl (X_move h16) <| lp rfl rfl (xa (.int .i64 x13_2) rfl) <| nx <| W_seq ?_
     obtain ⟨c20, H⟩ := bif_some H
     obtain ⟨c23, H⟩ := bif_some H
     refine W_dM [LEq v_a0, LEq (.int .i64 x13_2), LAt0 (encRec (gt a0 x13_2)), LEq (.agg (encRec (gt a0 x13_2)).toArray), LEq v_a1, LEq (.int .i64 x13_2), LAt0 (encRec (gt a1 x13_2)), LEq (.agg (encRec (gt a1 x13_2)).toArray), LEq (.bool (!decide ((gt a0 x13_2) = (gt a1 x13_2))))] (by kernel_rfl) (by kernel_rfl) ⟨qm, qm, LAt0.mono, qm, qm, qm, LAt0.mono, qm, qm, trivial⟩ ⟨?_, ?_, ?_, ?_, ?_, ?_, ?_, ?_, ?_, trivial⟩ ?_
     ·exact fun s x e f d u => lp rfl rfl (xm v_a0 ((f 0 rfl).trans (K13 0 rfl))) <| se rfl rfl
     ·exact fun s x e f d u => lp rfl rfl (xm (.int .i64 x13_2) (f 5 rfl)) <| se rfl rfl
     ·exact fun s x e f d u => L_idx (.plain rfl) rfl (ltb rfl) rfl Tryz.underlying35 Tryz.sizeOf58 (d 0 rfl) (Rd.ext f_a0 (e14.t e)) (d 1 rfl) c20 <| fun p27 h28 => se rfl ⟨_, rfl, h28⟩
     ·intro s x e f d u
      obtain ⟨p29, h30, h31⟩ := (d 2 rfl)
      exact lp rfl rfl (X_loadS Tryz.isAgg58 Tryz.sizeOf58 rfl h30 h31) <| se rfl rfl
     ·exact fun s x e f d u => lp rfl rfl (xm v_a1 ((f 1 rfl).trans (K13 1 rfl))) <| se rfl rfl
     ·exact fun s x e f d u => lp rfl rfl (xm (.int .i64 x13_2) (f 5 rfl)) <| se rfl rfl
     ·exact fun s x e f d u => L_idx (.plain rfl) rfl (ltb rfl) rfl Tryz.underlying35 Tryz.sizeOf58 (d 4 rfl) (Rd.ext f_a1 (e14.t e)) (d 5 rfl) c23 <| fun p33 h34 => se rfl ⟨_, rfl, h34⟩
     ·intro s x e f d u
      obtain ⟨p35, h36, h37⟩ := (d 6 rfl)
      exact lp rfl rfl (X_loadS Tryz.isAgg58 Tryz.sizeOf58 rfl h36 h37) <| se rfl rfl
     ·exact fun s x e f d u => lp rfl rfl (X_neA Eqg.t58 (Eqs.t58 (gt a0 x13_2) (gt a1 x13_2)) (d 3 rfl) (d 7 rfl)) <| se rfl rfl
     intro s38 w39 e40 hf41 ha42
     have K43 := Kp.ofD (kp := [(16, 25)]) rfl hf41
     have d44 : s38 24 = (.bool (!decide ((gt a0 x13_2) = (gt a1 x13_2)))) := ha42 8 rfl
     clear ha42 hf41
     refine thn_n ?_
     rcases bif_two H with ⟨q45, H⟩ | ⟨q45, H⟩
     ·refine W_true (d44.trans (cb q45)) <| wr <| lp rfl rfl (xa (.bool false) rfl) <| nx <| W_ret <| blk_r <| thn_r <| thn_r <| blk_r <| thn_r <| thn_r <| fin_r ?_
      obtain rfl := si H
      obtain rfl := si S18
      have H := C5
      obtain rfl := si H
      exact fin1 rfl (e14.t e40)
     ·refine W_false (d44.trans (cb q45)) <| W_skip <| blk_n <| thn_n <| W_reg <| lp rfl rfl (X_add ((K43 13 rfl).trans h16) rfl) <| lp rfl rfl (xm (.int .i64 (IntKind.wrap .i64 (x13_2 + 1))) rfl) <| nx ?_
      obtain rfl := si H
      exact ⟨_, Nat.lt_succ_self _, IntKind.wrap .i64 (x13_2 + 1), (ku2 (Kp.cut (ku3 K13 rfl) K43 rfl) rfl), rfl, (e14.t e40), S18⟩
    ·refine W_false (cb q19) <| W_exit <| thn_x <| thn_x <| blk_x <| thn_n ?_
     obtain rfl := si H
     obtain rfl := si S18
     exact ⟨(ku1 K13 rfl), e14, rfl⟩
  ·rintro s7 w6 ⟨K8, e9, y46⟩
   rw [y46] at C5
   have H := C5
   replace H : _ = some _ := H
   refine thn_n <| wr <| lp rfl rfl (xa (.bool true) rfl) <| nx <| W_ret <| fin_r ?_
   obtain rfl := si H
   exact fin1 rfl e9
/-! impl.SameLayer -/
theorem impl_SameLayer.calls {w : World} {a0 : List Rec} {a1 : List Rec} (gv : GV 0 w) {v_a0 : Value} (f_a0 : Rd 5 encRec w v_a0 a0) {v_a1 : Value} (f_a1 : Rd 5 encRec w v_a1 a1) (h0 : a0.length ≤ 1048576) (h1 : a1.length ≤ 1048576) (h2 : ∀ x ∈ a0, x.path.length ≤ 1048576) (h3 : ∀ x ∈ a1, x.path.length ≤ 1048576) :
  Calls Tryz.prog 71 #[v_a0, v_a1] w (Rt (RP w (.bool (sameLayer a0 a1)))) := by
 have H := impl_SameLayer.eq a0 a1 h0 h1 h2 h3
 generalize (sameLayer a0 a1) = r at H ⊢
 unfold impl_SameLayer.sh at H
 refine calls_of_W Tryz.func71 rfl (Nat.le_of_ble_eq_true rfl) Tryz.ntmps71 rfl ?_
 refine wr <| lp rfl rfl (xa (.bool false) rfl) <| nx <| wr <| lp rfl rfl (xm v_a0 rfl) ?_
 obtain ⟨c1, H⟩ := bif_some H
 obtain ⟨c2, H⟩ := bif_some H
 refine lc rfl rfl rfl Tryz.call50 (impl_LayerOK.calls (w := w) (a0 := a0) gv f_a0 (od c1) (od c2)) rfl <| fun w3 e4 => lp rfl rfl (xm (.bool (decide ((layerFaultL a0).2 = 0))) rfl) ?_
 obtain ⟨z6, x7, H⟩ := bind_some H
 refine L_grpE 3 [(8, 11)] 10 (fun q => q = z6) ?_ ?_
 ·rcases bif_two x7 with ⟨b4_, H⟩ | ⟨b4_, H⟩
  ·refine lg rfl rfl rfl rfl (cb b4_) (xm v_a1 rfl) ?_
   obtain ⟨c6, H⟩ := bif_some H
   obtain ⟨c7, H⟩ := bif_some H
   refine L_callP (tg rfl rfl rfl (cb b4_)) rfl (ltb rfl) rfl Tryz.call50 (impl_LayerOK.calls (w := w3) (a0 := a1) (GV.ext gv e4) (Rd.ext f_a1 e4) (od c6) (od c7)) rfl <| fun w8 e9 => lp rfl rfl (X_pick (b := true) (v := (.bool (decide ((layerFaultL a1).2 = 0)))) (cb b4_) rfl) ?_
   obtain rfl := si H
   exact nx ⟨(ku3 kz rfl), ⟨_, rfl, rfl⟩, e9⟩
  ·refine ls rfl rfl rfl (cb b4_) rfl <| ls rfl rfl rfl (cb b4_) rfl <| lp rfl rfl (X_pick (b := false) (v := (.bool false)) (cb b4_) rfl) ?_
   obtain rfl := si H
   exact nx ⟨(ku3 kz rfl), ⟨_, rfl, rfl⟩, er⟩
 intro s12 w8 z13 K9 hq h10 e11
 rw [hq] at h10; clear hq
 refine lp rfl rfl (X_move h10) ?_
 obtain ⟨z15, x16, H⟩ := bind_some H
 refine L_grpE 4 [(12, 16)] 15 (fun q => q = z15) ?_ ?_
 ·rcases bif_two x16 with ⟨b13_, H⟩ | ⟨b13_, H⟩
  ·refine lg rfl rfl rfl rfl (cb b13_) (xm v_a0 (K9 0 rfl)) <| lg rfl rfl rfl rfl (cb b13_) (xm v_a1 (K9 1 rfl)) ?_
   obtain ⟨c15, H⟩ := bif_some H
   refine L_callP (tg rfl rfl rfl (cb b13_)) rfl (ltb rfl) rfl Tryz.call131 (slices_EqualR.calls (w := w8) (a0 := a0) (a1 := a1) (Rd.ext f_a0 (e4.t e11)) (Rd.ext f_a1 (e4.t e11)) (od c15)) rfl <| fun w16 e17 => lp rfl rfl (X_pick (b := true) (v := (.bool (decide (a0 = a1)))) (cb b13_) rfl) ?_
   obtain rfl := si H
   exact nx ⟨(ku4 kz rfl), ⟨_, rfl, rfl⟩, e17⟩
  ·refine ls rfl rfl rfl (cb b13_) rfl <| ls rfl rfl rfl (cb b13_) rfl <| ls rfl rfl rfl (cb b13_) rfl <| lp rfl rfl (X_pick (b := false) (v := (.bool false)) (cb b13_) rfl) ?_
   obtain rfl := si H
   exact nx ⟨(ku4 kz rfl), ⟨_, rfl, rfl⟩, er⟩
 intro s21 w17 z22 K18 hq h19 e20
 rw [hq] at h19; clear hq
 refine lp rfl rfl (X_assign h19) <| nx <| W_ret <| fin_r ?_
 obtain rfl := si H
 exact fin1 rfl ((e4.t e11).t e20)
/-! spec.l04Record -/
theorem spec_l04Record.calls {w : World} {a0 : Nd} :
  Calls Tryz.prog 159 #[.agg (encNd a0).toArray] w (Rt (RP w (.agg (encRec (recOf a0)).toArray))) := by
 have H := spec_l04Record.eq a0
 generalize (recOf a0) = r at H ⊢
 unfold spec_l04Record.sh at H
 refine calls_of_WG Tryz.func159 rfl (Nat.le_of_ble_eq_true rfl) Tryz.ntmps159 ?_
 refine wr <| L_box (.plain rfl) rfl (ltb rfl) rfl rfl <| fun b1 w2 z3 z4 e5 k6 => L_alloc (.plain rfl) rfl (ltb rfl) rfl Tryz.zeroValue58 <| fun b7 w8 z9 z10 e11 k12 => nx <| wr <| lp rfl rfl (X_fieldAddr Tryz.underlying60 rfl Tryz.sizeOf3 rfl rfl) <| lp rfl rfl (X_loadB Tryz.isAgg3 (Blk.ext k6 e11) rfl rfl) <| lp rfl rfl (X_fieldAddr Tryz.underlying60 rfl Tryz.sizeOf9 rfl rfl) <| lp rfl rfl (X_loadB Tryz.isAgg9 (Blk.ext k6 e11) rfl rfl) <| lp rfl rfl (X_fieldAddr Tryz.underlying60 rfl Tryz.sizeOf9 rfl rfl) <| lp rfl rfl (X_loadB Tryz.isAgg9 (Blk.ext k6 e11) rfl rfl) <| lp rfl rfl (X_fieldAddr Tryz.underlying60 rfl Tryz.sizeOf3 rfl rfl) <| lp rfl rfl (X_loadB Tryz.isAgg3 (Blk.ext k6 e11) rfl rfl) <| lp rfl rfl (X_build1 (vs := [(0, (.int .i64 a0.kind)), (1, (S a0.path)), (2, (S a0.body)), (3, (.int .i64 a0.mode))]) (pl := #[(0, 1), (1, 1), (2, 1), (3, 1), (4, 1)]) Tryz.underlying58 Tryz.zeroValue58 rfl (fun _ => by kernel_rfl) rfl rfl rfl) <| L_storeA (.plain rfl) rfl rfl Tryz.sizeOf58 rfl rfl rfl rfl rfl k12 <| fun w13 h14 k15 => nx <| W_ret <| finG_r ?_
 obtain rfl := si H
 exact finC1 rfl rfl k15 Tryz.isAgg58 Tryz.sizeOf58 rfl (e5.t (Below.trans e11 (Wr.below h14 (Nat.le_of_eq z9))))
/-! spec.l04At -/
theorem spec_l04At.calls {w : World} {a0 : List Nd} {a1 : List UInt8} {v_a0 : Value} (f_a0 : Rd 4 encNd w v_a0 a0) (h0 : a0.length ≤ 1048576) :
  Calls Tryz.prog 162 #[v_a0, S a1] w (Rt (RP w (.int .i64 (findN a0 a1)))) := by
 obtain ⟨k, H⟩ := spec_l04At.eq a0 a1 h0
 generalize (findN a0 a1) = r at H ⊢
 unfold spec_l04At.sh at H
 refine calls_of_W Tryz.func162 rfl (Nat.le_of_ble_eq_true rfl) Tryz.ntmps162 rfl ?_
 refine wr <| lp rfl rfl (xa (.int .i64 0) rfl) <| nx <| W_seq <| wr <| lp rfl rfl (xa (.int .i64 0) rfl) <| nx ?_
 obtain ⟨z2, L3, C4⟩ := bind_some H
 clear H
 refine  W_cutQ (fun s0 sQ wQ => Kp [(4, 20)] s0 sQ ∧ Ext w wQ ∧ z2 = .inr ()) ?_ ?_
 ·refine W_block <| W_loopI (fun s0 kk sQ wQ => ∃ (x5_1 : Int), Kp [(4, 20)] s0 sQ ∧ sQ 5 = .int .i64 x5_1 ∧ Ext w wQ ∧ loopF (spec_l04At.b1 a0 a1) kk x5_1 = some z2) k ⟨0, kz, rfl, er, L3⟩ ?_
  rintro k9 s10 w11 ⟨x5_1, K12, h15, e13, L14⟩
  cases k9 with
  | zero => exact absurd L14 (by simp [loopF])
  | succ k9 =>
   obtain ⟨t16, H, S17⟩ := loopF_succ L14
   clear L14
   unfold spec_l04At.b1 at H
   refine W_seq <| wr <| lp rfl rfl (X_move h15) <| lp rfl rfl (xm v_a0 (K12 0 rfl)) <| lp rfl rfl (X_lenR Tryz.underlying29 rfl (Rd.ext f_a0 e13)) <| lp rfl rfl (X_lss rfl rfl) <| nx ?_
   rcases bif_two H with ⟨q18, H⟩ | ⟨q18, H⟩
   ·refine W_true (cb q18) <| W_skip <| thn_n <| W_seq <| W_block <| wr <| lp rfl rfl (xm v_a0 (K12 0 rfl)) <| lp rfl rfl (X_move h15) ?_
    obtain ⟨c19, H⟩ := bif_some H
    refine L_idx (.plain rfl) rfl (ltb rfl) rfl Tryz.underlying29 Tryz.sizeOf60 rfl (Rd.ext f_a0 e13) rfl c19 <| fun p20 h21 => lp rfl rfl (X_fieldAddr Tryz.underlying60 rfl Tryz.sizeOf9 rfl rfl) <| lp rfl rfl (X_loadF Tryz.isAgg9 (j := 1) h21 rfl rfl) <| lp rfl rfl (xm (S a1) (K12 1 rfl)) <| lp rfl rfl (X_seq rfl rfl) <| nx ?_
    rcases bif_two H with ⟨q22, H⟩ | ⟨q22, H⟩
    ·refine W_true (cb q22) <| wr <| lp rfl rfl (X_move h15) <| lp rfl rfl (xa (.int .i64 x5_1) rfl) <| nx <| W_ret <| blk_r <| thn_r <| thn_r <| blk_r <| thn_r <| thn_r <| fin_r ?_
     obtain rfl := si H
     obtain rfl := si S17
     have H := C4
     obtain rfl := si H
     exact fin1 rfl e13
    ·refine W_false (cb q22) <| W_skip <| blk_n <| thn_n <| W_reg <| lp rfl rfl (X_move h15) <| lp rfl rfl (X_add rfl rfl) <| lp rfl rfl (xa (.int .i64 (IntKind.wrap .i64 (x5_1 + 1))) rfl) <| nx ?_
     obtain rfl := si H
     exact ⟨_, Nat.lt_succ_self _, IntKind.wrap .i64 (x5_1 + 1), (ku2 (ku4 (ku8 K12 rfl) rfl) rfl), rfl, e13, S17⟩
   ·refine W_false (cb q18) <| W_exit <| thn_x <| thn_x <| blk_x <| thn_n ?_
    obtain rfl := si H
    obtain rfl := si S17
    exact ⟨(ku4 K12 rfl), e13, rfl⟩
 ·rintro s6 w5 ⟨K7, e8, y23⟩
  rw [y23] at C4
  have H := C4
  replace H : _ = some _ := H
  refine thn_n <| wr <| lp rfl rfl (xa (.int .i64 (-1)) rfl) <| nx <| W_ret <| fin_r ?_
  obtain rfl := si H
  exact fin1 rfl e8
/-! spec.l04OK -/
abbrev spec_l04OK.e1 (a0 : List Nd) (x3_2 : Int) := ((decide (((gt a0 x3_2).kind) = 4)) || (!(decide (recFault (recOf (gt a0 x3_2)) = 0))))
abbrev spec_l04OK.e2 (a0 : List Nd) (x3_2 : Int) := ((!(spec_l04OK.e1 a0 x3_2)) && (decide (0 < x3_2)))
abbrev spec_l04OK.e3 (a0 : List Nd) (x3_2 : Int) := (lessL (cut 47 ((gt a0 (IntKind.wrap .i64 (x3_2 - 1))).path)) (cut 47 ((gt a0 x3_2).path)))
theorem spec_l04OK.walk {k : Nat} {w : World} {a0 : List Nd} {v_a0 : Value} (f_a0 : Rd 4 encNd w v_a0 a0) {r : Bool} (H : spec_l04OK.sh k a0 = some r) :
  Calls Tryz.prog 130 #[v_a0] w (Rt (RP w (.bool r))) := by
 unfold spec_l04OK.sh at H
 refine calls_of_W Tryz.func130 rfl (Nat.le_of_ble_eq_true rfl) Tryz.ntmps130 rfl ?_
 refine wr <| lp rfl rfl (xa (.bool false) rfl) <| nx <| W_seq <| wr <| lp rfl rfl (xm v_a0 rfl) <| lp rfl rfl (X_lenR Tryz.underlying29 rfl f_a0) <| lp rfl rfl (X_gtr rfl rfl) <| nx ?_
 rcases bif_two H with ⟨q1, H⟩ | ⟨q1, H⟩
 ·refine W_true (cb q1) <| wr <| lp rfl rfl (xa (.bool false) rfl) <| nx <| W_ret <| thn_r <| fin_r ?_
  obtain rfl := si H
  exact fin1 rfl er
 ·refine W_false (cb q1) <| W_skip <| thn_n <| W_seq <| wr <| lp rfl rfl (xa (.int .i64 0) rfl) <| nx ?_
  obtain ⟨z3, L4, C5⟩ := bind_some H
  clear H
  refine  W_cutQ (fun s0 sQ wQ => Kp [(2, 6), (9, 72)] s0 sQ ∧ Ext w wQ ∧ z3 = .inr ()) ?_ ?_
  ·refine W_block <| W_loopI (fun s0 kk sQ wQ => ∃ (x3_2 : Int), Kp [(2, 6), (9, 72)] s0 sQ ∧ sQ 3 = .int .i64 x3_2 ∧ Ext w wQ ∧ loopF (spec_l04OK.b1 a0) kk x3_2 = some z3) k ⟨0, kz, rfl, er, L4⟩ ?_
   rintro k10 s11 w12 ⟨x3_2, K13, h16, e14, L15⟩
   cases k10 with
   | zero => exact absurd L15 (by simp [loopF])
   | succ k10 =>
    obtain ⟨t17, H, S18⟩ := loopF_succ L15
    clear L15
    unfold spec_l04OK.b1 at H
    refine W_seq <| wr <| lp rfl rfl (X_move h16) <| lp rfl rfl (xm v_a0 (K13 0 rfl)) <| lp rfl rfl (X_lenR Tryz.underlying29 rfl (Rd.ext f_a0 e14)) <| lp rfl rfl (X_lss rfl rfl) <| nx ?_
    rcases bif_two H with ⟨q19, H⟩ | ⟨q19, H⟩
    ·refine W_true (cb q19) <| W_skip <| thn_n <| W_seq <| W_block <| W_seq <| W_seq ?_
     obtain ⟨c20, H⟩ := bif_some H
     obtain ⟨c23, H⟩ := bif_some H
     obtain ⟨c30, H⟩ := bif_some H
     obtain ⟨c33, H⟩ := bif_some H
     obtain ⟨c36, H⟩ := bif_some H
     obtain ⟨c37, H⟩ := bif_some H
     refine W_dM [LEq v_a0, LEq (.int .i64 x3_2), LAt0 (encNd (gt a0 x3_2)), LAt 0 (encNd (gt a0 x3_2)), LEq (.int .i64 ((gt a0 x3_2).kind)), LEq (.bool (decide (((gt a0 x3_2).kind) = 4))), LEq (.bool (decide (((gt a0 x3_2).kind) = 4))), LIf (!(decide (((gt a0 x3_2).kind) = 4))) (LEq v_a0), LIf (!(decide (((gt a0 x3_2).kind) = 4))) (LEq (.int .i64 x3_2)), LIf (!(decide (((gt a0 x3_2).kind) = 4))) (LAt0 (encNd (gt a0 x3_2))), LIf (!(decide (((gt a0 x3_2).kind) = 4))) (LEq (.agg (encNd (gt a0 x3_2)).toArray)), LIf (!(decide (((gt a0 x3_2).kind) = 4))) (LEq (.agg (encRec (recOf (gt a0 x3_2))).toArray)), LIf (!(decide (((gt a0 x3_2).kind) = 4))) (LEq (.bool (decide (recFault (recOf (gt a0 x3_2)) = 0)))), LIf (!(decide (((gt a0 x3_2).kind) = 4))) (LEq (.bool (!(decide (recFault (recOf (gt a0 x3_2)) = 0))))), LEq (.bool (spec_l04OK.e1 a0 x3_2)), LEq (.bool (spec_l04OK.e1 a0 x3_2)), LIf (!(spec_l04OK.e1 a0 x3_2)) (LEq (.int .i64 x3_2)), LIf (!(spec_l04OK.e1 a0 x3_2)) (LEq (.bool (decide (0 < x3_2)))), LIf (!(spec_l04OK.e1 a0 x3_2)) (LEq (.bool (decide (0 < x3_2)))), LIf (spec_l04OK.e2 a0 x3_2) (LEq v_a0), LIf (spec_l04OK.e2 a0 x3_2) (LEq (.int .i64 x3_2)), LIf (spec_l04OK.e2 a0 x3_2) (LEq (.int .i64 (IntKind.wrap .i64 (x3_2 - 1)))), LIf (spec_l04OK.e2 a0 x3_2) (LAt0 (encNd (gt a0 (IntKind.wrap .i64 (x3_2 - 1))))), LIf (spec_l04OK.e2 a0 x3_2) (LAt 1 (encNd (gt a0 (IntKind.wrap .i64 (x3_2 - 1))))), LIf (spec_l04OK.e2 a0 x3_2) (LEq (S ((gt a0 (IntKind.wrap .i64 (x3_2 - 1))).path))), LIf (spec_l04OK.e2 a0 x3_2) (LEq v_a0), LIf (spec_l04OK.e2 a0 x3_2) (LEq (.int .i64 x3_2)), LIf (spec_l04OK.e2 a0 x3_2) (LAt0 (encNd (gt a0 x3_2))), LIf (spec_l04OK.e2 a0 x3_2) (LAt 1 (encNd (gt a0 x3_2))), LIf (spec_l04OK.e2 a0 x3_2) (LEq (S ((gt a0 x3_2).path))), LIf (spec_l04OK.e2 a0 x3_2) (LEq (.bool (spec_l04OK.e3 a0 x3_2))), LIf (spec_l04OK.e2 a0 x3_2) (LEq (.bool (!(spec_l04OK.e3 a0 x3_2)))), LIf (!(spec_l04OK.e1 a0 x3_2)) (LEq (.bool ((decide (0 < x3_2)) && (!(spec_l04OK.e3 a0 x3_2))))), LEq (.bool ((spec_l04OK.e1 a0 x3_2) || ((decide (0 < x3_2)) && (!(spec_l04OK.e3 a0 x3_2)))))] (by kernel_rfl) (by kernel_rfl) ⟨qm, qm, LAt0.mono, LAt.mono, qm, qm, qm, lm, lm, (LIf.mono LAt0.mono), lm, lm, lm, lm, qm, qm, lm, lm, lm, lm, lm, lm, (LIf.mono LAt0.mono), (LIf.mono LAt.mono), lm, lm, lm, (LIf.mono LAt0.mono), (LIf.mono LAt.mono), lm, lm, lm, lm, qm, trivial⟩ ⟨?_, ?_, ?_, ?_, ?_, ?_, ?_, ?_, ?_, ?_, ?_, ?_, ?_, ?_, ?_, ?_, ?_, ?_, ?_, ?_, ?_, ?_, ?_, ?_, ?_, ?_, ?_, ?_, ?_, ?_, ?_, ?_, ?_, ?_, trivial⟩ ?_
     ·exact fun s x e f d u => lp rfl rfl (xm v_a0 ((f 0 rfl).trans (K13 0 rfl))) <| se rfl rfl
     ·exact fun s x e f d u => lp rfl rfl (xm (.int .i64 x3_2) ((f 3 rfl).trans h16)) <| se rfl rfl
     ·exact fun s x e f d u => L_idx (.plain rfl) rfl (ltb rfl) rfl Tryz.underlying29 Tryz.sizeOf60 (d 0 rfl) (Rd.ext f_a0 (e14.t e)) (d 1 rfl) c20 <| fun p41 h42 => se rfl ⟨_, rfl, h42⟩
     ·intro s x e f d u
      obtain ⟨p43, h44, h45⟩ := (d 2 rfl)
      exact lp rfl rfl (X_fieldAddr Tryz.underlying60 rfl Tryz.sizeOf3 rfl h44) <| se rfl ⟨_, rfl, h45⟩
     ·intro s x e f d u
      obtain ⟨p46, h47, h48⟩ := (d 3 rfl)
      exact lp rfl rfl (X_loadF Tryz.isAgg3 (j := 0) h48 h47 rfl) <| se rfl rfl
     ·exact fun s x e f d u => lp rfl rfl (X_eql (d 4 rfl) rfl) <| se rfl rfl
     ·exact fun s x e f d u => lp rfl rfl (X_move (d 5 rfl)) <| se rfl rfl
     ·exact fun s x e f d u => gF rfl rfl rfl rfl (d 6 rfl) rfl fun b t => lt t rfl rfl (xm v_a0 ((f 0 rfl).trans (K13 0 rfl))) <| sg rfl rfl b rfl
     ·exact fun s x e f d u => gF rfl rfl rfl rfl (d 6 rfl) rfl fun b t => lt t rfl rfl (xm (.int .i64 x3_2) ((f 3 rfl).trans h16)) <| sg rfl rfl b rfl
     ·exact fun s x e f d u => gF rfl rfl rfl rfl (d 6 rfl) rfl fun b t => L_idx t rfl (ltb rfl) rfl Tryz.underlying29 Tryz.sizeOf60 ((d 7 rfl).1 (not_mk (not_f b))) (Rd.ext f_a0 (e14.t e)) ((d 8 rfl).1 (not_mk (not_f b))) (imp_take b c23) <| fun p50 h51 => sg rfl rfl b ⟨_, rfl, h51⟩
     ·intro s x e f d u
      refine gF rfl rfl rfl rfl (d 6 rfl) rfl fun b t => ?_
      obtain ⟨p52, h53, h54⟩ := ((d 9 rfl).1 (not_mk (not_f b)))
      exact lt t rfl rfl (X_loadS Tryz.isAgg60 Tryz.sizeOf60 rfl h53 h54) <| sg rfl rfl b rfl
     ·exact fun s x e f d u => gF rfl rfl rfl rfl (d 6 rfl) rfl fun b t => L_callP t rfl (ltb rfl) rfl Tryz.call159 (spec_l04Record.calls (w := x) (a0 := gt a0 x3_2)) (cons2 ((d 10 rfl).1 (not_mk (not_f b))) rfl) <| fun w55 e56 => sgx rfl rfl b e56 rfl
     ·exact fun s x e f d u => gF rfl rfl rfl rfl (d 6 rfl) rfl fun b t => L_callP t rfl (ltb rfl) rfl Tryz.call158 (spec_l02OK.calls (w := x) (a0 := (recOf (gt a0 x3_2)))) (cons2 ((d 11 rfl).1 (not_mk (not_f b))) rfl) <| fun w57 e58 => sgx rfl rfl b e58 rfl
     ·exact fun s x e f d u => gF rfl rfl rfl rfl (d 6 rfl) rfl fun b t => lt t rfl rfl (X_not ((d 12 rfl).1 (not_mk (not_f b)))) <| sg rfl rfl b rfl
     ·exact fun s x e f d u => lp rfl rfl (X_pickO (d 6 rfl) rfl fun h => ((d 13 rfl).1 (not_mk h))) <| se rfl rfl
     ·exact fun s x e f d u => lp rfl rfl (X_move (d 14 rfl)) <| se rfl rfl
     ·exact fun s x e f d u => gF rfl rfl rfl rfl (d 15 rfl) rfl fun b t => lt t rfl rfl (xm (.int .i64 x3_2) ((f 3 rfl).trans h16)) <| sg rfl rfl b rfl
     ·exact fun s x e f d u => gF rfl rfl rfl rfl (d 15 rfl) rfl fun b t => lt t rfl rfl (X_gtr ((d 16 rfl).1 (not_mk (not_f b))) rfl) <| sg rfl rfl b rfl
     ·exact fun s x e f d u => gF rfl rfl rfl rfl (d 15 rfl) rfl fun b t => lt t rfl rfl (xm (.bool (decide (0 < x3_2))) ((d 17 rfl).1 (not_mk (not_f b)))) <| sg rfl rfl b rfl
     ·exact fun s x e f d u => hT rfl rfl rfl rfl (d 18 rfl) rfl fun b t => lt t rfl rfl (xm v_a0 ((f 0 rfl).trans (K13 0 rfl))) <| sg rfl rfl b rfl
     ·exact fun s x e f d u => hT rfl rfl rfl rfl (d 18 rfl) rfl fun b t => lt t rfl rfl (xm (.int .i64 x3_2) ((f 3 rfl).trans h16)) <| sg rfl rfl b rfl
     ·exact fun s x e f d u => hT rfl rfl rfl rfl (d 18 rfl) rfl fun b t => lt t rfl rfl (X_sub ((d 20 rfl).1 (and_mk (not_mk (not_f (and_l b))) (and_r b))) rfl) <| sg rfl rfl b rfl
     ·exact fun s x e f d u => hT rfl rfl rfl rfl (d 18 rfl) rfl fun b t => L_idx t rfl (ltb rfl) rfl Tryz.underlying29 Tryz.sizeOf60 ((d 19 rfl).1 (and_mk (not_mk (not_f (and_l b))) (and_r b))) (Rd.ext f_a0 (e14.t e)) ((d 21 rfl).1 (and_mk (not_mk (not_f (and_l b))) (and_r b))) (imp_take b c30) <| fun p60 h61 => sg rfl rfl b ⟨_, rfl, h61⟩
     ·intro s x e f d u
      refine hT rfl rfl rfl rfl (d 18 rfl) rfl fun b t => ?_
      obtain ⟨p62, h63, h64⟩ := ((d 22 rfl).1 (and_mk (not_mk (not_f (and_l b))) (and_r b)))
      exact lt t rfl rfl (X_fieldAddr Tryz.underlying60 rfl Tryz.sizeOf9 rfl h63) <| sg rfl rfl b ⟨_, rfl, h64⟩
     ·intro s x e f d u
      refine hT rfl rfl rfl rfl (d 18 rfl) rfl fun b t => ?_
      obtain ⟨p65, h66, h67⟩ := ((d 23 rfl).1 (and_mk (not_mk (not_f (and_l b))) (and_r b)))
      exact lt t rfl rfl (X_loadF Tryz.isAgg9 (j := 1) h67 h66 rfl) <| sg rfl rfl b rfl
     ·exact fun s x e f d u => hT rfl rfl rfl rfl (d 18 rfl) rfl fun b t => lt t rfl rfl (xm v_a0 ((f 0 rfl).trans (K13 0 rfl))) <| sg rfl rfl b rfl
     ·exact fun s x e f d u => hT rfl rfl rfl rfl (d 18 rfl) rfl fun b t => lt t rfl rfl (xm (.int .i64 x3_2) ((f 3 rfl).trans h16)) <| sg rfl rfl b rfl
     ·exact fun s x e f d u => hT rfl rfl rfl rfl (d 18 rfl) rfl fun b t => L_idx t rfl (ltb rfl) rfl Tryz.underlying29 Tryz.sizeOf60 ((d 25 rfl).1 (and_mk (not_mk (not_f (and_l b))) (and_r b))) (Rd.ext f_a0 (e14.t e)) ((d 26 rfl).1 (and_mk (not_mk (not_f (and_l b))) (and_r b))) (imp_take b c33) <| fun p69 h70 => sg rfl rfl b ⟨_, rfl, h70⟩
     ·intro s x e f d u
      refine hT rfl rfl rfl rfl (d 18 rfl) rfl fun b t => ?_
      obtain ⟨p71, h72, h73⟩ := ((d 27 rfl).1 (and_mk (not_mk (not_f (and_l b))) (and_r b)))
      exact lt t rfl rfl (X_fieldAddr Tryz.underlying60 rfl Tryz.sizeOf9 rfl h72) <| sg rfl rfl b ⟨_, rfl, h73⟩
     ·intro s x e f d u
      refine hT rfl rfl rfl rfl (d 18 rfl) rfl fun b t => ?_
      obtain ⟨p74, h75, h76⟩ := ((d 28 rfl).1 (and_mk (not_mk (not_f (and_l b))) (and_r b)))
      exact lt t rfl rfl (X_loadF Tryz.isAgg9 (j := 1) h76 h75 rfl) <| sg rfl rfl b rfl
     ·exact fun s x e f d u => hT rfl rfl rfl rfl (d 18 rfl) rfl fun b t => L_callP t rfl (ltb rfl) rfl Tryz.call205 (spec_l01Less.calls (w := x) (a0 := (gt a0 (IntKind.wrap .i64 (x3_2 - 1))).path) (a1 := (gt a0 x3_2).path) (od (imp_take b c36)) (od (imp_take b c37))) (cons2 ((d 24 rfl).1 (and_mk (not_mk (not_f (and_l b))) (and_r b))) (cons2 ((d 29 rfl).1 (and_mk (not_mk (not_f (and_l b))) (and_r b))) rfl)) <| fun w79 e80 => sgx rfl rfl b e80 rfl
     ·exact fun s x e f d u => hT rfl rfl rfl rfl (d 18 rfl) rfl fun b t => lt t rfl rfl (X_not ((d 30 rfl).1 (and_mk (not_mk (not_f (and_l b))) (and_r b)))) <| sg rfl rfl b rfl
     ·exact fun s x e f d u => gF rfl rfl rfl rfl (d 15 rfl) rfl fun b t => lt t rfl rfl (X_pickA ((d 18 rfl).1 (not_mk (not_f b))) rfl fun h => ((d 31 rfl).1 (and_mk (not_mk (not_f b)) h))) <| sg rfl rfl b rfl
     ·exact fun s x e f d u => lp rfl rfl (X_pickO (d 15 rfl) rfl fun h => ((d 32 rfl).1 (not_mk h))) <| se rfl rfl
     intro s81 w82 e83 hf84 ha85
     have K86 := Kp.ofD (kp := [(15, 49)]) rfl hf84
     have d87 : s81 48 = (.bool ((spec_l04OK.e1 a0 x3_2) || ((decide (0 < x3_2)) && (!(spec_l04OK.e3 a0 x3_2))))) := ha85 33 rfl
     clear ha85 hf84
     refine thn_n ?_
     rcases bif_two H with ⟨q88, H⟩ | ⟨q88, H⟩
     ·refine W_true (d87.trans (cb q88)) <| wr <| lp rfl rfl (xa (.bool false) rfl) <| nx <| W_ret <| thn_r <| blk_r <| thn_r <| thn_r <| blk_r <| thn_r <| thn_r <| fin_r ?_
      obtain rfl := si H
      obtain rfl := si S18
      have H := C5
      obtain rfl := si H
      exact fin1 rfl (e14.t e83)
     ·refine W_false (d87.trans (cb q88)) <| W_skip <| thn_n <| wr <| lp rfl rfl (xm v_a0 ((K86 0 rfl).trans (K13 0 rfl))) <| lp rfl rfl (xm (.int .i64 x3_2) ((K86 3 rfl).trans h16)) ?_
      obtain ⟨c89, H⟩ := bif_some H
      refine L_idx (.plain rfl) rfl (ltb rfl) rfl Tryz.underlying29 Tryz.sizeOf60 rfl (Rd.ext f_a0 (e14.t e83)) rfl c89 <| fun p90 h91 => lp rfl rfl (X_fieldAddr Tryz.underlying60 rfl Tryz.sizeOf9 rfl rfl) <| lp rfl rfl (X_loadF Tryz.isAgg9 (j := 1) h91 rfl rfl) ?_
      obtain ⟨c92, H⟩ := bif_some H
      refine lc rfl rfl rfl Tryz.call161 (spec_l01Parent.calls (w := w82) (a0 := (gt a0 x3_2).path) (od c92)) rfl <| fun w93 e94 => lp rfl rfl (xa (S (parentP ((gt a0 x3_2).path))) rfl) <| nx <| wr <| lp rfl rfl (xm (S (parentP ((gt a0 x3_2).path))) rfl) <| lp rfl rfl (X_sne rfl rfl) <| nx ?_
      rcases bif_two H with ⟨q95, H⟩ | ⟨q95, H⟩
      ·refine W_true (cb q95) <| wr <| lp rfl rfl (xm v_a0 ((K86 0 rfl).trans (K13 0 rfl))) <| lp rfl rfl (xm (.int .i64 x3_2) ((K86 3 rfl).trans h16)) ?_
       obtain ⟨c96, H⟩ := bif_some H
       refine L_sub (.plain rfl) rfl (ltb rfl) rfl Tryz.underlying29 Tryz.sizeOf60 rfl (Rd.ext f_a0 ((e14.t e83).t e94)) (l := 0) (h := x3_2) rfl ⟨_, rfl⟩ c96 <| fun v97 h98 => lp rfl rfl (xm (S (parentP ((gt a0 x3_2).path))) rfl) ?_
       obtain ⟨c99, H⟩ := bif_some H
       refine lc rfl rfl rfl Tryz.call162 (spec_l04At.calls (w := w93) (a0 := sub a0 0 x3_2) (a1 := (parentP ((gt a0 x3_2).path))) h98 (od c99)) rfl <| fun w100 e101 => lp rfl rfl (xa (.int .i64 (findN (sub a0 0 x3_2) (parentP ((gt a0 x3_2).path)))) rfl) <| nx <| wr <| lp rfl rfl (xm (.int .i64 (findN (sub a0 0 x3_2) (parentP ((gt a0 x3_2).path)))) rfl) <| lp rfl rfl (X_lss rfl rfl) <| lp rfl rfl (X_move rfl) ?_
       obtain ⟨z103, x104, H⟩ := bind_some H
       refine L_grpE 7 [(65, 72)] 71 (fun q => q = z103) ?_ ?_
       ·rcases bif_two x104 with ⟨b101_, H⟩ | ⟨b101_, H⟩
        ·refine ls rfl rfl rfl (cb b101_) rfl <| ls rfl rfl rfl (cb b101_) rfl <| ls rfl rfl rfl (cb b101_) rfl <| ls rfl rfl rfl (cb b101_) rfl <| ls rfl rfl rfl (cb b101_) rfl <| ls rfl rfl rfl (cb b101_) rfl <| lp rfl rfl (X_pick (b := true) (v := (.bool true)) (cb b101_) rfl) ?_
         obtain rfl := si H
         exact nx ⟨(ku3 (ku4 kz rfl) rfl), ⟨_, rfl, rfl⟩, er⟩
        ·refine lg rfl rfl rfl rfl (cb b101_) (xm v_a0 ((K86 0 rfl).trans (K13 0 rfl))) <| lg rfl rfl rfl rfl (cb b101_) (xm (.int .i64 (findN (sub a0 0 x3_2) (parentP ((gt a0 x3_2).path)))) rfl) ?_
         obtain ⟨c103, H⟩ := bif_some H
         refine L_idx (tg rfl rfl rfl (cb b101_)) rfl (ltb rfl) rfl Tryz.underlying29 Tryz.sizeOf60 rfl (Rd.ext f_a0 (((e14.t e83).t e94).t e101)) rfl c103 <| fun p104 h105 => lg rfl rfl rfl rfl (cb b101_) (X_fieldAddr Tryz.underlying60 rfl Tryz.sizeOf3 rfl rfl) <| lg rfl rfl rfl rfl (cb b101_) (X_loadF Tryz.isAgg3 (j := 0) h105 rfl rfl) <| lg rfl rfl rfl rfl (cb b101_) (X_neq rfl rfl) <| lp rfl rfl (X_pick (b := false) (v := (.bool (!decide (((gt a0 (findN (sub a0 0 x3_2) (parentP ((gt a0 x3_2).path)))).kind) = 3)))) (cb b101_) rfl) ?_
         obtain rfl := si H
         exact nx ⟨(ku3 (ku4 kz rfl) rfl), ⟨_, rfl, rfl⟩, er⟩
       intro s109 w105 z110 K106 hq h107 e108
       rw [hq] at h107; clear hq
       refine nx ?_
       rcases bif_two H with ⟨q111, H⟩ | ⟨q111, H⟩
       ·refine W_true (h107.trans (cb q111)) <| wr <| lp rfl rfl (xa (.bool false) rfl) <| nx <| W_ret <| blk_r <| thn_r <| thn_r <| blk_r <| thn_r <| thn_r <| fin_r ?_
        obtain rfl := si H
        obtain rfl := si S18
        have H := C5
        obtain rfl := si H
        exact fin1 rfl ((((e14.t e83).t e94).t e101).t e108)
       ·refine W_false (h107.trans (cb q111)) <| W_skip <| blk_n <| thn_n <| W_reg <| lp rfl rfl (xm (.int .i64 x3_2) ((K106 3 rfl).trans ((K86 3 rfl).trans h16))) <| lp rfl rfl (X_add rfl rfl) <| lp rfl rfl (xa (.int .i64 (IntKind.wrap .i64 (x3_2 + 1))) rfl) <| nx ?_
        obtain rfl := si H
        exact ⟨_, Nat.lt_succ_self _, IntKind.wrap .i64 (x3_2 + 1), (ku3 (Kp.cut (ku2 (ku8 (ku8 (Kp.cut (ku4 K13 rfl) K86 rfl) rfl) rfl) rfl) K106 rfl) rfl), rfl, ((((e14.t e83).t e94).t e101).t e108), S18⟩
      ·refine W_false (cb q95) <| W_skip <| blk_n <| thn_n <| W_reg <| lp rfl rfl (xm (.int .i64 x3_2) ((K86 3 rfl).trans h16)) <| lp rfl rfl (X_add rfl rfl) <| lp rfl rfl (xa (.int .i64 (IntKind.wrap .i64 (x3_2 + 1))) rfl) <| nx ?_
       obtain rfl := si H
       exact ⟨_, Nat.lt_succ_self _, IntKind.wrap .i64 (x3_2 + 1), (ku4 (ku8 (Kp.cut (ku4 K13 rfl) K86 rfl) rfl) rfl), rfl, ((e14.t e83).t e94), S18⟩
    ·refine W_false (cb q19) <| W_exit <| thn_x <| thn_x <| blk_x <| thn_n ?_
     obtain rfl := si H
     obtain rfl := si S18
     exact ⟨(ku4 K13 rfl), e14, rfl⟩
  ·rintro s7 w6 ⟨K8, e9, y112⟩
   rw [y112] at C5
   have H := C5
   replace H : _ = some _ := H
   refine thn_n <| wr <| lp rfl rfl (xa (.bool true) rfl) <| nx <| W_ret <| fin_r ?_
   obtain rfl := si H
   exact fin1 rfl e9
theorem spec_l04OK.calls {w : World} {a0 : List Nd} {v_a0 : Value} (f_a0 : Rd 4 encNd w v_a0 a0) (h0 : ∀ x ∈ a0, x.path.length ≤ 1048576) :
  Calls Tryz.prog 130 #[v_a0] w (Rt (RP w (.bool (treeOK a0)))) := by
 obtain ⟨k, h⟩ := spec_l04OK.eq a0 h0
 exact spec_l04OK.walk f_a0 h
/-! (impl.Node).record -/
theorem impl_Node_record.calls {w : World} {a0 : Nd} :
  Calls Tryz.prog 225 #[.agg (encNd a0).toArray] w (Rt (RP w (.agg (encRec (recOf a0)).toArray))) := by
 have H := impl_Node_record.eq a0
 generalize (recOf a0) = r at H ⊢
 unfold impl_Node_record.sh at H
 refine calls_of_WG Tryz.func225 rfl (Nat.le_of_ble_eq_true rfl) Tryz.ntmps225 ?_
 refine wr <| L_box (.plain rfl) rfl (ltb rfl) rfl rfl <| fun b1 w2 z3 z4 e5 k6 => L_alloc (.plain rfl) rfl (ltb rfl) rfl Tryz.zeroValue58 <| fun b7 w8 z9 z10 e11 k12 => nx <| wr <| lp rfl rfl (X_fieldAddr Tryz.underlying60 rfl Tryz.sizeOf3 rfl rfl) <| lp rfl rfl (X_loadB Tryz.isAgg3 (Blk.ext k6 e11) rfl rfl) <| lp rfl rfl (X_fieldAddr Tryz.underlying60 rfl Tryz.sizeOf9 rfl rfl) <| lp rfl rfl (X_loadB Tryz.isAgg9 (Blk.ext k6 e11) rfl rfl) <| lp rfl rfl (X_fieldAddr Tryz.underlying60 rfl Tryz.sizeOf9 rfl rfl) <| lp rfl rfl (X_loadB Tryz.isAgg9 (Blk.ext k6 e11) rfl rfl) <| lp rfl rfl (X_fieldAddr Tryz.underlying60 rfl Tryz.sizeOf3 rfl rfl) <| lp rfl rfl (X_loadB Tryz.isAgg3 (Blk.ext k6 e11) rfl rfl) <| lp rfl rfl (X_build1 (vs := [(0, (.int .i64 a0.kind)), (1, (S a0.path)), (2, (S a0.body)), (3, (.int .i64 a0.mode)), (4, (.bool false))]) (pl := #[(0, 1), (1, 1), (2, 1), (3, 1), (4, 1)]) Tryz.underlying58 Tryz.zeroValue58 rfl (fun _ => by kernel_rfl) rfl rfl rfl) <| L_storeA (.plain rfl) rfl rfl Tryz.sizeOf58 rfl rfl rfl rfl rfl k12 <| fun w13 h14 k15 => nx <| W_ret <| finG_r ?_
 obtain rfl := si H
 exact finC1 rfl rfl k15 Tryz.isAgg58 Tryz.sizeOf58 rfl (e5.t (Below.trans e11 (Wr.below h14 (Nat.le_of_eq z9))))
/-! impl.nodeOK -/
theorem impl_nodeOK.calls {w : World} {a0 : Nd} (gv : GV 0 w) :
  Calls Tryz.prog 141 #[.agg (encNd a0).toArray] w (Rt (RP w (.bool (nodeOK a0)))) := by
 have H := impl_nodeOK.eq a0
 generalize (nodeOK a0) = r at H ⊢
 unfold impl_nodeOK.sh at H
 refine calls_of_W Tryz.func141 rfl (Nat.le_of_ble_eq_true rfl) Tryz.ntmps141 rfl ?_
 refine wr <| L_box (.plain rfl) rfl (ltb rfl) rfl rfl <| fun b1 w2 z3 z4 e5 k6 => lp rfl rfl (xa (.bool false) rfl) <| nx <| wr <| lp rfl rfl (X_loadS Tryz.isAgg60 Tryz.sizeOf60 rfl rfl (Blk.at0 k6)) <| lc rfl rfl rfl Tryz.call225 (impl_Node_record.calls (w := w2) (a0 := a0)) rfl <| fun w7 e8 => lc rfl rfl rfl Tryz.call224 (impl_RecordOK.calls (w := w7) (a0 := (recOf a0)) (GV.ext gv (e5.t e8))) rfl <| fun w9 e10 => lp rfl rfl (xm (.bool (decide (recFault (recOf a0) = 0))) rfl) <| L_grp 4 [(7, 11)] 10 (.bool ((decide (recFault (recOf a0) = 0)) && (!decide (a0.kind = 4)))) ?_ ?_
 ·rcases bool_two (decide (recFault (recOf a0) = 0)) with b10_ | b10_
  ·exact lg rfl rfl rfl rfl (cb b10_) (X_fieldAddr Tryz.underlying60 rfl Tryz.sizeOf3 rfl rfl) <| lg rfl rfl rfl rfl (cb b10_) (X_loadB Tryz.isAgg3 (Blk.ext k6 (e8.t e10)) rfl rfl) <| lg rfl rfl rfl rfl (cb b10_) (X_neq rfl rfl) <| lp rfl rfl (X_pick (b := true) (v := (.bool (!decide (a0.kind = 4)))) (cb b10_) rfl) <| nx ⟨(ku4 kz rfl), (and_t b10_), er⟩
  ·exact ls rfl rfl rfl (cb b10_) rfl <| ls rfl rfl rfl (cb b10_) rfl <| ls rfl rfl rfl (cb b10_) rfl <| lp rfl rfl (X_pick (b := false) (v := (.bool false)) (cb b10_) rfl) <| nx ⟨(ku4 kz rfl), (and_f b10_), er⟩
 intro s16 w12 K13 h14 e15
 refine lp rfl rfl (X_assign h14) <| nx <| W_ret <| fin_r ?_
 obtain rfl := si H
 exact fin1 rfl (((e5.t e8).t e10).t e15)
/-! impl.at$1 -/
theorem impl_at_1.calls {w : World} {a0 : Nd} {a1 : List UInt8} {b_a1 : Nat} (k_a1 : Blk w b_a1 #[(S a1)] 9) :
  Calls Tryz.prog 262 #[.agg (encNd a0).toArray, .pointer (some ⟨b_a1, 0, none⟩)] w (Rt (RP w (.bool (decide (a0.path = a1))))) := by
 have H := impl_at_1.eq a0 a1
 generalize (decide (a0.path = a1)) = r at H ⊢
 unfold impl_at_1.sh at H
 refine calls_of_W Tryz.func262 rfl (Nat.le_of_ble_eq_true rfl) Tryz.ntmps262 rfl ?_
 refine wr <| L_box (.plain rfl) rfl (ltb rfl) rfl rfl <| fun b1 w2 z3 z4 e5 k6 => lp rfl rfl (xa (.bool false) rfl) <| nx <| wr <| lp rfl rfl (X_fieldAddr Tryz.underlying60 rfl Tryz.sizeOf9 rfl rfl) <| lp rfl rfl (X_loadB Tryz.isAgg9 k6 rfl rfl) <| lp rfl rfl (X_loadB Tryz.isAgg9 (Blk.ext k_a1 e5) rfl rfl) <| lp rfl rfl (X_seq rfl rfl) <| lp rfl rfl (xa (.bool (decide (a0.path = a1))) rfl) <| nx <| W_ret <| fin_r ?_
 obtain rfl := si H
 exact fin1 rfl e5
/-! slices.IndexFunc(()impl.Node,impl.Node) -/
theorem slices_IndexFuncN.walk {k : Nat} {w : World} {a0 : List Nd} {a1 : Nd → Option Bool} {v_a0 : Value} (f_a0 : Rd 4 encNd w v_a0 a0) {v_a1 : Value} (f_a1 : ∀ (x0 : Nd) (r : Bool), a1 x0 = some r → FnAt Tryz.prog w v_a1 [(.agg (encNd x0).toArray)] (.bool r)) (g_a1 : v_a1.cells = #[v_a1]) {r : Int} (H : slices_IndexFuncN.sh k a0 a1 = some r) :
  Calls Tryz.prog 261 #[v_a0, v_a1] w (Rt (RP w (.int .i64 r))) := by
 unfold slices_IndexFuncN.sh at H
 refine calls_of_W Tryz.func261 rfl (Nat.le_of_ble_eq_true rfl) Tryz.ntmps261 rfl ?_
 refine wr <| lp rfl rfl (xa (.int .i64 0) rfl) <| nx <| W_seq <| wr <| lp rfl rfl (xm v_a0 rfl) <| lp rfl rfl (X_lenR Tryz.underlying29 rfl f_a0) <| lp rfl rfl (xm (.int .i64 0) rfl) <| nx ?_
 obtain ⟨z2, L3, C4⟩ := bind_some H
 clear H
 refine  W_cutQ (fun s0 sQ wQ => Kp [(4, 6), (8, 19)] s0 sQ ∧ Ext w wQ ∧ z2 = .inr ()) ?_ ?_
 ·refine W_block <| W_loopI (fun s0 kk sQ wQ => ∃ (x8_1 : Int), Kp [(4, 6), (8, 19)] s0 sQ ∧ sQ 8 = .int .i64 x8_1 ∧ Ext w wQ ∧ loopF (slices_IndexFuncN.b1 a0 a1) kk x8_1 = some z2) k ⟨0, kz, rfl, er, L3⟩ ?_
  rintro k9 s10 w11 ⟨x8_1, K12, h15, e13, L14⟩
  cases k9 with
  | zero => exact absurd L14 (by simp [loopF])
  | succ k9 =>
   obtain ⟨t16, H, S17⟩ := loopF_succ L14
   clear L14
   unfold slices_IndexFuncN.b1 at H
   refine wr <| lp rfl rfl (X_lss h15 (K12 7 rfl)) <| nx <| W_seq ?_
   rcases bif_two H with ⟨q18, H⟩ | ⟨q18, H⟩
   ·refine W_true (cb q18) <| W_skip <| thn_n <| W_seq <| W_block <| wr <| lp rfl rfl (X_move h15) <| lp rfl rfl (xa (.int .i64 x8_1) rfl) <| nx <| wr <| lp rfl rfl (xm v_a1 (K12 1 rfl)) <| lp rfl rfl (xm v_a0 (K12 0 rfl)) <| lp rfl rfl (xm (.int .i64 x8_1) rfl) ?_
    obtain ⟨c19, H⟩ := bif_some H
    refine L_idx (.plain rfl) rfl (ltb rfl) rfl Tryz.underlying29 Tryz.sizeOf60 rfl (Rd.ext f_a0 e13) rfl c19 <| fun p20 h21 => lp rfl rfl (X_loadS Tryz.isAgg60 Tryz.sizeOf60 rfl rfl h21) ?_
    obtain ⟨z22, x23, H⟩ := bind_some H
    refine L_callF (.plain rfl) rfl (ltb rfl) rfl rfl (FnAt.ext (f_a1 _ _ x23) e13) rfl <| fun w24 e25 => nx ?_
    rcases bif_two H with ⟨q26, H⟩ | ⟨q26, H⟩
    ·refine W_true (cb q26) <| wr <| lp rfl rfl (xm (.int .i64 x8_1) rfl) <| lp rfl rfl (xa (.int .i64 x8_1) rfl) <| nx <| W_ret <| blk_r <| thn_r <| thn_r <| blk_r <| thn_r <| thn_r <| fin_r ?_
     obtain rfl := si H
     obtain rfl := si S17
     have H := C4
     obtain rfl := si H
     exact fin1 rfl (e13.t e25)
    ·refine W_false (cb q26) <| W_skip <| blk_n <| thn_n <| W_reg <| lp rfl rfl (X_add h15 rfl) <| lp rfl rfl (xm (.int .i64 (IntKind.wrap .i64 (x8_1 + 1))) rfl) <| nx ?_
     obtain rfl := si H
     exact ⟨_, Nat.lt_succ_self _, IntKind.wrap .i64 (x8_1 + 1), (ku3 (ku8 K12 rfl) rfl), rfl, (e13.t e25), S17⟩
   ·refine W_false (cb q18) <| W_exit <| thn_x <| thn_x <| blk_x <| thn_n ?_
    obtain rfl := si H
    obtain rfl := si S17
    exact ⟨(ku1 K12 rfl), e13, rfl⟩
 ·rintro s6 w5 ⟨K7, e8, y27⟩
  rw [y27] at C4
  have H := C4
  replace H : _ = some _ := H
  refine thn_n <| wr <| lp rfl rfl (xa (.int .i64 (-1)) rfl) <| nx <| W_ret <| fin_r ?_
  obtain rfl := si H
  exact fin1 rfl e8
theorem slices_IndexFuncN.calls {w : World} {a0 : List Nd} {a1 : Nd → Option Bool} {r : Int} {v_a0 : Value} (f_a0 : Rd 4 encNd w v_a0 a0) {v_a1 : Value} (f_a1 : ∀ (x0 : Nd) (r : Bool), a1 x0 = some r → FnAt Tryz.prog w v_a1 [(.agg (encNd x0).toArray)] (.bool r)) (g_a1 : v_a1.cells = #[v_a1]) (h0 : a0.length ≤ 4611686018427387904) (H : (idxO a1 a0) = some r) :
  Calls Tryz.prog 261 #[v_a0, v_a1] w (Rt (RP w (.int .i64 r))) := by
 obtain ⟨k, h⟩ := slices_IndexFuncN.eq a0 a1 h0 H
 exact slices_IndexFuncN.walk f_a0 f_a1 g_a1 h
/-! impl.at -/
theorem impl_at.calls {w : World} {a0 : List Nd} {a1 : List UInt8} {v_a0 : Value} (f_a0 : Rd 4 encNd w v_a0 a0) (h0 : a0.length ≤ 1048576) :
  Calls Tryz.prog 210 #[v_a0, S a1] w (Rt (RP w (.int .i64 (findN a0 a1)))) := by
 have H := impl_at.eq a0 a1 h0
 generalize (findN a0 a1) = r at H ⊢
 unfold impl_at.sh at H
 refine calls_of_W Tryz.func210 rfl (Nat.le_of_ble_eq_true rfl) Tryz.ntmps210 rfl ?_
 refine wr <| L_box (.plain rfl) rfl (ltb rfl) rfl rfl <| fun b1 w2 z3 z4 e5 k6 => lp rfl rfl (xa (.int .i64 0) rfl) <| nx <| wr <| lp rfl rfl (xm v_a0 rfl) <| lp rfl rfl (X_makeFunc (vs := #[]) (us := #[.pointer (some ⟨b1, 0, none⟩)]) rfl rfl) ?_
 obtain ⟨c11, H⟩ := bif_some H
 obtain ⟨z12, x13, H⟩ := bind_some H
 refine lc rfl rfl rfl Tryz.call261 (slices_IndexFuncN.calls (w := w2) (a0 := a0) (a1 := (fun (x0_ : Nd) => some (decide (x0_.path = a1)))) (Rd.ext f_a0 e5) (fun x0_ r h => by have h := si h; subst h; exact FnAt.mk Tryz.call262 (by rfl) fun w9 k10 => impl_at_1.calls (w := w9) (a0 := x0_) (a1 := a1) (Blk.ext k6 k10)) rfl (od c11) x13) rfl <| fun w14 e15 => lp rfl rfl (xa (.int .i64 z12) rfl) <| nx <| W_ret <| fin_r ?_
 obtain rfl := si H
 exact fin1 rfl (e5.t e15)
/-! impl.isDir -/
theorem impl_isDir.calls {w : World} {a0 : List Nd} {a1 : List UInt8} {v_a0 : Value} (f_a0 : Rd 4 encNd w v_a0 a0) (h0 : a0.length ≤ 1048576) :
  Calls Tryz.prog 142 #[v_a0, S a1] w (Rt (RP w (.bool (isDirN a0 a1)))) := by
 have H := impl_isDir.eq a0 a1 h0
 generalize (isDirN a0 a1) = r at H ⊢
 unfold impl_isDir.sh at H
 refine calls_of_W Tryz.func142 rfl (Nat.le_of_ble_eq_true rfl) Tryz.ntmps142 rfl ?_
 refine wr <| lp rfl rfl (xa (.bool false) rfl) <| nx <| wr <| lp rfl rfl (xm v_a0 rfl) <| lp rfl rfl (xm (S a1) rfl) ?_
 obtain ⟨c1, H⟩ := bif_some H
 refine lc rfl rfl rfl Tryz.call210 (impl_at.calls (w := w) (a0 := a0) (a1 := a1) f_a0 (od c1)) rfl <| fun w2 e3 => lp rfl rfl (xa (.int .i64 (findN a0 a1)) rfl) <| nx <| wr <| lp rfl rfl (xm (S a1) rfl) <| lp rfl rfl (X_seq rfl rfl) <| lp rfl rfl (xm (.bool (decide (a1 = ([] : List UInt8)))) rfl) ?_
 obtain ⟨z5, x6, H⟩ := bind_some H
 refine L_grpE 11 [(12, 23)] 22 (fun q => q = z5) ?_ ?_
 ·rcases bif_two x6 with ⟨b3_, H⟩ | ⟨b3_, H⟩
  ·refine ls rfl rfl rfl (cb b3_) rfl <| ls rfl rfl rfl (cb b3_) rfl <| ls rfl rfl rfl (cb b3_) rfl <| lu rfl rfl rfl rfl rfl <| lu rfl rfl rfl rfl rfl <| lu rfl rfl rfl rfl rfl <| lu rfl rfl rfl rfl rfl <| lu rfl rfl rfl rfl rfl <| lu rfl rfl rfl rfl rfl <| ls rfl rfl rfl (cb b3_) rfl <| lp rfl rfl (X_pick (b := true) (v := (.bool true)) (cb b3_) rfl) ?_
   obtain rfl := si H
   exact nx ⟨(ku3 (ku8 kz rfl) rfl), ⟨_, rfl, rfl⟩, er⟩
  ·refine lg rfl rfl rfl rfl (cb b3_) (xm (.int .i64 (findN a0 a1)) rfl) <| lg rfl rfl rfl rfl (cb b3_) (X_geq rfl rfl) <| lg rfl rfl rfl rfl (cb b3_) (xm (.bool (decide (0 ≤ (findN a0 a1)))) rfl) ?_
   obtain ⟨z6, x7, H⟩ := bind_some H
   refine L_grpE 7 [(15, 22)] 21 (fun q => q = z6) ?_ ?_
   ·rcases bif_two x7 with ⟨b4_, H⟩ | ⟨b4_, H⟩
    ·refine lg rfl rfl rfl rfl (cb b4_) (xm v_a0 rfl) <| lg rfl rfl rfl rfl (cb b4_) (xm (.int .i64 (findN a0 a1)) rfl) ?_
     obtain ⟨c6, H⟩ := bif_some H
     refine L_idx (tg rfl rfl rfl (cb b4_)) rfl (ltb rfl) rfl Tryz.underlying29 Tryz.sizeOf60 rfl (Rd.ext f_a0 e3) rfl c6 <| fun p7 h8 => lg rfl rfl rfl rfl (cb b4_) (X_fieldAddr Tryz.underlying60 rfl Tryz.sizeOf3 rfl rfl) <| lg rfl rfl rfl rfl (cb b4_) (X_loadF Tryz.isAgg3 (j := 0) h8 rfl rfl) <| lg rfl rfl rfl rfl (cb b4_) (X_eql rfl rfl) <| lg rfl rfl rfl rfl (cb b3_) (X_pick (b := true) (v := (.bool (decide (((gt a0 (findN a0 a1)).kind) = 3)))) (cb b4_) rfl) ?_
     obtain rfl := si H
     exact nx ⟨(ku3 (ku4 kz rfl) rfl), ⟨_, rfl, rfl⟩, er⟩
    ·refine ls rfl rfl rfl (cb b4_) rfl <| ls rfl rfl rfl (cb b4_) rfl <| ls rfl rfl rfl (cb b4_) rfl <| ls rfl rfl rfl (cb b4_) rfl <| ls rfl rfl rfl (cb b4_) rfl <| ls rfl rfl rfl (cb b4_) rfl <| lg rfl rfl rfl rfl (cb b3_) (X_pick (b := false) (v := (.bool false)) (cb b4_) rfl) ?_
     obtain rfl := si H
     exact nx ⟨(ku3 (ku4 kz rfl) rfl), ⟨_, rfl, rfl⟩, er⟩
   intro s12 w8 z13 K9 hq h10 e11
   rw [hq] at h10; clear hq
   refine lp rfl rfl (X_pick (b := false) (v := (.bool z6)) ((K9 11 rfl).trans (cb b3_)) h10) ?_
   obtain rfl := si H
   exact nx ⟨(ku1 (Kp.cut (ku3 kz rfl) K9 rfl) rfl), ⟨_, rfl, rfl⟩, e11⟩
 intro s14 w7 z15 K8 hq h9 e10
 rw [hq] at h9; clear hq
 refine lp rfl rfl (X_assign h9) <| nx <| W_ret <| fin_r ?_
 obtain rfl := si H
 exact fin1 rfl (e3.t e10)
/-! impl.TreeOK -/
abbrev impl_TreeOK.e1 (a0 : List Nd) (x7_1 : Int) := (((decide (24 ≤ x7_1)) || (!(nodeOK (gt a0 x7_1)))) || ((decide (0 < x7_1)) && (!(pathLess ((gt a0 (IntKind.wrap .i64 (x7_1 - 1))).path) ((gt a0 x7_1).path)))))
abbrev impl_TreeOK.e2 (a0 : List Nd) (x7_1 : Int) := ((!((decide (24 ≤ x7_1)) || (!(nodeOK (gt a0 x7_1))))) && (decide (0 < x7_1)))
theorem impl_TreeOK.walk {k : Nat} {w : World} {a0 : List Nd} (gv : GV 0 w) {v_a0 : Value} (f_a0 : Rd 4 encNd w v_a0 a0) {r : Bool} (H : impl_TreeOK.sh k a0 = some r) :
  Calls Tryz.prog 43 #[v_a0] w (Rt (RP w (.bool r))) := by
 unfold impl_TreeOK.sh at H
 refine calls_of_W Tryz.func43 rfl (Nat.le_of_ble_eq_true rfl) Tryz.ntmps43 rfl ?_
 refine wr <| lp rfl rfl (xa (.bool false) rfl) <| nx <| W_seq <| wr <| lp rfl rfl (xm v_a0 rfl) <| lp rfl rfl (X_lenR Tryz.underlying29 rfl f_a0) <| lp rfl rfl (xm (.int .i64 0) rfl) <| nx ?_
 obtain ⟨z2, L3, C4⟩ := bind_some H
 clear H
 refine  W_cutQ (fun s0 sQ wQ => Kp [(2, 5), (7, 46)] s0 sQ ∧ Ext w wQ ∧ z2 = .inr ()) ?_ ?_
 ·refine W_block <| W_loopI (fun s0 kk sQ wQ => ∃ (x7_1 : Int), Kp [(2, 5), (7, 46)] s0 sQ ∧ sQ 7 = .int .i64 x7_1 ∧ Ext w wQ ∧ loopF (impl_TreeOK.b1 a0) kk x7_1 = some z2) k ⟨0, kz, rfl, er, L3⟩ ?_
  rintro k9 s10 w11 ⟨x7_1, K12, h15, e13, L14⟩
  cases k9 with
  | zero => exact absurd L14 (by simp [loopF])
  | succ k9 =>
   obtain ⟨t16, H, S17⟩ := loopF_succ L14
   clear L14
   unfold impl_TreeOK.b1 at H
   refine wr <| lp rfl rfl (X_lss h15 (K12 6 rfl)) <| nx <| W_seq ?_
   rcases bif_two H with ⟨q18, H⟩ | ⟨q18, H⟩
   ·refine W_true (cb q18) <| W_skip <| thn_n <| W_seq <| W_block <| wr <| lp rfl rfl (X_move h15) ?_
    obtain ⟨c19, H⟩ := bif_some H
    refine L_idx (.plain rfl) rfl (ltb rfl) rfl Tryz.underlying29 Tryz.sizeOf60 (K12 5 rfl) (Rd.ext f_a0 e13) h15 c19 <| fun p20 h21 => lp rfl rfl (X_loadS Tryz.isAgg60 Tryz.sizeOf60 rfl rfl h21) <| L_alloc (.plain rfl) rfl (ltb rfl) rfl Tryz.zeroValue60 <| fun b22 w23 z24 z25 e26 k27 => lp rfl rfl (xa (.int .i64 x7_1) rfl) <| L_storeA (.plain rfl) rfl rfl Tryz.sizeOf60 rfl rfl rfl rfl rfl k27 <| fun w28 h29 k30 => nx <| W_seq ?_
    obtain ⟨c33, H⟩ := bif_some H
    obtain ⟨c38, H⟩ := bif_some H
    obtain ⟨c41, H⟩ := bif_some H
    obtain ⟨c44, H⟩ := bif_some H
    refine W_dM [LEq (.int .i64 x7_1), LEq (.bool (decide (24 ≤ x7_1))), LEq (.bool (decide (24 ≤ x7_1))), LIf (!(decide (24 ≤ x7_1))) (LEq (.agg #[(.int .i64 ((gt a0 x7_1).kind)), (S ((gt a0 x7_1).path)), (S ((gt a0 x7_1).body)), (.int .i64 ((gt a0 x7_1).mode))])), LIf (!(decide (24 ≤ x7_1))) (LEq (.bool (nodeOK (gt a0 x7_1)))), LIf (!(decide (24 ≤ x7_1))) (LEq (.bool (!(nodeOK (gt a0 x7_1))))), LEq (.bool ((decide (24 ≤ x7_1)) || (!(nodeOK (gt a0 x7_1))))), LEq (.bool ((decide (24 ≤ x7_1)) || (!(nodeOK (gt a0 x7_1))))), LIf (!((decide (24 ≤ x7_1)) || (!(nodeOK (gt a0 x7_1))))) (LEq (.int .i64 x7_1)), LIf (!((decide (24 ≤ x7_1)) || (!(nodeOK (gt a0 x7_1))))) (LEq (.bool (decide (0 < x7_1)))), LIf (!((decide (24 ≤ x7_1)) || (!(nodeOK (gt a0 x7_1))))) (LEq (.bool (decide (0 < x7_1)))), LIf (impl_TreeOK.e2 a0 x7_1) (LEq v_a0), LIf (impl_TreeOK.e2 a0 x7_1) (LEq (.int .i64 x7_1)), LIf (impl_TreeOK.e2 a0 x7_1) (LEq (.int .i64 (IntKind.wrap .i64 (x7_1 - 1)))), LIf (impl_TreeOK.e2 a0 x7_1) (LAt0 (encNd (gt a0 (IntKind.wrap .i64 (x7_1 - 1))))), LIf (impl_TreeOK.e2 a0 x7_1) (LAt 1 (encNd (gt a0 (IntKind.wrap .i64 (x7_1 - 1))))), LIf (impl_TreeOK.e2 a0 x7_1) (LEq (S ((gt a0 (IntKind.wrap .i64 (x7_1 - 1))).path))), LIf (impl_TreeOK.e2 a0 x7_1) (LEq (.pointer (some ⟨b22, 1, none⟩))), LIf (impl_TreeOK.e2 a0 x7_1) (LEq (S ((gt a0 x7_1).path))), LIf (impl_TreeOK.e2 a0 x7_1) (LEq (.bool (pathLess ((gt a0 (IntKind.wrap .i64 (x7_1 - 1))).path) ((gt a0 x7_1).path)))), LIf (impl_TreeOK.e2 a0 x7_1) (LEq (.bool (!(pathLess ((gt a0 (IntKind.wrap .i64 (x7_1 - 1))).path) ((gt a0 x7_1).path))))), LIf (!((decide (24 ≤ x7_1)) || (!(nodeOK (gt a0 x7_1))))) (LEq (.bool ((decide (0 < x7_1)) && (!(pathLess ((gt a0 (IntKind.wrap .i64 (x7_1 - 1))).path) ((gt a0 x7_1).path)))))), LEq (.bool (impl_TreeOK.e1 a0 x7_1)), LEq (.bool (impl_TreeOK.e1 a0 x7_1)), LIf (!(impl_TreeOK.e1 a0 x7_1)) (LEq v_a0), LIf (!(impl_TreeOK.e1 a0 x7_1)) (LEq (.int .i64 x7_1)), LIf (!(impl_TreeOK.e1 a0 x7_1)) (LRd 4 encNd (sub a0 0 x7_1)), LIf (!(impl_TreeOK.e1 a0 x7_1)) (LEq (.pointer (some ⟨b22, 1, none⟩))), LIf (!(impl_TreeOK.e1 a0 x7_1)) (LEq (S ((gt a0 x7_1).path))), LIf (!(impl_TreeOK.e1 a0 x7_1)) (LEq (S (parentP ((gt a0 x7_1).path)))), LIf (!(impl_TreeOK.e1 a0 x7_1)) (LEq (.bool (isDirN (sub a0 0 x7_1) (parentP ((gt a0 x7_1).path))))), LIf (!(impl_TreeOK.e1 a0 x7_1)) (LEq (.bool (!(isDirN (sub a0 0 x7_1) (parentP ((gt a0 x7_1).path)))))), LEq (.bool ((impl_TreeOK.e1 a0 x7_1) || (!(isDirN (sub a0 0 x7_1) (parentP ((gt a0 x7_1).path))))))] (by kernel_rfl) (by kernel_rfl) ⟨qm, qm, qm, lm, lm, lm, qm, qm, lm, lm, lm, lm, lm, lm, (LIf.mono LAt0.mono), (LIf.mono LAt.mono), lm, lm, lm, lm, lm, lm, qm, qm, lm, lm, (LIf.mono LRd.mono), lm, lm, lm, lm, lm, qm, trivial⟩ ⟨?_, ?_, ?_, ?_, ?_, ?_, ?_, ?_, ?_, ?_, ?_, ?_, ?_, ?_, ?_, ?_, ?_, ?_, ?_, ?_, ?_, ?_, ?_, ?_, ?_, ?_, ?_, ?_, ?_, ?_, ?_, ?_, ?_, trivial⟩ ?_
    ·exact fun s x e f d u => lp rfl rfl (xm (.int .i64 x7_1) (f 3 rfl)) <| se rfl rfl
    ·exact fun s x e f d u => lp rfl rfl (X_geq (d 0 rfl) rfl) <| se rfl rfl
    ·exact fun s x e f d u => lp rfl rfl (X_move (d 1 rfl)) <| se rfl rfl
    ·exact fun s x e f d u => gF rfl rfl rfl rfl (d 2 rfl) rfl fun b t => lt t rfl rfl (X_loadS Tryz.isAgg60 Tryz.sizeOf60 rfl (f 4 rfl) (Blk.at0 (Blk.ext k30 e))) <| sg rfl rfl b rfl
    ·exact fun s x e f d u => gF rfl rfl rfl rfl (d 2 rfl) rfl fun b t => L_callP t rfl (ltb rfl) rfl Tryz.call141 (impl_nodeOK.calls (w := x) (a0 := (gt a0 x7_1)) (GV.ext gv ((e13.t (Below.trans e26 (Wr.below h29 (Nat.le_of_eq z24)))).t e))) (cons2 ((d 3 rfl).1 (not_mk (not_f b))) rfl) <| fun w47 e48 => sgx rfl rfl b e48 rfl
    ·exact fun s x e f d u => gF rfl rfl rfl rfl (d 2 rfl) rfl fun b t => lt t rfl rfl (X_not ((d 4 rfl).1 (not_mk (not_f b)))) <| sg rfl rfl b rfl
    ·exact fun s x e f d u => lp rfl rfl (X_pickO (d 2 rfl) rfl fun h => ((d 5 rfl).1 (not_mk h))) <| se rfl rfl
    ·exact fun s x e f d u => lp rfl rfl (X_move (d 6 rfl)) <| se rfl rfl
    ·exact fun s x e f d u => gF rfl rfl rfl rfl (d 7 rfl) rfl fun b t => lt t rfl rfl (xm (.int .i64 x7_1) (f 3 rfl)) <| sg rfl rfl b rfl
    ·exact fun s x e f d u => gF rfl rfl rfl rfl (d 7 rfl) rfl fun b t => lt t rfl rfl (X_gtr ((d 8 rfl).1 (not_mk (not_f b))) rfl) <| sg rfl rfl b rfl
    ·exact fun s x e f d u => gF rfl rfl rfl rfl (d 7 rfl) rfl fun b t => lt t rfl rfl (xm (.bool (decide (0 < x7_1))) ((d 9 rfl).1 (not_mk (not_f b)))) <| sg rfl rfl b rfl
    ·exact fun s x e f d u => hT rfl rfl rfl rfl (d 10 rfl) rfl fun b t => lt t rfl rfl (xm v_a0 ((f 0 rfl).trans (K12 0 rfl))) <| sg rfl rfl b rfl
    ·exact fun s x e f d u => hT rfl rfl rfl rfl (d 10 rfl) rfl fun b t => lt t rfl rfl (xm (.int .i64 x7_1) (f 3 rfl)) <| sg rfl rfl b rfl
    ·exact fun s x e f d u => hT rfl rfl rfl rfl (d 10 rfl) rfl fun b t => lt t rfl rfl (X_sub ((d 12 rfl).1 (and_mk (not_mk (not_f (and_l b))) (and_r b))) rfl) <| sg rfl rfl b rfl
    ·exact fun s x e f d u => hT rfl rfl rfl rfl (d 10 rfl) rfl fun b t => L_idx t rfl (ltb rfl) rfl Tryz.underlying29 Tryz.sizeOf60 ((d 11 rfl).1 (and_mk (not_mk (not_f (and_l b))) (and_r b))) (Rd.ext f_a0 ((e13.t (Below.trans e26 (Wr.below h29 (Nat.le_of_eq z24)))).t e)) ((d 13 rfl).1 (and_mk (not_mk (not_f (and_l b))) (and_r b))) (imp_take b c33) <| fun p50 h51 => sg rfl rfl b ⟨_, rfl, h51⟩
    ·intro s x e f d u
     refine hT rfl rfl rfl rfl (d 10 rfl) rfl fun b t => ?_
     obtain ⟨p52, h53, h54⟩ := ((d 14 rfl).1 (and_mk (not_mk (not_f (and_l b))) (and_r b)))
     exact lt t rfl rfl (X_fieldAddr Tryz.underlying60 rfl Tryz.sizeOf9 rfl h53) <| sg rfl rfl b ⟨_, rfl, h54⟩
    ·intro s x e f d u
     refine hT rfl rfl rfl rfl (d 10 rfl) rfl fun b t => ?_
     obtain ⟨p55, h56, h57⟩ := ((d 15 rfl).1 (and_mk (not_mk (not_f (and_l b))) (and_r b)))
     exact lt t rfl rfl (X_loadF Tryz.isAgg9 (j := 1) h57 h56 rfl) <| sg rfl rfl b rfl
    ·exact fun s x e f d u => hT rfl rfl rfl rfl (d 10 rfl) rfl fun b t => lt t rfl rfl (X_fieldAddr Tryz.underlying60 rfl Tryz.sizeOf9 rfl (f 4 rfl)) <| sg rfl rfl b rfl
    ·exact fun s x e f d u => hT rfl rfl rfl rfl (d 10 rfl) rfl fun b t => lt t rfl rfl (X_loadB Tryz.isAgg9 (Blk.ext k30 e) ((d 17 rfl).1 (and_mk (not_mk (not_f (and_l b))) (and_r b))) rfl) <| sg rfl rfl b rfl
    ·exact fun s x e f d u => hT rfl rfl rfl rfl (d 10 rfl) rfl fun b t => L_callP t rfl (ltb rfl) rfl Tryz.call81 (impl_PathLess.calls (w := x) (a0 := (gt a0 (IntKind.wrap .i64 (x7_1 - 1))).path) (a1 := (gt a0 x7_1).path) (GV.ext gv ((e13.t (Below.trans e26 (Wr.below h29 (Nat.le_of_eq z24)))).t e))) (cons2 ((d 16 rfl).1 (and_mk (not_mk (not_f (and_l b))) (and_r b))) (cons2 ((d 18 rfl).1 (and_mk (not_mk (not_f (and_l b))) (and_r b))) rfl)) <| fun w58 e59 => sgx rfl rfl b e59 rfl
    ·exact fun s x e f d u => hT rfl rfl rfl rfl (d 10 rfl) rfl fun b t => lt t rfl rfl (X_not ((d 19 rfl).1 (and_mk (not_mk (not_f (and_l b))) (and_r b)))) <| sg rfl rfl b rfl
    ·exact fun s x e f d u => gF rfl rfl rfl rfl (d 7 rfl) rfl fun b t => lt t rfl rfl (X_pickA ((d 10 rfl).1 (not_mk (not_f b))) rfl fun h => ((d 20 rfl).1 (and_mk (not_mk (not_f b)) h))) <| sg rfl rfl b rfl
    ·exact fun s x e f d u => lp rfl rfl (X_pickO (d 7 rfl) rfl fun h => ((d 21 rfl).1 (not_mk h))) <| se rfl rfl
    ·exact fun s x e f d u => lp rfl rfl (X_move (d 22 rfl)) <| se rfl rfl
    ·exact fun s x e f d u => gF rfl rfl rfl rfl (d 23 rfl) rfl fun b t => lt t rfl rfl (xm v_a0 ((f 0 rfl).trans (K12 0 rfl))) <| sg rfl rfl b rfl
    ·exact fun s x e f d u => gF rfl rfl rfl rfl (d 23 rfl) rfl fun b t => lt t rfl rfl (xm (.int .i64 x7_1) (f 3 rfl)) <| sg rfl rfl b rfl
    ·exact fun s x e f d u => gF rfl rfl rfl rfl (d 23 rfl) rfl fun b t => L_sub t rfl (ltb rfl) rfl Tryz.underlying29 Tryz.sizeOf60 ((d 24 rfl).1 (not_mk (not_f b))) (Rd.ext f_a0 ((e13.t (Below.trans e26 (Wr.below h29 (Nat.le_of_eq z24)))).t e)) (l := 0) (h := x7_1) rfl ⟨_, ((d 25 rfl).1 (not_mk (not_f b)))⟩ (imp_take b c38) <| fun v61 h62 => sg rfl rfl b h62
    ·exact fun s x e f d u => gF rfl rfl rfl rfl (d 23 rfl) rfl fun b t => lt t rfl rfl (X_fieldAddr Tryz.underlying60 rfl Tryz.sizeOf9 rfl (f 4 rfl)) <| sg rfl rfl b rfl
    ·exact fun s x e f d u => gF rfl rfl rfl rfl (d 23 rfl) rfl fun b t => lt t rfl rfl (X_loadB Tryz.isAgg9 (Blk.ext k30 e) ((d 27 rfl).1 (not_mk (not_f b))) rfl) <| sg rfl rfl b rfl
    ·exact fun s x e f d u => gF rfl rfl rfl rfl (d 23 rfl) rfl fun b t => L_callP t rfl (ltb rfl) rfl Tryz.call143 (impl_parent.calls (w := x) (a0 := (gt a0 x7_1).path) (od (imp_take b c41))) (cons2 ((d 28 rfl).1 (not_mk (not_f b))) rfl) <| fun w64 e65 => sgx rfl rfl b e65 rfl
    ·intro s x e f d u
     refine gF rfl rfl rfl rfl (d 23 rfl) rfl fun b t => ?_
     have d66 : Rd 4 encNd x (s 38) (sub a0 0 x7_1) := ((d 26 rfl).1 (not_mk (not_f b)))
     exact L_callP t rfl (ltb rfl) rfl Tryz.call142 (impl_isDir.calls (w := x) (a0 := sub a0 0 x7_1) (a1 := (parentP ((gt a0 x7_1).path))) d66 (od (imp_take b c44))) (cons2 rfl (cons2 ((d 29 rfl).1 (not_mk (not_f b))) rfl)) <| fun w68 e69 => sgx rfl rfl b e69 rfl
    ·exact fun s x e f d u => gF rfl rfl rfl rfl (d 23 rfl) rfl fun b t => lt t rfl rfl (X_not ((d 30 rfl).1 (not_mk (not_f b)))) <| sg rfl rfl b rfl
    ·exact fun s x e f d u => lp rfl rfl (X_pickO (d 23 rfl) rfl fun h => ((d 31 rfl).1 (not_mk h))) <| se rfl rfl
    intro s70 w71 e72 hf73 ha74
    have K75 := Kp.ofD (kp := [(12, 45)]) rfl hf73
    have d76 : s70 44 = (.bool ((impl_TreeOK.e1 a0 x7_1) || (!(isDirN (sub a0 0 x7_1) (parentP ((gt a0 x7_1).path)))))) := ha74 32 rfl
    clear ha74 hf73
    refine thn_n ?_
    rcases bif_two H with ⟨q77, H⟩ | ⟨q77, H⟩
    ·refine W_true (d76.trans (cb q77)) <| wr <| lp rfl rfl (xa (.bool false) rfl) <| nx <| W_ret <| blk_r <| thn_r <| thn_r <| blk_r <| thn_r <| thn_r <| fin_r ?_
     obtain rfl := si H
     obtain rfl := si S17
     have H := C4
     obtain rfl := si H
     exact fin1 rfl ((e13.t (Below.trans e26 (Wr.below h29 (Nat.le_of_eq z24)))).t e72)
    ·refine W_false (d76.trans (cb q77)) <| W_skip <| blk_n <| thn_n <| W_reg <| lp rfl rfl (X_add ((K75 7 rfl).trans h15) rfl) <| lp rfl rfl (xm (.int .i64 (IntKind.wrap .i64 (x7_1 + 1))) rfl) <| nx ?_
     obtain rfl := si H
     exact ⟨_, Nat.lt_succ_self _, IntKind.wrap .i64 (x7_1 + 1), (ku2 (Kp.cut (ku2 (ku4 K12 rfl) rfl) K75 rfl) rfl), rfl, ((e13.t (Below.trans e26 (Wr.below h29 (Nat.le_of_eq z24)))).t e72), S17⟩
   ·refine W_false (cb q18) <| W_exit <| thn_x <| thn_x <| blk_x <| thn_n ?_
    obtain rfl := si H
    obtain rfl := si S17
    exact ⟨(ku1 K12 rfl), e13, rfl⟩
 ·rintro s6 w5 ⟨K7, e8, y78⟩
  rw [y78] at C4
  have H := C4
  replace H : _ = some _ := H
  refine thn_n <| wr <| lp rfl rfl (xa (.bool true) rfl) <| nx <| W_ret <| fin_r ?_
  obtain rfl := si H
  exact fin1 rfl e8
theorem impl_TreeOK.calls {w : World} {a0 : List Nd} (gv : GV 0 w) {v_a0 : Value} (f_a0 : Rd 4 encNd w v_a0 a0) (h0 : a0.length ≤ 1048576) (h1 : ∀ x ∈ a0, x.path.length ≤ 1048576) :
  Calls Tryz.prog 43 #[v_a0] w (Rt (RP w (.bool (treeOK a0)))) := by
 obtain ⟨k, h⟩ := impl_TreeOK.eq a0 h0 h1
 exact impl_TreeOK.walk gv f_a0 h
/-! slices.Equal(()impl.Node,impl.Node) -/
theorem slices_EqualN.calls {w : World} {a0 : List Nd} {a1 : List Nd} {v_a0 : Value} (f_a0 : Rd 4 encNd w v_a0 a0) {v_a1 : Value} (f_a1 : Rd 4 encNd w v_a1 a1) (h0 : a0.length ≤ 1048576) :
  Calls Tryz.prog 144 #[v_a0, v_a1] w (Rt (RP w (.bool (decide (a0 = a1))))) := by
 obtain ⟨k, H⟩ := slices_EqualN.eq a0 a1 h0
 generalize (decide (a0 = a1)) = r at H ⊢
 unfold slices_EqualN.sh at H
 refine calls_of_W Tryz.func144 rfl (Nat.le_of_ble_eq_true rfl) Tryz.ntmps144 rfl ?_
 refine wr <| lp rfl rfl (xa (.bool false) rfl) <| nx <| W_seq <| wr <| lp rfl rfl (xm v_a0 rfl) <| lp rfl rfl (X_lenR Tryz.underlying29 rfl f_a0) <| lp rfl rfl (xm v_a1 rfl) <| lp rfl rfl (X_lenR Tryz.underlying29 rfl f_a1) <| lp rfl rfl (X_neq rfl rfl) <| nx ?_
 rcases bif_two H with ⟨q1, H⟩ | ⟨q1, H⟩
 ·refine W_true (cb q1) <| wr <| lp rfl rfl (xa (.bool false) rfl) <| nx <| W_ret <| thn_r <| fin_r ?_
  obtain rfl := si H
  exact fin1 rfl er
 ·refine W_false (cb q1) <| W_skip <| thn_n <| W_seq <| wr <| lp rfl rfl (xm v_a0 rfl) <| lp rfl rfl (X_lenR Tryz.underlying29 rfl f_a0) <| lp rfl rfl (xm (.int .i64 0) rfl) <| nx ?_
  obtain ⟨z3, L4, C5⟩ := bind_some H
  clear H
  refine  W_cutQ (fun s0 sQ wQ => Kp [(4, 6), (13, 26)] s0 sQ ∧ Ext w wQ ∧ z3 = .inr ()) ?_ ?_
  ·refine W_block <| W_loopI (fun s0 kk sQ wQ => ∃ (x13_2 : Int), Kp [(4, 6), (13, 26)] s0 sQ ∧ sQ 13 = .int .i64 x13_2 ∧ Ext w wQ ∧ loopF (slices_EqualN.b1 a0 a1) kk x13_2 = some z3) k ⟨0, kz, rfl, er, L4⟩ ?_
   rintro k10 s11 w12 ⟨x13_2, K13, h16, e14, L15⟩
   cases k10 with
   | zero => exact absurd L15 (by simp [loopF])
   | succ k10 =>
    obtain ⟨t17, H, S18⟩ := loopF_succ L15
    clear L15
    unfold slices_EqualN.b1 at H
    refine wr <| lp rfl rfl (X_lss h16 (K13 12 rfl)) <| nx <| W_seq ?_
    rcases bif_two H with ⟨q19, H⟩ | ⟨q19, H⟩
    ·refine W_true (cb q19) <| W_skip <| thn_n <| W_seq <| W_block <| wr <| lp rfl rfl (X_move h16) <| lp rfl rfl (xa (.int .i64 x13_2) rfl) <| nx <| W_seq ?_
     obtain ⟨c20, H⟩ := bif_some H
     obtain ⟨c23, H⟩ := bif_some H
     refine W_dM [LEq v_a0, LEq (.int .i64 x13_2), LAt0 (encNd (gt a0 x13_2)), LEq (.agg (encNd (gt a0 x13_2)).toArray), LEq v_a1, LEq (.int .i64 x13_2), LAt0 (encNd (gt a1 x13_2)), LEq (.agg (encNd (gt a1 x13_2)).toArray), LEq (.bool (!decide ((gt a0 x13_2) = (gt a1 x13_2))))] (by kernel_rfl) (by kernel_rfl) ⟨qm, qm, LAt0.mono, qm, qm, qm, LAt0.mono, qm, qm, trivial⟩ ⟨?_, ?_, ?_, ?_, ?_, ?_, ?_, ?_, ?_, trivial⟩ ?_
     ·exact fun s x e f d u => lp rfl rfl (xm v_a0 ((f 0 rfl).trans (K13 0 rfl))) <| se rfl rfl
     ·exact fun s x e f d u => lp rfl rfl (xm (.int .i64 x13_2) (f 5 rfl)) <| se rfl rfl
     ·exact fun s x e f d u => L_idx (.plain rfl) rfl (ltb rfl) rfl Tryz.underlying29 Tryz.sizeOf60 (d 0 rfl) (Rd.ext f_a0 (e14.t e)) (d 1 rfl) c20 <| fun p27 h28 => se rfl ⟨_, rfl, h28⟩
     ·intro s x e f d u
      obtain ⟨p29, h30, h31⟩ := (d 2 rfl)
      exact lp rfl rfl (X_loadS Tryz.isAgg60 Tryz.sizeOf60 rfl h30 h31) <| se rfl rfl
     ·exact fun s x e f d u => lp rfl rfl (xm v_a1 ((f 1 rfl).trans (K13 1 rfl))) <| se rfl rfl
     ·exact fun s x e f d u => lp rfl rfl (xm (.int .i64 x13_2) (f 5 rfl)) <| se rfl rfl
     ·exact fun s x e f d u => L_idx (.plain rfl) rfl (ltb rfl) rfl Tryz.underlying29 Tryz.sizeOf60 (d 4 rfl) (Rd.ext f_a1 (e14.t e)) (d 5 rfl) c23 <| fun p33 h34 => se rfl ⟨_, rfl, h34⟩
     ·intro s x e f d u
      obtain ⟨p35, h36, h37⟩ := (d 6 rfl)
      exact lp rfl rfl (X_loadS Tryz.isAgg60 Tryz.sizeOf60 rfl h36 h37) <| se rfl rfl
     ·exact fun s x e f d u => lp rfl rfl (X_neA Eqg.t60 (Eqs.t60 (gt a0 x13_2) (gt a1 x13_2)) (d 3 rfl) (d 7 rfl)) <| se rfl rfl
     intro s38 w39 e40 hf41 ha42
     have K43 := Kp.ofD (kp := [(16, 25)]) rfl hf41
     have d44 : s38 24 = (.bool (!decide ((gt a0 x13_2) = (gt a1 x13_2)))) := ha42 8 rfl
     clear ha42 hf41
     refine thn_n ?_
     rcases bif_two H with ⟨q45, H⟩ | ⟨q45, H⟩
     ·refine W_true (d44.trans (cb q45)) <| wr <| lp rfl rfl (xa (.bool false) rfl) <| nx <| W_ret <| blk_r <| thn_r <| thn_r <| blk_r <| thn_r <| thn_r <| fin_r ?_
      obtain rfl := si H
      obtain rfl := si S18
      have H := C5
      obtain rfl := si H
      exact fin1 rfl (e14.t e40)
     ·refine W_false (d44.trans (cb q45)) <| W_skip <| blk_n <| thn_n <| W_reg <| lp rfl rfl (X_add ((K43 13 rfl).trans h16) rfl) <| lp rfl rfl (xm (.int .i64 (IntKind.wrap .i64 (x13_2 + 1))) rfl) <| nx ?_
      obtain rfl := si H
      exact ⟨_, Nat.lt_succ_self _, IntKind.wrap .i64 (x13_2 + 1), (ku2 (Kp.cut (ku3 K13 rfl) K43 rfl) rfl), rfl, (e14.t e40), S18⟩
    ·refine W_false (cb q19) <| W_exit <| thn_x <| thn_x <| blk_x <| thn_n ?_
     obtain rfl := si H
     obtain rfl := si S18
     exact ⟨(ku1 K13 rfl), e14, rfl⟩
  ·rintro s7 w6 ⟨K8, e9, y46⟩
   rw [y46] at C5
   have H := C5
   replace H : _ = some _ := H
   refine thn_n <| wr <| lp rfl rfl (xa (.bool true) rfl) <| nx <| W_ret <| fin_r ?_
   obtain rfl := si H
   exact fin1 rfl e9
/-! impl.SameTree -/
theorem impl_SameTree.calls {w : World} {a0 : List Nd} {a1 : List Nd} (gv : GV 0 w) {v_a0 : Value} (f_a0 : Rd 4 encNd w v_a0 a0) {v_a1 : Value} (f_a1 : Rd 4 encNd w v_a1 a1) (h0 : a0.length ≤ 1048576) (h1 : a1.length ≤ 1048576) (h2 : ∀ x ∈ a0, x.path.length ≤ 1048576) (h3 : ∀ x ∈ a1, x.path.length ≤ 1048576) :
  Calls Tryz.prog 72 #[v_a0, v_a1] w (Rt (RP w (.bool (sameTree a0 a1)))) := by
 have H := impl_SameTree.eq a0 a1 h0 h1 h2 h3
 generalize (sameTree a0 a1) = r at H ⊢
 unfold impl_SameTree.sh at H
 refine calls_of_W Tryz.func72 rfl (Nat.le_of_ble_eq_true rfl) Tryz.ntmps72 rfl ?_
 refine wr <| lp rfl rfl (xa (.bool false) rfl) <| nx <| wr <| lp rfl rfl (xm v_a0 rfl) ?_
 obtain ⟨c1, H⟩ := bif_some H
 obtain ⟨c2, H⟩ := bif_some H
 refine lc rfl rfl rfl Tryz.call43 (impl_TreeOK.calls (w := w) (a0 := a0) gv f_a0 (od c1) (od c2)) rfl <| fun w3 e4 => lp rfl rfl (xm (.bool (treeOK a0)) rfl) ?_
 obtain ⟨z6, x7, H⟩ := bind_some H
 refine L_grpE 3 [(8, 11)] 10 (fun q => q = z6) ?_ ?_
 ·rcases bif_two x7 with ⟨b4_, H⟩ | ⟨b4_, H⟩
  ·refine lg rfl rfl rfl rfl (cb b4_) (xm v_a1 rfl) ?_
   obtain ⟨c6, H⟩ := bif_some H
   obtain ⟨c7, H⟩ := bif_some H
   refine L_callP (tg rfl rfl rfl (cb b4_)) rfl (ltb rfl) rfl Tryz.call43 (impl_TreeOK.calls (w := w3) (a0 := a1) (GV.ext gv e4) (Rd.ext f_a1 e4) (od c6) (od c7)) rfl <| fun w8 e9 => lp rfl rfl (X_pick (b := true) (v := (.bool (treeOK a1))) (cb b4_) rfl) ?_
   obtain rfl := si H
   exact nx ⟨(ku3 kz rfl), ⟨_, rfl, rfl⟩, e9⟩
  ·refine ls rfl rfl rfl (cb b4_) rfl <| ls rfl rfl rfl (cb b4_) rfl <| lp rfl rfl (X_pick (b := false) (v := (.bool false)) (cb b4_) rfl) ?_
   obtain rfl := si H
   exact nx ⟨(ku3 kz rfl), ⟨_, rfl, rfl⟩, er⟩
 intro s12 w8 z13 K9 hq h10 e11
 rw [hq] at h10; clear hq
 refine lp rfl rfl (X_move h10) ?_
 obtain ⟨z15, x16, H⟩ := bind_some H
 refine L_grpE 4 [(12, 16)] 15 (fun q => q = z15) ?_ ?_
 ·rcases bif_two x16 with ⟨b13_, H⟩ | ⟨b13_, H⟩
  ·refine lg rfl rfl rfl rfl (cb b13_) (xm v_a0 (K9 0 rfl)) <| lg rfl rfl rfl rfl (cb b13_) (xm v_a1 (K9 1 rfl)) ?_
   obtain ⟨c15, H⟩ := bif_some H
   refine L_callP (tg rfl rfl rfl (cb b13_)) rfl (ltb rfl) rfl Tryz.call144 (slices_EqualN.calls (w := w8) (a0 := a0) (a1 := a1) (Rd.ext f_a0 (e4.t e11)) (Rd.ext f_a1 (e4.t e11)) (od c15)) rfl <| fun w16 e17 => lp rfl rfl (X_pick (b := true) (v := (.bool (decide (a0 = a1)))) (cb b13_) rfl) ?_
   obtain rfl := si H
   exact nx ⟨(ku4 kz rfl), ⟨_, rfl, rfl⟩, e17⟩
  ·refine ls rfl rfl rfl (cb b13_) rfl <| ls rfl rfl rfl (cb b13_) rfl <| ls rfl rfl rfl (cb b13_) rfl <| lp rfl rfl (X_pick (b := false) (v := (.bool false)) (cb b13_) rfl) ?_
   obtain rfl := si H
   exact nx ⟨(ku4 kz rfl), ⟨_, rfl, rfl⟩, er⟩
 intro s21 w17 z22 K18 hq h19 e20
 rw [hq] at h19; clear hq
 refine lp rfl rfl (X_assign h19) <| nx <| W_ret <| fin_r ?_
 obtain rfl := si H
 exact fin1 rfl ((e4.t e11).t e20)
/-! impl.ancestors -/
theorem impl_ancestors.calls {w : World} {a0 : List UInt8} (h0 : a0.length ≤ 1048576) :
  Calls Tryz.prog 218 #[S a0] w (Rt (RO 9 1 encS w (ancs a0))) := by
 obtain ⟨k, H⟩ := impl_ancestors.eq a0 h0
 generalize (ancs a0) = r at H ⊢
 unfold impl_ancestors.sh at H
 refine calls_of_W Tryz.func218 rfl (Nat.le_of_ble_eq_true rfl) Tryz.ntmps218 rfl ?_
 refine wr <| lp rfl rfl (xa (.slice none 0 0) rfl) <| nx <| wr <| L_lit (.plain rfl) rfl (ltb rfl) rfl Tryz.underlying42 Tryz.sizeOf9 Tryz.zeroValue9 rfl rfl rfl (vs := []) rfl (lit_all rfl) <| fun b1 w2 z3 z4 e5 k6 => lp rfl rfl (xa (.slice (some ⟨b1, 0, none⟩) 0 0) rfl) <| nx <| W_seq <| wr <| lp rfl rfl (xm (S a0) rfl) ?_
 obtain ⟨c7, H⟩ := bif_some H
 refine lc rfl rfl rfl Tryz.call143 (impl_parent.calls (w := w2) (a0 := a0) (od c7)) rfl <| fun w8 e9 => lp rfl rfl (xa (S (parentP a0)) rfl) <| nx ?_
 obtain ⟨z13, L14, C15⟩ := bind_some H
 clear H
 refine  W_cutQ (fun s0 sQ wQ => ∃ (x3_16 : List (List UInt8)) (v17 : Value), Kp [(0, 1), (3, 4), (7, 15)] s0 sQ ∧ sQ 3 = v17 ∧ Ow 9 1 encS w8.heap.size wQ v17 x3_16 ∧ Ext w8 wQ ∧ z13 = .inr x3_16) ?_ ?_
 ·refine W_block <| W_loopI (fun s0 kk sQ wQ => ∃ (x0_10 : List UInt8) (x3_11 : List (List UInt8)) (v12 : Value), Kp [(0, 1), (3, 4), (7, 15)] s0 sQ ∧ sQ 0 = S x0_10 ∧ sQ 3 = v12 ∧ Ow 9 1 encS w8.heap.size wQ v12 x3_11 ∧ Ext w8 wQ ∧ loopF (impl_ancestors.b1) kk (x0_10, x3_11) = some z13) k ⟨(parentP a0), ([] : List (List UInt8)), (.slice (some ⟨b1, 0, none⟩) 0 0), kz, rfl, rfl, (Ow.zero), er, L14⟩ ?_
  rintro k22 s23 w24 ⟨x0_10, x3_11, v12, K25, h28, h29, h30, e26, L27⟩
  cases k22 with
  | zero => exact absurd L27 (by simp [loopF])
  | succ k22 =>
   obtain ⟨t31, H, S32⟩ := loopF_succ L27
   clear L27
   unfold impl_ancestors.b1 at H
   refine W_seq <| wr <| lp rfl rfl (X_move h28) <| lp rfl rfl (X_sne rfl rfl) <| nx ?_
   rcases bif_two H with ⟨q33, H⟩ | ⟨q33, H⟩
   ·refine W_true (cb q33) <| W_skip <| thn_n <| W_seq <| W_block <| W_reg <| lp rfl rfl (X_move h29) <| lp rfl rfl (X_move h28) <| L_lit (.plain rfl) rfl (ltb rfl) rfl Tryz.underlying42 Tryz.sizeOf9 Tryz.zeroValue9 rfl rfl rfl (vs := [(S x0_10)]) rfl (lit_all rfl) <| fun b34 w35 z36 z37 e38 k39 => ?_
    obtain ⟨c40, H⟩ := bif_some H
    refine L_append (enc := encS) (.plain rfl) rfl (ltb rfl) rfl El.t42 rfl rfl (Ow.ext h30 e38) (Ow.rd (Ow.new (xs := [x0_10]) (sz := 1) (enc := encS) (base := w24.heap.size) k39 (Nat.le_of_eq z36) rfl (fun _ _ => by rfl) (Nat.le_of_ble_eq_true rfl))) (ones_S _) (od c40) ((e26.t e38)).size <| fun v41 w42 o43 z44 g45 => lp rfl rfl (xa v41 rfl) <| L_nil <| blk_n <| thn_n <| W_reg <| lp rfl rfl (X_move h28) ?_
    obtain ⟨c46, H⟩ := bif_some H
    refine lc rfl rfl rfl Tryz.call143 (impl_parent.calls (w := w42) (a0 := x0_10) (od c46)) rfl <| fun w47 e48 => lp rfl rfl (xa (S (parentP x0_10)) rfl) <| nx ?_
    obtain rfl := si H
    exact ⟨_, Nat.lt_succ_self _, (parentP x0_10), x3_11 ++ ([x0_10] : List (List UInt8)), v41, (ku2 (ku8 K25 rfl) rfl), rfl, rfl, (Ow.ext o43 e48), (Ext.trans (g45 _ (e26.t e38)) e48), S32⟩
   ·refine W_false (cb q33) <| W_exit <| thn_x <| thn_x <| blk_x <| thn_n ?_
    obtain rfl := si H
    obtain rfl := si S32
    exact ⟨x3_11, v12, (ku2 K25 rfl), h29, h30, e26, rfl⟩
 ·rintro s19 w18 ⟨x3_16, v17, K20, h49, h50, e21, y51⟩
  rw [y51] at C15
  have H := C15
  replace H : _ = some _ := H
  refine thn_n <| wr <| lp rfl rfl (X_move h49) <| lp rfl rfl (xa v17 rfl) <| nx <| W_ret <| fin_r ?_
  obtain rfl := si H
  exact fin1o rfl ((e5.t e9).t e21) h50 ((e5.t e9)).size
/-! spec.l04Ask -/
theorem spec_l04Ask.calls {w : World} {a0 : List Nd} {a1 : List UInt8} {v_a0 : Value} (f_a0 : Rd 4 encNd w v_a0 a0) (h0 : ∀ x ∈ a0, x.path.length ≤ 1048576) :
  Calls Tryz.prog 167 #[v_a0, S a1] w (Rt (RP w (.int .i64 (askT a0 a1)))) := by
 have H := spec_l04Ask.eq a0 a1 h0
 generalize (askT a0 a1) = r at H ⊢
 unfold spec_l04Ask.sh at H
 refine calls_of_W Tryz.func167 rfl (Nat.le_of_ble_eq_true rfl) Tryz.ntmps167 rfl ?_
 refine wr <| lp rfl rfl (xa (.int .i64 0) rfl) <| nx <| W_seq <| wr <| lp rfl rfl (xm v_a0 rfl) <| lp rfl rfl (X_lenR Tryz.underlying29 rfl f_a0) <| lp rfl rfl (X_gtr rfl rfl) <| lp rfl rfl (xm (.bool (decide (4096 < (a0.length : Int)))) rfl) <| L_grp 4 [(9, 13)] 12 (.bool ((decide (4096 < (a0.length : Int))) || (decide (65536 < (a1.length : Int))))) ?_ ?_
 ·rcases bool_two (decide (4096 < (a0.length : Int))) with b0_ | b0_
  ·exact ls rfl rfl rfl (cb b0_) rfl <| ls rfl rfl rfl (cb b0_) rfl <| ls rfl rfl rfl (cb b0_) rfl <| lp rfl rfl (X_pick (b := true) (v := (.bool true)) (cb b0_) rfl) <| nx ⟨(ku4 kz rfl), (or_t b0_), er⟩
  ·exact lg rfl rfl rfl rfl (cb b0_) (xm (S a1) rfl) <| lg rfl rfl rfl rfl (cb b0_) (X_lenS Tryz.underlying9 rfl) <| lg rfl rfl rfl rfl (cb b0_) (X_gtr rfl rfl) <| lp rfl rfl (X_pick (b := false) (v := (.bool (decide (65536 < (a1.length : Int))))) (cb b0_) rfl) <| nx ⟨(ku4 kz rfl), (or_f b0_), er⟩
 intro s6 w2 K3 h4 e5
 refine nx ?_
 rcases bif_two H with ⟨q7, H⟩ | ⟨q7, H⟩
 ·refine W_true (h4.trans (cb q7)) <| wr <| lp rfl rfl (xa (.int .i64 2) rfl) <| nx <| W_ret <| thn_r <| fin_r ?_
  obtain rfl := si H
  exact fin1 rfl e5
 ·refine W_false (h4.trans (cb q7)) <| W_skip <| thn_n <| W_seq <| wr <| lp rfl rfl (xm v_a0 (K3 0 rfl)) ?_
  obtain ⟨c8, H⟩ := bif_some H
  refine lc rfl rfl rfl Tryz.call130 (spec_l04OK.calls (w := w2) (a0 := a0) (Rd.ext f_a0 e5) (od c8)) rfl <| fun w9 e10 => lp rfl rfl (X_not rfl) <| nx ?_
  rcases bif_two H with ⟨q11, H⟩ | ⟨q11, H⟩
  ·refine W_true (cb q11) <| wr <| lp rfl rfl (xa (.int .i64 1) rfl) <| nx <| W_ret <| thn_r <| fin_r ?_
   obtain rfl := si H
   exact fin1 rfl (e5.t e10)
  ·refine W_false (cb q11) <| W_skip <| thn_n <| wr <| lp rfl rfl (xa (.int .i64 0) rfl) <| nx <| W_ret <| fin_r ?_
   obtain rfl := si H
   exact fin1 rfl (e5.t e10)
/-! spec.l04Find -/
theorem spec_l04Find.walk {k : Nat} {w : World} {a0 : List Nd} {a1 : List UInt8} {v_a0 : Value} (f_a0 : Rd 4 encNd w v_a0 a0) {r : Nd × Int} (H : spec_l04Find.sh k a0 a1 = some r) :
  Calls Tryz.prog 160 #[v_a0, S a1] w (Rt (RP w (.tuple #[.agg (encNd r.1).toArray, .int .i64 r.2]))) := by
 unfold spec_l04Find.sh at H
 refine calls_of_WG Tryz.func160 rfl (Nat.le_of_ble_eq_true rfl) Tryz.ntmps160 ?_
 refine wr <| L_alloc (.plain rfl) rfl (ltb rfl) rfl Tryz.zeroValue60 <| fun b1 w2 z3 z4 e5 k6 => lp rfl rfl (xa (.int .i64 0) rfl) <| nx <| wr <| lp rfl rfl (xm (S a1) rfl) ?_
 obtain ⟨c7, H⟩ := bif_some H
 refine L_callO (.plain rfl) rfl (ltb rfl) rfl Tryz.call209 (spec_l00Cut.calls (w := w2) (a0 := a1) (a1 := 47) (od c7)) rfl <| fun v10 w8 e9 o11 => lp rfl rfl (xa v10 rfl) <| nx <| wr <| lp rfl rfl (xa (S ([] : List UInt8)) rfl) <| nx <| W_seq <| wr <| lp rfl rfl (xa (.int .i64 0) rfl) <| nx ?_
 obtain ⟨z14, L15, C16⟩ := bind_some H
 clear H
 refine  W_cutQ (fun s0 sQ wQ => Kp [(5, 6), (7, 10), (12, 49)] s0 sQ ∧ Ext w8 wQ ∧ z14 = .inr ()) ?_ ?_
 ·refine W_block <| W_loopI (fun s0 kk sQ wQ => ∃ (x7_12 : List UInt8) (x8_13 : Int), Kp [(5, 6), (7, 10), (12, 49)] s0 sQ ∧ sQ 7 = S x7_12 ∧ sQ 8 = .int .i64 x8_13 ∧ Ext w8 wQ ∧ loopF (spec_l04Find.b1 a0 a1) kk (x7_12, x8_13) = some z14) k ⟨([] : List UInt8), 0, kz, rfl, rfl, er, L15⟩ ?_
  rintro k21 s22 w23 ⟨x7_12, x8_13, K24, h27, h28, e25, L26⟩
  cases k21 with
  | zero => exact absurd L26 (by simp [loopF])
  | succ k21 =>
   obtain ⟨t29, H, S30⟩ := loopF_succ L26
   clear L26
   unfold spec_l04Find.b1 at H
   refine W_seq <| wr <| lp rfl rfl (X_move h28) <| lp rfl rfl (xm v10 (K24 6 rfl)) <| lp rfl rfl (X_lenR Tryz.underlying42 rfl (Ow.rd (Ow.ext o11 e25))) <| lp rfl rfl (X_lss rfl rfl) <| nx ?_
   rcases bif_two H with ⟨q31, H⟩ | ⟨q31, H⟩
   ·refine W_true (cb q31) <| W_skip <| thn_n <| W_seq <| W_block <| wr <| lp rfl rfl (X_move h27) <| lp rfl rfl (xm v10 (K24 6 rfl)) <| lp rfl rfl (X_move h28) ?_
    obtain ⟨c32, H⟩ := bif_some H
    refine L_idx (.plain rfl) rfl (ltb rfl) rfl Tryz.underlying42 Tryz.sizeOf9 rfl (Ow.rd (Ow.ext o11 e25)) rfl c32 <| fun p33 h34 => lp rfl rfl (X_loadAt Tryz.isAgg9 rfl h34 rfl) ?_
    obtain ⟨c35, H⟩ := bif_some H
    obtain ⟨c36, H⟩ := bif_some H
    refine lc rfl rfl rfl Tryz.call241 (spec_l01Join.calls (w := w23) (a0 := x7_12) (a1 := gt (cut 47 a1) x8_13) (od c35) (od c36)) rfl <| fun w37 e38 => lp rfl rfl (xa (S (joinP x7_12 (gt (cut 47 a1) x8_13))) rfl) <| nx <| wr <| lp rfl rfl (xm v_a0 (K24 0 rfl)) <| lp rfl rfl (xm (S (joinP x7_12 (gt (cut 47 a1) x8_13))) rfl) ?_
    obtain ⟨c39, H⟩ := bif_some H
    refine lc rfl rfl rfl Tryz.call162 (spec_l04At.calls (w := w37) (a0 := a0) (a1 := (joinP x7_12 (gt (cut 47 a1) x8_13))) (Rd.ext f_a0 (((e5.t e9).t e25).t e38)) (od c39)) rfl <| fun w40 e41 => lp rfl rfl (xa (.int .i64 (findN a0 (joinP x7_12 (gt (cut 47 a1) x8_13)))) rfl) <| nx <| W_block <| wr <| lp rfl rfl (xm (.int .i64 (findN a0 (joinP x7_12 (gt (cut 47 a1) x8_13)))) rfl) <| lp rfl rfl (X_lss rfl rfl) <| lp rfl rfl (X_assign rfl) <| nx ?_
    rcases bif_two H with ⟨q42, H⟩ | ⟨q42, H⟩
    ·refine W_true (cb q42) <| wr <| lp rfl rfl (X_build1 (vs := []) (pl := #[(0, 1), (1, 1), (2, 1), (3, 1)]) Tryz.underlying60 Tryz.zeroValue60 rfl (fun _ => by kernel_rfl) rfl rfl rfl) <| L_storeA (.plain rfl) rfl rfl Tryz.sizeOf60 (K24 4 rfl) rfl rfl rfl rfl (Blk.ext k6 (((e9.t e25).t e38).t e41)) <| fun w43 h44 k45 => lp rfl rfl (xa (.int .i64 5) rfl) <| nx <| W_ret <| blk_r <| blk_r <| thn_r <| thn_r <| blk_r <| thn_r <| thn_r <| finG_r ?_
     obtain rfl := si H
     obtain rfl := si S30
     have H := C16
     obtain rfl := si H
     exact finC2 rfl (K24 4 rfl) k45 Tryz.isAgg60 Tryz.sizeOf60 rfl rfl (Below.trans ((((e5.t e9).t e25).t e38).t e41) (Wr.below h44 (Nat.le_of_eq z3)))
    ·refine W_false (cb q42) <| wr <| lp rfl rfl (X_move h28) <| lp rfl rfl (xm v10 (K24 6 rfl)) <| lp rfl rfl (X_lenR Tryz.underlying42 rfl (Ow.rd (Ow.ext o11 ((e25.t e38).t e41)))) <| lp rfl rfl (X_sub rfl rfl) <| lp rfl rfl (X_eql rfl rfl) <| lp rfl rfl (X_assign rfl) <| nx ?_
     rcases bif_two H with ⟨q46, H⟩ | ⟨q46, H⟩
     ·refine W_true (cb q46) <| wr <| lp rfl rfl (xm v_a0 (K24 0 rfl)) <| lp rfl rfl (xm (.int .i64 (findN a0 (joinP x7_12 (gt (cut 47 a1) x8_13)))) rfl) ?_
      obtain ⟨c47, H⟩ := bif_some H
      refine L_idx (.plain rfl) rfl (ltb rfl) rfl Tryz.underlying29 Tryz.sizeOf60 rfl (Rd.ext f_a0 ((((e5.t e9).t e25).t e38).t e41)) rfl c47 <| fun p48 h49 => lp rfl rfl (X_loadS Tryz.isAgg60 Tryz.sizeOf60 rfl rfl h49) <| L_storeA (.plain rfl) rfl rfl Tryz.sizeOf60 (K24 4 rfl) rfl rfl rfl rfl (Blk.ext k6 (((e9.t e25).t e38).t e41)) <| fun w50 h51 k52 => lp rfl rfl (xa (.int .i64 0) rfl) <| nx <| W_ret <| blk_r <| blk_r <| thn_r <| thn_r <| blk_r <| thn_r <| thn_r <| finG_r ?_
      obtain rfl := si H
      obtain rfl := si S30
      have H := C16
      obtain rfl := si H
      exact finC2 rfl (K24 4 rfl) k52 Tryz.isAgg60 Tryz.sizeOf60 rfl rfl (Below.trans ((((e5.t e9).t e25).t e38).t e41) (Wr.below h51 (Nat.le_of_eq z3)))
     ·refine W_false (cb q46) <| wr <| lp rfl rfl (xm v_a0 (K24 0 rfl)) <| lp rfl rfl (xm (.int .i64 (findN a0 (joinP x7_12 (gt (cut 47 a1) x8_13)))) rfl) ?_
      obtain ⟨c53, H⟩ := bif_some H
      refine L_idx (.plain rfl) rfl (ltb rfl) rfl Tryz.underlying29 Tryz.sizeOf60 rfl (Rd.ext f_a0 ((((e5.t e9).t e25).t e38).t e41)) rfl c53 <| fun p54 h55 => lp rfl rfl (X_fieldAddr Tryz.underlying60 rfl Tryz.sizeOf3 rfl rfl) <| lp rfl rfl (X_loadF Tryz.isAgg3 (j := 0) h55 rfl rfl) <| lp rfl rfl (X_neq rfl rfl) <| lp rfl rfl (X_assign rfl) <| nx ?_
      rcases bif_two H with ⟨q56, H⟩ | ⟨q56, H⟩
      ·refine W_true (cb q56) <| wr <| lp rfl rfl (X_build1 (vs := []) (pl := #[(0, 1), (1, 1), (2, 1), (3, 1)]) Tryz.underlying60 Tryz.zeroValue60 rfl (fun _ => by kernel_rfl) rfl rfl rfl) <| L_storeA (.plain rfl) rfl rfl Tryz.sizeOf60 (K24 4 rfl) rfl rfl rfl rfl (Blk.ext k6 (((e9.t e25).t e38).t e41)) <| fun w57 h58 k59 => lp rfl rfl (xa (.int .i64 13) rfl) <| nx <| W_ret <| blk_r <| blk_r <| thn_r <| thn_r <| blk_r <| thn_r <| thn_r <| finG_r ?_
       obtain rfl := si H
       obtain rfl := si S30
       have H := C16
       obtain rfl := si H
       exact finC2 rfl (K24 4 rfl) k59 Tryz.isAgg60 Tryz.sizeOf60 rfl rfl (Below.trans ((((e5.t e9).t e25).t e38).t e41) (Wr.below h58 (Nat.le_of_eq z3)))
      ·refine W_false (cb q56) <| W_skip <| blk_n <| blk_n <| thn_n <| W_reg <| lp rfl rfl (X_move h28) <| lp rfl rfl (X_add rfl rfl) <| lp rfl rfl (xa (.int .i64 (IntKind.wrap .i64 (x8_13 + 1))) rfl) <| nx ?_
       obtain rfl := si H
       exact ⟨_, Nat.lt_succ_self _, (joinP x7_12 (gt (cut 47 a1) x8_13)), IntKind.wrap .i64 (x8_13 + 1), (ku2 (ku8 (ku8 (ku8 (ku8 K24 rfl) rfl) rfl) rfl) rfl), rfl, rfl, ((e25.t e38).t e41), S30⟩
   ·refine W_false (cb q31) <| W_exit <| thn_x <| thn_x <| blk_x <| thn_n ?_
    obtain rfl := si H
    obtain rfl := si S30
    exact ⟨(ku4 K24 rfl), e25, rfl⟩
 ·rintro s18 w17 ⟨K19, e20, y60⟩
  rw [y60] at C16
  have H := C16
  replace H : _ = some _ := H
  refine thn_n <| wr <| lp rfl rfl (X_build1 (vs := []) (pl := #[(0, 1), (1, 1), (2, 1), (3, 1)]) Tryz.underlying60 Tryz.zeroValue60 rfl (fun _ => by kernel_rfl) rfl rfl rfl) <| L_storeA (.plain rfl) rfl rfl Tryz.sizeOf60 (K19 4 rfl) rfl rfl rfl rfl (Blk.ext k6 (e9.t e20)) <| fun w61 h62 k63 => lp rfl rfl (xa (.int .i64 5) rfl) <| nx <| W_ret <| finG_r ?_
  obtain rfl := si H
  exact finC2 rfl (K19 4 rfl) k63 Tryz.isAgg60 Tryz.sizeOf60 rfl rfl (Below.trans ((e5.t e9).t e20) (Wr.below h62 (Nat.le_of_eq z3)))
theorem spec_l04Find.calls {w : World} {a0 : List Nd} {a1 : List UInt8} {v_a0 : Value} (f_a0 : Rd 4 encNd w v_a0 a0) (h0 : a0.length ≤ 1048576) (h1 : pathOK a1 = true) :
  Calls Tryz.prog 160 #[v_a0, S a1] w (Rt (RP w (.tuple #[.agg (encNd ((findNd a0 a1).1)).toArray, .int .i64 ((findNd a0 a1).2)]))) := by
 obtain ⟨k, h⟩ := spec_l04Find.eq a0 a1 h0 h1
 exact spec_l04Find.walk f_a0 h
/-! spec.FindNode -/
theorem spec_FindNode.walk {w : World} {a0 : List Nd} {a1 : List UInt8} {v_a0 : Value} (f_a0 : Rd 4 encNd w v_a0 a0) {r : Nd × Int} (H : spec_FindNode.sh a0 a1 = some r) :
  Calls Tryz.prog 65 #[v_a0, S a1] w (Rt (RP w (.tuple #[.agg (encNd r.1).toArray, .int .i64 r.2]))) := by
 unfold spec_FindNode.sh at H
 refine calls_of_WG Tryz.func65 rfl (Nat.le_of_ble_eq_true rfl) Tryz.ntmps65 ?_
 refine wr <| L_alloc (.plain rfl) rfl (ltb rfl) rfl Tryz.zeroValue60 <| fun b1 w2 z3 z4 e5 k6 => lp rfl rfl (xa (.int .i64 0) rfl) <| nx <| W_seq <| wr <| lp rfl rfl (xm v_a0 rfl) <| lp rfl rfl (X_lenR Tryz.underlying29 rfl (Rd.ext f_a0 e5)) <| lp rfl rfl (X_gtr rfl rfl) <| lp rfl rfl (xm (.bool (decide (4096 < (a0.length : Int)))) rfl) <| L_grp 4 [(11, 15)] 14 (.bool ((decide (4096 < (a0.length : Int))) || (decide (65536 < (a1.length : Int))))) ?_ ?_
 ·rcases bool_two (decide (4096 < (a0.length : Int))) with b6_ | b6_
  ·exact ls rfl rfl rfl (cb b6_) rfl <| ls rfl rfl rfl (cb b6_) rfl <| ls rfl rfl rfl (cb b6_) rfl <| lp rfl rfl (X_pick (b := true) (v := (.bool true)) (cb b6_) rfl) <| nx ⟨(ku4 kz rfl), (or_t b6_), er⟩
  ·exact lg rfl rfl rfl rfl (cb b6_) (xm (S a1) rfl) <| lg rfl rfl rfl rfl (cb b6_) (X_lenS Tryz.underlying9 rfl) <| lg rfl rfl rfl rfl (cb b6_) (X_gtr rfl rfl) <| lp rfl rfl (X_pick (b := false) (v := (.bool (decide (65536 < (a1.length : Int))))) (cb b6_) rfl) <| nx ⟨(ku4 kz rfl), (or_f b6_), er⟩
 intro s12 w8 K9 h10 e11
 refine nx ?_
 rcases bif_two H with ⟨q13, H⟩ | ⟨q13, H⟩
 ·refine W_true (h10.trans (cb q13)) <| wr <| lp rfl rfl (X_build1 (vs := []) (pl := #[(0, 1), (1, 1), (2, 1), (3, 1)]) Tryz.underlying60 Tryz.zeroValue60 rfl (fun _ => by kernel_rfl) rfl rfl rfl) <| L_storeA (.plain rfl) rfl rfl Tryz.sizeOf60 (K9 4 rfl) rfl rfl rfl rfl (Blk.ext k6 e11) <| fun w14 h15 k16 => lp rfl rfl (xa (.int .i64 2) rfl) <| nx <| W_ret <| thn_r <| finG_r ?_
  obtain rfl := si H
  exact finC2 rfl (K9 4 rfl) k16 Tryz.isAgg60 Tryz.sizeOf60 rfl rfl (Below.trans (e5.t e11) (Wr.below h15 (Nat.le_of_eq z3)))
 ·refine W_false (h10.trans (cb q13)) <| W_skip <| thn_n <| W_seq <| wr <| lp rfl rfl (xm v_a0 (K9 0 rfl)) <| lp rfl rfl (xm (S a1) (K9 1 rfl)) ?_
  obtain ⟨c17, H⟩ := bif_some H
  refine lc rfl rfl rfl Tryz.call167 (spec_l04Ask.calls (w := w8) (a0 := a0) (a1 := a1) (Rd.ext f_a0 (e5.t e11)) (od c17)) rfl <| fun w18 e19 => lp rfl rfl (xa (.int .i64 (askT a0 a1)) rfl) <| nx <| wr <| lp rfl rfl (xm (.int .i64 (askT a0 a1)) rfl) <| lp rfl rfl (X_neq rfl rfl) <| nx ?_
  rcases bif_two H with ⟨q20, H⟩ | ⟨q20, H⟩
  ·refine W_true (cb q20) <| wr <| lp rfl rfl (X_build1 (vs := []) (pl := #[(0, 1), (1, 1), (2, 1), (3, 1)]) Tryz.underlying60 Tryz.zeroValue60 rfl (fun _ => by kernel_rfl) rfl rfl rfl) <| lp rfl rfl (xm (.int .i64 (askT a0 a1)) rfl) <| L_storeA (.plain rfl) rfl rfl Tryz.sizeOf60 (K9 4 rfl) rfl rfl rfl rfl (Blk.ext k6 (e11.t e19)) <| fun w21 h22 k23 => lp rfl rfl (xa (.int .i64 (askT a0 a1)) rfl) <| nx <| W_ret <| thn_r <| finG_r ?_
   obtain rfl := si H
   exact finC2 rfl (K9 4 rfl) k23 Tryz.isAgg60 Tryz.sizeOf60 rfl rfl (Below.trans ((e5.t e11).t e19) (Wr.below h22 (Nat.le_of_eq z3)))
  ·refine W_false (cb q20) <| W_skip <| thn_n <| W_seq <| wr <| lp rfl rfl (xm (S a1) (K9 1 rfl)) <| lc rfl rfl rfl Tryz.call146 (spec_l01OK.calls (w := w18) (a0 := a1)) rfl <| fun w24 e25 => lp rfl rfl (X_not rfl) <| nx ?_
   rcases bif_two H with ⟨q26, H⟩ | ⟨q26, H⟩
   ·refine W_true (cb q26) <| wr <| lp rfl rfl (X_build1 (vs := []) (pl := #[(0, 1), (1, 1), (2, 1), (3, 1)]) Tryz.underlying60 Tryz.zeroValue60 rfl (fun _ => by kernel_rfl) rfl rfl rfl) <| L_storeA (.plain rfl) rfl rfl Tryz.sizeOf60 (K9 4 rfl) rfl rfl rfl rfl (Blk.ext k6 ((e11.t e19).t e25)) <| fun w27 h28 k29 => lp rfl rfl (xa (.int .i64 10) rfl) <| nx <| W_ret <| thn_r <| finG_r ?_
    obtain rfl := si H
    exact finC2 rfl (K9 4 rfl) k29 Tryz.isAgg60 Tryz.sizeOf60 rfl rfl (Below.trans (((e5.t e11).t e19).t e25) (Wr.below h28 (Nat.le_of_eq z3)))
   ·refine W_false (cb q26) <| W_skip <| thn_n <| wr <| lp rfl rfl (xm v_a0 (K9 0 rfl)) <| lp rfl rfl (xm (S a1) (K9 1 rfl)) ?_
    obtain ⟨c30, H⟩ := bif_some H
    obtain ⟨c31, H⟩ := bif_some H
    refine lc rfl rfl rfl Tryz.call160 (spec_l04Find.calls (w := w24) (a0 := a0) (a1 := a1) (Rd.ext f_a0 (((e5.t e11).t e19).t e25)) (od c30) (od c31)) rfl <| fun w32 e33 => lp rfl rfl (X_extract (v := (.agg (encNd ((findNd a0 a1).1)).toArray)) rfl rfl) <| lp rfl rfl (X_extract (v := (.int .i64 ((findNd a0 a1).2))) rfl rfl) <| L_storeA (.plain rfl) rfl rfl Tryz.sizeOf60 (K9 4 rfl) rfl rfl rfl rfl (Blk.ext k6 (((e11.t e19).t e25).t e33)) <| fun w34 h35 k36 => lp rfl rfl (xa (.int .i64 ((findNd a0 a1).2)) rfl) <| nx <| W_ret <| finG_r ?_
    obtain rfl := si H
    exact finC2 rfl (K9 4 rfl) k36 Tryz.isAgg60 Tryz.sizeOf60 rfl rfl (Below.trans ((((e5.t e11).t e19).t e25).t e33) (Wr.below h35 (Nat.le_of_eq z3)))
theorem spec_FindNode.calls {w : World} {a0 : List Nd} {a1 : List UInt8} {v_a0 : Value} (f_a0 : Rd 4 encNd w v_a0 a0) (h0 : a0.length ≤ 1048576) (h1 : ∀ x ∈ a0, x.path.length ≤ 1048576) :
  Calls Tryz.prog 65 #[v_a0, S a1] w (Rt (RP w (.tuple #[.agg (encNd ((findNode a0 a1).1)).toArray, .int .i64 ((findNode a0 a1).2)]))) := spec_FindNode.walk f_a0 (spec_FindNode.eq a0 a1 h0 h1)
/-! impl.isLongList(impl.Node) -/
theorem impl_isLongListN.calls {w : World} {a0 : List Nd} {v_a0 : Value} (f_a0 : Rd 4 encNd w v_a0 a0) :
  Calls Tryz.prog 127 #[v_a0] w (Rt (RP w (.bool (decide (4096 < a0.length))))) := by
 have H := impl_isLongListN.eq a0
 generalize (decide (4096 < a0.length)) = r at H ⊢
 unfold impl_isLongListN.sh at H
 refine calls_of_W Tryz.func127 rfl (Nat.le_of_ble_eq_true rfl) Tryz.ntmps127 rfl ?_
 refine wr <| lp rfl rfl (xa (.bool false) rfl) <| nx <| wr <| lp rfl rfl (xm v_a0 rfl) <| lp rfl rfl (X_lenR Tryz.underlying29 rfl f_a0) <| lp rfl rfl (X_gtr rfl rfl) <| lp rfl rfl (xa (.bool (decide (4096 < (a0.length : Int)))) rfl) <| nx <| W_ret <| fin_r ?_
 obtain rfl := si H
 exact fin1 rfl er
/-! slices.Backward(()string,string), by text -/
theorem slices_BackwardS_it.stops {w0 : World} {v : Value} {b0 : Nat} {vs : List Value} (hlen : vs.length ≤ 4611686018427387904) {Kp : World → World → Prop} {H : World → Prop}
    (hH : ∀ W, Below w0.heap.size w0 W → H W) (hK : ∀ W W', H W → Kp W W' → H W') (hHB : ∀ W, H W → Blk W b0 #[v] 42) (hHR : ∀ W, H W → Rd 1 encV W v vs) {n : Nat} :
    SeqStopsK Fence.wide n Tryz.prog 266 #[.pointer (some ⟨b0, 0, none⟩)] (fun i : Fin vs.length => #[.int .i64 (i.val : Int), vs.getD i.val undef]) Kp (fun l => l = downTo vs.length) (fun l => l <+: downTo vs.length) vs.length w0 := by
  letI : Inhabited Value := ⟨undef⟩
  intro l J Jx W hW hJ hJx hY h0
  have hH1 := hH W hW
  have hB1 := hHB W hH1
  have hR1 := hHR W hH1
  refine callsIn_of_WI Tryz.func266 rfl (Nat.le_of_ble_eq_true rfl) Tryz.ntmps266 ?_
  refine WI_seq <| WI_reg <| LI_op openWide rfl rfl rfl (ltb rfl) (X_loadB (v := v) Tryz.isAgg42 hB1 rfl rfl) <| LI_op openWide rfl rfl rfl (ltb rfl) (X_lenR Tryz.underlying42 rfl hR1) <| LI_op openWide rfl rfl rfl (ltb rfl) (X_sub rfl rfl) <|
    LI_op openWide rfl rfl rfl (ltb rfl) (X_assign (v := .int .i64 ((vs.length : Int) - 1)) (congrArg (Value.int .i64) (Go.UL.wrap_small (by omega) (by omega)))) <| LI_nil ?_
  refine WI_block <| WI_loop (fun m σ W' => σ 3 = .int .i64 ((m : Int) - 1) ∧ σ 0 = .func (.yield l) #[] #[] ∧ σ 1 = .pointer (some ⟨b0, 0, none⟩) ∧ m ≤ vs.length ∧ J ((downTo vs.length).take (vs.length - m)) W' ∧ H W') vs.length ⟨rfl, rfl, rfl, Nat.le_refl _, by simpa using h0, hH1⟩ ?_
  rintro m σ W' ⟨h3, h00, h1, hm, hj, hH2⟩
  have hB2 := hHB _ hH2
  have hR2 := hHR _ hH2
  refine WI_seq <| WI_seq <| WI_reg <| LI_op openWide rfl rfl rfl (ltb rfl) (X_move h3) <| LI_op openWide rfl rfl rfl (ltb rfl) (X_geq rfl rfl) <| LI_nil ?_
  refine WI_cond (decide ((0 : Int) ≤ (m : Int) - 1)) rfl (fun hm1 => WI_skip ?_) (fun hm1 => WI_exit ?_)
  · have hm2 : (0 : Int) ≤ (m : Int) - 1 := od hm1
    obtain ⟨m, rfl⟩ : ∃ j, m = j + 1 := ⟨m - 1, by omega⟩
    have e1 : ((m + 1 : Nat) : Int) - 1 = (m : Int) := by omega
    have hlt : m < vs.length := by omega
    have hin : inR (((m + 1 : Nat) : Int) - 1) vs.length = true := by rw [e1]; exact inR_nat hlt
    have hg : gt vs (((m + 1 : Nat) : Int) - 1) = vs.getD m undef := by rw [e1]; rfl
    refine WI_seq <| WI_block <| WI_seq <| WI_reg <| LI_op openWide rfl rfl rfl (ltb rfl) (X_move h00) <| LI_op openWide rfl rfl rfl (ltb rfl) (X_move h3) <| LI_op openWide rfl rfl rfl (ltb rfl) (X_loadB (v := v) Tryz.isAgg42 hB2 h1 rfl) <| LI_op openWide rfl rfl rfl (ltb rfl) (X_move h3) <|
      LI_idx openWide rfl rfl rfl (ltb rfl) rfl Tryz.underlying42 Tryz.sizeOf9 rfl hR2 rfl hin <| fun p hA => LI_op openWide rfl rfl rfl (ltb rfl) (X_loadAt (v := vs.getD m undef) Tryz.isAgg9 rfl hA (by rw [hg]; rfl)) <| ?_
    have hpre : ((downTo vs.length).take (vs.length - (m + 1))).length < vs.length := by simp [downTo]; omega
    refine LI_yield openWide (vs := #[.int .i64 (((m + 1 : Nat) : Int) - 1), vs.getD m undef]) (A := fun b w1 => (b = true ∧ J ((downTo vs.length).take (vs.length - m)) w1 ∧ Kp W' w1) ∨ (b = false ∧ Jx ((downTo vs.length).take (vs.length - m)) w1)) rfl rfl (ltb rfl) rfl rfl rfl rfl ?_ ?_
    · obtain ⟨fn, tmps, assign, body, hy, hRd⟩ := hY _ ⟨m, hlt⟩ W' hj hpre
      rw [e1]
      refine ⟨fn, tmps, assign, body, hy, RoundIn.mono hRd fun e w1 hr => ?_⟩
      rw [downTo_take vs.length m hlt] at hr
      rcases hr with ⟨rfl, hj', hk⟩ | ⟨rfl, hj'⟩
      · exact ⟨true, rfl, .inl ⟨rfl, hj', hk⟩⟩
      · exact ⟨false, rfl, .inr ⟨rfl, hj'⟩⟩
    · intro b w1 hb
      refine LI_op openWide rfl rfl rfl (ltb rfl) (X_not rfl) <| LI_nil ?_
      rcases hb with ⟨rfl, hj', hk⟩ | ⟨rfl, hj'⟩
      · have hH3 := hK _ _ hH2 hk
        refine WI_cond false rfl (fun h => by cases h) (fun _ => WI_skip ?_)
        refine WI_reg <| LI_op openWide rfl rfl rfl (ltb rfl) (X_move h3) <| LI_op openWide rfl rfl rfl (ltb rfl) (X_sub rfl rfl) <| LI_op openWide rfl rfl rfl (ltb rfl) (X_assign (v := .int .i64 ((m : Int) - 1)) (congrArg (Value.int .i64) (by rw [e1]; exact Go.UL.wrap_small (by omega) (by omega)))) <| LI_nil ?_
        exact ⟨rfl, m, by omega, rfl, h00, h1, by omega, hj', hH3⟩
      · refine WI_cond true rfl (fun _ => WI_ret ?_) (fun h => by cases h)
        exact ⟨.inr rfl, .inl ⟨rfl, .tuple #[], fun tmps _ => results_none (fn := Tryz.f266) rfl tmps _ _, ⟨_, rfl⟩, .inr ⟨_, downTo_pre _ _, hj'⟩⟩⟩
  · have hm2 : ¬ (0 : Int) ≤ (m : Int) - 1 := of_decide_eq_false hm1
    have hm0 : m = 0 := by omega
    subst hm0
    have hf : (downTo vs.length).take (vs.length - 0) = downTo vs.length := by rw [Nat.sub_zero]; exact List.take_of_length_le (by simp [downTo])
    rw [hf] at hj
    exact ⟨.inl rfl, .inl ⟨rfl, .tuple #[], fun tmps _ => results_none (fn := Tryz.f266) rfl tmps _ _, ⟨_, rfl⟩, .inl ⟨_, rfl, hj⟩⟩⟩
theorem slices_BackwardS.calls {w : World} {v : Value} {A : Option Addr} {len cap : Nat} (hv : v = .slice A len cap) :
    Calls Tryz.prog 217 #[v] w (Rt (fun u w' => Ext w w' ∧ ∃ b, w.heap.size ≤ b ∧ Blk w' b #[v] 42 ∧ u = .func (.func 266) #[] #[.pointer (some ⟨b, 0, none⟩)])) := by
  refine calls_of_W Tryz.func217 rfl (Nat.le_of_ble_eq_true rfl) Tryz.ntmps217 rfl ?_
  refine wr <| L_box (.plain rfl) rfl (ltb rfl) rfl rfl <| fun b w1 hb hb1 he hB => lp rfl rfl (X_assign rfl) <| nx <| wr <| lp rfl rfl (X_makeFunc (vs := #[]) (us := #[.pointer (some ⟨b, 0, none⟩)]) rfl rfl) <|
    lp rfl rfl (X_assign rfl) <| nx <| W_ret <| fin_r ?_
  refine ⟨_, rfl, he, b, by omega, ?_, rfl⟩
  subst hv
  exact hB

end Go.Proofs.YtfefjaohlhkmaaaGreatDoor
