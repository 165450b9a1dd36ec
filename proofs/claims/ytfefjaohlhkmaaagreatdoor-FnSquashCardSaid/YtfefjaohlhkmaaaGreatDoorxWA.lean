/- The walks, by program (wip/tools). -/
import Derived.Test.YtfefjaohlhkmaaaGreatDoorProg
import Derived.Test.YtfefjaohlhkmaaaGreatDoorKJ
import Derived.Test.YtfefjaohlhkmaaaGreatDoorKL
import Derived.Test.YtfefjaohlhkmaaaGreatDoorxSrt
import Derived.Test.YtfefjaohlhkmaaaGreatDoorxH
set_option linter.unusedVariables false
set_option linter.unusedSimpArgs false
set_option maxRecDepth 10000
namespace Go.Proofs.YtfefjaohlhkmaaaGreatDoor
open Go.UL Go.RowKit
theorem El.t22 : ElemI Tryz.prog 22 5 1 1 (.int .u8 0) := ElemI.mk' Tryz.underlying22 (by kernel_rfl) rfl rfl rfl
theorem El.t29 : ElemI Tryz.prog 29 60 4 48 (.agg #[.int .i64 0, .string ⟨#[]⟩, .string ⟨#[]⟩, .int .i64 0]) := ElemI.mk' Tryz.underlying29 (by kernel_rfl) rfl rfl rfl
theorem El.t35 : ElemI Tryz.prog 35 58 5 56 (.agg #[.int .i64 0, .string ⟨#[]⟩, .string ⟨#[]⟩, .int .i64 0, .bool false]) := ElemI.mk' Tryz.underlying35 (by kernel_rfl) rfl rfl rfl
theorem El.t42 : ElemI Tryz.prog 42 9 1 16 (.string ⟨#[]⟩) := ElemI.mk' Tryz.underlying42 (by kernel_rfl) rfl rfl rfl
theorem Eqg.t58 : Tryz.prog.eqGuardType Tryz.prog.depth 58 = false := by kernel_rfl
theorem Eqs.t58 (a b : Rec) (w : World) : (Op.equal 58 (.agg (qg a).toArray) (.agg (qg b).toArray)).run Tryz.prog w = .ok (decide (a = b)) w := run_eqRec (d := 9998) (ti := 3) (ts := 9) (tb := 4) Tryz.underlying58 rfl Tryz.underlying3 Tryz.underlying9 Tryz.underlying4 Tryz.isAgg3 Tryz.isAgg9 Tryz.isAgg4 (by kernel_rfl)
theorem Eqg.t60 : Tryz.prog.eqGuardType Tryz.prog.depth 60 = false := by kernel_rfl
theorem Eqs.t60 (a b : Nd) (w : World) : (Op.equal 60 (.agg (qr a).toArray) (.agg (qr b).toArray)).run Tryz.prog w = .ok (decide (a = b)) w := run_eqNd (d := 9998) (ti := 3) (ts := 9) Tryz.underlying60 rfl Tryz.underlying3 Tryz.underlying9 Tryz.isAgg3 Tryz.isAgg9 (by kernel_rfl)
/-! impl.within -/
theorem Qm.calls {w : World} {a0 : Int} {a1 : Int} {a2 : Int} :
  Calls Tryz.prog 196 #[.int .i64 a0, .int .i64 a1, .int .i64 a2] w (Rt (RP w (.bool (within a0 a1 a2)))) := by
 have H := Qm.eq a0 a1 a2
 generalize (within a0 a1 a2) = r at H ⊢
 unfold Qm.sh at H
 refine qh Tryz.func196 rfl (Nat.le_of_ble_eq_true rfl) Tryz.ntmps196 rfl ?_
 refine wr <| lp rfl (xa (.bool false) rfl) <| nx <| wr <| lp rfl (xm (.int .i64 a1) rfl) <| lp rfl (xm (.int .i64 a0) rfl) <| lp rfl (Y4 rfl rfl) <| lp rfl (xm (.bool (decide (a1 ≤ a0))) rfl) <| jI 4 [(11, 15)] 14 (.bool ((decide (a1 ≤ a0)) && (decide (a0 ≤ a2)))) ?_ ?_
 ·rcases ql (decide (a1 ≤ a0)) with b0_ | b0_
  ·exact lg rfl rfl rfl rfl (cb b0_) (xm (.int .i64 a0) rfl) <| lg rfl rfl rfl rfl (cb b0_) (xm (.int .i64 a2) rfl) <| lg rfl rfl rfl rfl (cb b0_) (Y4 rfl rfl) <| lp rfl (qu (b := true) (v := (.bool (decide (a0 ≤ a2)))) (cb b0_) rfl) <| nx ⟨(ku4 kz rfl), (VP b0_), er⟩
  ·exact ls rfl rfl rfl (cb b0_) rfl <| ls rfl rfl rfl (cb b0_) rfl <| ls rfl rfl rfl (cb b0_) rfl <| lp rfl (qu (b := false) (v := (.bool false)) (cb b0_) rfl) <| nx ⟨(ku4 kz rfl), (VS b0_), er⟩
 intro s6 w2 K3 h4 e5
 refine lp rfl (qA h4) <| nx <| qn <| qt ?_
 obtain rfl := si H
 exact vh rfl e5
/-! spec.l01In -/
theorem QY.calls {w : World} {a0 : Int} {a1 : Int} {a2 : Int} :
  Calls Tryz.prog 108 #[.int .i64 a0, .int .i64 a1, .int .i64 a2] w (Rt (RP w (.bool (within a0 a1 a2)))) := by
 have H := QY.eq a0 a1 a2
 generalize (within a0 a1 a2) = r at H ⊢
 unfold QY.sh at H
 refine qh Tryz.func108 rfl (Nat.le_of_ble_eq_true rfl) Tryz.ntmps108 rfl ?_
 refine wr <| lp rfl (xa (.bool false) rfl) <| nx <| wr <| lp rfl (xm (.int .i64 a0) rfl) <| lp rfl (xm (.int .i64 a1) rfl) <| lp rfl (VQ rfl rfl) <| lp rfl (xm (.bool (decide (a1 ≤ a0))) rfl) <| jI 4 [(11, 15)] 14 (.bool ((decide (a1 ≤ a0)) && (decide (a0 ≤ a2)))) ?_ ?_
 ·rcases ql (decide (a1 ≤ a0)) with b0_ | b0_
  ·exact lg rfl rfl rfl rfl (cb b0_) (xm (.int .i64 a0) rfl) <| lg rfl rfl rfl rfl (cb b0_) (xm (.int .i64 a2) rfl) <| lg rfl rfl rfl rfl (cb b0_) (Y4 rfl rfl) <| lp rfl (qu (b := true) (v := (.bool (decide (a0 ≤ a2)))) (cb b0_) rfl) <| nx ⟨(ku4 kz rfl), (VP b0_), er⟩
  ·exact ls rfl rfl rfl (cb b0_) rfl <| ls rfl rfl rfl (cb b0_) rfl <| ls rfl rfl rfl (cb b0_) rfl <| lp rfl (qu (b := false) (v := (.bool false)) (cb b0_) rfl) <| nx ⟨(ku4 kz rfl), (VS b0_), er⟩
 intro s6 w2 K3 h4 e5
 refine lp rfl (qA h4) <| nx <| qn <| qt ?_
 obtain rfl := si H
 exact vh rfl e5
/-! spec.l01Part -/
theorem yW.calls {w : World} {a0 : List UInt8} :
  Calls Tryz.prog 227 #[S a0] w (Rt (RP w (.bool (jB a0)))) := by
 obtain ⟨k, H⟩ := yW.eq a0
 generalize (jB a0) = r at H ⊢
 unfold yW.sh at H
 refine qh Tryz.func227 rfl (Nat.le_of_ble_eq_true rfl) Tryz.ntmps227 rfl ?_
 refine wr <| lp rfl (xa (.bool false) rfl) <| nx <| qj <| wr <| lp rfl (xm (S a0) rfl) <| lp rfl (Vi Tryz.underlying9 rfl) <| lc rfl rfl Tryz.call108 (QY.calls (w := w) (a0 := (a0.length : Int)) (a1 := 1) (a2 := 8)) rfl <| fun w1 e2 => lp rfl (yM rfl) <| lp rfl (xm (.bool (!(within (a0.length : Int) 1 8))) rfl) <| jI 3 [(9, 12)] 11 (.bool ((!(within (a0.length : Int) 1 8)) || (decide (a0 = ([46] : List UInt8))))) ?_ ?_
 ·rcases ql (!(within (a0.length : Int) 1 8)) with b2_ | b2_
  ·exact ls rfl rfl rfl (cb b2_) rfl <| ls rfl rfl rfl (cb b2_) rfl <| lp rfl (qu (b := true) (v := (.bool true)) (cb b2_) rfl) <| nx ⟨(ku3 kz rfl), (Jo b2_), er⟩
  ·exact lg rfl rfl rfl rfl (cb b2_) (xm (S a0) rfl) <| lg rfl rfl rfl rfl (cb b2_) (VR rfl rfl) <| lp rfl (qu (b := false) (v := (.bool (decide (a0 = ([46] : List UInt8))))) (cb b2_) rfl) <| nx ⟨(ku3 kz rfl), (Jn b2_), er⟩
 intro s8 w4 K5 h6 e7
 refine lp rfl (qf h6) <| jI 3 [(13, 16)] 15 (.bool (((!(within (a0.length : Int) 1 8)) || (decide (a0 = ([46] : List UInt8)))) || (decide (a0 = ([46, 46] : List UInt8))))) ?_ ?_
 ·rcases ql ((!(within (a0.length : Int) 1 8)) || (decide (a0 = ([46] : List UInt8)))) with b8_ | b8_
  ·exact ls rfl rfl rfl (cb b8_) rfl <| ls rfl rfl rfl (cb b8_) rfl <| lp rfl (qu (b := true) (v := (.bool true)) (cb b8_) rfl) <| nx ⟨(ku3 kz rfl), (Jo b8_), er⟩
  ·exact lg rfl rfl rfl rfl (cb b8_) (xm (S a0) (K5 0 rfl)) <| lg rfl rfl rfl rfl (cb b8_) (VR rfl rfl) <| lp rfl (qu (b := false) (v := (.bool (decide (a0 = ([46, 46] : List UInt8))))) (cb b8_) rfl) <| nx ⟨(ku3 kz rfl), (Jn b8_), er⟩
 intro s14 w10 K11 h12 e13
 refine nx ?_
 rcases qd H with ⟨q15, H⟩ | ⟨q15, H⟩
 ·refine qk (h12.trans (cb q15)) <| wr <| lp rfl (xa (.bool false) rfl) <| nx <| qn <| qw <| qt ?_
  obtain rfl := si H
  exact vh rfl ((e2.t e7).t e13)
 ·refine qi (h12.trans (cb q15)) <| qo <| qe <| qj <| wr <| lp rfl (xa (.int .i64 0) rfl) <| nx ?_
  obtain ⟨z17, L18, C19⟩ := bind_some H
  clear H
  refine  vD (fun s0 sQ wQ => Kp [(2, 4), (16, 38)] s0 sQ ∧ Ext w10 wQ ∧ z17 = .inr ()) ?_ ?_
  ·refine qB <| vo (fun s0 kk sQ wQ => ∃ (x3_16 : Int), Kp [(2, 4), (16, 38)] s0 sQ ∧ sQ 3 = .int .i64 x3_16 ∧ Ext w10 wQ ∧ qp (yW.b1 a0) kk x3_16 = some z17) k ⟨0, kz, rfl, er, L18⟩ ?_
   rintro k24 s25 w26 ⟨x3_16, K27, h30, e28, L29⟩
   cases k24 with
   | zero => exact absurd L29 (by simp [qp])
   | succ k24 =>
    obtain ⟨t31, H, S32⟩ := qK L29
    clear L29
    unfold yW.b1 at H
    refine qj <| wr <| lp rfl (qf h30) <| lp rfl (xm (S a0) ((K27 0 rfl).trans ((K11 0 rfl).trans (K5 0 rfl)))) <| lp rfl (Vi Tryz.underlying9 rfl) <| lp rfl (yl rfl rfl) <| nx ?_
    rcases qd H with ⟨q33, H⟩ | ⟨q33, H⟩
    ·refine qk (cb q33) <| qo <| qe <| qj <| qB <| wr <| lp rfl (xm (S a0) ((K27 0 rfl).trans ((K11 0 rfl).trans (K5 0 rfl)))) <| lp rfl (qf h30) ?_
     obtain ⟨c34, H⟩ := qa H
     refine lp rfl (Yh Tryz.underlying9 rfl rfl (QN c34) (Qs c34)) <| lp rfl (yl rfl rfl) <| lp rfl (xm (.bool (decide ((byt a0 x3_16) < 33))) rfl) ?_
     obtain ⟨z36, x37, H⟩ := bind_some H
     refine yk 5 [(27, 32)] 31 (fun q => q = z36) ?_ ?_
     ·rcases qd x37 with ⟨b34_, H⟩ | ⟨b34_, H⟩
      ·refine ls rfl rfl rfl (cb b34_) rfl <| ls rfl rfl rfl (cb b34_) rfl <| ls rfl rfl rfl (cb b34_) rfl <| ls rfl rfl rfl (cb b34_) rfl <| lp rfl (qu (b := true) (v := (.bool true)) (cb b34_) rfl) ?_
       obtain rfl := si H
       exact nx ⟨(ku1 (ku4 kz rfl) rfl), ⟨_, rfl, rfl⟩, er⟩
      ·refine lg rfl rfl rfl rfl (cb b34_) (xm (S a0) ((K27 0 rfl).trans ((K11 0 rfl).trans (K5 0 rfl)))) <| lg rfl rfl rfl rfl (cb b34_) (qf h30) ?_
       obtain ⟨c36, H⟩ := qa H
       refine lg rfl rfl rfl rfl (cb b34_) (Yh Tryz.underlying9 rfl rfl (QN c36) (Qs c36)) <| lg rfl rfl rfl rfl (cb b34_) (jJ rfl rfl) <| lp rfl (qu (b := false) (v := (.bool (decide (126 < (byt a0 x3_16))))) (cb b34_) rfl) ?_
       obtain rfl := si H
       exact nx ⟨(ku1 (ku4 kz rfl) rfl), ⟨_, rfl, rfl⟩, er⟩
     intro s42 w38 z43 K39 hq h40 e41
     rw [hq] at h40; clear hq
     refine lp rfl (qf h40) ?_
     obtain ⟨z45, x46, H⟩ := bind_some H
     refine yk 5 [(33, 38)] 37 (fun q => q = z45) ?_ ?_
     ·rcases qd x46 with ⟨b43_, H⟩ | ⟨b43_, H⟩
      ·refine ls rfl rfl rfl (cb b43_) rfl <| ls rfl rfl rfl (cb b43_) rfl <| ls rfl rfl rfl (cb b43_) rfl <| ls rfl rfl rfl (cb b43_) rfl <| lp rfl (qu (b := true) (v := (.bool true)) (cb b43_) rfl) ?_
       obtain rfl := si H
       exact nx ⟨(ku1 (ku4 kz rfl) rfl), ⟨_, rfl, rfl⟩, er⟩
      ·refine lg rfl rfl rfl rfl (cb b43_) (xm (S a0) ((K39 0 rfl).trans ((K27 0 rfl).trans ((K11 0 rfl).trans (K5 0 rfl))))) <| lg rfl rfl rfl rfl (cb b43_) (xm (.int .i64 x3_16) ((K39 3 rfl).trans h30)) ?_
       obtain ⟨c45, H⟩ := qa H
       refine lg rfl rfl rfl rfl (cb b43_) (Yh Tryz.underlying9 rfl rfl (QN c45) (Qs c45)) <| lg rfl rfl rfl rfl (cb b43_) (yn rfl rfl) <| lp rfl (qu (b := false) (v := (.bool (decide ((byt a0 x3_16) = 47)))) (cb b43_) rfl) ?_
       obtain rfl := si H
       exact nx ⟨(ku1 (ku4 kz rfl) rfl), ⟨_, rfl, rfl⟩, er⟩
     intro s51 w47 z52 K48 hq h49 e50
     rw [hq] at h49; clear hq
     refine nx ?_
     rcases qd H with ⟨q53, H⟩ | ⟨q53, H⟩
     ·refine qk (h49.trans (cb q53)) <| wr <| lp rfl (xa (.bool false) rfl) <| nx <| qn <| vv <| qw <| qw <| vv <| qw <| qw <| qt ?_
      obtain rfl := si H
      obtain rfl := si S32
      have H := C19
      obtain rfl := si H
      exact vh rfl (((((e2.t e7).t e13).t e28).t e41).t e50)
     ·refine qi (h49.trans (cb q53)) <| qo <| vk <| qe <| qG <| lp rfl (xm (.int .i64 x3_16) ((K48 3 rfl).trans ((K39 3 rfl).trans h30))) <| lp rfl (vi rfl rfl) <| lp rfl (xa (.int .i64 (IntKind.wrap .i64 (x3_16 + 1))) rfl) <| nx ?_
      obtain rfl := si H
      exact ⟨_, Nat.lt_succ_self _, IntKind.wrap .i64 (x3_16 + 1), (ku3 (Kp.cut (ku1 (Kp.cut (ku1 (ku8 K27 rfl) rfl) K39 rfl) rfl) K48 rfl) rfl), rfl, ((e28.t e41).t e50), S32⟩
    ·refine qi (cb q33) <| vH <| qY <| qY <| yF <| qe ?_
     obtain rfl := si H
     obtain rfl := si S32
     exact ⟨(ku4 K27 rfl), e28, rfl⟩
  ·rintro s21 w20 ⟨K22, e23, y54⟩
   rw [y54] at C19
   have H := C19
   replace H : _ = some _ := H
   refine qe <| wr <| lp rfl (xa (.bool true) rfl) <| nx <| qn <| qt ?_
   obtain rfl := si H
   exact vh rfl (((e2.t e7).t e13).t e23)
/-! impl.PartOK -/
theorem jf.calls {w : World} {a0 : List UInt8} (h0 : a0.length ≤ 4611686018427387904) :
  Calls Tryz.prog 232 #[S a0] w (Rt (RP w (.bool (jB a0)))) := by
 obtain ⟨k, H⟩ := jf.eq a0 h0
 generalize (jB a0) = r at H ⊢
 unfold jf.sh at H
 refine qh Tryz.func232 rfl (Nat.le_of_ble_eq_true rfl) Tryz.ntmps232 rfl ?_
 refine wr <| lp rfl (xa (.bool false) rfl) <| nx <| qj <| wr <| lp rfl (xm (S a0) rfl) <| lp rfl (Vi Tryz.underlying9 rfl) <| lp rfl (xm (.int .i64 0) rfl) <| nx ?_
 obtain ⟨z2, L3, C4⟩ := bind_some H
 clear H
 refine  vD (fun s0 sQ wQ => Kp [(2, 4), (6, 22)] s0 sQ ∧ Ext w wQ ∧ z2 = .inr ()) ?_ ?_
 ·refine qB <| vo (fun s0 kk sQ wQ => ∃ (x6_1 : Int), Kp [(2, 4), (6, 22)] s0 sQ ∧ sQ 6 = .int .i64 x6_1 ∧ Ext w wQ ∧ qp (jf.b1 a0) kk x6_1 = some z2) k ⟨0, kz, rfl, er, L3⟩ ?_
  rintro k9 s10 w11 ⟨x6_1, K12, h15, e13, L14⟩
  cases k9 with
  | zero => exact absurd L14 (by simp [qp])
  | succ k9 =>
   obtain ⟨t16, H, S17⟩ := qK L14
   clear L14
   unfold jf.b1 at H
   refine wr <| lp rfl (yl h15 (K12 5 rfl)) <| nx <| qj ?_
   rcases qd H with ⟨q18, H⟩ | ⟨q18, H⟩
   ·refine qk (cb q18) <| qo <| qe <| qj <| qB <| wr <| lp rfl (qf h15) <| lp rfl (xa (.int .i64 x6_1) rfl) <| nx <| wr <| lp rfl (xm (S a0) (K12 0 rfl)) <| lp rfl (xm (.int .i64 x6_1) rfl) ?_
    obtain ⟨c19, H⟩ := qa H
    refine lp rfl (Yh Tryz.underlying9 rfl rfl (QN c19) (Qs c19)) <| lp rfl (Vz Tryz.underlying5 Tryz.underlying3 rfl) <| lc rfl rfl Tryz.call196 (Qm.calls (w := w11) (a0 := IntKind.wrap .i64 (byt a0 x6_1)) (a1 := 33) (a2 := 126)) rfl <| fun w20 e21 => lp rfl (yM rfl) <| lp rfl (xm (.bool (!(within (IntKind.wrap .i64 (byt a0 x6_1)) 33 126))) rfl) ?_
    obtain ⟨z23, x24, H⟩ := bind_some H
    refine yk 5 [(16, 21)] 20 (fun q => q = z23) ?_ ?_
    ·rcases qd x24 with ⟨b21_, H⟩ | ⟨b21_, H⟩
     ·refine ls rfl rfl rfl (cb b21_) rfl <| ls rfl rfl rfl (cb b21_) rfl <| ls rfl rfl rfl (cb b21_) rfl <| ls rfl rfl rfl (cb b21_) rfl <| lp rfl (qu (b := true) (v := (.bool true)) (cb b21_) rfl) ?_
      obtain rfl := si H
      exact nx ⟨(ku1 (ku4 kz rfl) rfl), ⟨_, rfl, rfl⟩, er⟩
     ·refine lg rfl rfl rfl rfl (cb b21_) (xm (S a0) (K12 0 rfl)) <| lg rfl rfl rfl rfl (cb b21_) (xm (.int .i64 x6_1) rfl) ?_
      obtain ⟨c23, H⟩ := qa H
      refine lg rfl rfl rfl rfl (cb b21_) (Yh Tryz.underlying9 rfl rfl (QN c23) (Qs c23)) <| lg rfl rfl rfl rfl (cb b21_) (yn rfl rfl) <| lp rfl (qu (b := false) (v := (.bool (decide ((byt a0 x6_1) = 47)))) (cb b21_) rfl) ?_
      obtain rfl := si H
      exact nx ⟨(ku1 (ku4 kz rfl) rfl), ⟨_, rfl, rfl⟩, er⟩
    intro s29 w25 z30 K26 hq h27 e28
    rw [hq] at h27; clear hq
    refine nx ?_
    rcases qd H with ⟨q31, H⟩ | ⟨q31, H⟩
    ·refine qk (h27.trans (cb q31)) <| wr <| lp rfl (xa (.bool false) rfl) <| nx <| qn <| vv <| qw <| qw <| vv <| qw <| qw <| qt ?_
     obtain rfl := si H
     obtain rfl := si S17
     have H := C4
     obtain rfl := si H
     exact vh rfl ((e13.t e21).t e28)
    ·refine qi (h27.trans (cb q31)) <| qo <| vk <| qe <| qG <| lp rfl (vi ((K26 6 rfl).trans h15) rfl) <| lp rfl (xm (.int .i64 (IntKind.wrap .i64 (x6_1 + 1))) rfl) <| nx ?_
     obtain rfl := si H
     exact ⟨_, Nat.lt_succ_self _, IntKind.wrap .i64 (x6_1 + 1), (ku2 (Kp.cut (ku2 (ku8 K12 rfl) rfl) K26 rfl) rfl), rfl, ((e13.t e21).t e28), S17⟩
   ·refine qi (cb q18) <| vH <| qY <| qY <| yF <| qe ?_
    obtain rfl := si H
    obtain rfl := si S17
    exact ⟨(ku1 K12 rfl), e13, rfl⟩
 ·rintro s6 w5 ⟨K7, e8, y32⟩
  rw [y32] at C4
  have H := C4
  replace H : _ = some _ := H
  refine qe <| wr <| lp rfl (xm (S a0) (K7 0 rfl)) <| lp rfl (Vi Tryz.underlying9 rfl) <| lc rfl rfl Tryz.call196 (Qm.calls (w := w5) (a0 := (a0.length : Int)) (a1 := 1) (a2 := 8)) rfl <| fun w33 e34 => lp rfl (xm (.bool (within (a0.length : Int) 1 8)) rfl) <| jI 3 [(26, 29)] 28 (.bool ((within (a0.length : Int) 1 8) && (!decide (a0 = ([46] : List UInt8))))) ?_ ?_
  ·rcases ql (within (a0.length : Int) 1 8) with b34_ | b34_
   ·exact lg rfl rfl rfl rfl (cb b34_) (xm (S a0) (K7 0 rfl)) <| lg rfl rfl rfl rfl (cb b34_) (VK rfl rfl) <| lp rfl (qu (b := true) (v := (.bool (!decide (a0 = ([46] : List UInt8))))) (cb b34_) rfl) <| nx ⟨(ku3 kz rfl), (VP b34_), er⟩
   ·exact ls rfl rfl rfl (cb b34_) rfl <| ls rfl rfl rfl (cb b34_) rfl <| lp rfl (qu (b := false) (v := (.bool false)) (cb b34_) rfl) <| nx ⟨(ku3 kz rfl), (VS b34_), er⟩
  intro s40 w36 K37 h38 e39
  refine lp rfl (qf h38) <| jI 3 [(30, 33)] 32 (.bool (((within (a0.length : Int) 1 8) && (!decide (a0 = ([46] : List UInt8)))) && (!decide (a0 = ([46, 46] : List UInt8))))) ?_ ?_
  ·rcases ql ((within (a0.length : Int) 1 8) && (!decide (a0 = ([46] : List UInt8)))) with b40_ | b40_
   ·exact lg rfl rfl rfl rfl (cb b40_) (xm (S a0) ((K37 0 rfl).trans (K7 0 rfl))) <| lg rfl rfl rfl rfl (cb b40_) (VK rfl rfl) <| lp rfl (qu (b := true) (v := (.bool (!decide (a0 = ([46, 46] : List UInt8))))) (cb b40_) rfl) <| nx ⟨(ku3 kz rfl), (VP b40_), er⟩
   ·exact ls rfl rfl rfl (cb b40_) rfl <| ls rfl rfl rfl (cb b40_) rfl <| lp rfl (qu (b := false) (v := (.bool false)) (cb b40_) rfl) <| nx ⟨(ku3 kz rfl), (VS b40_), er⟩
  intro s46 w42 K43 h44 e45
  refine lp rfl (qA h44) <| nx <| qn <| qt ?_
  obtain rfl := si H
  exact vh rfl (((e8.t e34).t e39).t e45)
/-! spec.l00Cut -/
theorem yQ.calls {w : World} {a0 : List UInt8} {a1 : Int} (h0 : a0.length ≤ 1048576) :
  Calls Tryz.prog 209 #[S a0, .int .u8 a1] w (Rt (RO 9 1 yK w (cut a1 a0))) := by
 obtain ⟨k, H⟩ := yQ.eq a0 a1 h0
 generalize (cut a1 a0) = r at H ⊢
 unfold yQ.sh at H
 refine qh Tryz.func209 rfl (Nat.le_of_ble_eq_true rfl) Tryz.ntmps209 rfl ?_
 refine wr <| lp rfl (xa (.slice none 0 0) rfl) <| nx <| wr <| vO (.plain rfl) rfl (ltb rfl) rfl Tryz.underlying42 Tryz.sizeOf9 Tryz.zeroValue9 rfl rfl rfl (vs := []) rfl (qR rfl) <| fun b1 w2 z3 z4 e5 k6 => lp rfl (xa (.slice (some ⟨b1, 0, none⟩) 0 0) rfl) <| nx <| wr <| lp rfl (xa (.int .i64 0) rfl) <| nx <| qj <| wr <| lp rfl (xa (.int .i64 0) rfl) <| nx ?_
 obtain ⟨z11, L12, C13⟩ := bind_some H
 clear H
 refine  vD (fun s0 sQ wQ => ∃ (x5_14 : List (List UInt8)) (v15 : Value) (x6_16 : Int), Kp [(5, 8), (9, 29)] s0 sQ ∧ sQ 5 = v15 ∧ Ow 9 1 yK w2.heap.size wQ v15 x5_14 ∧ sQ 6 = .int .i64 x6_16 ∧ Ext w2 wQ ∧ z11 = .inr (x5_14, x6_16)) ?_ ?_
 ·refine qB <| vo (fun s0 kk sQ wQ => ∃ (x5_7 : List (List UInt8)) (v8 : Value) (x6_9 : Int) (x7_10 : Int), Kp [(5, 8), (9, 29)] s0 sQ ∧ sQ 5 = v8 ∧ Ow 9 1 yK w2.heap.size wQ v8 x5_7 ∧ sQ 6 = .int .i64 x6_9 ∧ sQ 7 = .int .i64 x7_10 ∧ Ext w2 wQ ∧ qp (yQ.b1 a0 a1) kk (x5_7, x6_9, x7_10) = some z11) k ⟨([] : List (List UInt8)), (.slice (some ⟨b1, 0, none⟩) 0 0), 0, 0, kz, rfl, (Ow.zero), rfl, rfl, er, L12⟩ ?_
  rintro k21 s22 w23 ⟨x5_7, v8, x6_9, x7_10, K24, h27, h28, h29, h30, e25, L26⟩
  cases k21 with
  | zero => exact absurd L26 (by simp [qp])
  | succ k21 =>
   obtain ⟨t31, H, S32⟩ := qK L26
   clear L26
   unfold yQ.b1 at H
   refine qj <| wr <| lp rfl (qf h30) <| lp rfl (xm (S a0) (K24 0 rfl)) <| lp rfl (Vi Tryz.underlying9 rfl) <| lp rfl (yl rfl rfl) <| nx ?_
   rcases qd H with ⟨q33, H⟩ | ⟨q33, H⟩
   ·refine qk (cb q33) <| qo <| qe <| qj <| qB <| wr <| lp rfl (xm (S a0) (K24 0 rfl)) <| lp rfl (qf h30) ?_
    obtain ⟨c34, H⟩ := qa H
    refine lp rfl (Yh Tryz.underlying9 rfl rfl (QN c34) (Qs c34)) <| lp rfl (xm (.int .u8 a1) (K24 1 rfl)) <| lp rfl (yn rfl rfl) <| nx ?_
    rcases qd H with ⟨q35, H⟩ | ⟨q35, H⟩
    ·refine qk (cb q35) <| wr <| lp rfl (qf h27) <| lp rfl (xm (S a0) (K24 0 rfl)) <| lp rfl (qf h29) <| lp rfl (qf h30) ?_
     obtain ⟨c36, H⟩ := qa H
     refine lp rfl (YZ Tryz.underlying9 rfl (l := x6_9) (h := x7_10) ⟨_, rfl⟩ ⟨_, rfl⟩ (GA c36) (Gz c36) (Gf c36)) <| vO (.plain rfl) rfl (ltb rfl) rfl Tryz.underlying42 Tryz.sizeOf9 Tryz.zeroValue9 rfl rfl rfl (vs := [(S (sub a0 x6_9 x7_10))]) rfl (qR rfl) <| fun b37 w38 z39 z40 e41 k42 => ?_
     obtain ⟨c43, H⟩ := qa H
     refine vW (enc := yK) (.plain rfl) rfl (ltb rfl) rfl El.t42 rfl rfl (Ow.ext h28 e41) (Ow.rd (Ow.new (xs := [sub a0 x6_9 x7_10]) (sz := 1) (enc := yK) (base := w23.heap.size) k42 (Nat.le_of_eq z39) rfl (fun _ _ => by rfl) (Nat.le_of_ble_eq_true rfl))) (GJ _) (od c43) ((e25.t e41)).size <| fun v44 w45 o46 z47 g48 => lp rfl (xa v44 rfl) <| nx <| qG <| lp rfl (qf h30) <| lp rfl (vi rfl rfl) <| lp rfl (xa (.int .i64 (IntKind.wrap .i64 (x7_10 + 1))) rfl) <| qJ <| vk <| qe <| qG <| lp rfl (qf h30) <| lp rfl (vi rfl rfl) <| lp rfl (xa (.int .i64 (IntKind.wrap .i64 (x7_10 + 1))) rfl) <| nx ?_
     obtain rfl := si H
     exact ⟨_, Nat.lt_succ_self _, x5_7 ++ ([sub a0 x6_9 x7_10] : List (List UInt8)), v44, IntKind.wrap .i64 (x7_10 + 1), IntKind.wrap .i64 (x7_10 + 1), (ku3 (ku4 (ku8 (ku8 K24 rfl) rfl) rfl) rfl), rfl, o46, rfl, rfl, (g48 _ (e25.t e41)), S32⟩
    ·refine qi (cb q35) <| qo <| vk <| qe <| qG <| lp rfl (qf h30) <| lp rfl (vi rfl rfl) <| lp rfl (xa (.int .i64 (IntKind.wrap .i64 (x7_10 + 1))) rfl) <| nx ?_
     obtain rfl := si H
     exact ⟨_, Nat.lt_succ_self _, x5_7, v8, x6_9, IntKind.wrap .i64 (x7_10 + 1), (ku4 (ku8 K24 rfl) rfl), h27, h28, h29, rfl, e25, S32⟩
   ·refine qi (cb q33) <| vH <| qY <| qY <| yF <| qe ?_
    obtain rfl := si H
    obtain rfl := si S32
    exact ⟨x5_7, v8, x6_9, (ku4 K24 rfl), h27, h28, h29, e25, rfl⟩
 ·rintro s18 w17 ⟨x5_14, v15, x6_16, K19, h49, h50, h51, e20, y52⟩
  rw [y52] at C13
  have H := C13
  replace H : _ = some _ := H
  refine qe <| wr <| lp rfl (qf h49) <| lp rfl (xm (S a0) (K19 0 rfl)) <| lp rfl (qf h51) ?_
  obtain ⟨c53, H⟩ := qa H
  refine lp rfl (YZ Tryz.underlying9 rfl (l := x6_16) (h := (a0.length : Int)) ⟨_, rfl⟩ rfl (GA c53) (Gz c53) (Gf c53)) <| vO (.plain rfl) rfl (ltb rfl) rfl Tryz.underlying42 Tryz.sizeOf9 Tryz.zeroValue9 rfl rfl rfl (vs := [(S (sub a0 x6_16 (a0.length : Int)))]) rfl (qR rfl) <| fun b54 w55 z56 z57 e58 k59 => ?_
  obtain ⟨c60, H⟩ := qa H
  refine vW (enc := yK) (.plain rfl) rfl (ltb rfl) rfl El.t42 rfl rfl (Ow.ext h50 e58) (Ow.rd (Ow.new (xs := [sub a0 x6_16 (a0.length : Int)]) (sz := 1) (enc := yK) (base := w17.heap.size) k59 (Nat.le_of_eq z56) rfl (fun _ _ => by rfl) (Nat.le_of_ble_eq_true rfl))) (GJ _) (od c60) ((e20.t e58)).size <| fun v61 w62 o63 z64 g65 => lp rfl (xa v61 rfl) <| nx <| qn <| qt ?_
  obtain rfl := si H
  exact Qi rfl (e5.t (g65 _ (e20.t e58))) o63 (e5).size
/-! impl.parts -/
theorem yd.calls {w : World} {a0 : List UInt8} (gv : GV 0 w) (h0 : a0.length ≤ 1048576) :
  Calls Tryz.prog 212 #[S a0] w (Rt (RO 9 1 yK w (cut 47 a0))) := by
 have H := yd.eq a0 h0
 generalize (cut 47 a0) = r at H ⊢
 unfold yd.sh at H
 refine qh Tryz.func212 rfl (Nat.le_of_ble_eq_true rfl) Tryz.ntmps212 rfl ?_
 refine wr <| lp rfl (xa (.slice none 0 0) rfl) <| nx <| wr <| lp rfl (xm (S a0) rfl) ?_
 obtain ⟨c1, H⟩ := qa H
 obtain ⟨c2, H⟩ := qa H
 refine vp (.plain rfl) rfl (ltb rfl) rfl Tryz.call263 (strings_Split.calls (w := w) (a0 := a0) (a1 := ([47] : List UInt8)) gv (od c1) (od c2)) rfl <| fun v5 w3 e4 o6 => lp rfl (xa v5 rfl) <| nx <| qn <| qt ?_
 obtain rfl := si H
 exact Qi rfl e4 o6 (er).size
/-! impl.all(string)$1 -/
theorem j5.walk {w : World} {a0 : List UInt8} {a1 : List UInt8 → Option Bool} {v_a1 : Value} (f_a1 : ∀ (x0 : List UInt8) (r : Bool), a1 x0 = some r → jq Tryz.prog w v_a1 [(S x0)] (.bool r)) (g_a1 : v_a1.cells = #[v_a1]) {b_a1 : Nat} (k_a1 : Blk w b_a1 #[v_a1] 130) {r : Bool} (H : j5.sh a0 a1 = some r) :
  Calls Tryz.prog 272 #[S a0, .pointer (some ⟨b_a1, 0, none⟩)] w (Rt (RP w (.bool r))) := by
 unfold j5.sh at H
 refine qh Tryz.func272 rfl (Nat.le_of_ble_eq_true rfl) Tryz.ntmps272 rfl ?_
 refine wr <| lp rfl (xa (.bool false) rfl) <| nx <| wr <| lp rfl (qz Tryz.isAgg130 k_a1 rfl rfl) <| lp rfl (xm (S a0) rfl) ?_
 obtain ⟨z1, x2, H⟩ := bind_some H
 refine Yb (.plain rfl) rfl (ltb rfl) rfl rfl (jq.ext (f_a1 _ _ x2) er) rfl <| fun w3 e4 => lp rfl (yM rfl) <| lp rfl (xa (.bool (!z1)) rfl) <| nx <| qn <| qt ?_
 obtain rfl := si H
 exact vh rfl e4
theorem j5.calls {w : World} {a0 : List UInt8} {a1 : List UInt8 → Option Bool} {r : Bool} {v_a1 : Value} (f_a1 : ∀ (x0 : List UInt8) (r : Bool), a1 x0 = some r → jq Tryz.prog w v_a1 [(S x0)] (.bool r)) (g_a1 : v_a1.cells = #[v_a1]) {b_a1 : Nat} (k_a1 : Blk w b_a1 #[v_a1] 130) (H : ((a1 a0).map (!·)) = some r) :
  Calls Tryz.prog 272 #[S a0, .pointer (some ⟨b_a1, 0, none⟩)] w (Rt (RP w (.bool r))) := j5.walk f_a1 g_a1 k_a1 (j5.eq a0 a1 H)
/-! slices.IndexFunc(()string,string) -/
theorem vf.walk {k : Nat} {w : World} {a0 : List (List UInt8)} {a1 : List UInt8 → Option Bool} {v_a0 : Value} (f_a0 : Rd 1 yK w v_a0 a0) {v_a1 : Value} (f_a1 : ∀ (x0 : List UInt8) (r : Bool), a1 x0 = some r → jq Tryz.prog w v_a1 [(S x0)] (.bool r)) (g_a1 : v_a1.cells = #[v_a1]) {r : Int} (H : vf.sh k a0 a1 = some r) :
  Calls Tryz.prog 279 #[v_a0, v_a1] w (Rt (RP w (.int .i64 r))) := by
 unfold vf.sh at H
 refine qh Tryz.func279 rfl (Nat.le_of_ble_eq_true rfl) Tryz.ntmps279 rfl ?_
 refine wr <| lp rfl (xa (.int .i64 0) rfl) <| nx <| qj <| wr <| lp rfl (xm v_a0 rfl) <| lp rfl (qO Tryz.underlying42 rfl f_a0) <| lp rfl (xm (.int .i64 0) rfl) <| nx ?_
 obtain ⟨z2, L3, C4⟩ := bind_some H
 clear H
 refine  vD (fun s0 sQ wQ => Kp [(4, 6), (8, 19)] s0 sQ ∧ Ext w wQ ∧ z2 = .inr ()) ?_ ?_
 ·refine qB <| vo (fun s0 kk sQ wQ => ∃ (x8_1 : Int), Kp [(4, 6), (8, 19)] s0 sQ ∧ sQ 8 = .int .i64 x8_1 ∧ Ext w wQ ∧ qp (vf.b1 a0 a1) kk x8_1 = some z2) k ⟨0, kz, rfl, er, L3⟩ ?_
  rintro k9 s10 w11 ⟨x8_1, K12, h15, e13, L14⟩
  cases k9 with
  | zero => exact absurd L14 (by simp [qp])
  | succ k9 =>
   obtain ⟨t16, H, S17⟩ := qK L14
   clear L14
   unfold vf.b1 at H
   refine wr <| lp rfl (yl h15 (K12 7 rfl)) <| nx <| qj ?_
   rcases qd H with ⟨q18, H⟩ | ⟨q18, H⟩
   ·refine qk (cb q18) <| qo <| qe <| qj <| qB <| wr <| lp rfl (qf h15) <| lp rfl (xa (.int .i64 x8_1) rfl) <| nx <| wr <| lp rfl (xm v_a1 (K12 1 rfl)) <| lp rfl (xm v_a0 (K12 0 rfl)) <| lp rfl (xm (.int .i64 x8_1) rfl) ?_
    obtain ⟨c19, H⟩ := qa H
    refine q4 (.plain rfl) rfl (ltb rfl) rfl Tryz.underlying42 Tryz.sizeOf9 rfl (Rd.ext f_a0 e13) rfl c19 <| fun p20 h21 => lp rfl (yr Tryz.isAgg9 rfl h21 rfl) ?_
    obtain ⟨z22, x23, H⟩ := bind_some H
    refine Yb (.plain rfl) rfl (ltb rfl) rfl rfl (jq.ext (f_a1 _ _ x23) e13) rfl <| fun w24 e25 => nx ?_
    rcases qd H with ⟨q26, H⟩ | ⟨q26, H⟩
    ·refine qk (cb q26) <| wr <| lp rfl (xm (.int .i64 x8_1) rfl) <| lp rfl (xa (.int .i64 x8_1) rfl) <| nx <| qn <| vv <| qw <| qw <| vv <| qw <| qw <| qt ?_
     obtain rfl := si H
     obtain rfl := si S17
     have H := C4
     obtain rfl := si H
     exact vh rfl (e13.t e25)
    ·refine qi (cb q26) <| qo <| vk <| qe <| qG <| lp rfl (vi h15 rfl) <| lp rfl (xm (.int .i64 (IntKind.wrap .i64 (x8_1 + 1))) rfl) <| nx ?_
     obtain rfl := si H
     exact ⟨_, Nat.lt_succ_self _, IntKind.wrap .i64 (x8_1 + 1), (ku3 (ku8 K12 rfl) rfl), rfl, (e13.t e25), S17⟩
   ·refine qi (cb q18) <| vH <| qY <| qY <| yF <| qe ?_
    obtain rfl := si H
    obtain rfl := si S17
    exact ⟨(ku1 K12 rfl), e13, rfl⟩
 ·rintro s6 w5 ⟨K7, e8, y27⟩
  rw [y27] at C4
  have H := C4
  replace H : _ = some _ := H
  refine qe <| wr <| lp rfl (xa (.int .i64 (-1)) rfl) <| nx <| qn <| qt ?_
  obtain rfl := si H
  exact vh rfl e8
theorem vf.calls {w : World} {a0 : List (List UInt8)} {a1 : List UInt8 → Option Bool} {r : Int} {v_a0 : Value} (f_a0 : Rd 1 yK w v_a0 a0) {v_a1 : Value} (f_a1 : ∀ (x0 : List UInt8) (r : Bool), a1 x0 = some r → jq Tryz.prog w v_a1 [(S x0)] (.bool r)) (g_a1 : v_a1.cells = #[v_a1]) (h0 : a0.length ≤ 4611686018427387904) (H : (Yo a1 a0) = some r) :
  Calls Tryz.prog 279 #[v_a0, v_a1] w (Rt (RP w (.int .i64 r))) := by
 obtain ⟨k, h⟩ := vf.eq a0 a1 h0 H
 exact vf.walk f_a0 f_a1 g_a1 h
/-! slices.ContainsFunc(()string,string) -/
theorem vJ.walk {w : World} {a0 : List (List UInt8)} {a1 : List UInt8 → Option Bool} {v_a0 : Value} (f_a0 : Rd 1 yK w v_a0 a0) {v_a1 : Value} (f_a1 : ∀ (x0 : List UInt8) (r : Bool), a1 x0 = some r → jq Tryz.prog w v_a1 [(S x0)] (.bool r)) (g_a1 : v_a1.cells = #[v_a1]) {r : Bool} (H : vJ.sh a0 a1 = some r) :
  Calls Tryz.prog 259 #[v_a0, v_a1] w (Rt (RP w (.bool r))) := by
 unfold vJ.sh at H
 refine qh Tryz.func259 rfl (Nat.le_of_ble_eq_true rfl) Tryz.ntmps259 rfl ?_
 refine wr <| lp rfl (xa (.bool false) rfl) <| nx <| wr <| lp rfl (xm v_a0 rfl) <| lp rfl (xm v_a1 rfl) ?_
 obtain ⟨c1, H⟩ := qa H
 obtain ⟨z2, x3, H⟩ := bind_some H
 refine lc rfl rfl Tryz.call279 (vf.calls (w := w) (a0 := a0) (a1 := a1) f_a0 (fun x0 r h => jq.ext (f_a1 x0 r h) er) g_a1 (od c1) x3) rfl <| fun w4 e5 => lp rfl (VQ rfl rfl) <| lp rfl (xa (.bool (decide (0 ≤ z2))) rfl) <| nx <| qn <| qt ?_
 obtain rfl := si H
 exact vh rfl e5
theorem vJ.calls {w : World} {a0 : List (List UInt8)} {a1 : List UInt8 → Option Bool} {r : Bool} {v_a0 : Value} (f_a0 : Rd 1 yK w v_a0 a0) {v_a1 : Value} (f_a1 : ∀ (x0 : List UInt8) (r : Bool), a1 x0 = some r → jq Tryz.prog w v_a1 [(S x0)] (.bool r)) (g_a1 : v_a1.cells = #[v_a1]) (h0 : a0.length ≤ 4611686018427387904) (H : (Yg a1 a0) = some r) :
  Calls Tryz.prog 259 #[v_a0, v_a1] w (Rt (RP w (.bool r))) := vJ.walk f_a0 f_a1 g_a1 (vJ.eq a0 a1 h0 H)
/-! impl.all(string) -/
theorem QU.walk {w : World} {a0 : List (List UInt8)} {a1 : List UInt8 → Option Bool} {v_a0 : Value} (f_a0 : Rd 1 yK w v_a0 a0) {v_a1 : Value} (f_a1 : ∀ (x0 : List UInt8) (r : Bool), a1 x0 = some r → jq Tryz.prog w v_a1 [(S x0)] (.bool r)) (g_a1 : v_a1.cells = #[v_a1]) {r : Bool} (H : QU.sh a0 a1 = some r) :
  Calls Tryz.prog 230 #[v_a0, v_a1] w (Rt (RP w (.bool r))) := by
 unfold QU.sh at H
 refine qh Tryz.func230 rfl (Nat.le_of_ble_eq_true rfl) Tryz.ntmps230 rfl ?_
 refine wr <| j0 (.plain rfl) rfl (ltb rfl) rfl rfl <| fun b1 w2 z3 z4 e5 k6 => lp rfl (xa (.bool false) rfl) <| nx <| wr <| lp rfl (xm v_a0 rfl) <| lp rfl (V0 (vs := #[]) (us := #[.pointer (some ⟨b1, 0, none⟩)]) rfl rfl) ?_
 obtain ⟨c11, H⟩ := qa H
 obtain ⟨z12, x13, H⟩ := bind_some H
 refine lc rfl rfl Tryz.call259 (vJ.calls (w := w2) (a0 := a0) (a1 := (fun (x0_ : List UInt8) => ((a1 x0_).map (!·)))) (Rd.ext f_a0 e5) (fun x0_ r h => by exact jq.mk Tryz.call272 (by rfl) fun w9 k10 => j5.calls (w := w9) (a0 := x0_) (a1 := a1) (fun x0 r h => jq.ext (f_a1 x0 r h) (e5.t k10)) g_a1 (Blk.ext (Blk.cs k6 g_a1) k10) h) rfl (od c11) x13) rfl <| fun w14 e15 => lp rfl (yM rfl) <| lp rfl (xa (.bool (!z12)) rfl) <| nx <| qn <| qt ?_
 obtain rfl := si H
 exact vh rfl (e5.t e15)
theorem QU.calls {w : World} {a0 : List (List UInt8)} {a1 : List UInt8 → Option Bool} {r : Bool} {v_a0 : Value} (f_a0 : Rd 1 yK w v_a0 a0) {v_a1 : Value} (f_a1 : ∀ (x0 : List UInt8) (r : Bool), a1 x0 = some r → jq Tryz.prog w v_a1 [(S x0)] (.bool r)) (g_a1 : v_a1.cells = #[v_a1]) (h0 : a0.length ≤ 4611686018427387904) (H : (Xi a1 a0) = some r) :
  Calls Tryz.prog 230 #[v_a0, v_a1] w (Rt (RP w (.bool r))) := QU.walk f_a0 f_a1 g_a1 (QU.eq a0 a1 h0 H)
/-! impl.PathOK -/
theorem Ql.calls {w : World} {a0 : List UInt8} (gv : GV 0 w) :
  Calls Tryz.prog 150 #[S a0] w (Rt (RP w (.bool (qH a0)))) := by
 have H := Ql.eq a0
 generalize (qH a0) = r at H ⊢
 unfold Ql.sh at H
 refine qh Tryz.func150 rfl (Nat.le_of_ble_eq_true rfl) Tryz.ntmps150 rfl ?_
 refine wr <| lp rfl (xa (.bool false) rfl) <| nx <| wr <| lp rfl (xm (S a0) rfl) <| lp rfl (Vi Tryz.underlying9 rfl) <| lp rfl (yl rfl rfl) <| lp rfl (xm (.bool (decide ((a0.length : Int) < 36))) rfl) ?_
 obtain ⟨z2, x3, H⟩ := bind_some H
 refine yk 5 [(7, 12)] 11 (fun q => q = z2) ?_ ?_
 ·rcases qd x3 with ⟨b0_, H⟩ | ⟨b0_, H⟩
  ·refine lg rfl rfl rfl rfl (cb b0_) (xm (S a0) rfl) ?_
   obtain ⟨c2, H⟩ := qa H
   refine vp (tg rfl rfl rfl (cb b0_)) rfl (ltb rfl) rfl Tryz.call212 (yd.calls (w := w) (a0 := a0) gv (od c2)) rfl <| fun v5 w3 e4 o6 => lg rfl rfl rfl rfl (cb b0_) (qO Tryz.underlying42 rfl (Ow.rd o6)) <| lg rfl rfl rfl rfl (cb b0_) (Y4 rfl rfl) <| lp rfl (qu (b := true) (v := (.bool (decide (((cut 47 a0).length : Int) ≤ 4)))) (cb b0_) rfl) ?_
   obtain rfl := si H
   exact nx ⟨(ku1 (ku4 kz rfl) rfl), ⟨_, rfl, rfl⟩, e4⟩
  ·refine ls rfl rfl rfl (cb b0_) rfl <| ls rfl rfl rfl (cb b0_) rfl <| ls rfl rfl rfl (cb b0_) rfl <| ls rfl rfl rfl (cb b0_) rfl <| lp rfl (qu (b := false) (v := (.bool false)) (cb b0_) rfl) ?_
   obtain rfl := si H
   exact nx ⟨(ku1 (ku4 kz rfl) rfl), ⟨_, rfl, rfl⟩, er⟩
 intro s8 w4 z9 K5 hq h6 e7
 rw [hq] at h6; clear hq
 refine lp rfl (qf h6) ?_
 obtain ⟨z11, x12, H⟩ := bind_some H
 refine yk 4 [(13, 17)] 16 (fun q => q = z11) ?_ ?_
 ·rcases qd x12 with ⟨b9_, H⟩ | ⟨b9_, H⟩
  ·refine lg rfl rfl rfl rfl (cb b9_) (xm (S a0) (K5 0 rfl)) ?_
   obtain ⟨c11, H⟩ := qa H
   refine vp (tg rfl rfl rfl (cb b9_)) rfl (ltb rfl) rfl Tryz.call212 (yd.calls (w := w4) (a0 := a0) (GV.ext gv e7) (od c11)) rfl <| fun v14 w12 e13 o15 => ?_
   obtain ⟨c20, H⟩ := qa H
   obtain ⟨z21, x22, H⟩ := bind_some H
   refine vy (tg rfl rfl rfl (cb b9_)) rfl (ltb rfl) rfl Tryz.call230 (QU.calls (w := w12) (a0 := (cut 47 a0)) (a1 := (fun (x0_ : List UInt8) => bif decide (x0_.length ≤ 4611686018427387904) then (some (jB x0_)) else none)) (Ow.rd o15) (fun x0_ r h => by obtain ⟨q0, h⟩ := qa h; have h := si h; subst h; exact jq.mk Tryz.call232 (by rfl) fun w18 k19 => jf.calls (w := w18) (a0 := x0_) (od q0)) rfl (od c20) x22) rfl <| fun w23 e24 => lp rfl (qu (b := true) (v := (.bool z21)) (cb b9_) rfl) ?_
   obtain rfl := si H
   exact nx ⟨(ku4 kz rfl), ⟨_, rfl, rfl⟩, (e13.t e24)⟩
  ·refine ls rfl rfl rfl (cb b9_) rfl <| ls rfl rfl rfl (cb b9_) rfl <| ls rfl rfl rfl (cb b9_) rfl <| lp rfl (qu (b := false) (v := (.bool false)) (cb b9_) rfl) ?_
   obtain rfl := si H
   exact nx ⟨(ku4 kz rfl), ⟨_, rfl, rfl⟩, er⟩
 intro s25 w13 z26 K14 hq h15 e16
 rw [hq] at h15; clear hq
 refine lp rfl (qA h15) <| nx <| qn <| qt ?_
 obtain rfl := si H
 exact vh rfl (e7.t e16)
/-! impl.first -/
theorem yS.calls {w : World} {a0 : List (Bool ⊕ Int)} {v_a0 : Value} (f_a0 : Rd 1 (Vl 4 3) w v_a0 a0) (h0 : a0.length ≤ 4611686018427387904) :
  Calls Tryz.prog 125 #[v_a0] w (Rt (RP w (.int .i64 (vX a0)))) := by
 obtain ⟨k, H⟩ := yS.eq a0 h0
 generalize (vX a0) = r at H ⊢
 unfold yS.sh at H
 refine qh Tryz.func125 rfl (Nat.le_of_ble_eq_true rfl) Tryz.ntmps125 rfl ?_
 refine wr <| lp rfl (xa (.int .i64 0) rfl) <| nx <| qj <| wr <| lp rfl (xa (.int .i64 0) rfl) <| nx ?_
 obtain ⟨z2, L3, C4⟩ := bind_some H
 clear H
 refine  vD (fun s0 sQ wQ => Kp [(2, 34)] s0 sQ ∧ Ext w wQ ∧ z2 = .inr ()) ?_ ?_
 ·refine qB <| vo (fun s0 kk sQ wQ => ∃ (x3_1 : Int), Kp [(2, 34)] s0 sQ ∧ sQ 3 = .int .i64 x3_1 ∧ Ext w wQ ∧ qp (yS.b1 a0) kk x3_1 = some z2) k ⟨0, kz, rfl, er, L3⟩ ?_
  rintro k9 s10 w11 ⟨x3_1, K12, h15, e13, L14⟩
  cases k9 with
  | zero => exact absurd L14 (by simp [qp])
  | succ k9 =>
   obtain ⟨t16, H, S17⟩ := qK L14
   clear L14
   unfold yS.b1 at H
   refine qj <| wr <| lp rfl (qf h15) <| lp rfl (vi rfl rfl) <| lp rfl (xm v_a0 (K12 0 rfl)) <| lp rfl (qO Tryz.underlying171 rfl (Rd.ext f_a0 e13)) <| lp rfl (yl rfl rfl) <| nx ?_
   rcases qd H with ⟨q18, H⟩ | ⟨q18, H⟩
   ·refine qk (cb q18) <| qo <| qe <| qj <| qB <| wr <| lp rfl (xm v_a0 (K12 0 rfl)) <| lp rfl (qf h15) ?_
    obtain ⟨c19, H⟩ := qa H
    refine q4 (.plain rfl) rfl (ltb rfl) rfl Tryz.underlying171 Tryz.sizeOf20 rfl (Rd.ext f_a0 e13) rfl c19 <| fun p20 h21 => lp rfl (yr Tryz.isAgg20 rfl h21 rfl) <| lp rfl (X_taB Tryz.underlying4 Tryz.zeroValue4 (by decide) rfl) <| lp rfl (xm (.tuple #[(.bool (Xg (gt a0 x3_1))), (.bool (isB (gt a0 x3_1)))]) rfl) <| lp rfl (vq (v := (.bool (Xg (gt a0 x3_1)))) rfl rfl) <| lp rfl (vq (v := (.bool (isB (gt a0 x3_1)))) rfl rfl) <| lp rfl (xa (.bool (Xg (gt a0 x3_1))) rfl) <| lp rfl (xa (.bool (isB (gt a0 x3_1))) rfl) <| nx <| wr <| lp rfl (xm (.bool (Xg (gt a0 x3_1))) rfl) <| nx ?_
    rcases qd H with ⟨q22, H⟩ | ⟨q22, H⟩
    ·refine qk (cb q22) <| wr <| lp rfl (xm v_a0 (K12 0 rfl)) <| lp rfl (qf h15) <| lp rfl (vi rfl rfl) ?_
     obtain ⟨c23, H⟩ := qa H
     refine q4 (.plain rfl) rfl (ltb rfl) rfl Tryz.underlying171 Tryz.sizeOf20 rfl (Rd.ext f_a0 e13) rfl c23 <| fun p24 h25 => lp rfl (yr Tryz.isAgg20 rfl h25 rfl) <| lp rfl (X_taI Tryz.underlying3 Tryz.zeroValue3 (by decide) rfl) <| lp rfl (qf rfl) <| lp rfl (vq (v := (.int .i64 (anyI (gt a0 (IntKind.wrap .i64 (x3_1 + 1)))))) rfl rfl) <| lp rfl (vq (v := (.bool (!isB (gt a0 (IntKind.wrap .i64 (x3_1 + 1)))))) rfl rfl) <| lp rfl (xa (.int .i64 (anyI (gt a0 (IntKind.wrap .i64 (x3_1 + 1))))) rfl) <| lp rfl (xa (.bool (!isB (gt a0 (IntKind.wrap .i64 (x3_1 + 1))))) rfl) <| nx <| wr <| lp rfl (xm (.int .i64 (anyI (gt a0 (IntKind.wrap .i64 (x3_1 + 1))))) rfl) <| lp rfl (xa (.int .i64 (anyI (gt a0 (IntKind.wrap .i64 (x3_1 + 1))))) rfl) <| nx <| qn <| vv <| qw <| qw <| vv <| qw <| qw <| qt ?_
     obtain rfl := si H
     obtain rfl := si S17
     have H := C4
     obtain rfl := si H
     exact vh rfl e13
    ·refine qi (cb q22) <| qo <| vk <| qe <| qG <| lp rfl (qf h15) <| lp rfl (vi rfl rfl) <| lp rfl (xa (.int .i64 (IntKind.wrap .i64 (x3_1 + 2))) rfl) <| nx ?_
     obtain rfl := si H
     exact ⟨_, Nat.lt_succ_self _, IntKind.wrap .i64 (x3_1 + 2), (ku3 (ku8 (ku8 K12 rfl) rfl) rfl), rfl, e13, S17⟩
   ·refine qi (cb q18) <| vH <| qY <| qY <| yF <| qe ?_
    obtain rfl := si H
    obtain rfl := si S17
    exact ⟨(ku1 (ku4 K12 rfl) rfl), e13, rfl⟩
 ·rintro s6 w5 ⟨K7, e8, y26⟩
  rw [y26] at C4
  have H := C4
  replace H : _ = some _ := H
  refine qe <| wr <| lp rfl (xa (.int .i64 0) rfl) <| nx <| qn <| qt ?_
  obtain rfl := si H
  exact vh rfl e8
/-! spec.l01OK -/
theorem jn.calls {w : World} {a0 : List UInt8} :
  Calls Tryz.prog 146 #[S a0] w (Rt (RP w (.bool (qH a0)))) := by
 obtain ⟨k, H⟩ := jn.eq a0
 generalize (qH a0) = r at H ⊢
 unfold jn.sh at H
 refine qh Tryz.func146 rfl (Nat.le_of_ble_eq_true rfl) Tryz.ntmps146 rfl ?_
 refine wr <| lp rfl (xa (.bool false) rfl) <| nx <| qj <| wr <| lp rfl (xm (S a0) rfl) <| lp rfl (Vi Tryz.underlying9 rfl) <| lp rfl (jJ rfl rfl) <| nx ?_
 rcases qd H with ⟨q1, H⟩ | ⟨q1, H⟩
 ·refine qk (cb q1) <| wr <| lp rfl (xa (.bool false) rfl) <| nx <| qn <| qw <| qt ?_
  obtain rfl := si H
  exact vh rfl er
 ·refine qi (cb q1) <| qo <| qe <| wr <| lp rfl (xm (S a0) rfl) ?_
  obtain ⟨c2, H⟩ := qa H
  refine vp (.plain rfl) rfl (ltb rfl) rfl Tryz.call209 (yQ.calls (w := w) (a0 := a0) (a1 := 47) (od c2)) rfl <| fun v5 w3 e4 o6 => lp rfl (xa v5 rfl) <| nx <| qj <| wr <| lp rfl (xm v5 rfl) <| lp rfl (qO Tryz.underlying42 rfl (Ow.rd o6)) <| lp rfl (jJ rfl rfl) <| nx ?_
  rcases qd H with ⟨q7, H⟩ | ⟨q7, H⟩
  ·refine qk (cb q7) <| wr <| lp rfl (xa (.bool false) rfl) <| nx <| qn <| qw <| qt ?_
   obtain rfl := si H
   exact vh rfl e4
  ·refine qi (cb q7) <| qo <| qe <| qj <| wr <| lp rfl (xa (.int .i64 0) rfl) <| nx ?_
   obtain ⟨z9, L10, C11⟩ := bind_some H
   clear H
   refine  vD (fun s0 sQ wQ => Kp [(2, 3), (4, 5), (13, 25)] s0 sQ ∧ Ext w3 wQ ∧ z9 = .inr ()) ?_ ?_
   ·refine qB <| vo (fun s0 kk sQ wQ => ∃ (x4_8 : Int), Kp [(2, 3), (4, 5), (13, 25)] s0 sQ ∧ sQ 4 = .int .i64 x4_8 ∧ Ext w3 wQ ∧ qp (jn.b1 a0) kk x4_8 = some z9) k ⟨0, kz, rfl, er, L10⟩ ?_
    rintro k16 s17 w18 ⟨x4_8, K19, h22, e20, L21⟩
    cases k16 with
    | zero => exact absurd L21 (by simp [qp])
    | succ k16 =>
     obtain ⟨t23, H, S24⟩ := qK L21
     clear L21
     unfold jn.b1 at H
     refine qj <| wr <| lp rfl (qf h22) <| lp rfl (xm v5 (K19 3 rfl)) <| lp rfl (qO Tryz.underlying42 rfl (Ow.rd (Ow.ext o6 e20))) <| lp rfl (yl rfl rfl) <| nx ?_
     rcases qd H with ⟨q25, H⟩ | ⟨q25, H⟩
     ·refine qk (cb q25) <| qo <| qe <| qj <| qB <| wr <| lp rfl (xm v5 (K19 3 rfl)) <| lp rfl (qf h22) ?_
      obtain ⟨c26, H⟩ := qa H
      refine q4 (.plain rfl) rfl (ltb rfl) rfl Tryz.underlying42 Tryz.sizeOf9 rfl (Ow.rd (Ow.ext o6 e20)) rfl c26 <| fun p27 h28 => lp rfl (yr Tryz.isAgg9 rfl h28 rfl) <| lc rfl rfl Tryz.call227 (yW.calls (w := w18) (a0 := gt (cut 47 a0) x4_8)) rfl <| fun w29 e30 => lp rfl (yM rfl) <| nx ?_
      rcases qd H with ⟨q31, H⟩ | ⟨q31, H⟩
      ·refine qk (cb q31) <| wr <| lp rfl (xa (.bool false) rfl) <| nx <| qn <| vv <| qw <| qw <| vv <| qw <| qw <| qt ?_
       obtain rfl := si H
       obtain rfl := si S24
       have H := C11
       obtain rfl := si H
       exact vh rfl ((e4.t e20).t e30)
      ·refine qi (cb q31) <| qo <| vk <| qe <| qG <| lp rfl (qf h22) <| lp rfl (vi rfl rfl) <| lp rfl (xa (.int .i64 (IntKind.wrap .i64 (x4_8 + 1))) rfl) <| nx ?_
       obtain rfl := si H
       exact ⟨_, Nat.lt_succ_self _, IntKind.wrap .i64 (x4_8 + 1), (ku1 (ku4 (ku8 K19 rfl) rfl) rfl), rfl, (e20.t e30), S24⟩
     ·refine qi (cb q25) <| vH <| qY <| qY <| yF <| qe ?_
      obtain rfl := si H
      obtain rfl := si S24
      exact ⟨(ku4 K19 rfl), e20, rfl⟩
   ·rintro s13 w12 ⟨K14, e15, y32⟩
    rw [y32] at C11
    have H := C11
    replace H : _ = some _ := H
    refine qe <| wr <| lp rfl (xa (.bool true) rfl) <| nx <| qn <| qt ?_
    obtain rfl := si H
    exact vh rfl (e4.t e15)
/-! spec.l02Fault -/
theorem j9.calls {w : World} {a0 : Rec} :
  Calls Tryz.prog 237 #[.agg (qg a0).toArray] w (Rt (RP w (.int .i64 (qx a0)))) := by
 have H := j9.eq a0
 generalize (qx a0) = r at H ⊢
 unfold j9.sh at H
 refine qh Tryz.func237 rfl (Nat.le_of_ble_eq_true rfl) Tryz.ntmps237 rfl ?_
 refine wr <| j0 (.plain rfl) rfl (ltb rfl) rfl rfl <| fun b1 w2 z3 z4 e5 k6 => lp rfl (xa (.int .i64 0) rfl) <| nx <| wr <| lp rfl (qb Tryz.underlying58 rfl Tryz.sizeOf3 rfl rfl) <| lp rfl (qz Tryz.isAgg3 k6 rfl rfl) <| lp rfl (yn rfl rfl) <| lp rfl (xa (.bool (decide (a0.kind = 3))) rfl) <| nx <| qj <| qB <| wr <| lp rfl (qb Tryz.underlying58 rfl Tryz.sizeOf3 rfl rfl) <| lp rfl (qz Tryz.isAgg3 k6 rfl rfl) <| lc rfl rfl Tryz.call108 (QY.calls (w := w2) (a0 := a0.kind) (a1 := 1) (a2 := 4)) rfl <| fun w7 e8 => lp rfl (yM rfl) <| lp rfl (xa (.bool (!(within a0.kind 1 4))) rfl) <| nx ?_
 rcases qd H with ⟨q9, H⟩ | ⟨q9, H⟩
 ·refine qk (cb q9) <| wr <| lp rfl (xa (.int .i64 9) rfl) <| nx <| qn <| vv <| qw <| qt ?_
  obtain rfl := si H
  exact vh rfl (e5.t e8)
 ·refine qi (cb q9) <| wr <| lp rfl (qb Tryz.underlying58 rfl Tryz.sizeOf9 rfl rfl) <| lp rfl (qz Tryz.isAgg9 (Blk.ext k6 e8) rfl rfl) <| lc rfl rfl Tryz.call146 (jn.calls (w := w7) (a0 := a0.path)) rfl <| fun w10 e11 => lp rfl (yM rfl) <| lp rfl (xa (.bool (!(qH a0.path))) rfl) <| nx ?_
  rcases qd H with ⟨q12, H⟩ | ⟨q12, H⟩
  ·refine qk (cb q12) <| wr <| lp rfl (xa (.int .i64 10) rfl) <| nx <| qn <| vv <| qw <| qt ?_
   obtain rfl := si H
   exact vh rfl ((e5.t e8).t e11)
  ·refine qi (cb q12) <| wr <| lp rfl (qb Tryz.underlying58 rfl Tryz.sizeOf9 rfl rfl) <| lp rfl (qz Tryz.isAgg9 (Blk.ext k6 (e8.t e11)) rfl rfl) <| lp rfl (Vi Tryz.underlying9 rfl) <| lp rfl (jJ rfl rfl) <| lp rfl (xm (.bool (decide (20 < (a0.body.length : Int)))) rfl) <| jI 9 [(23, 32)] 31 (.bool ((decide (20 < (a0.body.length : Int))) || ((decide (a0.kind = 2)) && (decide (a0.body = ([] : List UInt8)))))) ?_ ?_
   ·rcases ql (decide (20 < (a0.body.length : Int))) with b12_ | b12_
    ·exact ls rfl rfl rfl (cb b12_) rfl <| ls rfl rfl rfl (cb b12_) rfl <| ls rfl rfl rfl (cb b12_) rfl <| ls rfl rfl rfl (cb b12_) rfl <| lu rfl rfl rfl rfl rfl <| lu rfl rfl rfl rfl rfl <| lu rfl rfl rfl rfl rfl <| ls rfl rfl rfl (cb b12_) rfl <| lp rfl (qu (b := true) (v := (.bool true)) (cb b12_) rfl) <| nx ⟨(ku1 (ku8 kz rfl) rfl), (Jo b12_), er⟩
    ·refine lg rfl rfl rfl rfl (cb b12_) (qb Tryz.underlying58 rfl Tryz.sizeOf3 rfl rfl) <| lg rfl rfl rfl rfl (cb b12_) (qz Tryz.isAgg3 (Blk.ext k6 (e8.t e11)) rfl rfl) <| lg rfl rfl rfl rfl (cb b12_) (yn rfl rfl) <| lg rfl rfl rfl rfl (cb b12_) (xm (.bool (decide (a0.kind = 2))) rfl) <| jI 4 [(27, 31)] 30 (.bool ((decide (a0.kind = 2)) && (decide (a0.body = ([] : List UInt8))))) ?_ ?_
     ·rcases ql (decide (a0.kind = 2)) with b13_ | b13_
      ·exact lg rfl rfl rfl rfl (cb b13_) (qb Tryz.underlying58 rfl Tryz.sizeOf9 rfl rfl) <| lg rfl rfl rfl rfl (cb b13_) (qz Tryz.isAgg9 (Blk.ext k6 (e8.t e11)) rfl rfl) <| lg rfl rfl rfl rfl (cb b13_) (VR rfl rfl) <| lg rfl rfl rfl rfl (cb b12_) (qu (b := true) (v := (.bool (decide (a0.body = ([] : List UInt8))))) (cb b13_) rfl) <| nx ⟨(ku4 kz rfl), (VP b13_), er⟩
      ·exact ls rfl rfl rfl (cb b13_) rfl <| ls rfl rfl rfl (cb b13_) rfl <| ls rfl rfl rfl (cb b13_) rfl <| lg rfl rfl rfl rfl (cb b12_) (qu (b := false) (v := (.bool false)) (cb b13_) rfl) <| nx ⟨(ku4 kz rfl), (VS b13_), er⟩
     intro s19 w15 K16 h17 e18
     exact lp rfl (qu (b := false) (v := (.bool ((decide (a0.kind = 2)) && (decide (a0.body = ([] : List UInt8)))))) ((K16 22 rfl).trans (cb b12_)) h17) <| nx ⟨(ku1 (Kp.cut (ku4 kz rfl) K16 rfl) rfl), (Jn b12_), e18⟩
   intro s20 w14 K15 h16 e17
   refine lp rfl (qA h16) <| nx ?_
   rcases qd H with ⟨q21, H⟩ | ⟨q21, H⟩
   ·refine qk (cb q21) <| wr <| lp rfl (xa (.int .i64 8) rfl) <| nx <| qn <| vv <| qw <| qt ?_
    obtain rfl := si H
    exact vh rfl (((e5.t e8).t e11).t e17)
   ·refine qi (cb q21) <| wr <| lp rfl (qb Tryz.underlying58 rfl Tryz.sizeOf9 rfl (K15 1 rfl)) <| lp rfl (qz Tryz.isAgg9 (Blk.ext k6 ((e8.t e11).t e17)) rfl rfl) <| lp rfl (VK rfl rfl) <| lp rfl (xm (.bool (!decide (a0.body = ([] : List UInt8)))) rfl) <| jI 7 [(37, 44)] 43 (.bool ((!decide (a0.body = ([] : List UInt8))) && ((decide (a0.kind = 3)) || (decide (a0.kind = 4))))) ?_ ?_
    ·rcases ql (!decide (a0.body = ([] : List UInt8))) with b21_ | b21_
     ·refine lg rfl rfl rfl rfl (cb b21_) (xm (.bool (decide (a0.kind = 3))) (K15 3 rfl)) <| lg rfl rfl rfl rfl (cb b21_) (xm (.bool (decide (a0.kind = 3))) rfl) <| jI 4 [(39, 43)] 42 (.bool ((decide (a0.kind = 3)) || (decide (a0.kind = 4)))) ?_ ?_
      ·rcases ql (decide (a0.kind = 3)) with b22_ | b22_
       ·exact ls rfl rfl rfl (cb b22_) rfl <| ls rfl rfl rfl (cb b22_) rfl <| ls rfl rfl rfl (cb b22_) rfl <| lg rfl rfl rfl rfl (cb b21_) (qu (b := true) (v := (.bool true)) (cb b22_) rfl) <| nx ⟨(ku4 kz rfl), (Jo b22_), er⟩
       ·exact lg rfl rfl rfl rfl (cb b22_) (qb Tryz.underlying58 rfl Tryz.sizeOf3 rfl (K15 1 rfl)) <| lg rfl rfl rfl rfl (cb b22_) (qz Tryz.isAgg3 (Blk.ext k6 ((e8.t e11).t e17)) rfl rfl) <| lg rfl rfl rfl rfl (cb b22_) (yn rfl rfl) <| lg rfl rfl rfl rfl (cb b21_) (qu (b := false) (v := (.bool (decide (a0.kind = 4)))) (cb b22_) rfl) <| nx ⟨(ku4 kz rfl), (Jn b22_), er⟩
      intro s28 w24 K25 h26 e27
      exact lp rfl (qu (b := true) (v := (.bool ((decide (a0.kind = 3)) || (decide (a0.kind = 4))))) ((K25 36 rfl).trans (cb b21_)) h26) <| nx ⟨(ku1 (Kp.cut (ku2 kz rfl) K25 rfl) rfl), (VP b21_), e27⟩
     ·exact ls rfl rfl rfl (cb b21_) rfl <| ls rfl rfl rfl (cb b21_) rfl <| lu rfl rfl rfl rfl rfl <| lu rfl rfl rfl rfl rfl <| lu rfl rfl rfl rfl rfl <| ls rfl rfl rfl (cb b21_) rfl <| lp rfl (qu (b := false) (v := (.bool false)) (cb b21_) rfl) <| nx ⟨(ku3 (ku4 kz rfl) rfl), (VS b21_), er⟩
    intro s29 w23 K24 h25 e26
    refine lp rfl (qf h25) <| jI 7 [(45, 52)] 51 (.bool (((!decide (a0.body = ([] : List UInt8))) && ((decide (a0.kind = 3)) || (decide (a0.kind = 4)))) || (a0.opq && (!(decide (a0.kind = 3)))))) ?_ ?_
    ·rcases ql ((!decide (a0.body = ([] : List UInt8))) && ((decide (a0.kind = 3)) || (decide (a0.kind = 4)))) with b29_ | b29_
     ·exact ls rfl rfl rfl (cb b29_) rfl <| ls rfl rfl rfl (cb b29_) rfl <| ls rfl rfl rfl (cb b29_) rfl <| lu rfl rfl rfl rfl rfl <| lu rfl rfl rfl rfl rfl <| ls rfl rfl rfl (cb b29_) rfl <| lp rfl (qu (b := true) (v := (.bool true)) (cb b29_) rfl) <| nx ⟨(ku3 (ku4 kz rfl) rfl), (Jo b29_), er⟩
     ·refine lg rfl rfl rfl rfl (cb b29_) (qb Tryz.underlying58 rfl Tryz.sizeOf4 rfl ((K24 1 rfl).trans (K15 1 rfl))) <| lg rfl rfl rfl rfl (cb b29_) (qz Tryz.isAgg4 (Blk.ext k6 (((e8.t e11).t e17).t e26)) rfl rfl) <| lg rfl rfl rfl rfl (cb b29_) (xm (.bool a0.opq) rfl) <| jI 3 [(48, 51)] 50 (.bool (a0.opq && (!(decide (a0.kind = 3))))) ?_ ?_
      ·rcases ql a0.opq with b30_ | b30_
       ·exact lg rfl rfl rfl rfl (cb b30_) (xm (.bool (decide (a0.kind = 3))) ((K24 3 rfl).trans (K15 3 rfl))) <| lg rfl rfl rfl rfl (cb b30_) (yM rfl) <| lg rfl rfl rfl rfl (cb b29_) (qu (b := true) (v := (.bool (!(decide (a0.kind = 3))))) (cb b30_) rfl) <| nx ⟨(ku3 kz rfl), (VP b30_), er⟩
       ·exact ls rfl rfl rfl (cb b30_) rfl <| ls rfl rfl rfl (cb b30_) rfl <| lg rfl rfl rfl rfl (cb b29_) (qu (b := false) (v := (.bool false)) (cb b30_) rfl) <| nx ⟨(ku3 kz rfl), (VS b30_), er⟩
      intro s36 w32 K33 h34 e35
      exact lp rfl (qu (b := false) (v := (.bool (a0.opq && (!(decide (a0.kind = 3)))))) ((K33 44 rfl).trans (cb b29_)) h34) <| nx ⟨(ku1 (Kp.cut (ku3 kz rfl) K33 rfl) rfl), (Jn b29_), e35⟩
    intro s37 w31 K32 h33 e34
    refine lp rfl (qA h33) <| nx ?_
    rcases qd H with ⟨q38, H⟩ | ⟨q38, H⟩
    ·refine qk (cb q38) <| wr <| lp rfl (xa (.int .i64 3) rfl) <| nx <| qn <| vv <| qw <| qt ?_
     obtain rfl := si H
     exact vh rfl (((((e5.t e8).t e11).t e17).t e26).t e34)
    ·refine qi (cb q38) <| wr <| lp rfl (qb Tryz.underlying58 rfl Tryz.sizeOf3 rfl ((K32 1 rfl).trans ((K24 1 rfl).trans (K15 1 rfl)))) <| lp rfl (qz Tryz.isAgg3 (Blk.ext k6 ((((e8.t e11).t e17).t e26).t e34)) rfl rfl) <| lc rfl rfl Tryz.call108 (QY.calls (w := w31) (a0 := a0.mode) (a1 := 0) (a2 := 511)) rfl <| fun w39 e40 => lp rfl (yM rfl) <| lp rfl (xm (.bool (!(within a0.mode 0 511))) rfl) <| jI 14 [(58, 72)] 71 (.bool ((!(within a0.mode 0 511)) || ((!decide (a0.mode = 0)) && ((decide (a0.kind = 4)) || (decide (a0.kind = 2)))))) ?_ ?_
     ·rcases ql (!(within a0.mode 0 511)) with b40_ | b40_
      ·exact ls rfl rfl rfl (cb b40_) rfl <| ls rfl rfl rfl (cb b40_) rfl <| ls rfl rfl rfl (cb b40_) rfl <| ls rfl rfl rfl (cb b40_) rfl <| lu rfl rfl rfl rfl rfl <| lu rfl rfl rfl rfl rfl <| lu rfl rfl rfl rfl rfl <| lu rfl rfl rfl rfl rfl <| lu rfl rfl rfl rfl rfl <| lu rfl rfl rfl rfl rfl <| lu rfl rfl rfl rfl rfl <| lu rfl rfl rfl rfl rfl <| ls rfl rfl rfl (cb b40_) rfl <| lp rfl (qu (b := true) (v := (.bool true)) (cb b40_) rfl) <| nx ⟨(ku2 (ku4 (ku8 kz rfl) rfl) rfl), (Jo b40_), er⟩
      ·refine lg rfl rfl rfl rfl (cb b40_) (qb Tryz.underlying58 rfl Tryz.sizeOf3 rfl ((K32 1 rfl).trans ((K24 1 rfl).trans (K15 1 rfl)))) <| lg rfl rfl rfl rfl (cb b40_) (qz Tryz.isAgg3 (Blk.ext k6 (((((e8.t e11).t e17).t e26).t e34).t e40)) rfl rfl) <| lg rfl rfl rfl rfl (cb b40_) (j6 rfl rfl) <| lg rfl rfl rfl rfl (cb b40_) (xm (.bool (!decide (a0.mode = 0))) rfl) <| jI 9 [(62, 71)] 70 (.bool ((!decide (a0.mode = 0)) && ((decide (a0.kind = 4)) || (decide (a0.kind = 2))))) ?_ ?_
       ·rcases ql (!decide (a0.mode = 0)) with b41_ | b41_
        ·refine lg rfl rfl rfl rfl (cb b41_) (qb Tryz.underlying58 rfl Tryz.sizeOf3 rfl ((K32 1 rfl).trans ((K24 1 rfl).trans (K15 1 rfl)))) <| lg rfl rfl rfl rfl (cb b41_) (qz Tryz.isAgg3 (Blk.ext k6 (((((e8.t e11).t e17).t e26).t e34).t e40)) rfl rfl) <| lg rfl rfl rfl rfl (cb b41_) (yn rfl rfl) <| lg rfl rfl rfl rfl (cb b41_) (xm (.bool (decide (a0.kind = 4))) rfl) <| jI 4 [(66, 70)] 69 (.bool ((decide (a0.kind = 4)) || (decide (a0.kind = 2)))) ?_ ?_
         ·rcases ql (decide (a0.kind = 4)) with b42_ | b42_
          ·exact ls rfl rfl rfl (cb b42_) rfl <| ls rfl rfl rfl (cb b42_) rfl <| ls rfl rfl rfl (cb b42_) rfl <| lg rfl rfl rfl rfl (cb b41_) (qu (b := true) (v := (.bool true)) (cb b42_) rfl) <| nx ⟨(ku4 kz rfl), (Jo b42_), er⟩
          ·exact lg rfl rfl rfl rfl (cb b42_) (qb Tryz.underlying58 rfl Tryz.sizeOf3 rfl ((K32 1 rfl).trans ((K24 1 rfl).trans (K15 1 rfl)))) <| lg rfl rfl rfl rfl (cb b42_) (qz Tryz.isAgg3 (Blk.ext k6 (((((e8.t e11).t e17).t e26).t e34).t e40)) rfl rfl) <| lg rfl rfl rfl rfl (cb b42_) (yn rfl rfl) <| lg rfl rfl rfl rfl (cb b41_) (qu (b := false) (v := (.bool (decide (a0.kind = 2)))) (cb b42_) rfl) <| nx ⟨(ku4 kz rfl), (Jn b42_), er⟩
         intro s48 w44 K45 h46 e47
         exact lg rfl rfl rfl rfl ((K45 57 rfl).trans (cb b40_)) (qu (b := true) (v := (.bool ((decide (a0.kind = 4)) || (decide (a0.kind = 2))))) ((K45 61 rfl).trans (cb b41_)) h46) <| nx ⟨(ku1 (Kp.cut (ku4 kz rfl) K45 rfl) rfl), (VP b41_), e47⟩
        ·exact ls rfl rfl rfl (cb b41_) rfl <| ls rfl rfl rfl (cb b41_) rfl <| ls rfl rfl rfl (cb b41_) rfl <| ls rfl rfl rfl (cb b41_) rfl <| lu rfl rfl rfl rfl rfl <| lu rfl rfl rfl rfl rfl <| lu rfl rfl rfl rfl rfl <| ls rfl rfl rfl (cb b41_) rfl <| lg rfl rfl rfl rfl (cb b40_) (qu (b := false) (v := (.bool false)) (cb b41_) rfl) <| nx ⟨(ku1 (ku8 kz rfl) rfl), (VS b41_), er⟩
       intro s49 w43 K44 h45 e46
       exact lp rfl (qu (b := false) (v := (.bool ((!decide (a0.mode = 0)) && ((decide (a0.kind = 4)) || (decide (a0.kind = 2)))))) ((K44 57 rfl).trans (cb b40_)) h45) <| nx ⟨(ku1 (Kp.cut (ku4 kz rfl) K44 rfl) rfl), (Jn b40_), e46⟩
     intro s50 w42 K43 h44 e45
     refine lp rfl (qA h44) <| nx ?_
     rcases qd H with ⟨q51, H⟩ | ⟨q51, H⟩
     ·refine qk (cb q51) <| wr <| lp rfl (xa (.int .i64 4) rfl) <| nx <| qn <| vv <| qw <| qt ?_
      obtain rfl := si H
      exact vh rfl (((((((e5.t e8).t e11).t e17).t e26).t e34).t e40).t e45)
     ·refine qi (cb q51) <| qo <| vk <| qe <| wr <| lp rfl (xa (.int .i64 0) rfl) <| nx <| qn <| qt ?_
      obtain rfl := si H
      exact vh rfl (((((((e5.t e8).t e11).t e17).t e26).t e34).t e40).t e45)
/-! spec.l02OK -/
theorem V2.calls {w : World} {a0 : Rec} :
  Calls Tryz.prog 158 #[.agg (qg a0).toArray] w (Rt (RP w (.bool (decide (qx a0 = 0))))) := by
 have H := V2.eq a0
 generalize (decide (qx a0 = 0)) = r at H ⊢
 unfold V2.sh at H
 refine qh Tryz.func158 rfl (Nat.le_of_ble_eq_true rfl) Tryz.ntmps158 rfl ?_
 refine wr <| j0 (.plain rfl) rfl (ltb rfl) rfl rfl <| fun b1 w2 z3 z4 e5 k6 => lp rfl (xa (.bool false) rfl) <| nx <| wr <| lp rfl (qW Tryz.isAgg58 Tryz.sizeOf58 rfl rfl (Blk.at0 k6)) <| lc rfl rfl Tryz.call237 (j9.calls (w := w2) (a0 := a0)) rfl <| fun w7 e8 => lp rfl (yn rfl rfl) <| lp rfl (xa (.bool (decide ((qx a0) = 0))) rfl) <| nx <| qn <| qt ?_
 obtain rfl := si H
 exact vh rfl (e5.t e8)
/-! impl.RecordFault -/
abbrev qq.e1 (a0 : Rec) := ([.inl (!(within a0.kind 1 4)), .inr 9, .inl (!(qH a0.path)), .inr 10, .inl ((decide (20 < (a0.body.length : Int))) || ((decide (a0.kind = 2)) && (decide (a0.body = ([] : List UInt8))))), .inr 8, .inl ((((decide (a0.kind = 3)) || (decide (a0.kind = 4))) && (!decide (a0.body = ([] : List UInt8)))) || ((!decide (a0.kind = 3)) && a0.opq)), .inr 3, .inl ((!(within a0.mode 0 511)) || (((decide (a0.kind = 2)) || (decide (a0.kind = 4))) && (!decide (a0.mode = 0)))), .inr 4] : List (Bool ⊕ Int))
abbrev qq.e2 (a0 : Rec) := (((decide (a0.kind = 3)) || (decide (a0.kind = 4))) && (!decide (a0.body = ([] : List UInt8))))
abbrev qq.e3 (a0 : Rec) := ((decide (a0.kind = 2)) || (decide (a0.kind = 4)))
abbrev qq.e4 (a0 : Rec) := ((decide (20 < (a0.body.length : Int))) || ((decide (a0.kind = 2)) && (decide (a0.body = ([] : List UInt8)))))
theorem qq.walk {w : World} {a0 : Rec} (gv : GV 0 w) {r : Int} (H : qq.sh a0 = some r) :
  Calls Tryz.prog 269 #[.agg (qg a0).toArray] w (Rt (RP w (.int .i64 r))) := by
 unfold qq.sh at H
 refine qh Tryz.func269 rfl (Nat.le_of_ble_eq_true rfl) Tryz.ntmps269 rfl ?_
 refine wr <| j0 (.plain rfl) rfl (ltb rfl) rfl rfl <| fun b1 w2 z3 z4 e5 k6 => lp rfl (xa (.int .i64 0) rfl) <| nx <| wr <| lp rfl (qb Tryz.underlying58 rfl Tryz.sizeOf3 rfl rfl) <| lp rfl (qz Tryz.isAgg3 k6 rfl rfl) <| lp rfl (yn rfl rfl) <| lp rfl (xm (.bool (decide (a0.kind = 3))) rfl) <| jI 4 [(8, 12)] 11 (.bool ((decide (a0.kind = 3)) || (decide (a0.kind = 4)))) ?_ ?_
 ·rcases ql (decide (a0.kind = 3)) with b6_ | b6_
  ·exact ls rfl rfl rfl (cb b6_) rfl <| ls rfl rfl rfl (cb b6_) rfl <| ls rfl rfl rfl (cb b6_) rfl <| lp rfl (qu (b := true) (v := (.bool true)) (cb b6_) rfl) <| nx ⟨(ku4 kz rfl), (Jo b6_), er⟩
  ·exact lg rfl rfl rfl rfl (cb b6_) (qb Tryz.underlying58 rfl Tryz.sizeOf3 rfl rfl) <| lg rfl rfl rfl rfl (cb b6_) (qz Tryz.isAgg3 k6 rfl rfl) <| lg rfl rfl rfl rfl (cb b6_) (yn rfl rfl) <| lp rfl (qu (b := false) (v := (.bool (decide (a0.kind = 4)))) (cb b6_) rfl) <| nx ⟨(ku4 kz rfl), (Jn b6_), er⟩
 intro s12 w8 K9 h10 e11
 refine lp rfl (qA h10) <| nx <| qj ?_
 obtain ⟨c25, H⟩ := qa H
 refine Yp [LEq (.pointer (some ⟨b1, 0, none⟩)), LEq (.int .i64 a0.kind), LEq (.bool (within a0.kind 1 4)), LEq (.bool (!(within a0.kind 1 4))), LEq (.iface 4 (.bool (!(within a0.kind 1 4)))), LEq (.iface 3 (.int .i64 9)), LEq (.pointer (some ⟨b1, 1, none⟩)), LEq (S a0.path), LEq (.bool (qH a0.path)), LEq (.bool (!(qH a0.path))), LEq (.iface 4 (.bool (!(qH a0.path)))), LEq (.iface 3 (.int .i64 10)), LEq (.pointer (some ⟨b1, 2, none⟩)), LEq (S a0.body), LEq (.int .i64 (a0.body.length : Int)), LEq (.bool (decide (20 < (a0.body.length : Int)))), LEq (.bool (decide (20 < (a0.body.length : Int)))), LIf (!(decide (20 < (a0.body.length : Int)))) (LEq (.pointer (some ⟨b1, 0, none⟩))), LIf (!(decide (20 < (a0.body.length : Int)))) (LEq (.int .i64 a0.kind)), LIf (!(decide (20 < (a0.body.length : Int)))) (LEq (.bool (decide (a0.kind = 2)))), LIf (!(decide (20 < (a0.body.length : Int)))) (LEq (.bool (decide (a0.kind = 2)))), LIf ((!(decide (20 < (a0.body.length : Int)))) && (decide (a0.kind = 2))) (LEq (.pointer (some ⟨b1, 2, none⟩))), LIf ((!(decide (20 < (a0.body.length : Int)))) && (decide (a0.kind = 2))) (LEq (S a0.body)), LIf ((!(decide (20 < (a0.body.length : Int)))) && (decide (a0.kind = 2))) (LEq (.bool (decide (a0.body = ([] : List UInt8))))), LIf (!(decide (20 < (a0.body.length : Int)))) (LEq (.bool ((decide (a0.kind = 2)) && (decide (a0.body = ([] : List UInt8)))))), LEq (.bool (qq.e4 a0)), LEq (.iface 4 (.bool (qq.e4 a0))), LEq (.iface 3 (.int .i64 8)), LEq (.bool ((decide (a0.kind = 3)) || (decide (a0.kind = 4)))), LEq (.bool ((decide (a0.kind = 3)) || (decide (a0.kind = 4)))), LIf ((decide (a0.kind = 3)) || (decide (a0.kind = 4))) (LEq (.pointer (some ⟨b1, 2, none⟩))), LIf ((decide (a0.kind = 3)) || (decide (a0.kind = 4))) (LEq (S a0.body)), LIf ((decide (a0.kind = 3)) || (decide (a0.kind = 4))) (LEq (.bool (!decide (a0.body = ([] : List UInt8))))), LEq (.bool (qq.e2 a0)), LEq (.bool (qq.e2 a0)), LIf (!(qq.e2 a0)) (LEq (.pointer (some ⟨b1, 0, none⟩))), LIf (!(qq.e2 a0)) (LEq (.int .i64 a0.kind)), LIf (!(qq.e2 a0)) (LEq (.bool (!decide (a0.kind = 3)))), LIf (!(qq.e2 a0)) (LEq (.bool (!decide (a0.kind = 3)))), LIf ((!(qq.e2 a0)) && (!decide (a0.kind = 3))) (LEq (.pointer (some ⟨b1, 4, none⟩))), LIf ((!(qq.e2 a0)) && (!decide (a0.kind = 3))) (LEq (.bool a0.opq)), LIf (!(qq.e2 a0)) (LEq (.bool ((!decide (a0.kind = 3)) && a0.opq))), LEq (.bool ((qq.e2 a0) || ((!decide (a0.kind = 3)) && a0.opq))), LEq (.iface 4 (.bool ((qq.e2 a0) || ((!decide (a0.kind = 3)) && a0.opq)))), LEq (.iface 3 (.int .i64 3)), LEq (.pointer (some ⟨b1, 3, none⟩)), LEq (.int .i64 a0.mode), LEq (.bool (within a0.mode 0 511)), LEq (.bool (!(within a0.mode 0 511))), LEq (.bool (!(within a0.mode 0 511))), LIf (!(!(within a0.mode 0 511))) (LEq (.pointer (some ⟨b1, 0, none⟩))), LIf (!(!(within a0.mode 0 511))) (LEq (.int .i64 a0.kind)), LIf (!(!(within a0.mode 0 511))) (LEq (.bool (decide (a0.kind = 2)))), LIf (!(!(within a0.mode 0 511))) (LEq (.bool (decide (a0.kind = 2)))), LIf ((!(!(within a0.mode 0 511))) && (!(decide (a0.kind = 2)))) (LEq (.pointer (some ⟨b1, 0, none⟩))), LIf ((!(!(within a0.mode 0 511))) && (!(decide (a0.kind = 2)))) (LEq (.int .i64 a0.kind)), LIf ((!(!(within a0.mode 0 511))) && (!(decide (a0.kind = 2)))) (LEq (.bool (decide (a0.kind = 4)))), LIf (!(!(within a0.mode 0 511))) (LEq (.bool (qq.e3 a0))), LIf (!(!(within a0.mode 0 511))) (LEq (.bool (qq.e3 a0))), LIf ((!(!(within a0.mode 0 511))) && (qq.e3 a0)) (LEq (.pointer (some ⟨b1, 3, none⟩))), LIf ((!(!(within a0.mode 0 511))) && (qq.e3 a0)) (LEq (.int .i64 a0.mode)), LIf ((!(!(within a0.mode 0 511))) && (qq.e3 a0)) (LEq (.bool (!decide (a0.mode = 0)))), LIf (!(!(within a0.mode 0 511))) (LEq (.bool ((qq.e3 a0) && (!decide (a0.mode = 0))))), LEq (.bool ((!(within a0.mode 0 511)) || ((qq.e3 a0) && (!decide (a0.mode = 0))))), LEq (.iface 4 (.bool ((!(within a0.mode 0 511)) || ((qq.e3 a0) && (!decide (a0.mode = 0)))))), LEq (.iface 3 (.int .i64 4)), LRd 1 (Vl 4 3) (qq.e1 a0), LEq (.int .i64 (vX (qq.e1 a0))), LEq (.int .i64 (vX (qq.e1 a0)))] (by kernel_rfl) (by kernel_rfl) ⟨qm, qm, qm, qm, qm, qm, qm, qm, qm, qm, qm, qm, qm, qm, qm, qm, qm, lm, lm, lm, lm, lm, lm, lm, lm, qm, qm, qm, qm, qm, lm, lm, lm, qm, qm, lm, lm, lm, lm, lm, lm, lm, qm, qm, qm, qm, qm, qm, qm, qm, lm, lm, lm, lm, lm, lm, lm, lm, lm, lm, lm, lm, lm, qm, qm, qm, LRd.mono, qm, qm, trivial⟩ ⟨?_, ?_, ?_, ?_, ?_, ?_, ?_, ?_, ?_, ?_, ?_, ?_, ?_, ?_, ?_, ?_, ?_, ?_, ?_, ?_, ?_, ?_, ?_, ?_, ?_, ?_, ?_, ?_, ?_, ?_, ?_, ?_, ?_, ?_, ?_, ?_, ?_, ?_, ?_, ?_, ?_, ?_, ?_, ?_, ?_, ?_, ?_, ?_, ?_, ?_, ?_, ?_, ?_, ?_, ?_, ?_, ?_, ?_, ?_, ?_, ?_, ?_, ?_, ?_, ?_, ?_, ?_, ?_, ?_, trivial⟩ ?_
 ·exact fun s x e f d u => lp rfl (qb Tryz.underlying58 rfl Tryz.sizeOf3 rfl ((f 1 rfl).trans (K9 1 rfl))) <| se rfl rfl
 ·exact fun s x e f d u => lp rfl (qz Tryz.isAgg3 (Blk.ext k6 (e11.t e)) (d 0 rfl) rfl) <| se rfl rfl
 ·exact fun s x e f d u => lc rfl rfl Tryz.call196 (Qm.calls (w := x) (a0 := a0.kind) (a1 := 1) (a2 := 4)) (vc (d 1 rfl) (vc rfl (vc rfl rfl))) <| fun w28 e29 => sx rfl e29 rfl
 ·exact fun s x e f d u => lp rfl (yM (d 2 rfl)) <| se rfl rfl
 ·exact fun s x e f d u => lp rfl (vl Tryz.underlying4 rfl (d 3 rfl)) <| se rfl rfl
 ·exact fun s x e f d u => lp rfl (vl Tryz.underlying3 rfl rfl) <| se rfl rfl
 ·exact fun s x e f d u => lp rfl (qb Tryz.underlying58 rfl Tryz.sizeOf9 rfl ((f 1 rfl).trans (K9 1 rfl))) <| se rfl rfl
 ·exact fun s x e f d u => lp rfl (qz Tryz.isAgg9 (Blk.ext k6 (e11.t e)) (d 6 rfl) rfl) <| se rfl rfl
 ·exact fun s x e f d u => lc rfl rfl Tryz.call150 (Ql.calls (w := x) (a0 := a0.path) (GV.ext gv ((e5.t e11).t e))) (vc (d 7 rfl) rfl) <| fun w30 e31 => sx rfl e31 rfl
 ·exact fun s x e f d u => lp rfl (yM (d 8 rfl)) <| se rfl rfl
 ·exact fun s x e f d u => lp rfl (vl Tryz.underlying4 rfl (d 9 rfl)) <| se rfl rfl
 ·exact fun s x e f d u => lp rfl (vl Tryz.underlying3 rfl rfl) <| se rfl rfl
 ·exact fun s x e f d u => lp rfl (qb Tryz.underlying58 rfl Tryz.sizeOf9 rfl ((f 1 rfl).trans (K9 1 rfl))) <| se rfl rfl
 ·exact fun s x e f d u => lp rfl (qz Tryz.isAgg9 (Blk.ext k6 (e11.t e)) (d 12 rfl) rfl) <| se rfl rfl
 ·exact fun s x e f d u => lp rfl (Vi Tryz.underlying9 (d 13 rfl)) <| se rfl rfl
 ·exact fun s x e f d u => lp rfl (jJ (d 14 rfl) rfl) <| se rfl rfl
 ·exact fun s x e f d u => lp rfl (qf (d 15 rfl)) <| se rfl rfl
 ·exact fun s x e f d u => gF rfl rfl rfl rfl (d 16 rfl) rfl fun b t => lt t rfl rfl (qb Tryz.underlying58 rfl Tryz.sizeOf3 rfl ((f 1 rfl).trans (K9 1 rfl))) <| sg rfl rfl b rfl
 ·exact fun s x e f d u => gF rfl rfl rfl rfl (d 16 rfl) rfl fun b t => lt t rfl rfl (qz Tryz.isAgg3 (Blk.ext k6 (e11.t e)) ((d 17 rfl).1 (qC (qX b))) rfl) <| sg rfl rfl b rfl
 ·exact fun s x e f d u => gF rfl rfl rfl rfl (d 16 rfl) rfl fun b t => lt t rfl rfl (yn ((d 18 rfl).1 (qC (qX b))) rfl) <| sg rfl rfl b rfl
 ·exact fun s x e f d u => gF rfl rfl rfl rfl (d 16 rfl) rfl fun b t => lt t rfl rfl (xm (.bool (decide (a0.kind = 2))) ((d 19 rfl).1 (qC (qX b)))) <| sg rfl rfl b rfl
 ·exact fun s x e f d u => hT rfl rfl rfl rfl (d 20 rfl) rfl fun b t => lt t rfl rfl (qb Tryz.underlying58 rfl Tryz.sizeOf9 rfl ((f 1 rfl).trans (K9 1 rfl))) <| sg rfl rfl b rfl
 ·exact fun s x e f d u => hT rfl rfl rfl rfl (d 20 rfl) rfl fun b t => lt t rfl rfl (qz Tryz.isAgg9 (Blk.ext k6 (e11.t e)) ((d 21 rfl).1 (qQ (qC (qX (y9 b))) (ja b))) rfl) <| sg rfl rfl b rfl
 ·exact fun s x e f d u => hT rfl rfl rfl rfl (d 20 rfl) rfl fun b t => lt t rfl rfl (VR ((d 22 rfl).1 (qQ (qC (qX (y9 b))) (ja b))) rfl) <| sg rfl rfl b rfl
 ·exact fun s x e f d u => gF rfl rfl rfl rfl (d 16 rfl) rfl fun b t => lt t rfl rfl (Qh ((d 20 rfl).1 (qC (qX b))) rfl fun h => ((d 23 rfl).1 (qQ (qC (qX b)) h))) <| sg rfl rfl b rfl
 ·exact fun s x e f d u => lp rfl (Vd (d 16 rfl) rfl fun h => ((d 24 rfl).1 (qC h))) <| se rfl rfl
 ·exact fun s x e f d u => lp rfl (vl Tryz.underlying4 rfl (d 25 rfl)) <| se rfl rfl
 ·exact fun s x e f d u => lp rfl (vl Tryz.underlying3 rfl rfl) <| se rfl rfl
 ·exact fun s x e f d u => lp rfl (xm (.bool ((decide (a0.kind = 3)) || (decide (a0.kind = 4)))) (f 3 rfl)) <| se rfl rfl
 ·exact fun s x e f d u => lp rfl (qf (d 28 rfl)) <| se rfl rfl
 ·exact fun s x e f d u => gT rfl rfl rfl rfl (d 29 rfl) rfl fun b t => lt t rfl rfl (qb Tryz.underlying58 rfl Tryz.sizeOf9 rfl ((f 1 rfl).trans (K9 1 rfl))) <| sg rfl rfl b rfl
 ·exact fun s x e f d u => gT rfl rfl rfl rfl (d 29 rfl) rfl fun b t => lt t rfl rfl (qz Tryz.isAgg9 (Blk.ext k6 (e11.t e)) ((d 30 rfl).1 b) rfl) <| sg rfl rfl b rfl
 ·exact fun s x e f d u => gT rfl rfl rfl rfl (d 29 rfl) rfl fun b t => lt t rfl rfl (VK ((d 31 rfl).1 b) rfl) <| sg rfl rfl b rfl
 ·exact fun s x e f d u => lp rfl (Qh (d 29 rfl) rfl fun h => ((d 32 rfl).1 h)) <| se rfl rfl
 ·exact fun s x e f d u => lp rfl (qf (d 33 rfl)) <| se rfl rfl
 ·exact fun s x e f d u => gF rfl rfl rfl rfl (d 34 rfl) rfl fun b t => lt t rfl rfl (qb Tryz.underlying58 rfl Tryz.sizeOf3 rfl ((f 1 rfl).trans (K9 1 rfl))) <| sg rfl rfl b rfl
 ·exact fun s x e f d u => gF rfl rfl rfl rfl (d 34 rfl) rfl fun b t => lt t rfl rfl (qz Tryz.isAgg3 (Blk.ext k6 (e11.t e)) ((d 35 rfl).1 (qC (qX b))) rfl) <| sg rfl rfl b rfl
 ·exact fun s x e f d u => gF rfl rfl rfl rfl (d 34 rfl) rfl fun b t => lt t rfl rfl (j6 ((d 36 rfl).1 (qC (qX b))) rfl) <| sg rfl rfl b rfl
 ·exact fun s x e f d u => gF rfl rfl rfl rfl (d 34 rfl) rfl fun b t => lt t rfl rfl (xm (.bool (!decide (a0.kind = 3))) ((d 37 rfl).1 (qC (qX b)))) <| sg rfl rfl b rfl
 ·exact fun s x e f d u => hT rfl rfl rfl rfl (d 38 rfl) rfl fun b t => lt t rfl rfl (qb Tryz.underlying58 rfl Tryz.sizeOf4 rfl ((f 1 rfl).trans (K9 1 rfl))) <| sg rfl rfl b rfl
 ·exact fun s x e f d u => hT rfl rfl rfl rfl (d 38 rfl) rfl fun b t => lt t rfl rfl (qz Tryz.isAgg4 (Blk.ext k6 (e11.t e)) ((d 39 rfl).1 (qQ (qC (qX (y9 b))) (ja b))) rfl) <| sg rfl rfl b rfl
 ·exact fun s x e f d u => gF rfl rfl rfl rfl (d 34 rfl) rfl fun b t => lt t rfl rfl (Qh ((d 38 rfl).1 (qC (qX b))) rfl fun h => ((d 40 rfl).1 (qQ (qC (qX b)) h))) <| sg rfl rfl b rfl
 ·exact fun s x e f d u => lp rfl (Vd (d 34 rfl) rfl fun h => ((d 41 rfl).1 (qC h))) <| se rfl rfl
 ·exact fun s x e f d u => lp rfl (vl Tryz.underlying4 rfl (d 42 rfl)) <| se rfl rfl
 ·exact fun s x e f d u => lp rfl (vl Tryz.underlying3 rfl rfl) <| se rfl rfl
 ·exact fun s x e f d u => lp rfl (qb Tryz.underlying58 rfl Tryz.sizeOf3 rfl ((f 1 rfl).trans (K9 1 rfl))) <| se rfl rfl
 ·exact fun s x e f d u => lp rfl (qz Tryz.isAgg3 (Blk.ext k6 (e11.t e)) (d 45 rfl) rfl) <| se rfl rfl
 ·exact fun s x e f d u => lc rfl rfl Tryz.call196 (Qm.calls (w := x) (a0 := a0.mode) (a1 := 0) (a2 := 511)) (vc (d 46 rfl) (vc rfl (vc rfl rfl))) <| fun w32 e33 => sx rfl e33 rfl
 ·exact fun s x e f d u => lp rfl (yM (d 47 rfl)) <| se rfl rfl
 ·exact fun s x e f d u => lp rfl (qf (d 48 rfl)) <| se rfl rfl
 ·exact fun s x e f d u => gF rfl rfl rfl rfl (d 49 rfl) rfl fun b t => lt t rfl rfl (qb Tryz.underlying58 rfl Tryz.sizeOf3 rfl ((f 1 rfl).trans (K9 1 rfl))) <| sg rfl rfl b rfl
 ·exact fun s x e f d u => gF rfl rfl rfl rfl (d 49 rfl) rfl fun b t => lt t rfl rfl (qz Tryz.isAgg3 (Blk.ext k6 (e11.t e)) ((d 50 rfl).1 (qC (qX b))) rfl) <| sg rfl rfl b rfl
 ·exact fun s x e f d u => gF rfl rfl rfl rfl (d 49 rfl) rfl fun b t => lt t rfl rfl (yn ((d 51 rfl).1 (qC (qX b))) rfl) <| sg rfl rfl b rfl
 ·exact fun s x e f d u => gF rfl rfl rfl rfl (d 49 rfl) rfl fun b t => lt t rfl rfl (xm (.bool (decide (a0.kind = 2))) ((d 52 rfl).1 (qC (qX b)))) <| sg rfl rfl b rfl
 ·exact fun s x e f d u => hF rfl rfl rfl rfl (d 53 rfl) rfl fun b t => lt t rfl rfl (qb Tryz.underlying58 rfl Tryz.sizeOf3 rfl ((f 1 rfl).trans (K9 1 rfl))) <| sg rfl rfl b rfl
 ·exact fun s x e f d u => hF rfl rfl rfl rfl (d 53 rfl) rfl fun b t => lt t rfl rfl (qz Tryz.isAgg3 (Blk.ext k6 (e11.t e)) ((d 54 rfl).1 (qQ (qC (qX (y9 b))) (qC (qX (ja b))))) rfl) <| sg rfl rfl b rfl
 ·exact fun s x e f d u => hF rfl rfl rfl rfl (d 53 rfl) rfl fun b t => lt t rfl rfl (yn ((d 55 rfl).1 (qQ (qC (qX (y9 b))) (qC (qX (ja b))))) rfl) <| sg rfl rfl b rfl
 ·exact fun s x e f d u => gF rfl rfl rfl rfl (d 49 rfl) rfl fun b t => lt t rfl rfl (Vd ((d 53 rfl).1 (qC (qX b))) rfl fun h => ((d 56 rfl).1 (qQ (qC (qX b)) (qC h)))) <| sg rfl rfl b rfl
 ·exact fun s x e f d u => gF rfl rfl rfl rfl (d 49 rfl) rfl fun b t => lt t rfl rfl (xm (.bool (qq.e3 a0)) ((d 57 rfl).1 (qC (qX b)))) <| sg rfl rfl b rfl
 ·exact fun s x e f d u => hT rfl rfl rfl rfl (d 58 rfl) rfl fun b t => lt t rfl rfl (qb Tryz.underlying58 rfl Tryz.sizeOf3 rfl ((f 1 rfl).trans (K9 1 rfl))) <| sg rfl rfl b rfl
 ·exact fun s x e f d u => hT rfl rfl rfl rfl (d 58 rfl) rfl fun b t => lt t rfl rfl (qz Tryz.isAgg3 (Blk.ext k6 (e11.t e)) ((d 59 rfl).1 (qQ (qC (qX (y9 b))) (ja b))) rfl) <| sg rfl rfl b rfl
 ·exact fun s x e f d u => hT rfl rfl rfl rfl (d 58 rfl) rfl fun b t => lt t rfl rfl (j6 ((d 60 rfl).1 (qQ (qC (qX (y9 b))) (ja b))) rfl) <| sg rfl rfl b rfl
 ·exact fun s x e f d u => gF rfl rfl rfl rfl (d 49 rfl) rfl fun b t => lt t rfl rfl (Qh ((d 58 rfl).1 (qC (qX b))) rfl fun h => ((d 61 rfl).1 (qQ (qC (qX b)) h))) <| sg rfl rfl b rfl
 ·exact fun s x e f d u => lp rfl (Vd (d 49 rfl) rfl fun h => ((d 62 rfl).1 (qC h))) <| se rfl rfl
 ·exact fun s x e f d u => lp rfl (vl Tryz.underlying4 rfl (d 63 rfl)) <| se rfl rfl
 ·exact fun s x e f d u => lp rfl (vl Tryz.underlying3 rfl rfl) <| se rfl rfl
 ·exact fun s x e f d u => vO (.plain rfl) rfl (ltb rfl) rfl Tryz.underlying171 Tryz.sizeOf20 Tryz.zeroValue20 rfl rfl rfl (vs := [(.iface 4 (.bool (!(within a0.kind 1 4)))), (.iface 3 (.int .i64 9)), (.iface 4 (.bool (!(qH a0.path)))), (.iface 3 (.int .i64 10)), (.iface 4 (.bool (qq.e4 a0))), (.iface 3 (.int .i64 8)), (.iface 4 (.bool ((qq.e2 a0) || ((!decide (a0.kind = 3)) && a0.opq)))), (.iface 3 (.int .i64 3)), (.iface 4 (.bool ((!(within a0.mode 0 511)) || ((qq.e3 a0) && (!decide (a0.mode = 0)))))), (.iface 3 (.int .i64 4))]) (vc (d 4 rfl) (vc (d 5 rfl) (vc (d 10 rfl) (vc (d 11 rfl) (vc (d 26 rfl) (vc (d 27 rfl) (vc (d 43 rfl) (vc (d 44 rfl) (vc (d 64 rfl) (vc (d 65 rfl) rfl)))))))))) (qR rfl) <| fun b34 w35 z36 z37 e38 k39 => sx rfl e38 (Ow.rd (Ow.new (xs := [.inl (!(within a0.kind 1 4)), .inr 9, .inl (!(qH a0.path)), .inr 10, .inl (qq.e4 a0), .inr 8, .inl ((qq.e2 a0) || ((!decide (a0.kind = 3)) && a0.opq)), .inr 3, .inl ((!(within a0.mode 0 511)) || ((qq.e3 a0) && (!decide (a0.mode = 0)))), .inr 4]) (sz := 1) (enc := (Vl 4 3)) (base := x.heap.size) k39 (Nat.le_of_eq z36) rfl (fun _ _ => by first | rfl | exact VY _ _ _) (Nat.le_of_ble_eq_true rfl)))
 ·intro s x e f d u
  have d40 : Rd 1 (Vl 4 3) x (s 78) (qq.e1 a0) := (d 66 rfl)
  exact lc rfl rfl Tryz.call125 (yS.calls (w := x) (a0 := (qq.e1 a0)) d40 (od c25)) rfl <| fun w42 e43 => sx rfl e43 rfl
 ·exact fun s x e f d u => lp rfl (qA (d 67 rfl)) <| se rfl rfl
 intro s44 w45 e46 hf47 ha48
 have K49 := Kp.ofD (kp := [(2, 3), (12, 80)]) rfl hf47
 have d50 : s44 2 = (.int .i64 (vX (qq.e1 a0))) := ha48 68 rfl
 clear ha48 hf47
 refine qe <| qn <| qt ?_
 obtain rfl := si H
 exact vh d50 ((e5.t e11).t e46)
theorem qq.calls {w : World} {a0 : Rec} (gv : GV 0 w) :
  Calls Tryz.prog 269 #[.agg (qg a0).toArray] w (Rt (RP w (.int .i64 (qx a0)))) := qq.walk gv (qq.eq a0)
/-! impl.RecordOK -/
theorem Qt.calls {w : World} {a0 : Rec} (gv : GV 0 w) :
  Calls Tryz.prog 224 #[.agg (qg a0).toArray] w (Rt (RP w (.bool (decide (qx a0 = 0))))) := by
 have H := Qt.eq a0
 generalize (decide (qx a0 = 0)) = r at H ⊢
 unfold Qt.sh at H
 refine qh Tryz.func224 rfl (Nat.le_of_ble_eq_true rfl) Tryz.ntmps224 rfl ?_
 refine wr <| j0 (.plain rfl) rfl (ltb rfl) rfl rfl <| fun b1 w2 z3 z4 e5 k6 => lp rfl (xa (.bool false) rfl) <| nx <| wr <| lp rfl (qW Tryz.isAgg58 Tryz.sizeOf58 rfl rfl (Blk.at0 k6)) <| lc rfl rfl Tryz.call269 (qq.calls (w := w2) (a0 := a0) (GV.ext gv e5)) rfl <| fun w7 e8 => lp rfl (yn rfl rfl) <| lp rfl (xa (.bool (decide ((qx a0) = 0))) rfl) <| nx <| qn <| qt ?_
 obtain rfl := si H
 exact vh rfl (e5.t e8)
/-! spec.l01Below -/
theorem j2.calls {w : World} {a0 : List UInt8} {a1 : List UInt8} :
  Calls Tryz.prog 171 #[S a0, S a1] w (Rt (RP w (.bool ((decide (a1 = []) && !decide (a0 = [])) || vu a0 a1)))) := by
 have H := j2.eq a0 a1
 generalize ((decide (a1 = []) && !decide (a0 = [])) || vu a0 a1) = r at H ⊢
 unfold j2.sh at H
 refine qh Tryz.func171 rfl (Nat.le_of_ble_eq_true rfl) Tryz.ntmps171 rfl ?_
 refine wr <| lp rfl (xa (.bool false) rfl) <| nx <| wr <| lp rfl (xm (S a1) rfl) <| lp rfl (Vi Tryz.underlying9 rfl) <| lp rfl (xa (.int .i64 (a1.length : Int)) rfl) <| nx <| wr <| lp rfl (xm (S a1) rfl) <| lp rfl (VR rfl rfl) <| lp rfl (xm (.bool (decide (a1 = ([] : List UInt8)))) rfl) <| jI 3 [(11, 14)] 13 (.bool ((decide (a1 = ([] : List UInt8))) && (!decide (a0 = ([] : List UInt8))))) ?_ ?_
 ·rcases ql (decide (a1 = ([] : List UInt8))) with b0_ | b0_
  ·exact lg rfl rfl rfl rfl (cb b0_) (xm (S a0) rfl) <| lg rfl rfl rfl rfl (cb b0_) (VK rfl rfl) <| lp rfl (qu (b := true) (v := (.bool (!decide (a0 = ([] : List UInt8))))) (cb b0_) rfl) <| nx ⟨(ku3 kz rfl), (VP b0_), er⟩
  ·exact ls rfl rfl rfl (cb b0_) rfl <| ls rfl rfl rfl (cb b0_) rfl <| lp rfl (qu (b := false) (v := (.bool false)) (cb b0_) rfl) <| nx ⟨(ku3 kz rfl), (VS b0_), er⟩
 intro s6 w2 K3 h4 e5
 refine lp rfl (qf h4) ?_
 obtain ⟨z8, x9, H⟩ := bind_some H
 refine yk 18 [(15, 33)] 32 (fun q => q = z8) ?_ ?_
 ·rcases qd x9 with ⟨b6_, H⟩ | ⟨b6_, H⟩
  ·refine ls rfl rfl rfl (cb b6_) rfl <| ls rfl rfl rfl (cb b6_) rfl <| ls rfl rfl rfl (cb b6_) rfl <| ls rfl rfl rfl (cb b6_) rfl <| ls rfl rfl rfl (cb b6_) rfl <| lu rfl rfl rfl rfl rfl <| lu rfl rfl rfl rfl rfl <| lu rfl rfl rfl rfl rfl <| lu rfl rfl rfl rfl rfl <| lu rfl rfl rfl rfl rfl <| ls rfl rfl rfl (cb b6_) rfl <| ls rfl rfl rfl (cb b6_) rfl <| lu rfl rfl rfl rfl rfl <| lu rfl rfl rfl rfl rfl <| lu rfl rfl rfl rfl rfl <| lu rfl rfl rfl rfl rfl <| ls rfl rfl rfl (cb b6_) rfl <| lp rfl (qu (b := true) (v := (.bool true)) (cb b6_) rfl) ?_
   obtain rfl := si H
   exact nx ⟨(ku2 (ku8 (ku8 kz rfl) rfl) rfl), ⟨_, rfl, rfl⟩, er⟩
  ·refine lg rfl rfl rfl rfl (cb b6_) (xm (S a0) (K3 0 rfl)) <| lg rfl rfl rfl rfl (cb b6_) (Vi Tryz.underlying9 rfl) <| lg rfl rfl rfl rfl (cb b6_) (xm (.int .i64 (a1.length : Int)) (K3 5 rfl)) <| lg rfl rfl rfl rfl (cb b6_) (jJ rfl rfl) <| lg rfl rfl rfl rfl (cb b6_) (xm (.bool (decide ((a1.length : Int) < (a0.length : Int)))) rfl) ?_
   obtain ⟨z9, x10, H⟩ := bind_some H
   refine yk 6 [(20, 26)] 25 (fun q => q = z9) ?_ ?_
   ·rcases qd x10 with ⟨b7_, H⟩ | ⟨b7_, H⟩
    ·refine lg rfl rfl rfl rfl (cb b7_) (xm (S a0) (K3 0 rfl)) <| lg rfl rfl rfl rfl (cb b7_) (xm (.int .i64 (a1.length : Int)) (K3 5 rfl)) ?_
     obtain ⟨c9, H⟩ := qa H
     refine lg rfl rfl rfl rfl (cb b7_) (YZ Tryz.underlying9 rfl (l := 0) (h := (a1.length : Int)) rfl ⟨_, rfl⟩ (GA c9) (Gz c9) (Gf c9)) <| lg rfl rfl rfl rfl (cb b7_) (xm (S a1) (K3 1 rfl)) <| lg rfl rfl rfl rfl (cb b7_) (VR rfl rfl) <| lg rfl rfl rfl rfl (cb b6_) (qu (b := true) (v := (.bool (decide ((sub a0 0 (a1.length : Int)) = a1)))) (cb b7_) rfl) ?_
     obtain rfl := si H
     exact nx ⟨(ku2 (ku4 kz rfl) rfl), ⟨_, rfl, rfl⟩, er⟩
    ·refine ls rfl rfl rfl (cb b7_) rfl <| ls rfl rfl rfl (cb b7_) rfl <| ls rfl rfl rfl (cb b7_) rfl <| ls rfl rfl rfl (cb b7_) rfl <| ls rfl rfl rfl (cb b7_) rfl <| lg rfl rfl rfl rfl (cb b6_) (qu (b := false) (v := (.bool false)) (cb b7_) rfl) ?_
     obtain rfl := si H
     exact nx ⟨(ku2 (ku4 kz rfl) rfl), ⟨_, rfl, rfl⟩, er⟩
   intro s15 w11 z16 K12 hq h13 e14
   rw [hq] at h13; clear hq
   refine lg rfl rfl rfl rfl ((K12 14 rfl).trans (cb b6_)) (qf h13) ?_
   obtain ⟨z18, x19, H⟩ := bind_some H
   refine yk 5 [(27, 32)] 31 (fun q => q = z18) ?_ ?_
   ·rcases qd x19 with ⟨b16_, H⟩ | ⟨b16_, H⟩
    ·refine lg rfl rfl rfl rfl (cb b16_) (xm (S a0) ((K12 0 rfl).trans (K3 0 rfl))) <| lg rfl rfl rfl rfl (cb b16_) (xm (.int .i64 (a1.length : Int)) ((K12 5 rfl).trans (K3 5 rfl))) ?_
     obtain ⟨c18, H⟩ := qa H
     refine lg rfl rfl rfl rfl (cb b16_) (Yh Tryz.underlying9 rfl rfl (QN c18) (Qs c18)) <| lg rfl rfl rfl rfl (cb b16_) (yn rfl rfl) <| lg rfl rfl rfl rfl ((K12 14 rfl).trans (cb b6_)) (qu (b := true) (v := (.bool (decide ((byt a0 (a1.length : Int)) = 47)))) (cb b16_) rfl) ?_
     obtain rfl := si H
     exact nx ⟨(ku1 (ku4 kz rfl) rfl), ⟨_, rfl, rfl⟩, er⟩
    ·refine ls rfl rfl rfl (cb b16_) rfl <| ls rfl rfl rfl (cb b16_) rfl <| ls rfl rfl rfl (cb b16_) rfl <| ls rfl rfl rfl (cb b16_) rfl <| lg rfl rfl rfl rfl ((K12 14 rfl).trans (cb b6_)) (qu (b := false) (v := (.bool false)) (cb b16_) rfl) ?_
     obtain rfl := si H
     exact nx ⟨(ku1 (ku4 kz rfl) rfl), ⟨_, rfl, rfl⟩, er⟩
   intro s24 w20 z25 K21 hq h22 e23
   rw [hq] at h22; clear hq
   refine lp rfl (qu (b := false) (v := (.bool z18)) (((K21 14 rfl).trans (K12 14 rfl)).trans (cb b6_)) h22) ?_
   obtain rfl := si H
   exact nx ⟨(ku1 (Kp.cut (ku1 (Kp.cut (ku1 (ku4 kz rfl) rfl) K12 rfl) rfl) K21 rfl) rfl), ⟨_, rfl, rfl⟩, (e14.t e23)⟩
 intro s26 w10 z27 K11 hq h12 e13
 rw [hq] at h12; clear hq
 refine lp rfl (qA h12) <| nx <| qn <| qt ?_
 obtain rfl := si H
 exact vh rfl (e5.t e13)
/-! internal/stringslite.HasPrefix -/
theorem jl.calls {w : World} {a0 : List UInt8} {a1 : List UInt8} :
  Calls Tryz.prog 297 #[S a0, S a1] w (Rt (RP w (.bool (List.isPrefixOf a1 a0)))) := by
 have H := jl.eq a0 a1
 generalize (List.isPrefixOf a1 a0) = r at H ⊢
 unfold jl.sh at H
 refine qh Tryz.func297 rfl (Nat.le_of_ble_eq_true rfl) Tryz.ntmps297 rfl ?_
 refine wr <| lp rfl (xa (.bool false) rfl) <| nx <| wr <| lp rfl (xm (S a0) rfl) <| lp rfl (Vi Tryz.underlying9 rfl) <| lp rfl (xm (S a1) rfl) <| lp rfl (Vi Tryz.underlying9 rfl) <| lp rfl (VQ rfl rfl) <| lp rfl (xm (.bool (decide ((a1.length : Int) ≤ (a0.length : Int)))) rfl) ?_
 obtain ⟨z2, x3, H⟩ := bind_some H
 refine yk 7 [(11, 18)] 17 (fun q => q = z2) ?_ ?_
 ·rcases qd x3 with ⟨b0_, H⟩ | ⟨b0_, H⟩
  ·refine lg rfl rfl rfl rfl (cb b0_) (xm (S a0) rfl) <| lg rfl rfl rfl rfl (cb b0_) (xm (S a1) rfl) <| lg rfl rfl rfl rfl (cb b0_) (Vi Tryz.underlying9 rfl) ?_
   obtain ⟨c2, H⟩ := qa H
   refine lg rfl rfl rfl rfl (cb b0_) (YZ Tryz.underlying9 rfl (l := 0) (h := (a1.length : Int)) rfl ⟨_, rfl⟩ (GA c2) (Gz c2) (Gf c2)) <| lg rfl rfl rfl rfl (cb b0_) (xm (S a1) rfl) <| lg rfl rfl rfl rfl (cb b0_) (VR rfl rfl) <| lp rfl (qu (b := true) (v := (.bool (decide ((sub a0 0 (a1.length : Int)) = a1)))) (cb b0_) rfl) ?_
   obtain rfl := si H
   exact nx ⟨(ku3 (ku4 kz rfl) rfl), ⟨_, rfl, rfl⟩, er⟩
  ·refine ls rfl rfl rfl (cb b0_) rfl <| ls rfl rfl rfl (cb b0_) rfl <| ls rfl rfl rfl (cb b0_) rfl <| ls rfl rfl rfl (cb b0_) rfl <| ls rfl rfl rfl (cb b0_) rfl <| ls rfl rfl rfl (cb b0_) rfl <| lp rfl (qu (b := false) (v := (.bool false)) (cb b0_) rfl) ?_
   obtain rfl := si H
   exact nx ⟨(ku3 (ku4 kz rfl) rfl), ⟨_, rfl, rfl⟩, er⟩
 intro s8 w4 z9 K5 hq h6 e7
 rw [hq] at h6; clear hq
 refine lp rfl (qA h6) <| nx <| qn <| qt ?_
 obtain rfl := si H
 exact vh rfl e7
/-! strings.HasPrefix -/
theorem jR.calls {w : World} {a0 : List UInt8} {a1 : List UInt8} :
  Calls Tryz.prog 275 #[S a0, S a1] w (Rt (RP w (.bool (List.isPrefixOf a1 a0)))) := by
 have H := jR.eq a0 a1
 generalize (List.isPrefixOf a1 a0) = r at H ⊢
 unfold jR.sh at H
 refine qh Tryz.func275 rfl (Nat.le_of_ble_eq_true rfl) Tryz.ntmps275 rfl ?_
 refine wr <| lp rfl (xa (.bool false) rfl) <| nx <| wr <| lp rfl (xm (S a0) rfl) <| lp rfl (xm (S a1) rfl) <| lc rfl rfl Tryz.call297 (jl.calls (w := w) (a0 := a0) (a1 := a1)) rfl <| fun w1 e2 => lp rfl (xa (.bool (List.isPrefixOf a1 a0)) rfl) <| nx <| qn <| qt ?_
 obtain rfl := si H
 exact vh rfl e2
/-! impl.below -/
theorem Vo.calls {w : World} {a0 : List UInt8} {a1 : List UInt8} (h0 : a1.length ≤ 1048576) :
  Calls Tryz.prog 244 #[S a0, S a1] w (Rt (RP w (.bool (decide (a1 = []) || vu a0 a1)))) := by
 have H := Vo.eq a0 a1 h0
 generalize (decide (a1 = []) || vu a0 a1) = r at H ⊢
 unfold Vo.sh at H
 refine qh Tryz.func244 rfl (Nat.le_of_ble_eq_true rfl) Tryz.ntmps244 rfl ?_
 refine wr <| lp rfl (xa (.bool false) rfl) <| nx <| wr <| lp rfl (xm (S a1) rfl) <| lp rfl (VR rfl rfl) <| lp rfl (xm (.bool (decide (a1 = ([] : List UInt8)))) rfl) ?_
 obtain ⟨z2, x3, H⟩ := bind_some H
 refine yk 5 [(8, 13)] 12 (fun q => q = z2) ?_ ?_
 ·rcases qd x3 with ⟨b0_, H⟩ | ⟨b0_, H⟩
  ·refine ls rfl rfl rfl (cb b0_) rfl <| ls rfl rfl rfl (cb b0_) rfl <| ls rfl rfl rfl (cb b0_) rfl <| ls rfl rfl rfl (cb b0_) rfl <| lp rfl (qu (b := true) (v := (.bool true)) (cb b0_) rfl) ?_
   obtain rfl := si H
   exact nx ⟨(ku1 (ku4 kz rfl) rfl), ⟨_, rfl, rfl⟩, er⟩
  ·refine lg rfl rfl rfl rfl (cb b0_) (xm (S a0) rfl) <| lg rfl rfl rfl rfl (cb b0_) (xm (S a1) rfl) ?_
   obtain ⟨c2, H⟩ := qa H
   refine lg rfl rfl rfl rfl (cb b0_) (X_cat rfl rfl (od c2)) <| vy (tg rfl rfl rfl (cb b0_)) rfl (ltb rfl) rfl Tryz.call275 (jR.calls (w := w) (a0 := a0) (a1 := a1 ++ ([47] : List UInt8))) rfl <| fun w3 e4 => lp rfl (qu (b := false) (v := (.bool (List.isPrefixOf (a1 ++ ([47] : List UInt8)) a0))) (cb b0_) rfl) ?_
   obtain rfl := si H
   exact nx ⟨(ku1 (ku4 kz rfl) rfl), ⟨_, rfl, rfl⟩, e4⟩
 intro s8 w4 z9 K5 hq h6 e7
 rw [hq] at h6; clear hq
 refine lp rfl (qA h6) <| nx <| qn <| qt ?_
 obtain rfl := si H
 exact vh rfl e7
/-! spec.l01Less -/
theorem vK.calls {w : World} {a0 : List UInt8} {a1 : List UInt8} (h0 : a0.length ≤ 1048576) (h1 : a1.length ≤ 1048576) :
  Calls Tryz.prog 205 #[S a0, S a1] w (Rt (RP w (.bool (vw (cut 47 a0) (cut 47 a1))))) := by
 obtain ⟨k, H⟩ := vK.eq a0 a1 h0 h1
 generalize (vw (cut 47 a0) (cut 47 a1)) = r at H ⊢
 unfold vK.sh at H
 refine qh Tryz.func205 rfl (Nat.le_of_ble_eq_true rfl) Tryz.ntmps205 rfl ?_
 refine wr <| lp rfl (xa (.bool false) rfl) <| nx <| wr <| lp rfl (xm (S a0) rfl) ?_
 obtain ⟨c1, H⟩ := qa H
 refine vp (.plain rfl) rfl (ltb rfl) rfl Tryz.call209 (yQ.calls (w := w) (a0 := a0) (a1 := 47) (od c1)) rfl <| fun v4 w2 e3 o5 => lp rfl (xa v4 rfl) <| nx <| wr <| lp rfl (xm (S a1) rfl) ?_
 obtain ⟨c6, H⟩ := qa H
 refine vp (.plain rfl) rfl (ltb rfl) rfl Tryz.call209 (yQ.calls (w := w2) (a0 := a1) (a1 := 47) (od c6)) rfl <| fun v9 w7 e8 o10 => lp rfl (xa v9 rfl) <| nx <| qj <| wr <| lp rfl (xa (.int .i64 0) rfl) <| nx ?_
 obtain ⟨z12, L13, C14⟩ := bind_some H
 clear H
 refine  vD (fun s0 sQ wQ => Kp [(4, 5), (7, 8), (12, 42)] s0 sQ ∧ Ext w7 wQ ∧ z12 = .inr ()) ?_ ?_
 ·refine qB <| vo (fun s0 kk sQ wQ => ∃ (x7_11 : Int), Kp [(4, 5), (7, 8), (12, 42)] s0 sQ ∧ sQ 7 = .int .i64 x7_11 ∧ Ext w7 wQ ∧ qp (vK.b1 a0 a1) kk x7_11 = some z12) k ⟨0, kz, rfl, er, L13⟩ ?_
  rintro k19 s20 w21 ⟨x7_11, K22, h25, e23, L24⟩
  cases k19 with
  | zero => exact absurd L24 (by simp [qp])
  | succ k19 =>
   obtain ⟨t26, H, S27⟩ := qK L24
   clear L24
   unfold vK.b1 at H
   refine qj <| wr <| lp rfl (qf h25) <| lp rfl (xm v4 (K22 5 rfl)) <| lp rfl (qO Tryz.underlying42 rfl (Ow.rd (Ow.ext o5 (e8.t e23)))) <| lp rfl (yl rfl rfl) <| lp rfl (xm (.bool (decide (x7_11 < ((cut 47 a0).length : Int)))) rfl) <| jI 5 [(17, 22)] 21 (.bool ((decide (x7_11 < ((cut 47 a0).length : Int))) && (decide (x7_11 < ((cut 47 a1).length : Int))))) ?_ ?_
   ·rcases ql (decide (x7_11 < ((cut 47 a0).length : Int))) with b27_ | b27_
    ·exact lg rfl rfl rfl rfl (cb b27_) (qf h25) <| lg rfl rfl rfl rfl (cb b27_) (xm v9 (K22 6 rfl)) <| lg rfl rfl rfl rfl (cb b27_) (qO Tryz.underlying42 rfl (Ow.rd (Ow.ext o10 e23))) <| lg rfl rfl rfl rfl (cb b27_) (yl rfl rfl) <| lp rfl (qu (b := true) (v := (.bool (decide (x7_11 < ((cut 47 a1).length : Int))))) (cb b27_) rfl) <| nx ⟨(ku1 (ku4 kz rfl) rfl), (VP b27_), er⟩
    ·exact ls rfl rfl rfl (cb b27_) rfl <| ls rfl rfl rfl (cb b27_) rfl <| ls rfl rfl rfl (cb b27_) rfl <| ls rfl rfl rfl (cb b27_) rfl <| lp rfl (qu (b := false) (v := (.bool false)) (cb b27_) rfl) <| nx ⟨(ku1 (ku4 kz rfl) rfl), (VS b27_), er⟩
   intro s33 w29 K30 h31 e32
   refine nx ?_
   rcases qd H with ⟨q34, H⟩ | ⟨q34, H⟩
   ·refine qk (h31.trans (cb q34)) <| qo <| qe <| qj <| qB <| qj ?_
    obtain ⟨c35, H⟩ := qa H
    obtain ⟨c38, H⟩ := qa H
    refine Yp [LEq v4, LEq (.int .i64 x7_11), yu (yK (gt (cut 47 a0) x7_11)), LEq (S (gt (cut 47 a0) x7_11)), LEq v9, LEq (.int .i64 x7_11), yu (yK (gt (cut 47 a1) x7_11)), LEq (S (gt (cut 47 a1) x7_11)), LEq (.bool (!decide ((gt (cut 47 a0) x7_11) = (gt (cut 47 a1) x7_11))))] (by kernel_rfl) (by kernel_rfl) ⟨qm, qm, yu.mono, qm, qm, qm, yu.mono, qm, qm, trivial⟩ ⟨?_, ?_, ?_, ?_, ?_, ?_, ?_, ?_, ?_, trivial⟩ ?_
    ·exact fun s x e f d u => lp rfl (xm v4 ((f 5 rfl).trans ((K30 5 rfl).trans (K22 5 rfl)))) <| se rfl rfl
    ·exact fun s x e f d u => lp rfl (xm (.int .i64 x7_11) ((f 7 rfl).trans ((K30 7 rfl).trans h25))) <| se rfl rfl
    ·exact fun s x e f d u => q4 (.plain rfl) rfl (ltb rfl) rfl Tryz.underlying42 Tryz.sizeOf9 (d 0 rfl) (Ow.rd (Ow.ext o5 (((e8.t e23).t e32).t e))) (d 1 rfl) c35 <| fun p42 h43 => se rfl ⟨_, rfl, h43⟩
    ·intro s x e f d u
     obtain ⟨p44, h45, h46⟩ := (d 2 rfl)
     exact lp rfl (yr Tryz.isAgg9 h45 h46 rfl) <| se rfl rfl
    ·exact fun s x e f d u => lp rfl (xm v9 ((f 6 rfl).trans ((K30 6 rfl).trans (K22 6 rfl)))) <| se rfl rfl
    ·exact fun s x e f d u => lp rfl (xm (.int .i64 x7_11) ((f 7 rfl).trans ((K30 7 rfl).trans h25))) <| se rfl rfl
    ·exact fun s x e f d u => q4 (.plain rfl) rfl (ltb rfl) rfl Tryz.underlying42 Tryz.sizeOf9 (d 4 rfl) (Ow.rd (Ow.ext o10 ((e23.t e32).t e))) (d 5 rfl) c38 <| fun p48 h49 => se rfl ⟨_, rfl, h49⟩
    ·intro s x e f d u
     obtain ⟨p50, h51, h52⟩ := (d 6 rfl)
     exact lp rfl (yr Tryz.isAgg9 h51 h52 rfl) <| se rfl rfl
    ·exact fun s x e f d u => lp rfl (VK (d 3 rfl) (d 7 rfl)) <| se rfl rfl
    intro s53 w54 e55 hf56 ha57
    have K58 := Kp.ofD (kp := [(24, 33)]) rfl hf56
    have d59 : s53 32 = (.bool (!decide ((gt (cut 47 a0) x7_11) = (gt (cut 47 a1) x7_11)))) := ha57 8 rfl
    clear ha57 hf56
    refine qe ?_
    rcases qd H with ⟨q60, H⟩ | ⟨q60, H⟩
    ·refine qk (d59.trans (cb q60)) <| qj ?_
     obtain ⟨c61, H⟩ := qa H
     obtain ⟨c64, H⟩ := qa H
     refine Yp [LEq v4, LEq (.int .i64 x7_11), yu (yK (gt (cut 47 a0) x7_11)), LEq (S (gt (cut 47 a0) x7_11)), LEq v9, LEq (.int .i64 x7_11), yu (yK (gt (cut 47 a1) x7_11)), LEq (S (gt (cut 47 a1) x7_11)), LEq (.bool (lt8 (gt (cut 47 a0) x7_11) (gt (cut 47 a1) x7_11))), LEq (.bool (lt8 (gt (cut 47 a0) x7_11) (gt (cut 47 a1) x7_11)))] (by kernel_rfl) (by kernel_rfl) ⟨qm, qm, yu.mono, qm, qm, qm, yu.mono, qm, qm, qm, trivial⟩ ⟨?_, ?_, ?_, ?_, ?_, ?_, ?_, ?_, ?_, ?_, trivial⟩ ?_
     ·exact fun s x e f d u => lp rfl (xm v4 ((f 5 rfl).trans ((K58 5 rfl).trans ((K30 5 rfl).trans (K22 5 rfl))))) <| se rfl rfl
     ·exact fun s x e f d u => lp rfl (xm (.int .i64 x7_11) ((f 7 rfl).trans ((K58 7 rfl).trans ((K30 7 rfl).trans h25)))) <| se rfl rfl
     ·exact fun s x e f d u => q4 (.plain rfl) rfl (ltb rfl) rfl Tryz.underlying42 Tryz.sizeOf9 (d 0 rfl) (Ow.rd (Ow.ext o5 ((((e8.t e23).t e32).t e55).t e))) (d 1 rfl) c61 <| fun p68 h69 => se rfl ⟨_, rfl, h69⟩
     ·intro s x e f d u
      obtain ⟨p70, h71, h72⟩ := (d 2 rfl)
      exact lp rfl (yr Tryz.isAgg9 h71 h72 rfl) <| se rfl rfl
     ·exact fun s x e f d u => lp rfl (xm v9 ((f 6 rfl).trans ((K58 6 rfl).trans ((K30 6 rfl).trans (K22 6 rfl))))) <| se rfl rfl
     ·exact fun s x e f d u => lp rfl (xm (.int .i64 x7_11) ((f 7 rfl).trans ((K58 7 rfl).trans ((K30 7 rfl).trans h25)))) <| se rfl rfl
     ·exact fun s x e f d u => q4 (.plain rfl) rfl (ltb rfl) rfl Tryz.underlying42 Tryz.sizeOf9 (d 4 rfl) (Ow.rd (Ow.ext o10 (((e23.t e32).t e55).t e))) (d 5 rfl) c64 <| fun p74 h75 => se rfl ⟨_, rfl, h75⟩
     ·intro s x e f d u
      obtain ⟨p76, h77, h78⟩ := (d 6 rfl)
      exact lp rfl (yr Tryz.isAgg9 h77 h78 rfl) <| se rfl rfl
     ·exact fun s x e f d u => lp rfl (X_slt (d 3 rfl) (d 7 rfl)) <| se rfl rfl
     ·exact fun s x e f d u => lp rfl (qA (d 8 rfl)) <| se rfl rfl
     intro s79 w80 e81 hf82 ha83
     have K84 := Kp.ofD (kp := [(4, 5), (33, 42)]) rfl hf82
     have d85 : s79 4 = (.bool (lt8 (gt (cut 47 a0) x7_11) (gt (cut 47 a1) x7_11))) := ha83 9 rfl
     clear ha83 hf82
     refine qe <| qn <| vv <| qw <| qw <| vv <| qw <| qw <| qt ?_
     obtain rfl := si H
     obtain rfl := si S27
     have H := C14
     obtain rfl := si H
     exact vh d85 (((((e3.t e8).t e23).t e32).t e55).t e81)
    ·refine qi (d59.trans (cb q60)) <| qo <| vk <| qe <| qG <| lp rfl (xm (.int .i64 x7_11) ((K58 7 rfl).trans ((K30 7 rfl).trans h25))) <| lp rfl (vi rfl rfl) <| lp rfl (xa (.int .i64 (IntKind.wrap .i64 (x7_11 + 1))) rfl) <| nx ?_
     obtain rfl := si H
     exact ⟨_, Nat.lt_succ_self _, IntKind.wrap .i64 (x7_11 + 1), (ku3 (Kp.cut (Kp.cut (ku1 (ku4 K22 rfl) rfl) K30 rfl) K58 rfl) rfl), rfl, ((e23.t e32).t e55), S27⟩
   ·refine qi (h31.trans (cb q34)) <| vH <| qY <| qY <| yF <| qe ?_
    obtain rfl := si H
    obtain rfl := si S27
    exact ⟨(Kp.cut (ku1 (ku4 K22 rfl) rfl) K30 rfl), (e23.t e32), rfl⟩
 ·rintro s16 w15 ⟨K17, e18, y86⟩
  rw [y86] at C14
  have H := C14
  replace H : _ = some _ := H
  refine qe <| wr <| lp rfl (xm v4 (K17 5 rfl)) <| lp rfl (qO Tryz.underlying42 rfl (Ow.rd (Ow.ext o5 (e8.t e18)))) <| lp rfl (xm v9 (K17 6 rfl)) <| lp rfl (qO Tryz.underlying42 rfl (Ow.rd (Ow.ext o10 e18))) <| lp rfl (yl rfl rfl) <| lp rfl (qA rfl) <| nx <| qn <| qt ?_
  obtain rfl := si H
  exact vh rfl ((e3.t e8).t e18)
/-! cmp.isNaN(string) -/
theorem ya.walk {w : World} {a0 : List UInt8} {r : Bool} (H : ya.sh a0 = some r) :
  Calls Tryz.prog 298 #[S a0] w (Rt (RP w (.bool r))) := by
 unfold ya.sh at H
 refine qh Tryz.func298 rfl (Nat.le_of_ble_eq_true rfl) Tryz.ntmps298 rfl ?_
 refine wr <| lp rfl (xa (.bool false) rfl) <| nx <| wr <| lp rfl (xm (S a0) rfl) <| lp rfl (xm (S a0) rfl) <| lp rfl (VK rfl rfl) <| lp rfl (xa (.bool (!decide (a0 = a0))) rfl) <| nx <| qn <| qt ?_
 obtain rfl := si H
 exact vh rfl er
theorem ya.calls {w : World} {a0 : List UInt8} :
  Calls Tryz.prog 298 #[S a0] w (Rt (RP w (.bool false))) := ya.walk (ya.eq a0)
/-! cmp.Compare(string) -/
theorem yf.calls {w : World} {a0 : List UInt8} {a1 : List UInt8} :
  Calls Tryz.prog 277 #[S a0, S a1] w (Rt (RP w (.int .i64 (cmpS a0 a1)))) := by
 have H := yf.eq a0 a1
 generalize (cmpS a0 a1) = r at H ⊢
 unfold yf.sh at H
 refine qh Tryz.func277 rfl (Nat.le_of_ble_eq_true rfl) Tryz.ntmps277 rfl ?_
 refine wr <| lp rfl (xa (.int .i64 0) rfl) <| nx <| wr <| lp rfl (xm (S a0) rfl) <| lc rfl rfl Tryz.call298 (ya.calls (w := w) (a0 := a0)) rfl <| fun w1 e2 => lp rfl (xa (.bool false) rfl) <| nx <| wr <| lp rfl (xm (S a1) rfl) <| lc rfl rfl Tryz.call298 (ya.calls (w := w1) (a0 := a1)) rfl <| fun w3 e4 => lp rfl (xa (.bool false) rfl) <| nx <| qj <| wr <| lp rfl (xm (.bool false) rfl) <| nx ?_
 rcases qd H with ⟨q5, H⟩ | ⟨q5, H⟩
 ·refine qk (cb q5) <| qj <| wr <| lp rfl (xm (.bool false) rfl) <| nx ?_
  rcases qd H with ⟨q6, H⟩ | ⟨q6, H⟩
  ·refine qk (cb q6) <| wr <| lp rfl (xa (.int .i64 0) rfl) <| nx <| qn <| qw <| qw <| qt ?_
   obtain rfl := si H
   exact vh rfl (e2.t e4)
  ·refine qi (cb q6) <| qo <| qe <| wr <| lp rfl (xa (.int .i64 (-1)) rfl) <| nx <| qn <| qw <| qt ?_
   obtain rfl := si H
   exact vh rfl (e2.t e4)
 ·refine qi (cb q5) <| qo <| qe <| qj <| wr <| lp rfl (xm (.bool false) rfl) <| nx ?_
  rcases qd H with ⟨q7, H⟩ | ⟨q7, H⟩
  ·refine qk (cb q7) <| wr <| lp rfl (xa (.int .i64 1) rfl) <| nx <| qn <| qw <| qt ?_
   obtain rfl := si H
   exact vh rfl (e2.t e4)
  ·refine qi (cb q7) <| qo <| qe <| qj <| wr <| lp rfl (xm (S a0) rfl) <| lp rfl (xm (S a1) rfl) <| lp rfl (X_slt rfl rfl) <| nx ?_
   rcases qd H with ⟨q8, H⟩ | ⟨q8, H⟩
   ·refine qk (cb q8) <| wr <| lp rfl (xa (.int .i64 (-1)) rfl) <| nx <| qn <| qw <| qt ?_
    obtain rfl := si H
    exact vh rfl (e2.t e4)
   ·refine qi (cb q8) <| qo <| qe <| qj <| wr <| lp rfl (xm (S a0) rfl) <| lp rfl (xm (S a1) rfl) <| lp rfl (X_sgt rfl rfl) <| nx ?_
    rcases qd H with ⟨q9, H⟩ | ⟨q9, H⟩
    ·refine qk (cb q9) <| wr <| lp rfl (xa (.int .i64 1) rfl) <| nx <| qn <| qw <| qt ?_
     obtain rfl := si H
     exact vh rfl (e2.t e4)
    ·refine qi (cb q9) <| qo <| qe <| wr <| lp rfl (xa (.int .i64 0) rfl) <| nx <| qn <| qt ?_
     obtain rfl := si H
     exact vh rfl (e2.t e4)
/-! slices.Compare(()string,string) -/
theorem qF.calls {w : World} {a0 : List (List UInt8)} {a1 : List (List UInt8)} {v_a0 : Value} (f_a0 : Rd 1 yK w v_a0 a0) {v_a1 : Value} (f_a1 : Rd 1 yK w v_a1 a1) (h0 : a0.length ≤ 4611686018427387904) (h1 : a1.length ≤ 4611686018427387904) :
  Calls Tryz.prog 246 #[v_a0, v_a1] w (Rt (RP w (.int .i64 (cmpL a0 a1)))) := by
 obtain ⟨k, H⟩ := qF.eq a0 a1 h0 h1
 generalize (cmpL a0 a1) = r at H ⊢
 unfold qF.sh at H
 refine qh Tryz.func246 rfl (Nat.le_of_ble_eq_true rfl) Tryz.ntmps246 rfl ?_
 refine wr <| lp rfl (xa (.int .i64 0) rfl) <| nx <| qj <| wr <| lp rfl (xm v_a0 rfl) <| lp rfl (qO Tryz.underlying42 rfl f_a0) <| lp rfl (xm (.int .i64 0) rfl) <| nx ?_
 obtain ⟨z2, L3, C4⟩ := bind_some H
 clear H
 refine  vD (fun s0 sQ wQ => Kp [(4, 9), (11, 31)] s0 sQ ∧ Ext w wQ ∧ z2 = .inr ()) ?_ ?_
 ·refine qB <| vo (fun s0 kk sQ wQ => ∃ (x11_1 : Int), Kp [(4, 9), (11, 31)] s0 sQ ∧ sQ 11 = .int .i64 x11_1 ∧ Ext w wQ ∧ qp (qF.b1 a0 a1) kk x11_1 = some z2) k ⟨0, kz, rfl, er, L3⟩ ?_
  rintro k9 s10 w11 ⟨x11_1, K12, h15, e13, L14⟩
  cases k9 with
  | zero => exact absurd L14 (by simp [qp])
  | succ k9 =>
   obtain ⟨t16, H, S17⟩ := qK L14
   clear L14
   unfold qF.b1 at H
   refine wr <| lp rfl (yl h15 (K12 10 rfl)) <| nx <| qj ?_
   rcases qd H with ⟨q18, H⟩ | ⟨q18, H⟩
   ·refine qk (cb q18) <| qo <| qe <| qj <| qB <| wr <| lp rfl (qf h15) ?_
    obtain ⟨c19, H⟩ := qa H
    refine q4 (.plain rfl) rfl (ltb rfl) rfl Tryz.underlying42 Tryz.sizeOf9 (K12 9 rfl) (Rd.ext f_a0 e13) h15 c19 <| fun p20 h21 => lp rfl (yr Tryz.isAgg9 rfl h21 rfl) <| lp rfl (xa (.int .i64 x11_1) rfl) <| lp rfl (xa (S (gt a0 x11_1)) rfl) <| nx <| qj <| wr <| lp rfl (xm (.int .i64 x11_1) rfl) <| lp rfl (xm v_a1 (K12 1 rfl)) <| lp rfl (qO Tryz.underlying42 rfl (Rd.ext f_a1 e13)) <| lp rfl (VQ rfl rfl) <| nx ?_
    rcases qd H with ⟨q22, H⟩ | ⟨q22, H⟩
    ·refine qk (cb q22) <| wr <| lp rfl (xa (.int .i64 1) rfl) <| nx <| qn <| qw <| vv <| qw <| qw <| vv <| qw <| qw <| qt ?_
     obtain rfl := si H
     obtain rfl := si S17
     have H := C4
     obtain rfl := si H
     exact vh rfl e13
    ·refine qi (cb q22) <| qo <| qe <| wr <| lp rfl (xm v_a1 (K12 1 rfl)) <| lp rfl (xm (.int .i64 x11_1) rfl) ?_
     obtain ⟨c23, H⟩ := qa H
     refine q4 (.plain rfl) rfl (ltb rfl) rfl Tryz.underlying42 Tryz.sizeOf9 rfl (Rd.ext f_a1 e13) rfl c23 <| fun p24 h25 => lp rfl (yr Tryz.isAgg9 rfl h25 rfl) <| lp rfl (xa (S (gt a1 x11_1)) rfl) <| nx <| wr <| lp rfl (xm (S (gt a0 x11_1)) rfl) <| lp rfl (xm (S (gt a1 x11_1)) rfl) <| lc rfl rfl Tryz.call277 (yf.calls (w := w11) (a0 := gt a0 x11_1) (a1 := gt a1 x11_1)) rfl <| fun w26 e27 => lp rfl (xa (.int .i64 (cmpS (gt a0 x11_1) (gt a1 x11_1))) rfl) <| nx <| wr <| lp rfl (xm (.int .i64 (cmpS (gt a0 x11_1) (gt a1 x11_1))) rfl) <| lp rfl (j6 rfl rfl) <| nx ?_
     rcases qd H with ⟨q28, H⟩ | ⟨q28, H⟩
     ·refine qk (cb q28) <| wr <| lp rfl (xm (.int .i64 (cmpS (gt a0 x11_1) (gt a1 x11_1))) rfl) <| lp rfl (xa (.int .i64 (cmpS (gt a0 x11_1) (gt a1 x11_1))) rfl) <| nx <| qn <| vv <| qw <| qw <| vv <| qw <| qw <| qt ?_
      obtain rfl := si H
      obtain rfl := si S17
      have H := C4
      obtain rfl := si H
      exact vh rfl (e13.t e27)
     ·refine qi (cb q28) <| qo <| vk <| qe <| qG <| lp rfl (vi h15 rfl) <| lp rfl (xm (.int .i64 (IntKind.wrap .i64 (x11_1 + 1))) rfl) <| nx ?_
      obtain rfl := si H
      exact ⟨_, Nat.lt_succ_self _, IntKind.wrap .i64 (x11_1 + 1), (ku3 (ku4 (ku8 (ku8 K12 rfl) rfl) rfl) rfl), rfl, (e13.t e27), S17⟩
   ·refine qi (cb q18) <| vH <| qY <| qY <| yF <| qe ?_
    obtain rfl := si H
    obtain rfl := si S17
    exact ⟨(ku1 K12 rfl), e13, rfl⟩
 ·rintro s6 w5 ⟨K7, e8, y29⟩
  rw [y29] at C4
  have H := C4
  replace H : _ = some _ := H
  refine qe <| qj <| wr <| lp rfl (xm v_a0 (K7 0 rfl)) <| lp rfl (qO Tryz.underlying42 rfl (Rd.ext f_a0 e8)) <| lp rfl (xm v_a1 (K7 1 rfl)) <| lp rfl (qO Tryz.underlying42 rfl (Rd.ext f_a1 e8)) <| lp rfl (yl rfl rfl) <| nx ?_
  rcases qd H with ⟨q30, H⟩ | ⟨q30, H⟩
  ·refine qk (cb q30) <| wr <| lp rfl (xa (.int .i64 (-1)) rfl) <| nx <| qn <| qw <| qt ?_
   obtain rfl := si H
   exact vh rfl e8
  ·refine qi (cb q30) <| qo <| qe <| wr <| lp rfl (xa (.int .i64 0) rfl) <| nx <| qn <| qt ?_
   obtain rfl := si H
   exact vh rfl e8
/-! impl.compare -/
theorem impl_compare.calls {w : World} {a0 : List UInt8} {a1 : List UInt8} (gv : GV 0 w) (h0 : a0.length ≤ 1048576) (h1 : a1.length ≤ 1048576) :
  Calls Tryz.prog 181 #[S a0, S a1] w (Rt (RP w (.int .i64 (cmpL (cut 47 a0) (cut 47 a1))))) := by
 have H := impl_compare.eq a0 a1 h0 h1
 generalize (cmpL (cut 47 a0) (cut 47 a1)) = r at H ⊢
 unfold impl_compare.sh at H
 refine qh Tryz.func181 rfl (Nat.le_of_ble_eq_true rfl) Tryz.ntmps181 rfl ?_
 refine wr <| lp rfl (xa (.int .i64 0) rfl) <| nx <| wr <| lp rfl (xm (S a0) rfl) ?_
 obtain ⟨c1, H⟩ := qa H
 refine vp (.plain rfl) rfl (ltb rfl) rfl Tryz.call212 (yd.calls (w := w) (a0 := a0) gv (od c1)) rfl <| fun v4 w2 e3 o5 => lp rfl (xm (S a1) rfl) ?_
 obtain ⟨c6, H⟩ := qa H
 refine vp (.plain rfl) rfl (ltb rfl) rfl Tryz.call212 (yd.calls (w := w2) (a0 := a1) (GV.ext gv e3) (od c6)) rfl <| fun v9 w7 e8 o10 => ?_
 obtain ⟨c11, H⟩ := qa H
 obtain ⟨c12, H⟩ := qa H
 refine lc rfl rfl Tryz.call246 (qF.calls (w := w7) (a0 := (cut 47 a0)) (a1 := (cut 47 a1)) (Ow.rd (Ow.ext o5 e8)) (Ow.rd o10) (od c11) (od c12)) rfl <| fun w13 e14 => lp rfl (xa (.int .i64 (cmpL (cut 47 a0) (cut 47 a1))) rfl) <| nx <| qn <| qt ?_
 obtain rfl := si H
 exact vh rfl ((e3.t e8).t e14)
/-! impl.PathLess -/
theorem j4.calls {w : World} {a0 : List UInt8} {a1 : List UInt8} (gv : GV 0 w) :
  Calls Tryz.prog 81 #[S a0, S a1] w (Rt (RP w (.bool (vM a0 a1)))) := by
 have H := j4.eq a0 a1
 generalize (vM a0 a1) = r at H ⊢
 unfold j4.sh at H
 refine qh Tryz.func81 rfl (Nat.le_of_ble_eq_true rfl) Tryz.ntmps81 rfl ?_
 refine wr <| lp rfl (xa (.bool false) rfl) <| nx <| wr <| lp rfl (xm (S a0) rfl) <| lc rfl rfl Tryz.call150 (Ql.calls (w := w) (a0 := a0) gv) rfl <| fun w1 e2 => lp rfl (xm (.bool (qH a0)) rfl) <| jI 3 [(8, 11)] 10 (.bool ((qH a0) && (qH a1))) ?_ ?_
 ·rcases ql (qH a0) with b2_ | b2_
  ·exact lg rfl rfl rfl rfl (cb b2_) (xm (S a1) rfl) <| vy (tg rfl rfl rfl (cb b2_)) rfl (ltb rfl) rfl Tryz.call150 (Ql.calls (w := w1) (a0 := a1) (GV.ext gv e2)) rfl <| fun w4 e5 => lp rfl (qu (b := true) (v := (.bool (qH a1))) (cb b2_) rfl) <| nx ⟨(ku3 kz rfl), (VP b2_), e5⟩
  ·exact ls rfl rfl rfl (cb b2_) rfl <| ls rfl rfl rfl (cb b2_) rfl <| lp rfl (qu (b := false) (v := (.bool false)) (cb b2_) rfl) <| nx ⟨(ku3 kz rfl), (VS b2_), er⟩
 intro s8 w4 K5 h6 e7
 refine lp rfl (qf h6) ?_
 obtain ⟨z10, x11, H⟩ := bind_some H
 refine yk 5 [(12, 17)] 16 (fun q => q = z10) ?_ ?_
 ·rcases qd x11 with ⟨b8_, H⟩ | ⟨b8_, H⟩
  ·refine lg rfl rfl rfl rfl (cb b8_) (xm (S a0) (K5 0 rfl)) <| lg rfl rfl rfl rfl (cb b8_) (xm (S a1) (K5 1 rfl)) ?_
   obtain ⟨c10, H⟩ := qa H
   obtain ⟨c11, H⟩ := qa H
   refine vy (tg rfl rfl rfl (cb b8_)) rfl (ltb rfl) rfl Tryz.call181 (impl_compare.calls (w := w4) (a0 := a0) (a1 := a1) (GV.ext gv (e2.t e7)) (od c10) (od c11)) rfl <| fun w12 e13 => lg rfl rfl rfl rfl (cb b8_) (yl rfl rfl) <| lp rfl (qu (b := true) (v := (.bool (decide ((cmpL (cut 47 a0) (cut 47 a1)) < 0)))) (cb b8_) rfl) ?_
   obtain rfl := si H
   exact nx ⟨(ku1 (ku4 kz rfl) rfl), ⟨_, rfl, rfl⟩, e13⟩
  ·refine ls rfl rfl rfl (cb b8_) rfl <| ls rfl rfl rfl (cb b8_) rfl <| ls rfl rfl rfl (cb b8_) rfl <| ls rfl rfl rfl (cb b8_) rfl <| lp rfl (qu (b := false) (v := (.bool false)) (cb b8_) rfl) ?_
   obtain rfl := si H
   exact nx ⟨(ku1 (ku4 kz rfl) rfl), ⟨_, rfl, rfl⟩, er⟩
 intro s16 w12 z17 K13 hq h14 e15
 rw [hq] at h14; clear hq
 refine lp rfl (qA h14) <| nx <| qn <| qt ?_
 obtain rfl := si H
 exact vh rfl ((e2.t e7).t e15)
/-! spec.l01Parent -/
theorem vn.calls {w : World} {a0 : List UInt8} (h0 : a0.length ≤ 4611686018427387904) :
  Calls Tryz.prog 161 #[S a0] w (Rt (RP w (S (qc a0)))) := by
 obtain ⟨k, H⟩ := vn.eq a0 h0
 generalize (qc a0) = r at H ⊢
 unfold vn.sh at H
 refine qh Tryz.func161 rfl (Nat.le_of_ble_eq_true rfl) Tryz.ntmps161 rfl ?_
 refine wr <| lp rfl (xa (S ([] : List UInt8)) rfl) <| nx <| qj <| wr <| lp rfl (xm (S a0) rfl) <| lp rfl (Vi Tryz.underlying9 rfl) <| lp rfl (VA rfl rfl) <| lp rfl (xa (.int .i64 (IntKind.wrap .i64 ((a0.length : Int) - 1))) rfl) <| nx ?_
 obtain ⟨z2, L3, C4⟩ := bind_some H
 clear H
 refine  vD (fun s0 sQ wQ => Kp [(2, 4), (7, 18)] s0 sQ ∧ Ext w wQ ∧ z2 = .inr ()) ?_ ?_
 ·refine qB <| vo (fun s0 kk sQ wQ => ∃ (x3_1 : Int), Kp [(2, 4), (7, 18)] s0 sQ ∧ sQ 3 = .int .i64 x3_1 ∧ Ext w wQ ∧ qp (vn.b1 a0) kk x3_1 = some z2) k ⟨IntKind.wrap .i64 ((a0.length : Int) - 1), kz, rfl, er, L3⟩ ?_
  rintro k9 s10 w11 ⟨x3_1, K12, h15, e13, L14⟩
  cases k9 with
  | zero => exact absurd L14 (by simp [qp])
  | succ k9 =>
   obtain ⟨t16, H, S17⟩ := qK L14
   clear L14
   unfold vn.b1 at H
   refine qj <| wr <| lp rfl (qf h15) <| lp rfl (VQ rfl rfl) <| nx ?_
   rcases qd H with ⟨q18, H⟩ | ⟨q18, H⟩
   ·refine qk (cb q18) <| qo <| qe <| qj <| qB <| wr <| lp rfl (xm (S a0) (K12 0 rfl)) <| lp rfl (qf h15) ?_
    obtain ⟨c19, H⟩ := qa H
    refine lp rfl (Yh Tryz.underlying9 rfl rfl (QN c19) (Qs c19)) <| lp rfl (yn rfl rfl) <| nx ?_
    rcases qd H with ⟨q20, H⟩ | ⟨q20, H⟩
    ·refine qk (cb q20) <| wr <| lp rfl (xm (S a0) (K12 0 rfl)) <| lp rfl (qf h15) ?_
     obtain ⟨c21, H⟩ := qa H
     refine lp rfl (YZ Tryz.underlying9 rfl (l := 0) (h := x3_1) rfl ⟨_, rfl⟩ (GA c21) (Gz c21) (Gf c21)) <| lp rfl (xa (S (sub a0 0 x3_1)) rfl) <| nx <| qn <| vv <| qw <| qw <| vv <| qw <| qw <| qt ?_
     obtain rfl := si H
     obtain rfl := si S17
     have H := C4
     obtain rfl := si H
     exact vh rfl e13
    ·refine qi (cb q20) <| qo <| vk <| qe <| qG <| lp rfl (qf h15) <| lp rfl (VA rfl rfl) <| lp rfl (xa (.int .i64 (IntKind.wrap .i64 (x3_1 - 1))) rfl) <| nx ?_
     obtain rfl := si H
     exact ⟨_, Nat.lt_succ_self _, IntKind.wrap .i64 (x3_1 - 1), (ku1 (ku8 K12 rfl) rfl), rfl, e13, S17⟩
   ·refine qi (cb q18) <| vH <| qY <| qY <| yF <| qe ?_
    obtain rfl := si H
    obtain rfl := si S17
    exact ⟨(ku2 K12 rfl), e13, rfl⟩
 ·rintro s6 w5 ⟨K7, e8, y22⟩
  rw [y22] at C4
  have H := C4
  replace H : _ = some _ := H
  refine qe <| wr <| lp rfl (xa (S ([] : List UInt8)) rfl) <| nx <| qn <| qt ?_
  obtain rfl := si H
  exact vh rfl e8
/-! impl.parent -/
theorem jN.calls {w : World} {a0 : List UInt8} (h0 : a0.length ≤ 1048576) :
  Calls Tryz.prog 143 #[S a0] w (Rt (RP w (S (qc a0)))) := by
 have H := jN.eq a0 h0
 generalize (qc a0) = r at H ⊢
 unfold jN.sh at H
 refine qh Tryz.func143 rfl (Nat.le_of_ble_eq_true rfl) Tryz.ntmps143 rfl ?_
 refine wr <| lp rfl (xa (S ([] : List UInt8)) rfl) <| nx <| wr <| lp rfl (xm (S a0) rfl) <| lp rfl (xm (S a0) rfl) ?_
 obtain ⟨c1, H⟩ := qa H
 obtain ⟨c2, H⟩ := qa H
 refine lc rfl rfl Tryz.call226 (Gx.calls (w := w) (a0 := a0) (a1 := ([47] : List UInt8)) (od c1) (od c2)) rfl <| fun w3 e4 => lp rfl (X_max rfl rfl) ?_
 obtain ⟨c5, H⟩ := qa H
 refine lp rfl (YZ Tryz.underlying9 rfl (l := 0) (h := (if ((vB a0) < 0 : Prop) then 0 else (vB a0))) rfl ⟨_, rfl⟩ (GA c5) (Gz c5) (Gf c5)) <| lp rfl (qA rfl) <| nx <| qn <| qt ?_
 obtain rfl := si H
 exact vh rfl e4
/-! spec.l03At -/
theorem y4.calls {w : World} {a0 : List Rec} {a1 : List UInt8} {v_a0 : Value} (f_a0 : Rd 5 qg w v_a0 a0) (h0 : a0.length ≤ 1048576) :
  Calls Tryz.prog 145 #[v_a0, S a1] w (Rt (RP w (.int .i64 (qD a0 a1)))) := by
 obtain ⟨k, H⟩ := y4.eq a0 a1 h0
 generalize (qD a0 a1) = r at H ⊢
 unfold y4.sh at H
 refine qh Tryz.func145 rfl (Nat.le_of_ble_eq_true rfl) Tryz.ntmps145 rfl ?_
 refine wr <| lp rfl (xa (.int .i64 0) rfl) <| nx <| qj <| wr <| lp rfl (xa (.int .i64 0) rfl) <| nx ?_
 obtain ⟨z2, L3, C4⟩ := bind_some H
 clear H
 refine  vD (fun s0 sQ wQ => Kp [(4, 20)] s0 sQ ∧ Ext w wQ ∧ z2 = .inr ()) ?_ ?_
 ·refine qB <| vo (fun s0 kk sQ wQ => ∃ (x5_1 : Int), Kp [(4, 20)] s0 sQ ∧ sQ 5 = .int .i64 x5_1 ∧ Ext w wQ ∧ qp (y4.b1 a0 a1) kk x5_1 = some z2) k ⟨0, kz, rfl, er, L3⟩ ?_
  rintro k9 s10 w11 ⟨x5_1, K12, h15, e13, L14⟩
  cases k9 with
  | zero => exact absurd L14 (by simp [qp])
  | succ k9 =>
   obtain ⟨t16, H, S17⟩ := qK L14
   clear L14
   unfold y4.b1 at H
   refine qj <| wr <| lp rfl (qf h15) <| lp rfl (xm v_a0 (K12 0 rfl)) <| lp rfl (qO Tryz.underlying35 rfl (Rd.ext f_a0 e13)) <| lp rfl (yl rfl rfl) <| nx ?_
   rcases qd H with ⟨q18, H⟩ | ⟨q18, H⟩
   ·refine qk (cb q18) <| qo <| qe <| qj <| qB <| wr <| lp rfl (xm v_a0 (K12 0 rfl)) <| lp rfl (qf h15) ?_
    obtain ⟨c19, H⟩ := qa H
    refine q4 (.plain rfl) rfl (ltb rfl) rfl Tryz.underlying35 Tryz.sizeOf58 rfl (Rd.ext f_a0 e13) rfl c19 <| fun p20 h21 => lp rfl (qb Tryz.underlying58 rfl Tryz.sizeOf9 rfl rfl) <| lp rfl (vT Tryz.isAgg9 (j := 1) h21 rfl rfl) <| lp rfl (xm (S a1) (K12 1 rfl)) <| lp rfl (VR rfl rfl) <| nx ?_
    rcases qd H with ⟨q22, H⟩ | ⟨q22, H⟩
    ·refine qk (cb q22) <| wr <| lp rfl (qf h15) <| lp rfl (xa (.int .i64 x5_1) rfl) <| nx <| qn <| vv <| qw <| qw <| vv <| qw <| qw <| qt ?_
     obtain rfl := si H
     obtain rfl := si S17
     have H := C4
     obtain rfl := si H
     exact vh rfl e13
    ·refine qi (cb q22) <| qo <| vk <| qe <| qG <| lp rfl (qf h15) <| lp rfl (vi rfl rfl) <| lp rfl (xa (.int .i64 (IntKind.wrap .i64 (x5_1 + 1))) rfl) <| nx ?_
     obtain rfl := si H
     exact ⟨_, Nat.lt_succ_self _, IntKind.wrap .i64 (x5_1 + 1), (ku2 (ku4 (ku8 K12 rfl) rfl) rfl), rfl, e13, S17⟩
   ·refine qi (cb q18) <| vH <| qY <| qY <| yF <| qe ?_
    obtain rfl := si H
    obtain rfl := si S17
    exact ⟨(ku4 K12 rfl), e13, rfl⟩
 ·rintro s6 w5 ⟨K7, e8, y23⟩
  rw [y23] at C4
  have H := C4
  replace H : _ = some _ := H
  refine qe <| wr <| lp rfl (xa (.int .i64 (-1)) rfl) <| nx <| qn <| qt ?_
  obtain rfl := si H
  exact vh rfl e8
/-! spec.l03Fault -/
theorem vP.walk {k : Nat} {w : World} {a0 : List Rec} {v_a0 : Value} (f_a0 : Rd 5 qg w v_a0 a0) {r : Int × Int} (H : vP.sh k a0 = some r) :
  Calls Tryz.prog 154 #[v_a0] w (Rt (RP w (.tuple #[.int .i64 r.1, .int .i64 r.2]))) := by
 unfold vP.sh at H
 refine qh Tryz.func154 rfl (Nat.le_of_ble_eq_true rfl) Tryz.ntmps154 rfl ?_
 refine wr <| lp rfl (xa (.int .i64 0) rfl) <| lp rfl (xa (.int .i64 0) rfl) <| nx <| qj <| wr <| lp rfl (xa (.int .i64 0) rfl) <| nx ?_
 obtain ⟨z2, L3, C4⟩ := bind_some H
 clear H
 refine  vD (fun s0 sQ wQ => Kp [(2, 84)] s0 sQ ∧ Ext w wQ ∧ z2 = .inr ()) ?_ ?_
 ·refine qB <| vo (fun s0 kk sQ wQ => ∃ (x4_1 : Int), Kp [(2, 84)] s0 sQ ∧ sQ 4 = .int .i64 x4_1 ∧ Ext w wQ ∧ qp (vP.b1 a0) kk x4_1 = some z2) k ⟨0, kz, rfl, er, L3⟩ ?_
  rintro k9 s10 w11 ⟨x4_1, K12, h15, e13, L14⟩
  cases k9 with
  | zero => exact absurd L14 (by simp [qp])
  | succ k9 =>
   obtain ⟨t16, H, S17⟩ := qK L14
   clear L14
   unfold vP.b1 at H
   refine qj <| wr <| lp rfl (qf h15) <| lp rfl (xm v_a0 (K12 0 rfl)) <| lp rfl (qO Tryz.underlying35 rfl (Rd.ext f_a0 e13)) <| lp rfl (yl rfl rfl) <| nx ?_
   rcases qd H with ⟨q18, H⟩ | ⟨q18, H⟩
   ·refine qk (cb q18) <| qo <| qe <| qj <| qB <| qj <| wr <| lp rfl (qf h15) <| lp rfl (yn rfl rfl) <| nx ?_
    rcases qd H with ⟨q19, H⟩ | ⟨q19, H⟩
    ·refine qk (cb q19) <| wr <| lp rfl (qf h15) <| lp rfl (xa (.int .i64 x4_1) rfl) <| lp rfl (xa (.int .i64 6) rfl) <| nx <| qn <| qw <| vv <| qw <| qw <| vv <| qw <| qw <| qt ?_
     obtain rfl := si H
     obtain rfl := si S17
     have H := C4
     obtain rfl := si H
     exact Xh rfl rfl e13
    ·refine qi (cb q19) <| qo <| qe <| qj <| wr <| lp rfl (xm v_a0 (K12 0 rfl)) <| lp rfl (qf h15) ?_
     obtain ⟨c20, H⟩ := qa H
     refine q4 (.plain rfl) rfl (ltb rfl) rfl Tryz.underlying35 Tryz.sizeOf58 rfl (Rd.ext f_a0 e13) rfl c20 <| fun p21 h22 => lp rfl (qW Tryz.isAgg58 Tryz.sizeOf58 rfl rfl h22) <| lc rfl rfl Tryz.call237 (j9.calls (w := w11) (a0 := gt a0 x4_1)) rfl <| fun w23 e24 => lp rfl (xa (.int .i64 (qx (gt a0 x4_1))) rfl) <| nx <| wr <| lp rfl (xm (.int .i64 (qx (gt a0 x4_1))) rfl) <| lp rfl (j6 rfl rfl) <| nx ?_
     rcases qd H with ⟨q25, H⟩ | ⟨q25, H⟩
     ·refine qk (cb q25) <| wr <| lp rfl (qf h15) <| lp rfl (xm (.int .i64 (qx (gt a0 x4_1))) rfl) <| lp rfl (xa (.int .i64 x4_1) rfl) <| lp rfl (xa (.int .i64 (qx (gt a0 x4_1))) rfl) <| nx <| qn <| qw <| vv <| qw <| qw <| vv <| qw <| qw <| qt ?_
      obtain rfl := si H
      obtain rfl := si S17
      have H := C4
      obtain rfl := si H
      exact Xh rfl rfl (e13.t e24)
     ·refine qi (cb q25) <| qo <| qe <| qj <| qj ?_
      obtain ⟨c26, H⟩ := qa H
      obtain ⟨c29, H⟩ := qa H
      refine Yp [LEq (.int .i64 x4_1), LEq (.bool (decide (0 < x4_1))), LEq (.bool (decide (0 < x4_1))), LIf (decide (0 < x4_1)) (LEq v_a0), LIf (decide (0 < x4_1)) (LEq (.int .i64 x4_1)), LIf (decide (0 < x4_1)) (yu (qg (gt a0 x4_1))), LIf (decide (0 < x4_1)) (LAt 1 (qg (gt a0 x4_1))), LIf (decide (0 < x4_1)) (LEq (S ((gt a0 x4_1).path))), LIf (decide (0 < x4_1)) (LEq v_a0), LIf (decide (0 < x4_1)) (LEq (.int .i64 x4_1)), LIf (decide (0 < x4_1)) (LEq (.int .i64 (IntKind.wrap .i64 (x4_1 - 1)))), LIf (decide (0 < x4_1)) (yu (qg (gt a0 (IntKind.wrap .i64 (x4_1 - 1))))), LIf (decide (0 < x4_1)) (LAt 1 (qg (gt a0 (IntKind.wrap .i64 (x4_1 - 1))))), LIf (decide (0 < x4_1)) (LEq (S ((gt a0 (IntKind.wrap .i64 (x4_1 - 1))).path))), LIf (decide (0 < x4_1)) (LEq (.bool (decide (((gt a0 x4_1).path) = ((gt a0 (IntKind.wrap .i64 (x4_1 - 1))).path))))), LEq (.bool ((decide (0 < x4_1)) && (decide (((gt a0 x4_1).path) = ((gt a0 (IntKind.wrap .i64 (x4_1 - 1))).path)))))] (by kernel_rfl) (by kernel_rfl) ⟨qm, qm, qm, lm, lm, (LIf.mono yu.mono), (LIf.mono LAt.mono), lm, lm, lm, lm, (LIf.mono yu.mono), (LIf.mono LAt.mono), lm, lm, qm, trivial⟩ ⟨?_, ?_, ?_, ?_, ?_, ?_, ?_, ?_, ?_, ?_, ?_, ?_, ?_, ?_, ?_, ?_, trivial⟩ ?_
      ·exact fun s x e f d u => lp rfl (xm (.int .i64 x4_1) ((f 4 rfl).trans h15)) <| se rfl rfl
      ·exact fun s x e f d u => lp rfl (jJ (d 0 rfl) rfl) <| se rfl rfl
      ·exact fun s x e f d u => lp rfl (qf (d 1 rfl)) <| se rfl rfl
      ·exact fun s x e f d u => gT rfl rfl rfl rfl (d 2 rfl) rfl fun b t => lt t rfl rfl (xm v_a0 ((f 0 rfl).trans (K12 0 rfl))) <| sg rfl rfl b rfl
      ·exact fun s x e f d u => gT rfl rfl rfl rfl (d 2 rfl) rfl fun b t => lt t rfl rfl (xm (.int .i64 x4_1) ((f 4 rfl).trans h15)) <| sg rfl rfl b rfl
      ·exact fun s x e f d u => gT rfl rfl rfl rfl (d 2 rfl) rfl fun b t => q4 t rfl (ltb rfl) rfl Tryz.underlying35 Tryz.sizeOf58 ((d 3 rfl).1 b) (Rd.ext f_a0 ((e13.t e24).t e)) ((d 4 rfl).1 b) (vE b c26) <| fun p33 h34 => sg rfl rfl b ⟨_, rfl, h34⟩
      ·intro s x e f d u
       refine gT rfl rfl rfl rfl (d 2 rfl) rfl fun b t => ?_
       obtain ⟨p35, h36, h37⟩ := ((d 5 rfl).1 b)
       exact lt t rfl rfl (qb Tryz.underlying58 rfl Tryz.sizeOf9 rfl h36) <| sg rfl rfl b ⟨_, rfl, h37⟩
      ·intro s x e f d u
       refine gT rfl rfl rfl rfl (d 2 rfl) rfl fun b t => ?_
       obtain ⟨p38, h39, h40⟩ := ((d 6 rfl).1 b)
       exact lt t rfl rfl (vT Tryz.isAgg9 (j := 1) h40 h39 rfl) <| sg rfl rfl b rfl
      ·exact fun s x e f d u => gT rfl rfl rfl rfl (d 2 rfl) rfl fun b t => lt t rfl rfl (xm v_a0 ((f 0 rfl).trans (K12 0 rfl))) <| sg rfl rfl b rfl
      ·exact fun s x e f d u => gT rfl rfl rfl rfl (d 2 rfl) rfl fun b t => lt t rfl rfl (xm (.int .i64 x4_1) ((f 4 rfl).trans h15)) <| sg rfl rfl b rfl
      ·exact fun s x e f d u => gT rfl rfl rfl rfl (d 2 rfl) rfl fun b t => lt t rfl rfl (VA ((d 9 rfl).1 b) rfl) <| sg rfl rfl b rfl
      ·exact fun s x e f d u => gT rfl rfl rfl rfl (d 2 rfl) rfl fun b t => q4 t rfl (ltb rfl) rfl Tryz.underlying35 Tryz.sizeOf58 ((d 8 rfl).1 b) (Rd.ext f_a0 ((e13.t e24).t e)) ((d 10 rfl).1 b) (vE b c29) <| fun p42 h43 => sg rfl rfl b ⟨_, rfl, h43⟩
      ·intro s x e f d u
       refine gT rfl rfl rfl rfl (d 2 rfl) rfl fun b t => ?_
       obtain ⟨p44, h45, h46⟩ := ((d 11 rfl).1 b)
       exact lt t rfl rfl (qb Tryz.underlying58 rfl Tryz.sizeOf9 rfl h45) <| sg rfl rfl b ⟨_, rfl, h46⟩
      ·intro s x e f d u
       refine gT rfl rfl rfl rfl (d 2 rfl) rfl fun b t => ?_
       obtain ⟨p47, h48, h49⟩ := ((d 12 rfl).1 b)
       exact lt t rfl rfl (vT Tryz.isAgg9 (j := 1) h49 h48 rfl) <| sg rfl rfl b rfl
      ·exact fun s x e f d u => gT rfl rfl rfl rfl (d 2 rfl) rfl fun b t => lt t rfl rfl (VR ((d 7 rfl).1 b) ((d 13 rfl).1 b)) <| sg rfl rfl b rfl
      ·exact fun s x e f d u => lp rfl (Qh (d 2 rfl) rfl fun h => ((d 14 rfl).1 h)) <| se rfl rfl
      intro s50 w51 e52 hf53 ha54
      have K55 := Kp.ofD (kp := [(26, 42)]) rfl hf53
      have d56 : s50 41 = (.bool ((decide (0 < x4_1)) && (decide (((gt a0 x4_1).path) = ((gt a0 (IntKind.wrap .i64 (x4_1 - 1))).path))))) := ha54 15 rfl
      clear ha54 hf53
      refine qe ?_
      rcases qd H with ⟨q57, H⟩ | ⟨q57, H⟩
      ·refine qk (d56.trans (cb q57)) <| wr <| lp rfl (xm (.int .i64 x4_1) ((K55 4 rfl).trans h15)) <| lp rfl (xa (.int .i64 x4_1) rfl) <| lp rfl (xa (.int .i64 18) rfl) <| nx <| qn <| qw <| vv <| qw <| qw <| vv <| qw <| qw <| qt ?_
       obtain rfl := si H
       obtain rfl := si S17
       have H := C4
       obtain rfl := si H
       exact Xh rfl rfl ((e13.t e24).t e52)
      ·refine qi (d56.trans (cb q57)) <| qo <| qe <| qj <| qj ?_
       obtain ⟨c58, H⟩ := qa H
       obtain ⟨c61, H⟩ := qa H
       obtain ⟨c64, H⟩ := qa H
       obtain ⟨c65, H⟩ := qa H
       refine Yp [LEq (.int .i64 x4_1), LEq (.bool (decide (0 < x4_1))), LEq (.bool (decide (0 < x4_1))), LIf (decide (0 < x4_1)) (LEq v_a0), LIf (decide (0 < x4_1)) (LEq (.int .i64 x4_1)), LIf (decide (0 < x4_1)) (LEq (.int .i64 (IntKind.wrap .i64 (x4_1 - 1)))), LIf (decide (0 < x4_1)) (yu (qg (gt a0 (IntKind.wrap .i64 (x4_1 - 1))))), LIf (decide (0 < x4_1)) (LAt 1 (qg (gt a0 (IntKind.wrap .i64 (x4_1 - 1))))), LIf (decide (0 < x4_1)) (LEq (S ((gt a0 (IntKind.wrap .i64 (x4_1 - 1))).path))), LIf (decide (0 < x4_1)) (LEq v_a0), LIf (decide (0 < x4_1)) (LEq (.int .i64 x4_1)), LIf (decide (0 < x4_1)) (yu (qg (gt a0 x4_1))), LIf (decide (0 < x4_1)) (LAt 1 (qg (gt a0 x4_1))), LIf (decide (0 < x4_1)) (LEq (S ((gt a0 x4_1).path))), LIf (decide (0 < x4_1)) (LEq (.bool (vw (cut 47 ((gt a0 (IntKind.wrap .i64 (x4_1 - 1))).path)) (cut 47 ((gt a0 x4_1).path))))), LIf (decide (0 < x4_1)) (LEq (.bool (!(vw (cut 47 ((gt a0 (IntKind.wrap .i64 (x4_1 - 1))).path)) (cut 47 ((gt a0 x4_1).path)))))), LEq (.bool ((decide (0 < x4_1)) && (!(vw (cut 47 ((gt a0 (IntKind.wrap .i64 (x4_1 - 1))).path)) (cut 47 ((gt a0 x4_1).path))))))] (by kernel_rfl) (by kernel_rfl) ⟨qm, qm, qm, lm, lm, lm, (LIf.mono yu.mono), (LIf.mono LAt.mono), lm, lm, lm, (LIf.mono yu.mono), (LIf.mono LAt.mono), lm, lm, lm, qm, trivial⟩ ⟨?_, ?_, ?_, ?_, ?_, ?_, ?_, ?_, ?_, ?_, ?_, ?_, ?_, ?_, ?_, ?_, ?_, trivial⟩ ?_
       ·exact fun s x e f d u => lp rfl (xm (.int .i64 x4_1) ((f 4 rfl).trans ((K55 4 rfl).trans h15))) <| se rfl rfl
       ·exact fun s x e f d u => lp rfl (jJ (d 0 rfl) rfl) <| se rfl rfl
       ·exact fun s x e f d u => lp rfl (qf (d 1 rfl)) <| se rfl rfl
       ·exact fun s x e f d u => gT rfl rfl rfl rfl (d 2 rfl) rfl fun b t => lt t rfl rfl (xm v_a0 ((f 0 rfl).trans ((K55 0 rfl).trans (K12 0 rfl)))) <| sg rfl rfl b rfl
       ·exact fun s x e f d u => gT rfl rfl rfl rfl (d 2 rfl) rfl fun b t => lt t rfl rfl (xm (.int .i64 x4_1) ((f 4 rfl).trans ((K55 4 rfl).trans h15))) <| sg rfl rfl b rfl
       ·exact fun s x e f d u => gT rfl rfl rfl rfl (d 2 rfl) rfl fun b t => lt t rfl rfl (VA ((d 4 rfl).1 b) rfl) <| sg rfl rfl b rfl
       ·exact fun s x e f d u => gT rfl rfl rfl rfl (d 2 rfl) rfl fun b t => q4 t rfl (ltb rfl) rfl Tryz.underlying35 Tryz.sizeOf58 ((d 3 rfl).1 b) (Rd.ext f_a0 (((e13.t e24).t e52).t e)) ((d 5 rfl).1 b) (vE b c58) <| fun p69 h70 => sg rfl rfl b ⟨_, rfl, h70⟩
       ·intro s x e f d u
        refine gT rfl rfl rfl rfl (d 2 rfl) rfl fun b t => ?_
        obtain ⟨p71, h72, h73⟩ := ((d 6 rfl).1 b)
        exact lt t rfl rfl (qb Tryz.underlying58 rfl Tryz.sizeOf9 rfl h72) <| sg rfl rfl b ⟨_, rfl, h73⟩
       ·intro s x e f d u
        refine gT rfl rfl rfl rfl (d 2 rfl) rfl fun b t => ?_
        obtain ⟨p74, h75, h76⟩ := ((d 7 rfl).1 b)
        exact lt t rfl rfl (vT Tryz.isAgg9 (j := 1) h76 h75 rfl) <| sg rfl rfl b rfl
       ·exact fun s x e f d u => gT rfl rfl rfl rfl (d 2 rfl) rfl fun b t => lt t rfl rfl (xm v_a0 ((f 0 rfl).trans ((K55 0 rfl).trans (K12 0 rfl)))) <| sg rfl rfl b rfl
       ·exact fun s x e f d u => gT rfl rfl rfl rfl (d 2 rfl) rfl fun b t => lt t rfl rfl (xm (.int .i64 x4_1) ((f 4 rfl).trans ((K55 4 rfl).trans h15))) <| sg rfl rfl b rfl
       ·exact fun s x e f d u => gT rfl rfl rfl rfl (d 2 rfl) rfl fun b t => q4 t rfl (ltb rfl) rfl Tryz.underlying35 Tryz.sizeOf58 ((d 9 rfl).1 b) (Rd.ext f_a0 (((e13.t e24).t e52).t e)) ((d 10 rfl).1 b) (vE b c61) <| fun p78 h79 => sg rfl rfl b ⟨_, rfl, h79⟩
       ·intro s x e f d u
        refine gT rfl rfl rfl rfl (d 2 rfl) rfl fun b t => ?_
        obtain ⟨p80, h81, h82⟩ := ((d 11 rfl).1 b)
        exact lt t rfl rfl (qb Tryz.underlying58 rfl Tryz.sizeOf9 rfl h81) <| sg rfl rfl b ⟨_, rfl, h82⟩
       ·intro s x e f d u
        refine gT rfl rfl rfl rfl (d 2 rfl) rfl fun b t => ?_
        obtain ⟨p83, h84, h85⟩ := ((d 12 rfl).1 b)
        exact lt t rfl rfl (vT Tryz.isAgg9 (j := 1) h85 h84 rfl) <| sg rfl rfl b rfl
       ·exact fun s x e f d u => gT rfl rfl rfl rfl (d 2 rfl) rfl fun b t => vy t rfl (ltb rfl) rfl Tryz.call205 (vK.calls (w := x) (a0 := (gt a0 (IntKind.wrap .i64 (x4_1 - 1))).path) (a1 := (gt a0 x4_1).path) (od (vE b c64)) (od (vE b c65))) (vc ((d 8 rfl).1 b) (vc ((d 13 rfl).1 b) rfl)) <| fun w88 e89 => sgx rfl rfl b e89 rfl
       ·exact fun s x e f d u => gT rfl rfl rfl rfl (d 2 rfl) rfl fun b t => lt t rfl rfl (yM ((d 14 rfl).1 b)) <| sg rfl rfl b rfl
       ·exact fun s x e f d u => lp rfl (Qh (d 2 rfl) rfl fun h => ((d 15 rfl).1 h)) <| se rfl rfl
       intro s90 w91 e92 hf93 ha94
       have K95 := Kp.ofD (kp := [(43, 60)]) rfl hf93
       have d96 : s90 59 = (.bool ((decide (0 < x4_1)) && (!(vw (cut 47 ((gt a0 (IntKind.wrap .i64 (x4_1 - 1))).path)) (cut 47 ((gt a0 x4_1).path)))))) := ha94 16 rfl
       clear ha94 hf93
       refine qe ?_
       rcases qd H with ⟨q97, H⟩ | ⟨q97, H⟩
       ·refine qk (d96.trans (cb q97)) <| wr <| lp rfl (xm (.int .i64 x4_1) ((K95 4 rfl).trans ((K55 4 rfl).trans h15))) <| lp rfl (xa (.int .i64 x4_1) rfl) <| lp rfl (xa (.int .i64 11) rfl) <| nx <| qn <| qw <| vv <| qw <| qw <| vv <| qw <| qw <| qt ?_
        obtain rfl := si H
        obtain rfl := si S17
        have H := C4
        obtain rfl := si H
        exact Xh rfl rfl (((e13.t e24).t e52).t e92)
       ·refine qi (d96.trans (cb q97)) <| qo <| qe <| wr <| lp rfl (xm v_a0 ((K95 0 rfl).trans ((K55 0 rfl).trans (K12 0 rfl)))) <| lp rfl (xm (.int .i64 x4_1) ((K95 4 rfl).trans ((K55 4 rfl).trans h15))) ?_
        obtain ⟨c98, H⟩ := qa H
        refine q4 (.plain rfl) rfl (ltb rfl) rfl Tryz.underlying35 Tryz.sizeOf58 rfl (Rd.ext f_a0 (((e13.t e24).t e52).t e92)) rfl c98 <| fun p99 h100 => lp rfl (qb Tryz.underlying58 rfl Tryz.sizeOf9 rfl rfl) <| lp rfl (vT Tryz.isAgg9 (j := 1) h100 rfl rfl) ?_
        obtain ⟨c101, H⟩ := qa H
        refine lc rfl rfl Tryz.call161 (vn.calls (w := w91) (a0 := (gt a0 x4_1).path) (od c101)) rfl <| fun w102 e103 => lp rfl (xa (S (qc ((gt a0 x4_1).path))) rfl) <| nx <| qj <| wr <| lp rfl (xm (S (qc ((gt a0 x4_1).path))) rfl) <| lp rfl (VR rfl rfl) <| nx ?_
        rcases qd H with ⟨q104, H⟩ | ⟨q104, H⟩
        ·refine qk (cb q104) <| vH <| qY <| yF <| qe <| qG <| lp rfl (xm (.int .i64 x4_1) ((K95 4 rfl).trans ((K55 4 rfl).trans h15))) <| lp rfl (vi rfl rfl) <| lp rfl (xa (.int .i64 (IntKind.wrap .i64 (x4_1 + 1))) rfl) <| nx ?_
         obtain rfl := si H
         exact ⟨_, Nat.lt_succ_self _, IntKind.wrap .i64 (x4_1 + 1), (ku4 (ku8 (Kp.cut (Kp.cut (ku2 (ku4 (ku8 K12 rfl) rfl) rfl) K55 rfl) K95 rfl) rfl) rfl), rfl, ((((e13.t e24).t e52).t e92).t e103), S17⟩
        ·refine qi (cb q104) <| qo <| qe <| wr <| lp rfl (xm v_a0 ((K95 0 rfl).trans ((K55 0 rfl).trans (K12 0 rfl)))) <| lp rfl (xm (.int .i64 x4_1) ((K95 4 rfl).trans ((K55 4 rfl).trans h15))) ?_
         obtain ⟨c105, H⟩ := qa H
         refine G3 (.plain rfl) rfl (ltb rfl) rfl Tryz.underlying35 Tryz.sizeOf58 rfl (Rd.ext f_a0 ((((e13.t e24).t e52).t e92).t e103)) (l := 0) (h := x4_1) rfl ⟨_, rfl⟩ c105 <| fun v106 h107 => lp rfl (xm (S (qc ((gt a0 x4_1).path))) rfl) ?_
         obtain ⟨c108, H⟩ := qa H
         refine lc rfl rfl Tryz.call145 (y4.calls (w := w102) (a0 := sub a0 0 x4_1) (a1 := (qc ((gt a0 x4_1).path))) h107 (od c108)) rfl <| fun w109 e110 => lp rfl (xa (.int .i64 (qD (sub a0 0 x4_1) (qc ((gt a0 x4_1).path)))) rfl) <| nx <| qj <| wr <| lp rfl (xm (.int .i64 (qD (sub a0 0 x4_1) (qc ((gt a0 x4_1).path)))) rfl) <| lp rfl (yl rfl rfl) <| nx ?_
         rcases qd H with ⟨q111, H⟩ | ⟨q111, H⟩
         ·refine qk (cb q111) <| wr <| lp rfl (xm (.int .i64 x4_1) ((K95 4 rfl).trans ((K55 4 rfl).trans h15))) <| lp rfl (xa (.int .i64 x4_1) rfl) <| lp rfl (xa (.int .i64 12) rfl) <| nx <| qn <| qw <| vv <| qw <| qw <| vv <| qw <| qw <| qt ?_
          obtain rfl := si H
          obtain rfl := si S17
          have H := C4
          obtain rfl := si H
          exact Xh rfl rfl (((((e13.t e24).t e52).t e92).t e103).t e110)
         ·refine qi (cb q111) <| qo <| qe <| wr <| lp rfl (xm v_a0 ((K95 0 rfl).trans ((K55 0 rfl).trans (K12 0 rfl)))) <| lp rfl (xm (.int .i64 (qD (sub a0 0 x4_1) (qc ((gt a0 x4_1).path)))) rfl) ?_
          obtain ⟨c112, H⟩ := qa H
          refine q4 (.plain rfl) rfl (ltb rfl) rfl Tryz.underlying35 Tryz.sizeOf58 rfl (Rd.ext f_a0 (((((e13.t e24).t e52).t e92).t e103).t e110)) rfl c112 <| fun p113 h114 => lp rfl (qb Tryz.underlying58 rfl Tryz.sizeOf3 rfl rfl) <| lp rfl (vT Tryz.isAgg3 (j := 0) h114 rfl rfl) <| lp rfl (j6 rfl rfl) <| nx ?_
          rcases qd H with ⟨q115, H⟩ | ⟨q115, H⟩
          ·refine qk (cb q115) <| wr <| lp rfl (xm (.int .i64 x4_1) ((K95 4 rfl).trans ((K55 4 rfl).trans h15))) <| lp rfl (xa (.int .i64 x4_1) rfl) <| lp rfl (xa (.int .i64 13) rfl) <| nx <| qn <| vv <| qw <| qw <| vv <| qw <| qw <| qt ?_
           obtain rfl := si H
           obtain rfl := si S17
           have H := C4
           obtain rfl := si H
           exact Xh rfl rfl (((((e13.t e24).t e52).t e92).t e103).t e110)
          ·refine qi (cb q115) <| qo <| vk <| qe <| qG <| lp rfl (xm (.int .i64 x4_1) ((K95 4 rfl).trans ((K55 4 rfl).trans h15))) <| lp rfl (vi rfl rfl) <| lp rfl (xa (.int .i64 (IntKind.wrap .i64 (x4_1 + 1))) rfl) <| nx ?_
           obtain rfl := si H
           exact ⟨_, Nat.lt_succ_self _, IntKind.wrap .i64 (x4_1 + 1), (ku2 (ku8 (ku8 (ku8 (Kp.cut (Kp.cut (ku2 (ku4 (ku8 K12 rfl) rfl) rfl) K55 rfl) K95 rfl) rfl) rfl) rfl) rfl), rfl, (((((e13.t e24).t e52).t e92).t e103).t e110), S17⟩
   ·refine qi (cb q18) <| vH <| qY <| qY <| yF <| qe ?_
    obtain rfl := si H
    obtain rfl := si S17
    exact ⟨(ku4 K12 rfl), e13, rfl⟩
 ·rintro s6 w5 ⟨K7, e8, y116⟩
  rw [y116] at C4
  have H := C4
  replace H : _ = some _ := H
  refine qe <| wr <| lp rfl (xa (.int .i64 0) rfl) <| lp rfl (xa (.int .i64 0) rfl) <| nx <| qn <| qt ?_
  obtain rfl := si H
  exact Xh rfl rfl e8
theorem vP.calls {w : World} {a0 : List Rec} {v_a0 : Value} (f_a0 : Rd 5 qg w v_a0 a0) (h0 : a0.length ≤ 1048576) (h1 : ∀ x ∈ a0, x.path.length ≤ 1048576) :
  Calls Tryz.prog 154 #[v_a0] w (Rt (RP w (.tuple #[.int .i64 ((qv a0).1), .int .i64 ((qv a0).2)]))) := by
 obtain ⟨k, h⟩ := vP.eq a0 h0 h1
 exact vP.walk f_a0 h
/-! impl.isLongList(impl.Record) -/
theorem yO.calls {w : World} {a0 : List Rec} {v_a0 : Value} (f_a0 : Rd 5 qg w v_a0 a0) :
  Calls Tryz.prog 126 #[v_a0] w (Rt (RP w (.bool (decide (4096 < a0.length))))) := by
 have H := yO.eq a0
 generalize (decide (4096 < a0.length)) = r at H ⊢
 unfold yO.sh at H
 refine qh Tryz.func126 rfl (Nat.le_of_ble_eq_true rfl) Tryz.ntmps126 rfl ?_
 refine wr <| lp rfl (xa (.bool false) rfl) <| nx <| wr <| lp rfl (xm v_a0 rfl) <| lp rfl (qO Tryz.underlying35 rfl f_a0) <| lp rfl (jJ rfl rfl) <| lp rfl (xa (.bool (decide (4096 < (a0.length : Int)))) rfl) <| nx <| qn <| qt ?_
 obtain rfl := si H
 exact vh rfl er
/-! impl.find$1 -/
theorem Vt.calls {w : World} {a0 : Rec} {a1 : List UInt8} {b_a1 : Nat} (k_a1 : Blk w b_a1 #[(S a1)] 9) :
  Calls Tryz.prog 216 #[.agg (qg a0).toArray, .pointer (some ⟨b_a1, 0, none⟩)] w (Rt (RP w (.bool (decide (a0.path = a1))))) := by
 have H := Vt.eq a0 a1
 generalize (decide (a0.path = a1)) = r at H ⊢
 unfold Vt.sh at H
 refine qh Tryz.func216 rfl (Nat.le_of_ble_eq_true rfl) Tryz.ntmps216 rfl ?_
 refine wr <| j0 (.plain rfl) rfl (ltb rfl) rfl rfl <| fun b1 w2 z3 z4 e5 k6 => lp rfl (xa (.bool false) rfl) <| nx <| wr <| lp rfl (qb Tryz.underlying58 rfl Tryz.sizeOf9 rfl rfl) <| lp rfl (qz Tryz.isAgg9 k6 rfl rfl) <| lp rfl (qz Tryz.isAgg9 (Blk.ext k_a1 e5) rfl rfl) <| lp rfl (VR rfl rfl) <| lp rfl (xa (.bool (decide (a0.path = a1))) rfl) <| nx <| qn <| qt ?_
 obtain rfl := si H
 exact vh rfl e5
/-! slices.IndexFunc(()impl.Record,impl.Record) -/
theorem vg.walk {k : Nat} {w : World} {a0 : List Rec} {a1 : Rec → Option Bool} {v_a0 : Value} (f_a0 : Rd 5 qg w v_a0 a0) {v_a1 : Value} (f_a1 : ∀ (x0 : Rec) (r : Bool), a1 x0 = some r → jq Tryz.prog w v_a1 [(.agg (qg x0).toArray)] (.bool r)) (g_a1 : v_a1.cells = #[v_a1]) {r : Int} (H : vg.sh k a0 a1 = some r) :
  Calls Tryz.prog 215 #[v_a0, v_a1] w (Rt (RP w (.int .i64 r))) := by
 unfold vg.sh at H
 refine qh Tryz.func215 rfl (Nat.le_of_ble_eq_true rfl) Tryz.ntmps215 rfl ?_
 refine wr <| lp rfl (xa (.int .i64 0) rfl) <| nx <| qj <| wr <| lp rfl (xm v_a0 rfl) <| lp rfl (qO Tryz.underlying35 rfl f_a0) <| lp rfl (xm (.int .i64 0) rfl) <| nx ?_
 obtain ⟨z2, L3, C4⟩ := bind_some H
 clear H
 refine  vD (fun s0 sQ wQ => Kp [(4, 6), (8, 19)] s0 sQ ∧ Ext w wQ ∧ z2 = .inr ()) ?_ ?_
 ·refine qB <| vo (fun s0 kk sQ wQ => ∃ (x8_1 : Int), Kp [(4, 6), (8, 19)] s0 sQ ∧ sQ 8 = .int .i64 x8_1 ∧ Ext w wQ ∧ qp (vg.b1 a0 a1) kk x8_1 = some z2) k ⟨0, kz, rfl, er, L3⟩ ?_
  rintro k9 s10 w11 ⟨x8_1, K12, h15, e13, L14⟩
  cases k9 with
  | zero => exact absurd L14 (by simp [qp])
  | succ k9 =>
   obtain ⟨t16, H, S17⟩ := qK L14
   clear L14
   unfold vg.b1 at H
   refine wr <| lp rfl (yl h15 (K12 7 rfl)) <| nx <| qj ?_
   rcases qd H with ⟨q18, H⟩ | ⟨q18, H⟩
   ·refine qk (cb q18) <| qo <| qe <| qj <| qB <| wr <| lp rfl (qf h15) <| lp rfl (xa (.int .i64 x8_1) rfl) <| nx <| wr <| lp rfl (xm v_a1 (K12 1 rfl)) <| lp rfl (xm v_a0 (K12 0 rfl)) <| lp rfl (xm (.int .i64 x8_1) rfl) ?_
    obtain ⟨c19, H⟩ := qa H
    refine q4 (.plain rfl) rfl (ltb rfl) rfl Tryz.underlying35 Tryz.sizeOf58 rfl (Rd.ext f_a0 e13) rfl c19 <| fun p20 h21 => lp rfl (qW Tryz.isAgg58 Tryz.sizeOf58 rfl rfl h21) ?_
    obtain ⟨z22, x23, H⟩ := bind_some H
    refine Yb (.plain rfl) rfl (ltb rfl) rfl rfl (jq.ext (f_a1 _ _ x23) e13) rfl <| fun w24 e25 => nx ?_
    rcases qd H with ⟨q26, H⟩ | ⟨q26, H⟩
    ·refine qk (cb q26) <| wr <| lp rfl (xm (.int .i64 x8_1) rfl) <| lp rfl (xa (.int .i64 x8_1) rfl) <| nx <| qn <| vv <| qw <| qw <| vv <| qw <| qw <| qt ?_
     obtain rfl := si H
     obtain rfl := si S17
     have H := C4
     obtain rfl := si H
     exact vh rfl (e13.t e25)
    ·refine qi (cb q26) <| qo <| vk <| qe <| qG <| lp rfl (vi h15 rfl) <| lp rfl (xm (.int .i64 (IntKind.wrap .i64 (x8_1 + 1))) rfl) <| nx ?_
     obtain rfl := si H
     exact ⟨_, Nat.lt_succ_self _, IntKind.wrap .i64 (x8_1 + 1), (ku3 (ku8 K12 rfl) rfl), rfl, (e13.t e25), S17⟩
   ·refine qi (cb q18) <| vH <| qY <| qY <| yF <| qe ?_
    obtain rfl := si H
    obtain rfl := si S17
    exact ⟨(ku1 K12 rfl), e13, rfl⟩
 ·rintro s6 w5 ⟨K7, e8, y27⟩
  rw [y27] at C4
  have H := C4
  replace H : _ = some _ := H
  refine qe <| wr <| lp rfl (xa (.int .i64 (-1)) rfl) <| nx <| qn <| qt ?_
  obtain rfl := si H
  exact vh rfl e8
theorem vg.calls {w : World} {a0 : List Rec} {a1 : Rec → Option Bool} {r : Int} {v_a0 : Value} (f_a0 : Rd 5 qg w v_a0 a0) {v_a1 : Value} (f_a1 : ∀ (x0 : Rec) (r : Bool), a1 x0 = some r → jq Tryz.prog w v_a1 [(.agg (qg x0).toArray)] (.bool r)) (g_a1 : v_a1.cells = #[v_a1]) (h0 : a0.length ≤ 4611686018427387904) (H : (Yo a1 a0) = some r) :
  Calls Tryz.prog 215 #[v_a0, v_a1] w (Rt (RP w (.int .i64 r))) := by
 obtain ⟨k, h⟩ := vg.eq a0 a1 h0 H
 exact vg.walk f_a0 f_a1 g_a1 h
/-! impl.find -/
theorem QT.calls {w : World} {a0 : List Rec} {a1 : List UInt8} {v_a0 : Value} (f_a0 : Rd 5 qg w v_a0 a0) (h0 : a0.length ≤ 1048576) :
  Calls Tryz.prog 135 #[v_a0, S a1] w (Rt (RP w (.int .i64 (qD a0 a1)))) := by
 have H := QT.eq a0 a1 h0
 generalize (qD a0 a1) = r at H ⊢
 unfold QT.sh at H
 refine qh Tryz.func135 rfl (Nat.le_of_ble_eq_true rfl) Tryz.ntmps135 rfl ?_
 refine wr <| j0 (.plain rfl) rfl (ltb rfl) rfl rfl <| fun b1 w2 z3 z4 e5 k6 => lp rfl (xa (.int .i64 0) rfl) <| nx <| wr <| lp rfl (xm v_a0 rfl) <| lp rfl (V0 (vs := #[]) (us := #[.pointer (some ⟨b1, 0, none⟩)]) rfl rfl) ?_
 obtain ⟨c11, H⟩ := qa H
 obtain ⟨z12, x13, H⟩ := bind_some H
 refine lc rfl rfl Tryz.call215 (vg.calls (w := w2) (a0 := a0) (a1 := (fun (x0_ : Rec) => some (decide (x0_.path = a1)))) (Rd.ext f_a0 e5) (fun x0_ r h => by have h := si h; subst h; exact jq.mk Tryz.call216 (by rfl) fun w9 k10 => Vt.calls (w := w9) (a0 := x0_) (a1 := a1) (Blk.ext k6 k10)) rfl (od c11) x13) rfl <| fun w14 e15 => lp rfl (xa (.int .i64 z12) rfl) <| nx <| qn <| qt ?_
 obtain rfl := si H
 exact vh rfl (e5.t e15)
/-! impl.faultAt -/
abbrev qy.e1 (a0 : List Rec) (a1 : Int) (x6_19 : Int) := ([.inl (!(decide (qx (gt a0 a1) = 0))), .inr (qx (gt a0 a1)), .inl ((decide (0 < a1)) && (decide (((gt a0 (if ((IntKind.wrap .i64 (a1 - 1)) < 0 : Prop) then 0 else (IntKind.wrap .i64 (a1 - 1)))).path) = ((gt a0 a1).path)))), .inr 18, .inl ((decide (0 < a1)) && (!(vM ((gt a0 (if ((IntKind.wrap .i64 (a1 - 1)) < 0 : Prop) then 0 else (IntKind.wrap .i64 (a1 - 1)))).path) ((gt a0 a1).path)))), .inr 11, .inl (decide (x6_19 < 0)), .inr 12, .inl ((!decide ((qc ((gt a0 a1).path)) = ([] : List UInt8))) && (!decide (((gt a0 (if (x6_19 < 0 : Prop) then 0 else x6_19)).kind) = 3))), .inr 13] : List (Bool ⊕ Int))
abbrev qy.e2 (a1 : Int) := (if ((IntKind.wrap .i64 (a1 - 1)) < 0 : Prop) then 0 else (IntKind.wrap .i64 (a1 - 1)))
abbrev qy.e3 (a0 : List Rec) (a1 : Int) := (!decide ((qc ((gt a0 a1).path)) = ([] : List UInt8)))
abbrev qy.e4 (a0 : List Rec) (a1 : Int) (x6_19 : Int) := ([.inl (decide (16 ≤ a1)), .inr 6, .inl true, .inr (vX (qy.e1 a0 a1 x6_19))] : List (Bool ⊕ Int))
theorem qy.walk {w : World} {a0 : List Rec} {a1 : Int} (gv : GV 0 w) {v_a0 : Value} (f_a0 : Rd 5 qg w v_a0 a0) {r : Int} (H : qy.sh a0 a1 = some r) :
  Calls Tryz.prog 228 #[v_a0, .int .i64 a1] w (Rt (RP w (.int .i64 r))) := by
 unfold qy.sh at H
 refine qh Tryz.func228 rfl (Nat.le_of_ble_eq_true rfl) Tryz.ntmps228 rfl ?_
 refine wr <| lp rfl (xa (.int .i64 0) rfl) <| nx <| wr <| lp rfl (xm v_a0 rfl) <| lp rfl (xm (.int .i64 a1) rfl) ?_
 obtain ⟨c1, H⟩ := qa H
 refine q4 (.plain rfl) rfl (ltb rfl) rfl Tryz.underlying35 Tryz.sizeOf58 rfl f_a0 rfl c1 <| fun p2 h3 => lp rfl (qW Tryz.isAgg58 Tryz.sizeOf58 rfl rfl h3) <| QA (.plain rfl) rfl (ltb rfl) rfl Tryz.zeroValue58 <| fun b4 w5 z6 z7 e8 k9 => ji (.plain rfl) rfl rfl Tryz.sizeOf58 rfl rfl rfl rfl rfl k9 <| fun w10 h11 k12 => lp rfl (xa (.int .i64 0) rfl) <| nx <| qj <| wr <| lp rfl (qb Tryz.underlying58 rfl Tryz.sizeOf9 rfl rfl) <| lp rfl (qz Tryz.isAgg9 k12 rfl rfl) ?_
 obtain ⟨c13, H⟩ := qa H
 refine lc rfl rfl Tryz.call143 (jN.calls (w := w10) (a0 := (gt a0 a1).path) (od c13)) rfl <| fun w14 e15 => lp rfl (xa (S (qc ((gt a0 a1).path))) rfl) <| nx <| wr <| lp rfl (xm (S (qc ((gt a0 a1).path))) rfl) <| lp rfl (VK rfl rfl) <| nx ?_
 obtain ⟨z16, L17, C18⟩ := bind_some H
 clear H
 refine vD (fun s0 sQ wQ => ∃ (x6_19 : Int), Kp [(6, 7), (17, 22)] s0 sQ ∧ sQ 6 = .int .i64 x6_19 ∧ Ext w14 wQ ∧ z16 = .inr x6_19) ?_ ?_
 ·have H := L17
  rcases qd H with ⟨q20, H⟩ | ⟨q20, H⟩
  ·refine qk (cb q20) <| qG <| lp rfl (xm v_a0 rfl) <| lp rfl (xm (.int .i64 a1) rfl) ?_
   obtain ⟨c21, H⟩ := qa H
   refine G3 (.plain rfl) rfl (ltb rfl) rfl Tryz.underlying35 Tryz.sizeOf58 rfl (Rd.ext f_a0 (Ext.trans (Below.trans e8 (Wr.below h11 (Nat.le_of_eq z6))) e15)) (l := 0) (h := a1) rfl ⟨_, rfl⟩ c21 <| fun v22 h23 => lp rfl (xm (S (qc ((gt a0 a1).path))) rfl) ?_
   obtain ⟨c24, H⟩ := qa H
   refine lc rfl rfl Tryz.call135 (QT.calls (w := w14) (a0 := sub a0 0 a1) (a1 := (qc ((gt a0 a1).path))) h23 (od c24)) rfl <| fun w25 e26 => lp rfl (xa (.int .i64 (qD (sub a0 0 a1) (qc ((gt a0 a1).path)))) rfl) <| nx ?_
   obtain rfl := si H
   exact ⟨(qD (sub a0 0 a1) (qc ((gt a0 a1).path))), (ku2 (ku4 kz rfl) rfl), rfl, e26, rfl⟩
  ·refine qi (cb q20) <| qo <| qe ?_
   obtain rfl := si H
   exact ⟨0, kz, rfl, er, rfl⟩
 ·rintro s28 w27 ⟨x6_19, K29, h32, e30, y31⟩
  rw [y31] at C18
  have H := C18
  refine qe <| qj ?_
  obtain ⟨c37, H⟩ := qa H
  obtain ⟨c40, H⟩ := qa H
  obtain ⟨c45, H⟩ := qa H
  obtain ⟨c48, H⟩ := qa H
  obtain ⟨c57, H⟩ := qa H
  obtain ⟨c66, H⟩ := qa H
  refine Yp [LEq (.int .i64 a1), LEq (.bool (decide (16 ≤ a1))), LEq (.iface 4 (.bool (decide (16 ≤ a1)))), LEq (.iface 3 (.int .i64 6)), LEq (.iface 4 (.bool true)), LEq (.agg #[(.int .i64 ((gt a0 a1).kind)), (S ((gt a0 a1).path)), (S ((gt a0 a1).body)), (.int .i64 ((gt a0 a1).mode)), (.bool ((gt a0 a1).opq))]), LEq (.bool (decide (qx (gt a0 a1) = 0))), LEq (.bool (!(decide (qx (gt a0 a1) = 0)))), LEq (.iface 4 (.bool (!(decide (qx (gt a0 a1) = 0))))), LEq (.agg #[(.int .i64 ((gt a0 a1).kind)), (S ((gt a0 a1).path)), (S ((gt a0 a1).body)), (.int .i64 ((gt a0 a1).mode)), (.bool ((gt a0 a1).opq))]), LEq (.int .i64 (qx (gt a0 a1))), LEq (.iface 3 (.int .i64 (qx (gt a0 a1)))), LEq (.int .i64 a1), LEq (.bool (decide (0 < a1))), LEq (.bool (decide (0 < a1))), LIf (decide (0 < a1)) (LEq v_a0), LIf (decide (0 < a1)) (LEq (.int .i64 a1)), LIf (decide (0 < a1)) (LEq (.int .i64 (IntKind.wrap .i64 (a1 - 1)))), LIf (decide (0 < a1)) (LEq (.int .i64 (qy.e2 a1))), LIf (decide (0 < a1)) (yu (qg (gt a0 (qy.e2 a1)))), LIf (decide (0 < a1)) (LAt 1 (qg (gt a0 (qy.e2 a1)))), LIf (decide (0 < a1)) (LEq (S ((gt a0 (qy.e2 a1)).path))), LIf (decide (0 < a1)) (LEq (.pointer (some ⟨b4, 1, none⟩))), LIf (decide (0 < a1)) (LEq (S ((gt a0 a1).path))), LIf (decide (0 < a1)) (LEq (.bool (decide (((gt a0 (qy.e2 a1)).path) = ((gt a0 a1).path))))), LEq (.bool ((decide (0 < a1)) && (decide (((gt a0 (qy.e2 a1)).path) = ((gt a0 a1).path))))), LEq (.iface 4 (.bool ((decide (0 < a1)) && (decide (((gt a0 (qy.e2 a1)).path) = ((gt a0 a1).path)))))), LEq (.iface 3 (.int .i64 18)), LEq (.int .i64 a1), LEq (.bool (decide (0 < a1))), LEq (.bool (decide (0 < a1))), LIf (decide (0 < a1)) (LEq v_a0), LIf (decide (0 < a1)) (LEq (.int .i64 a1)), LIf (decide (0 < a1)) (LEq (.int .i64 (IntKind.wrap .i64 (a1 - 1)))), LIf (decide (0 < a1)) (LEq (.int .i64 (qy.e2 a1))), LIf (decide (0 < a1)) (yu (qg (gt a0 (qy.e2 a1)))), LIf (decide (0 < a1)) (LAt 1 (qg (gt a0 (qy.e2 a1)))), LIf (decide (0 < a1)) (LEq (S ((gt a0 (qy.e2 a1)).path))), LIf (decide (0 < a1)) (LEq (.pointer (some ⟨b4, 1, none⟩))), LIf (decide (0 < a1)) (LEq (S ((gt a0 a1).path))), LIf (decide (0 < a1)) (LEq (.bool (vM ((gt a0 (qy.e2 a1)).path) ((gt a0 a1).path)))), LIf (decide (0 < a1)) (LEq (.bool (!(vM ((gt a0 (qy.e2 a1)).path) ((gt a0 a1).path))))), LEq (.bool ((decide (0 < a1)) && (!(vM ((gt a0 (qy.e2 a1)).path) ((gt a0 a1).path))))), LEq (.iface 4 (.bool ((decide (0 < a1)) && (!(vM ((gt a0 (qy.e2 a1)).path) ((gt a0 a1).path)))))), LEq (.iface 3 (.int .i64 11)), LEq (.int .i64 x6_19), LEq (.bool (decide (x6_19 < 0))), LEq (.iface 4 (.bool (decide (x6_19 < 0)))), LEq (.iface 3 (.int .i64 12)), LEq (.pointer (some ⟨b4, 1, none⟩)), LEq (S ((gt a0 a1).path)), LEq (S (qc ((gt a0 a1).path))), LEq (.bool (qy.e3 a0 a1)), LEq (.bool (qy.e3 a0 a1)), LIf (qy.e3 a0 a1) (LEq v_a0), LIf (qy.e3 a0 a1) (LEq (.int .i64 x6_19)), LIf (qy.e3 a0 a1) (LEq (.int .i64 (if (x6_19 < 0 : Prop) then 0 else x6_19))), LIf (qy.e3 a0 a1) (yu (qg (gt a0 (if (x6_19 < 0 : Prop) then 0 else x6_19)))), LIf (qy.e3 a0 a1) (LAt 0 (qg (gt a0 (if (x6_19 < 0 : Prop) then 0 else x6_19)))), LIf (qy.e3 a0 a1) (LEq (.int .i64 ((gt a0 (if (x6_19 < 0 : Prop) then 0 else x6_19)).kind))), LIf (qy.e3 a0 a1) (LEq (.bool (!decide (((gt a0 (if (x6_19 < 0 : Prop) then 0 else x6_19)).kind) = 3)))), LEq (.bool ((qy.e3 a0 a1) && (!decide (((gt a0 (if (x6_19 < 0 : Prop) then 0 else x6_19)).kind) = 3)))), LEq (.iface 4 (.bool ((qy.e3 a0 a1) && (!decide (((gt a0 (if (x6_19 < 0 : Prop) then 0 else x6_19)).kind) = 3))))), LEq (.iface 3 (.int .i64 13)), LRd 1 (Vl 4 3) (qy.e1 a0 a1 x6_19), LEq (.int .i64 (vX (qy.e1 a0 a1 x6_19))), LEq (.iface 3 (.int .i64 (vX (qy.e1 a0 a1 x6_19)))), LRd 1 (Vl 4 3) (qy.e4 a0 a1 x6_19), LEq (.int .i64 (vX (qy.e4 a0 a1 x6_19))), LEq (.int .i64 (vX (qy.e4 a0 a1 x6_19)))] (by kernel_rfl) (by kernel_rfl) ⟨qm, qm, qm, qm, qm, qm, qm, qm, qm, qm, qm, qm, qm, qm, qm, lm, lm, lm, lm, (LIf.mono yu.mono), (LIf.mono LAt.mono), lm, lm, lm, lm, qm, qm, qm, qm, qm, qm, lm, lm, lm, lm, (LIf.mono yu.mono), (LIf.mono LAt.mono), lm, lm, lm, lm, lm, qm, qm, qm, qm, qm, qm, qm, qm, qm, qm, qm, qm, lm, lm, lm, (LIf.mono yu.mono), (LIf.mono LAt.mono), lm, lm, qm, qm, qm, LRd.mono, qm, qm, LRd.mono, qm, qm, trivial⟩ ⟨?_, ?_, ?_, ?_, ?_, ?_, ?_, ?_, ?_, ?_, ?_, ?_, ?_, ?_, ?_, ?_, ?_, ?_, ?_, ?_, ?_, ?_, ?_, ?_, ?_, ?_, ?_, ?_, ?_, ?_, ?_, ?_, ?_, ?_, ?_, ?_, ?_, ?_, ?_, ?_, ?_, ?_, ?_, ?_, ?_, ?_, ?_, ?_, ?_, ?_, ?_, ?_, ?_, ?_, ?_, ?_, ?_, ?_, ?_, ?_, ?_, ?_, ?_, ?_, ?_, ?_, ?_, ?_, ?_, ?_, trivial⟩ ?_
  ·exact fun s x e f d u => lp rfl (xm (.int .i64 a1) ((f 1 rfl).trans (K29 1 rfl))) <| se rfl rfl
  ·exact fun s x e f d u => lp rfl (VQ (d 0 rfl) rfl) <| se rfl rfl
  ·exact fun s x e f d u => lp rfl (vl Tryz.underlying4 rfl (d 1 rfl)) <| se rfl rfl
  ·exact fun s x e f d u => lp rfl (vl Tryz.underlying3 rfl rfl) <| se rfl rfl
  ·exact fun s x e f d u => lp rfl (vl Tryz.underlying4 rfl rfl) <| se rfl rfl
  ·exact fun s x e f d u => lp rfl (qW Tryz.isAgg58 Tryz.sizeOf58 rfl ((f 5 rfl).trans (K29 5 rfl)) (Blk.at0 (Blk.ext k12 ((e15.t e30).t e)))) <| se rfl rfl
  ·exact fun s x e f d u => lc rfl rfl Tryz.call224 (Qt.calls (w := x) (a0 := (gt a0 a1)) (GV.ext gv (Ext.trans (Ext.trans (Ext.trans (Below.trans e8 (Wr.below h11 (Nat.le_of_eq z6))) e15) e30) e))) (vc (d 5 rfl) rfl) <| fun w69 e70 => sx rfl e70 rfl
  ·exact fun s x e f d u => lp rfl (yM (d 6 rfl)) <| se rfl rfl
  ·exact fun s x e f d u => lp rfl (vl Tryz.underlying4 rfl (d 7 rfl)) <| se rfl rfl
  ·exact fun s x e f d u => lp rfl (qW Tryz.isAgg58 Tryz.sizeOf58 rfl ((f 5 rfl).trans (K29 5 rfl)) (Blk.at0 (Blk.ext k12 ((e15.t e30).t e)))) <| se rfl rfl
  ·exact fun s x e f d u => lc rfl rfl Tryz.call269 (qq.calls (w := x) (a0 := (gt a0 a1)) (GV.ext gv (Ext.trans (Ext.trans (Ext.trans (Below.trans e8 (Wr.below h11 (Nat.le_of_eq z6))) e15) e30) e))) (vc (d 9 rfl) rfl) <| fun w71 e72 => sx rfl e72 rfl
  ·exact fun s x e f d u => lp rfl (vl Tryz.underlying3 rfl (d 10 rfl)) <| se rfl rfl
  ·exact fun s x e f d u => lp rfl (xm (.int .i64 a1) ((f 1 rfl).trans (K29 1 rfl))) <| se rfl rfl
  ·exact fun s x e f d u => lp rfl (jJ (d 12 rfl) rfl) <| se rfl rfl
  ·exact fun s x e f d u => lp rfl (qf (d 13 rfl)) <| se rfl rfl
  ·exact fun s x e f d u => gT rfl rfl rfl rfl (d 14 rfl) rfl fun b t => lt t rfl rfl (xm v_a0 ((f 0 rfl).trans (K29 0 rfl))) <| sg rfl rfl b rfl
  ·exact fun s x e f d u => gT rfl rfl rfl rfl (d 14 rfl) rfl fun b t => lt t rfl rfl (xm (.int .i64 a1) ((f 1 rfl).trans (K29 1 rfl))) <| sg rfl rfl b rfl
  ·exact fun s x e f d u => gT rfl rfl rfl rfl (d 14 rfl) rfl fun b t => lt t rfl rfl (VA ((d 16 rfl).1 b) rfl) <| sg rfl rfl b rfl
  ·exact fun s x e f d u => gT rfl rfl rfl rfl (d 14 rfl) rfl fun b t => lt t rfl rfl (X_max ((d 17 rfl).1 b) rfl) <| sg rfl rfl b rfl
  ·exact fun s x e f d u => gT rfl rfl rfl rfl (d 14 rfl) rfl fun b t => q4 t rfl (ltb rfl) rfl Tryz.underlying35 Tryz.sizeOf58 ((d 15 rfl).1 b) (Rd.ext f_a0 (Ext.trans (Ext.trans (Ext.trans (Below.trans e8 (Wr.below h11 (Nat.le_of_eq z6))) e15) e30) e)) ((d 18 rfl).1 b) (vE b c40) <| fun p74 h75 => sg rfl rfl b ⟨_, rfl, h75⟩
  ·intro s x e f d u
   refine gT rfl rfl rfl rfl (d 14 rfl) rfl fun b t => ?_
   obtain ⟨p76, h77, h78⟩ := ((d 19 rfl).1 b)
   exact lt t rfl rfl (qb Tryz.underlying58 rfl Tryz.sizeOf9 rfl h77) <| sg rfl rfl b ⟨_, rfl, h78⟩
  ·intro s x e f d u
   refine gT rfl rfl rfl rfl (d 14 rfl) rfl fun b t => ?_
   obtain ⟨p79, h80, h81⟩ := ((d 20 rfl).1 b)
   exact lt t rfl rfl (vT Tryz.isAgg9 (j := 1) h81 h80 rfl) <| sg rfl rfl b rfl
  ·exact fun s x e f d u => gT rfl rfl rfl rfl (d 14 rfl) rfl fun b t => lt t rfl rfl (qb Tryz.underlying58 rfl Tryz.sizeOf9 rfl ((f 5 rfl).trans (K29 5 rfl))) <| sg rfl rfl b rfl
  ·exact fun s x e f d u => gT rfl rfl rfl rfl (d 14 rfl) rfl fun b t => lt t rfl rfl (qz Tryz.isAgg9 (Blk.ext k12 ((e15.t e30).t e)) ((d 22 rfl).1 b) rfl) <| sg rfl rfl b rfl
  ·exact fun s x e f d u => gT rfl rfl rfl rfl (d 14 rfl) rfl fun b t => lt t rfl rfl (VR ((d 21 rfl).1 b) ((d 23 rfl).1 b)) <| sg rfl rfl b rfl
  ·exact fun s x e f d u => lp rfl (Qh (d 14 rfl) rfl fun h => ((d 24 rfl).1 h)) <| se rfl rfl
  ·exact fun s x e f d u => lp rfl (vl Tryz.underlying4 rfl (d 25 rfl)) <| se rfl rfl
  ·exact fun s x e f d u => lp rfl (vl Tryz.underlying3 rfl rfl) <| se rfl rfl
  ·exact fun s x e f d u => lp rfl (xm (.int .i64 a1) ((f 1 rfl).trans (K29 1 rfl))) <| se rfl rfl
  ·exact fun s x e f d u => lp rfl (jJ (d 28 rfl) rfl) <| se rfl rfl
  ·exact fun s x e f d u => lp rfl (qf (d 29 rfl)) <| se rfl rfl
  ·exact fun s x e f d u => gT rfl rfl rfl rfl (d 30 rfl) rfl fun b t => lt t rfl rfl (xm v_a0 ((f 0 rfl).trans (K29 0 rfl))) <| sg rfl rfl b rfl
  ·exact fun s x e f d u => gT rfl rfl rfl rfl (d 30 rfl) rfl fun b t => lt t rfl rfl (xm (.int .i64 a1) ((f 1 rfl).trans (K29 1 rfl))) <| sg rfl rfl b rfl
  ·exact fun s x e f d u => gT rfl rfl rfl rfl (d 30 rfl) rfl fun b t => lt t rfl rfl (VA ((d 32 rfl).1 b) rfl) <| sg rfl rfl b rfl
  ·exact fun s x e f d u => gT rfl rfl rfl rfl (d 30 rfl) rfl fun b t => lt t rfl rfl (X_max ((d 33 rfl).1 b) rfl) <| sg rfl rfl b rfl
  ·exact fun s x e f d u => gT rfl rfl rfl rfl (d 30 rfl) rfl fun b t => q4 t rfl (ltb rfl) rfl Tryz.underlying35 Tryz.sizeOf58 ((d 31 rfl).1 b) (Rd.ext f_a0 (Ext.trans (Ext.trans (Ext.trans (Below.trans e8 (Wr.below h11 (Nat.le_of_eq z6))) e15) e30) e)) ((d 34 rfl).1 b) (vE b c40) <| fun p83 h84 => sg rfl rfl b ⟨_, rfl, h84⟩
  ·intro s x e f d u
   refine gT rfl rfl rfl rfl (d 30 rfl) rfl fun b t => ?_
   obtain ⟨p85, h86, h87⟩ := ((d 35 rfl).1 b)
   exact lt t rfl rfl (qb Tryz.underlying58 rfl Tryz.sizeOf9 rfl h86) <| sg rfl rfl b ⟨_, rfl, h87⟩
  ·intro s x e f d u
   refine gT rfl rfl rfl rfl (d 30 rfl) rfl fun b t => ?_
   obtain ⟨p88, h89, h90⟩ := ((d 36 rfl).1 b)
   exact lt t rfl rfl (vT Tryz.isAgg9 (j := 1) h90 h89 rfl) <| sg rfl rfl b rfl
  ·exact fun s x e f d u => gT rfl rfl rfl rfl (d 30 rfl) rfl fun b t => lt t rfl rfl (qb Tryz.underlying58 rfl Tryz.sizeOf9 rfl ((f 5 rfl).trans (K29 5 rfl))) <| sg rfl rfl b rfl
  ·exact fun s x e f d u => gT rfl rfl rfl rfl (d 30 rfl) rfl fun b t => lt t rfl rfl (qz Tryz.isAgg9 (Blk.ext k12 ((e15.t e30).t e)) ((d 38 rfl).1 b) rfl) <| sg rfl rfl b rfl
  ·exact fun s x e f d u => gT rfl rfl rfl rfl (d 30 rfl) rfl fun b t => vy t rfl (ltb rfl) rfl Tryz.call81 (j4.calls (w := x) (a0 := (gt a0 (qy.e2 a1)).path) (a1 := (gt a0 a1).path) (GV.ext gv (Ext.trans (Ext.trans (Ext.trans (Below.trans e8 (Wr.below h11 (Nat.le_of_eq z6))) e15) e30) e))) (vc ((d 37 rfl).1 b) (vc ((d 39 rfl).1 b) rfl)) <| fun w91 e92 => sgx rfl rfl b e92 rfl
  ·exact fun s x e f d u => gT rfl rfl rfl rfl (d 30 rfl) rfl fun b t => lt t rfl rfl (yM ((d 40 rfl).1 b)) <| sg rfl rfl b rfl
  ·exact fun s x e f d u => lp rfl (Qh (d 30 rfl) rfl fun h => ((d 41 rfl).1 h)) <| se rfl rfl
  ·exact fun s x e f d u => lp rfl (vl Tryz.underlying4 rfl (d 42 rfl)) <| se rfl rfl
  ·exact fun s x e f d u => lp rfl (vl Tryz.underlying3 rfl rfl) <| se rfl rfl
  ·exact fun s x e f d u => lp rfl (xm (.int .i64 x6_19) ((f 6 rfl).trans h32)) <| se rfl rfl
  ·exact fun s x e f d u => lp rfl (yl (d 45 rfl) rfl) <| se rfl rfl
  ·exact fun s x e f d u => lp rfl (vl Tryz.underlying4 rfl (d 46 rfl)) <| se rfl rfl
  ·exact fun s x e f d u => lp rfl (vl Tryz.underlying3 rfl rfl) <| se rfl rfl
  ·exact fun s x e f d u => lp rfl (qb Tryz.underlying58 rfl Tryz.sizeOf9 rfl ((f 5 rfl).trans (K29 5 rfl))) <| se rfl rfl
  ·exact fun s x e f d u => lp rfl (qz Tryz.isAgg9 (Blk.ext k12 ((e15.t e30).t e)) (d 49 rfl) rfl) <| se rfl rfl
  ·exact fun s x e f d u => lc rfl rfl Tryz.call143 (jN.calls (w := x) (a0 := (gt a0 a1).path) (od c45)) (vc (d 50 rfl) rfl) <| fun w94 e95 => sx rfl e95 rfl
  ·exact fun s x e f d u => lp rfl (VK (d 51 rfl) rfl) <| se rfl rfl
  ·exact fun s x e f d u => lp rfl (qf (d 52 rfl)) <| se rfl rfl
  ·exact fun s x e f d u => gT rfl rfl rfl rfl (d 53 rfl) rfl fun b t => lt t rfl rfl (xm v_a0 ((f 0 rfl).trans (K29 0 rfl))) <| sg rfl rfl b rfl
  ·exact fun s x e f d u => gT rfl rfl rfl rfl (d 53 rfl) rfl fun b t => lt t rfl rfl (xm (.int .i64 x6_19) ((f 6 rfl).trans h32)) <| sg rfl rfl b rfl
  ·exact fun s x e f d u => gT rfl rfl rfl rfl (d 53 rfl) rfl fun b t => lt t rfl rfl (X_max ((d 55 rfl).1 b) rfl) <| sg rfl rfl b rfl
  ·exact fun s x e f d u => gT rfl rfl rfl rfl (d 53 rfl) rfl fun b t => q4 t rfl (ltb rfl) rfl Tryz.underlying35 Tryz.sizeOf58 ((d 54 rfl).1 b) (Rd.ext f_a0 (Ext.trans (Ext.trans (Ext.trans (Below.trans e8 (Wr.below h11 (Nat.le_of_eq z6))) e15) e30) e)) ((d 56 rfl).1 b) (vE b c48) <| fun p97 h98 => sg rfl rfl b ⟨_, rfl, h98⟩
  ·intro s x e f d u
   refine gT rfl rfl rfl rfl (d 53 rfl) rfl fun b t => ?_
   obtain ⟨p99, h100, h101⟩ := ((d 57 rfl).1 b)
   exact lt t rfl rfl (qb Tryz.underlying58 rfl Tryz.sizeOf3 rfl h100) <| sg rfl rfl b ⟨_, rfl, h101⟩
  ·intro s x e f d u
   refine gT rfl rfl rfl rfl (d 53 rfl) rfl fun b t => ?_
   obtain ⟨p102, h103, h104⟩ := ((d 58 rfl).1 b)
   exact lt t rfl rfl (vT Tryz.isAgg3 (j := 0) h104 h103 rfl) <| sg rfl rfl b rfl
  ·exact fun s x e f d u => gT rfl rfl rfl rfl (d 53 rfl) rfl fun b t => lt t rfl rfl (j6 ((d 59 rfl).1 b) rfl) <| sg rfl rfl b rfl
  ·exact fun s x e f d u => lp rfl (Qh (d 53 rfl) rfl fun h => ((d 60 rfl).1 h)) <| se rfl rfl
  ·exact fun s x e f d u => lp rfl (vl Tryz.underlying4 rfl (d 61 rfl)) <| se rfl rfl
  ·exact fun s x e f d u => lp rfl (vl Tryz.underlying3 rfl rfl) <| se rfl rfl
  ·exact fun s x e f d u => vO (.plain rfl) rfl (ltb rfl) rfl Tryz.underlying171 Tryz.sizeOf20 Tryz.zeroValue20 rfl rfl rfl (vs := [(.iface 4 (.bool (!(decide (qx (gt a0 a1) = 0))))), (.iface 3 (.int .i64 (qx (gt a0 a1)))), (.iface 4 (.bool ((decide (0 < a1)) && (decide (((gt a0 (qy.e2 a1)).path) = ((gt a0 a1).path)))))), (.iface 3 (.int .i64 18)), (.iface 4 (.bool ((decide (0 < a1)) && (!(vM ((gt a0 (qy.e2 a1)).path) ((gt a0 a1).path)))))), (.iface 3 (.int .i64 11)), (.iface 4 (.bool (decide (x6_19 < 0)))), (.iface 3 (.int .i64 12)), (.iface 4 (.bool ((qy.e3 a0 a1) && (!decide (((gt a0 (if (x6_19 < 0 : Prop) then 0 else x6_19)).kind) = 3))))), (.iface 3 (.int .i64 13))]) (vc (d 8 rfl) (vc (d 11 rfl) (vc (d 26 rfl) (vc (d 27 rfl) (vc (d 43 rfl) (vc (d 44 rfl) (vc (d 47 rfl) (vc (d 48 rfl) (vc (d 62 rfl) (vc (d 63 rfl) rfl)))))))))) (qR rfl) <| fun b105 w106 z107 z108 e109 k110 => sx rfl e109 (Ow.rd (Ow.new (xs := [.inl (!(decide (qx (gt a0 a1) = 0))), .inr (qx (gt a0 a1)), .inl ((decide (0 < a1)) && (decide (((gt a0 (qy.e2 a1)).path) = ((gt a0 a1).path)))), .inr 18, .inl ((decide (0 < a1)) && (!(vM ((gt a0 (qy.e2 a1)).path) ((gt a0 a1).path)))), .inr 11, .inl (decide (x6_19 < 0)), .inr 12, .inl ((qy.e3 a0 a1) && (!decide (((gt a0 (if (x6_19 < 0 : Prop) then 0 else x6_19)).kind) = 3))), .inr 13]) (sz := 1) (enc := (Vl 4 3)) (base := x.heap.size) k110 (Nat.le_of_eq z107) rfl (fun _ _ => by first | rfl | exact VY _ _ _) (Nat.le_of_ble_eq_true rfl)))
  ·intro s x e f d u
   have d111 : Rd 1 (Vl 4 3) x (s 86) (qy.e1 a0 a1 x6_19) := (d 64 rfl)
   exact lc rfl rfl Tryz.call125 (yS.calls (w := x) (a0 := (qy.e1 a0 a1 x6_19)) d111 (od c57)) rfl <| fun w113 e114 => sx rfl e114 rfl
  ·exact fun s x e f d u => lp rfl (vl Tryz.underlying3 rfl (d 65 rfl)) <| se rfl rfl
  ·exact fun s x e f d u => vO (.plain rfl) rfl (ltb rfl) rfl Tryz.underlying171 Tryz.sizeOf20 Tryz.zeroValue20 rfl rfl rfl (vs := [(.iface 4 (.bool (decide (16 ≤ a1)))), (.iface 3 (.int .i64 6)), (.iface 4 (.bool true)), (.iface 3 (.int .i64 (vX (qy.e1 a0 a1 x6_19))))]) (vc (d 2 rfl) (vc (d 3 rfl) (vc (d 4 rfl) (vc (d 66 rfl) rfl)))) (qR rfl) <| fun b115 w116 z117 z118 e119 k120 => sx rfl e119 (Ow.rd (Ow.new (xs := [.inl (decide (16 ≤ a1)), .inr 6, .inl true, .inr (vX (qy.e1 a0 a1 x6_19))]) (sz := 1) (enc := (Vl 4 3)) (base := x.heap.size) k120 (Nat.le_of_eq z117) rfl (fun _ _ => by first | rfl | exact VY _ _ _) (Nat.le_of_ble_eq_true rfl)))
  ·intro s x e f d u
   have d121 : Rd 1 (Vl 4 3) x (s 89) (qy.e4 a0 a1 x6_19) := (d 67 rfl)
   exact lc rfl rfl Tryz.call125 (yS.calls (w := x) (a0 := (qy.e4 a0 a1 x6_19)) d121 (od c66)) rfl <| fun w123 e124 => sx rfl e124 rfl
  ·exact fun s x e f d u => lp rfl (qA (d 68 rfl)) <| se rfl rfl
  intro s125 w126 e127 hf128 ha129
  have K130 := Kp.ofD (kp := [(4, 5), (22, 91)]) rfl hf128
  have d131 : s125 4 = (.int .i64 (vX (qy.e4 a0 a1 x6_19))) := ha129 69 rfl
  clear ha129 hf128
  refine qe <| qn <| qt ?_
  obtain rfl := si H
  exact vh d131 (Ext.trans (Ext.trans (Ext.trans (Below.trans e8 (Wr.below h11 (Nat.le_of_eq z6))) e15) e30) e127)
theorem qy.calls {w : World} {a0 : List Rec} {a1 : Int} (gv : GV 0 w) {v_a0 : Value} (f_a0 : Rd 5 qg w v_a0 a0) (h0 : a0.length ≤ 1048576) (h1 : ∀ x ∈ a0, x.path.length ≤ 1048576) (h2 : inR a1 a0.length = true) :
  Calls Tryz.prog 228 #[v_a0, .int .i64 a1] w (Rt (RP w (.int .i64 (faultAt a0 a1)))) := qy.walk gv f_a0 (qy.eq a0 a1 h0 h1 h2)
/-! impl.fault -/
theorem yR.walk {k : Nat} {w : World} {a0 : List Rec} (gv : GV 0 w) {v_a0 : Value} (f_a0 : Rd 5 qg w v_a0 a0) {r : Int × Int} (H : yR.sh k a0 = some r) :
  Calls Tryz.prog 147 #[v_a0] w (Rt (RP w (.tuple #[.int .i64 r.1, .int .i64 r.2]))) := by
 unfold yR.sh at H
 refine qh Tryz.func147 rfl (Nat.le_of_ble_eq_true rfl) Tryz.ntmps147 rfl ?_
 refine wr <| lp rfl (xa (.int .i64 0) rfl) <| lp rfl (xa (.int .i64 0) rfl) <| nx <| qj <| wr <| lp rfl (xm v_a0 rfl) <| lp rfl (qO Tryz.underlying35 rfl f_a0) <| lp rfl (xm (.int .i64 0) rfl) <| nx ?_
 obtain ⟨z2, L3, C4⟩ := bind_some H
 clear H
 refine  vD (fun s0 sQ wQ => Kp [(2, 6), (8, 19)] s0 sQ ∧ Ext w wQ ∧ z2 = .inr ()) ?_ ?_
 ·refine qB <| vo (fun s0 kk sQ wQ => ∃ (x8_1 : Int), Kp [(2, 6), (8, 19)] s0 sQ ∧ sQ 8 = .int .i64 x8_1 ∧ Ext w wQ ∧ qp (yR.b1 a0) kk x8_1 = some z2) k ⟨0, kz, rfl, er, L3⟩ ?_
  rintro k9 s10 w11 ⟨x8_1, K12, h15, e13, L14⟩
  cases k9 with
  | zero => exact absurd L14 (by simp [qp])
  | succ k9 =>
   obtain ⟨t16, H, S17⟩ := qK L14
   clear L14
   unfold yR.b1 at H
   refine wr <| lp rfl (yl h15 (K12 7 rfl)) <| nx <| qj ?_
   rcases qd H with ⟨q18, H⟩ | ⟨q18, H⟩
   ·refine qk (cb q18) <| qo <| qe <| qj <| qB <| wr <| lp rfl (qf h15) <| lp rfl (xa (.int .i64 x8_1) rfl) <| nx <| wr <| lp rfl (xm v_a0 (K12 0 rfl)) <| lp rfl (xm (.int .i64 x8_1) rfl) ?_
    obtain ⟨c19, H⟩ := qa H
    obtain ⟨c20, H⟩ := qa H
    obtain ⟨c21, H⟩ := qa H
    refine lc rfl rfl Tryz.call228 (qy.calls (w := w11) (a0 := a0) (a1 := x8_1) (GV.ext gv e13) (Rd.ext f_a0 e13) (od c19) (od c20) (od c21)) rfl <| fun w22 e23 => lp rfl (xa (.int .i64 (faultAt a0 x8_1)) rfl) <| nx <| wr <| lp rfl (xm (.int .i64 (faultAt a0 x8_1)) rfl) <| lp rfl (j6 rfl rfl) <| nx ?_
    rcases qd H with ⟨q24, H⟩ | ⟨q24, H⟩
    ·refine qk (cb q24) <| wr <| lp rfl (xm (.int .i64 x8_1) rfl) <| lp rfl (xm (.int .i64 (faultAt a0 x8_1)) rfl) <| lp rfl (xa (.int .i64 x8_1) rfl) <| lp rfl (xa (.int .i64 (faultAt a0 x8_1)) rfl) <| nx <| qn <| vv <| qw <| qw <| vv <| qw <| qw <| qt ?_
     obtain rfl := si H
     obtain rfl := si S17
     have H := C4
     obtain rfl := si H
     exact Xh rfl rfl (e13.t e23)
    ·refine qi (cb q24) <| qo <| vk <| qe <| qG <| lp rfl (vi h15 rfl) <| lp rfl (xm (.int .i64 (IntKind.wrap .i64 (x8_1 + 1))) rfl) <| nx ?_
     obtain rfl := si H
     exact ⟨_, Nat.lt_succ_self _, IntKind.wrap .i64 (x8_1 + 1), (ku3 (ku8 K12 rfl) rfl), rfl, (e13.t e23), S17⟩
   ·refine qi (cb q18) <| vH <| qY <| qY <| yF <| qe ?_
    obtain rfl := si H
    obtain rfl := si S17
    exact ⟨(ku1 K12 rfl), e13, rfl⟩
 ·rintro s6 w5 ⟨K7, e8, y25⟩
  rw [y25] at C4
  have H := C4
  replace H : _ = some _ := H
  refine qe <| wr <| lp rfl (xa (.int .i64 0) rfl) <| lp rfl (xa (.int .i64 0) rfl) <| nx <| qn <| qt ?_
  obtain rfl := si H
  exact Xh rfl rfl e8
theorem yR.calls {w : World} {a0 : List Rec} (gv : GV 0 w) {v_a0 : Value} (f_a0 : Rd 5 qg w v_a0 a0) (h0 : a0.length ≤ 1048576) (h1 : ∀ x ∈ a0, x.path.length ≤ 1048576) :
  Calls Tryz.prog 147 #[v_a0] w (Rt (RP w (.tuple #[.int .i64 ((qv a0).1), .int .i64 ((qv a0).2)]))) := by
 obtain ⟨k, h⟩ := yR.eq a0 h0 h1
 exact yR.walk gv f_a0 h
/-! impl.LayerFault -/
theorem y6.walk {w : World} {a0 : List Rec} (gv : GV 0 w) {v_a0 : Value} (f_a0 : Rd 5 qg w v_a0 a0) {r : Int × Int} (H : y6.sh a0 = some r) :
  Calls Tryz.prog 48 #[v_a0] w (Rt (RP w (.tuple #[.int .i64 r.1, .int .i64 r.2]))) := by
 unfold y6.sh at H
 refine qh Tryz.func48 rfl (Nat.le_of_ble_eq_true rfl) Tryz.ntmps48 rfl ?_
 refine wr <| lp rfl (xa (.int .i64 0) rfl) <| lp rfl (xa (.int .i64 0) rfl) <| nx <| qj <| wr <| lp rfl (xm v_a0 rfl) <| lc rfl rfl Tryz.call126 (yO.calls (w := w) (a0 := a0) f_a0) rfl <| fun w1 e2 => nx ?_
 rcases qd H with ⟨q3, H⟩ | ⟨q3, H⟩
 ·refine qk (cb q3) <| wr <| lp rfl (xa (.int .i64 0) rfl) <| lp rfl (xa (.int .i64 2) rfl) <| nx <| qn <| qw <| qt ?_
  obtain rfl := si H
  exact Xh rfl rfl e2
 ·refine qi (cb q3) <| qo <| qe <| wr <| lp rfl (xm v_a0 rfl) ?_
  obtain ⟨c4, H⟩ := qa H
  obtain ⟨c5, H⟩ := qa H
  refine lc rfl rfl Tryz.call147 (yR.calls (w := w1) (a0 := a0) (GV.ext gv e2) (Rd.ext f_a0 e2) (od c4) (od c5)) rfl <| fun w6 e7 => lp rfl (vq (v := (.int .i64 ((qv a0).1))) rfl rfl) <| lp rfl (vq (v := (.int .i64 ((qv a0).2))) rfl rfl) <| lp rfl (xa (.int .i64 ((qv a0).1)) rfl) <| lp rfl (xa (.int .i64 ((qv a0).2)) rfl) <| nx <| qn <| qt ?_
  obtain rfl := si H
  exact Xh rfl rfl (e2.t e7)
theorem y6.calls {w : World} {a0 : List Rec} (gv : GV 0 w) {v_a0 : Value} (f_a0 : Rd 5 qg w v_a0 a0) (h0 : a0.length ≤ 1048576) (h1 : ∀ x ∈ a0, x.path.length ≤ 1048576) :
  Calls Tryz.prog 48 #[v_a0] w (Rt (RP w (.tuple #[.int .i64 ((qU a0).1), .int .i64 ((qU a0).2)]))) := y6.walk gv f_a0 (y6.eq a0 h0 h1)
/-! spec.l03OK -/
theorem jU.calls {w : World} {a0 : List Rec} {v_a0 : Value} (f_a0 : Rd 5 qg w v_a0 a0) (h0 : a0.length ≤ 1048576) (h1 : ∀ x ∈ a0, x.path.length ≤ 1048576) :
  Calls Tryz.prog 120 #[v_a0] w (Rt (RP w (.bool (decide ((qv a0).2 = 0))))) := by
 have H := jU.eq a0 h0 h1
 generalize (decide ((qv a0).2 = 0)) = r at H ⊢
 unfold jU.sh at H
 refine qh Tryz.func120 rfl (Nat.le_of_ble_eq_true rfl) Tryz.ntmps120 rfl ?_
 refine wr <| lp rfl (xa (.bool false) rfl) <| nx <| wr <| lp rfl (xm v_a0 rfl) ?_
 obtain ⟨c1, H⟩ := qa H
 obtain ⟨c2, H⟩ := qa H
 refine lc rfl rfl Tryz.call154 (vP.calls (w := w) (a0 := a0) f_a0 (od c1) (od c2)) rfl <| fun w3 e4 => lp rfl (qf rfl) <| lp rfl (vq (v := (.int .i64 ((qv a0).1))) rfl rfl) <| lp rfl (vq (v := (.int .i64 ((qv a0).2))) rfl rfl) <| lp rfl (xa (.int .i64 ((qv a0).1)) rfl) <| lp rfl (xa (.int .i64 ((qv a0).2)) rfl) <| nx <| wr <| lp rfl (xm (.int .i64 ((qv a0).2)) rfl) <| lp rfl (yn rfl rfl) <| lp rfl (xa (.bool (decide (((qv a0).2) = 0))) rfl) <| nx <| qn <| qt ?_
 obtain rfl := si H
 exact vh rfl e4
/-! impl.LayerOK -/
theorem jv.calls {w : World} {a0 : List Rec} (gv : GV 0 w) {v_a0 : Value} (f_a0 : Rd 5 qg w v_a0 a0) (h0 : a0.length ≤ 1048576) (h1 : ∀ x ∈ a0, x.path.length ≤ 1048576) :
  Calls Tryz.prog 50 #[v_a0] w (Rt (RP w (.bool (decide ((qU a0).2 = 0))))) := by
 have H := jv.eq a0 h0 h1
 generalize (decide ((qU a0).2 = 0)) = r at H ⊢
 unfold jv.sh at H
 refine qh Tryz.func50 rfl (Nat.le_of_ble_eq_true rfl) Tryz.ntmps50 rfl ?_
 refine wr <| lp rfl (xa (.bool false) rfl) <| nx <| wr <| lp rfl (xm v_a0 rfl) ?_
 obtain ⟨c1, H⟩ := qa H
 obtain ⟨c2, H⟩ := qa H
 refine lc rfl rfl Tryz.call48 (y6.calls (w := w) (a0 := a0) gv f_a0 (od c1) (od c2)) rfl <| fun w3 e4 => lp rfl (qf rfl) <| lp rfl (vq (v := (.int .i64 ((qU a0).1))) rfl rfl) <| lp rfl (vq (v := (.int .i64 ((qU a0).2))) rfl rfl) <| lp rfl (xa (.int .i64 ((qU a0).1)) rfl) <| lp rfl (xa (.int .i64 ((qU a0).2)) rfl) <| nx <| wr <| lp rfl (xm (.int .i64 ((qU a0).2)) rfl) <| lp rfl (yn rfl rfl) <| lp rfl (xa (.bool (decide (((qU a0).2) = 0))) rfl) <| nx <| qn <| qt ?_
 obtain rfl := si H
 exact vh rfl e4
/-! slices.Equal(()impl.Record,impl.Record) -/
theorem yE.calls {w : World} {a0 : List Rec} {a1 : List Rec} {v_a0 : Value} (f_a0 : Rd 5 qg w v_a0 a0) {v_a1 : Value} (f_a1 : Rd 5 qg w v_a1 a1) (h0 : a0.length ≤ 1048576) :
  Calls Tryz.prog 131 #[v_a0, v_a1] w (Rt (RP w (.bool (decide (a0 = a1))))) := by
 obtain ⟨k, H⟩ := yE.eq a0 a1 h0
 generalize (decide (a0 = a1)) = r at H ⊢
 unfold yE.sh at H
 refine qh Tryz.func131 rfl (Nat.le_of_ble_eq_true rfl) Tryz.ntmps131 rfl ?_
 refine wr <| lp rfl (xa (.bool false) rfl) <| nx <| qj <| wr <| lp rfl (xm v_a0 rfl) <| lp rfl (qO Tryz.underlying35 rfl f_a0) <| lp rfl (xm v_a1 rfl) <| lp rfl (qO Tryz.underlying35 rfl f_a1) <| lp rfl (j6 rfl rfl) <| nx ?_
 rcases qd H with ⟨q1, H⟩ | ⟨q1, H⟩
 ·refine qk (cb q1) <| wr <| lp rfl (xa (.bool false) rfl) <| nx <| qn <| qw <| qt ?_
  obtain rfl := si H
  exact vh rfl er
 ·refine qi (cb q1) <| qo <| qe <| qj <| wr <| lp rfl (xm v_a0 rfl) <| lp rfl (qO Tryz.underlying35 rfl f_a0) <| lp rfl (xm (.int .i64 0) rfl) <| nx ?_
  obtain ⟨z3, L4, C5⟩ := bind_some H
  clear H
  refine  vD (fun s0 sQ wQ => Kp [(4, 6), (13, 26)] s0 sQ ∧ Ext w wQ ∧ z3 = .inr ()) ?_ ?_
  ·refine qB <| vo (fun s0 kk sQ wQ => ∃ (x13_2 : Int), Kp [(4, 6), (13, 26)] s0 sQ ∧ sQ 13 = .int .i64 x13_2 ∧ Ext w wQ ∧ qp (yE.b1 a0 a1) kk x13_2 = some z3) k ⟨0, kz, rfl, er, L4⟩ ?_
   rintro k10 s11 w12 ⟨x13_2, K13, h16, e14, L15⟩
   cases k10 with
   | zero => exact absurd L15 (by simp [qp])
   | succ k10 =>
    obtain ⟨t17, H, S18⟩ := qK L15
    clear L15
    unfold yE.b1 at H
    refine wr <| lp rfl (yl h16 (K13 12 rfl)) <| nx <| qj ?_
    rcases qd H with ⟨q19, H⟩ | ⟨q19, H⟩
    ·refine qk (cb q19) <| qo <| qe <| qj <| qB <| wr <| lp rfl (qf h16) <| lp rfl (xa (.int .i64 x13_2) rfl) <| nx <| qj ?_
     obtain ⟨c20, H⟩ := qa H
     obtain ⟨c23, H⟩ := qa H
     refine Yp [LEq v_a0, LEq (.int .i64 x13_2), yu (qg (gt a0 x13_2)), LEq (.agg (qg (gt a0 x13_2)).toArray), LEq v_a1, LEq (.int .i64 x13_2), yu (qg (gt a1 x13_2)), LEq (.agg (qg (gt a1 x13_2)).toArray), LEq (.bool (!decide ((gt a0 x13_2) = (gt a1 x13_2))))] (by kernel_rfl) (by kernel_rfl) ⟨qm, qm, yu.mono, qm, qm, qm, yu.mono, qm, qm, trivial⟩ ⟨?_, ?_, ?_, ?_, ?_, ?_, ?_, ?_, ?_, trivial⟩ ?_
     ·exact fun s x e f d u => lp rfl (xm v_a0 ((f 0 rfl).trans (K13 0 rfl))) <| se rfl rfl
     ·exact fun s x e f d u => lp rfl (xm (.int .i64 x13_2) (f 5 rfl)) <| se rfl rfl
     ·exact fun s x e f d u => q4 (.plain rfl) rfl (ltb rfl) rfl Tryz.underlying35 Tryz.sizeOf58 (d 0 rfl) (Rd.ext f_a0 (e14.t e)) (d 1 rfl) c20 <| fun p27 h28 => se rfl ⟨_, rfl, h28⟩
     ·intro s x e f d u
      obtain ⟨p29, h30, h31⟩ := (d 2 rfl)
      exact lp rfl (qW Tryz.isAgg58 Tryz.sizeOf58 rfl h30 h31) <| se rfl rfl
     ·exact fun s x e f d u => lp rfl (xm v_a1 ((f 1 rfl).trans (K13 1 rfl))) <| se rfl rfl
     ·exact fun s x e f d u => lp rfl (xm (.int .i64 x13_2) (f 5 rfl)) <| se rfl rfl
     ·exact fun s x e f d u => q4 (.plain rfl) rfl (ltb rfl) rfl Tryz.underlying35 Tryz.sizeOf58 (d 4 rfl) (Rd.ext f_a1 (e14.t e)) (d 5 rfl) c23 <| fun p33 h34 => se rfl ⟨_, rfl, h34⟩
     ·intro s x e f d u
      obtain ⟨p35, h36, h37⟩ := (d 6 rfl)
      exact lp rfl (qW Tryz.isAgg58 Tryz.sizeOf58 rfl h36 h37) <| se rfl rfl
     ·exact fun s x e f d u => lp rfl (X_neA Eqg.t58 (Eqs.t58 (gt a0 x13_2) (gt a1 x13_2)) (d 3 rfl) (d 7 rfl)) <| se rfl rfl
     intro s38 w39 e40 hf41 ha42
     have K43 := Kp.ofD (kp := [(16, 25)]) rfl hf41
     have d44 : s38 24 = (.bool (!decide ((gt a0 x13_2) = (gt a1 x13_2)))) := ha42 8 rfl
     clear ha42 hf41
     refine qe ?_
     rcases qd H with ⟨q45, H⟩ | ⟨q45, H⟩
     ·refine qk (d44.trans (cb q45)) <| wr <| lp rfl (xa (.bool false) rfl) <| nx <| qn <| vv <| qw <| qw <| vv <| qw <| qw <| qt ?_
      obtain rfl := si H
      obtain rfl := si S18
      have H := C5
      obtain rfl := si H
      exact vh rfl (e14.t e40)
     ·refine qi (d44.trans (cb q45)) <| qo <| vk <| qe <| qG <| lp rfl (vi ((K43 13 rfl).trans h16) rfl) <| lp rfl (xm (.int .i64 (IntKind.wrap .i64 (x13_2 + 1))) rfl) <| nx ?_
      obtain rfl := si H
      exact ⟨_, Nat.lt_succ_self _, IntKind.wrap .i64 (x13_2 + 1), (ku2 (Kp.cut (ku3 K13 rfl) K43 rfl) rfl), rfl, (e14.t e40), S18⟩
    ·refine qi (cb q19) <| vH <| qY <| qY <| yF <| qe ?_
     obtain rfl := si H
     obtain rfl := si S18
     exact ⟨(ku1 K13 rfl), e14, rfl⟩
  ·rintro s7 w6 ⟨K8, e9, y46⟩
   rw [y46] at C5
   have H := C5
   replace H : _ = some _ := H
   refine qe <| wr <| lp rfl (xa (.bool true) rfl) <| nx <| qn <| qt ?_
   obtain rfl := si H
   exact vh rfl e9
/-! spec.l04Record -/
theorem QD.calls {w : World} {a0 : Nd} :
  Calls Tryz.prog 159 #[.agg (qr a0).toArray] w (Rt (RP w (.agg (qg (QQ a0)).toArray))) := by
 have H := QD.eq a0
 generalize (QQ a0) = r at H ⊢
 unfold QD.sh at H
 refine VB Tryz.func159 rfl (Nat.le_of_ble_eq_true rfl) Tryz.ntmps159 ?_
 refine wr <| j0 (.plain rfl) rfl (ltb rfl) rfl rfl <| fun b1 w2 z3 z4 e5 k6 => QA (.plain rfl) rfl (ltb rfl) rfl Tryz.zeroValue58 <| fun b7 w8 z9 z10 e11 k12 => nx <| wr <| lp rfl (qb Tryz.underlying60 rfl Tryz.sizeOf3 rfl rfl) <| lp rfl (qz Tryz.isAgg3 (Blk.ext k6 e11) rfl rfl) <| lp rfl (qb Tryz.underlying60 rfl Tryz.sizeOf9 rfl rfl) <| lp rfl (qz Tryz.isAgg9 (Blk.ext k6 e11) rfl rfl) <| lp rfl (qb Tryz.underlying60 rfl Tryz.sizeOf9 rfl rfl) <| lp rfl (qz Tryz.isAgg9 (Blk.ext k6 e11) rfl rfl) <| lp rfl (qb Tryz.underlying60 rfl Tryz.sizeOf3 rfl rfl) <| lp rfl (qz Tryz.isAgg3 (Blk.ext k6 e11) rfl rfl) <| lp rfl (Q0 (vs := [(0, (.int .i64 a0.kind)), (1, (S a0.path)), (2, (S a0.body)), (3, (.int .i64 a0.mode))]) (pl := #[(0, 1), (1, 1), (2, 1), (3, 1), (4, 1)]) Tryz.underlying58 Tryz.zeroValue58 rfl (fun _ => by kernel_rfl) rfl rfl rfl) <| ji (.plain rfl) rfl rfl Tryz.sizeOf58 rfl rfl rfl rfl rfl k12 <| fun w13 h14 k15 => nx <| qn <| YC ?_
 obtain rfl := si H
 exact finC1 rfl rfl k15 Tryz.isAgg58 Tryz.sizeOf58 rfl (e5.t (Below.trans e11 (Wr.below h14 (Nat.le_of_eq z9))))
/-! spec.l04At -/
theorem jo.calls {w : World} {a0 : List Nd} {a1 : List UInt8} {v_a0 : Value} (f_a0 : Rd 4 qr w v_a0 a0) (h0 : a0.length ≤ 1048576) :
  Calls Tryz.prog 162 #[v_a0, S a1] w (Rt (RP w (.int .i64 (vd a0 a1)))) := by
 obtain ⟨k, H⟩ := jo.eq a0 a1 h0
 generalize (vd a0 a1) = r at H ⊢
 unfold jo.sh at H
 refine qh Tryz.func162 rfl (Nat.le_of_ble_eq_true rfl) Tryz.ntmps162 rfl ?_
 refine wr <| lp rfl (xa (.int .i64 0) rfl) <| nx <| qj <| wr <| lp rfl (xa (.int .i64 0) rfl) <| nx ?_
 obtain ⟨z2, L3, C4⟩ := bind_some H
 clear H
 refine  vD (fun s0 sQ wQ => Kp [(4, 20)] s0 sQ ∧ Ext w wQ ∧ z2 = .inr ()) ?_ ?_
 ·refine qB <| vo (fun s0 kk sQ wQ => ∃ (x5_1 : Int), Kp [(4, 20)] s0 sQ ∧ sQ 5 = .int .i64 x5_1 ∧ Ext w wQ ∧ qp (jo.b1 a0 a1) kk x5_1 = some z2) k ⟨0, kz, rfl, er, L3⟩ ?_
  rintro k9 s10 w11 ⟨x5_1, K12, h15, e13, L14⟩
  cases k9 with
  | zero => exact absurd L14 (by simp [qp])
  | succ k9 =>
   obtain ⟨t16, H, S17⟩ := qK L14
   clear L14
   unfold jo.b1 at H
   refine qj <| wr <| lp rfl (qf h15) <| lp rfl (xm v_a0 (K12 0 rfl)) <| lp rfl (qO Tryz.underlying29 rfl (Rd.ext f_a0 e13)) <| lp rfl (yl rfl rfl) <| nx ?_
   rcases qd H with ⟨q18, H⟩ | ⟨q18, H⟩
   ·refine qk (cb q18) <| qo <| qe <| qj <| qB <| wr <| lp rfl (xm v_a0 (K12 0 rfl)) <| lp rfl (qf h15) ?_
    obtain ⟨c19, H⟩ := qa H
    refine q4 (.plain rfl) rfl (ltb rfl) rfl Tryz.underlying29 Tryz.sizeOf60 rfl (Rd.ext f_a0 e13) rfl c19 <| fun p20 h21 => lp rfl (qb Tryz.underlying60 rfl Tryz.sizeOf9 rfl rfl) <| lp rfl (vT Tryz.isAgg9 (j := 1) h21 rfl rfl) <| lp rfl (xm (S a1) (K12 1 rfl)) <| lp rfl (VR rfl rfl) <| nx ?_
    rcases qd H with ⟨q22, H⟩ | ⟨q22, H⟩
    ·refine qk (cb q22) <| wr <| lp rfl (qf h15) <| lp rfl (xa (.int .i64 x5_1) rfl) <| nx <| qn <| vv <| qw <| qw <| vv <| qw <| qw <| qt ?_
     obtain rfl := si H
     obtain rfl := si S17
     have H := C4
     obtain rfl := si H
     exact vh rfl e13
    ·refine qi (cb q22) <| qo <| vk <| qe <| qG <| lp rfl (qf h15) <| lp rfl (vi rfl rfl) <| lp rfl (xa (.int .i64 (IntKind.wrap .i64 (x5_1 + 1))) rfl) <| nx ?_
     obtain rfl := si H
     exact ⟨_, Nat.lt_succ_self _, IntKind.wrap .i64 (x5_1 + 1), (ku2 (ku4 (ku8 K12 rfl) rfl) rfl), rfl, e13, S17⟩
   ·refine qi (cb q18) <| vH <| qY <| qY <| yF <| qe ?_
    obtain rfl := si H
    obtain rfl := si S17
    exact ⟨(ku4 K12 rfl), e13, rfl⟩
 ·rintro s6 w5 ⟨K7, e8, y23⟩
  rw [y23] at C4
  have H := C4
  replace H : _ = some _ := H
  refine qe <| wr <| lp rfl (xa (.int .i64 (-1)) rfl) <| nx <| qn <| qt ?_
  obtain rfl := si H
  exact vh rfl e8
/-! spec.l04OK -/
abbrev qN.e1 (a0 : List Nd) (x3_2 : Int) := ((decide (((gt a0 x3_2).kind) = 4)) || (!(decide (qx (QQ (gt a0 x3_2)) = 0))))
abbrev qN.e2 (a0 : List Nd) (x3_2 : Int) := ((!(qN.e1 a0 x3_2)) && (decide (0 < x3_2)))
abbrev qN.e3 (a0 : List Nd) (x3_2 : Int) := (vw (cut 47 ((gt a0 (IntKind.wrap .i64 (x3_2 - 1))).path)) (cut 47 ((gt a0 x3_2).path)))
theorem qN.walk {k : Nat} {w : World} {a0 : List Nd} {v_a0 : Value} (f_a0 : Rd 4 qr w v_a0 a0) {r : Bool} (H : qN.sh k a0 = some r) :
  Calls Tryz.prog 130 #[v_a0] w (Rt (RP w (.bool r))) := by
 unfold qN.sh at H
 refine qh Tryz.func130 rfl (Nat.le_of_ble_eq_true rfl) Tryz.ntmps130 rfl ?_
 refine wr <| lp rfl (xa (.bool false) rfl) <| nx <| qj <| wr <| lp rfl (xm v_a0 rfl) <| lp rfl (qO Tryz.underlying29 rfl f_a0) <| lp rfl (jJ rfl rfl) <| nx ?_
 rcases qd H with ⟨q1, H⟩ | ⟨q1, H⟩
 ·refine qk (cb q1) <| wr <| lp rfl (xa (.bool false) rfl) <| nx <| qn <| qw <| qt ?_
  obtain rfl := si H
  exact vh rfl er
 ·refine qi (cb q1) <| qo <| qe <| qj <| wr <| lp rfl (xa (.int .i64 0) rfl) <| nx ?_
  obtain ⟨z3, L4, C5⟩ := bind_some H
  clear H
  refine  vD (fun s0 sQ wQ => Kp [(2, 6), (9, 72)] s0 sQ ∧ Ext w wQ ∧ z3 = .inr ()) ?_ ?_
  ·refine qB <| vo (fun s0 kk sQ wQ => ∃ (x3_2 : Int), Kp [(2, 6), (9, 72)] s0 sQ ∧ sQ 3 = .int .i64 x3_2 ∧ Ext w wQ ∧ qp (qN.b1 a0) kk x3_2 = some z3) k ⟨0, kz, rfl, er, L4⟩ ?_
   rintro k10 s11 w12 ⟨x3_2, K13, h16, e14, L15⟩
   cases k10 with
   | zero => exact absurd L15 (by simp [qp])
   | succ k10 =>
    obtain ⟨t17, H, S18⟩ := qK L15
    clear L15
    unfold qN.b1 at H
    refine qj <| wr <| lp rfl (qf h16) <| lp rfl (xm v_a0 (K13 0 rfl)) <| lp rfl (qO Tryz.underlying29 rfl (Rd.ext f_a0 e14)) <| lp rfl (yl rfl rfl) <| nx ?_
    rcases qd H with ⟨q19, H⟩ | ⟨q19, H⟩
    ·refine qk (cb q19) <| qo <| qe <| qj <| qB <| qj <| qj ?_
     obtain ⟨c20, H⟩ := qa H
     obtain ⟨c23, H⟩ := qa H
     obtain ⟨c30, H⟩ := qa H
     obtain ⟨c33, H⟩ := qa H
     obtain ⟨c36, H⟩ := qa H
     obtain ⟨c37, H⟩ := qa H
     refine Yp [LEq v_a0, LEq (.int .i64 x3_2), yu (qr (gt a0 x3_2)), LAt 0 (qr (gt a0 x3_2)), LEq (.int .i64 ((gt a0 x3_2).kind)), LEq (.bool (decide (((gt a0 x3_2).kind) = 4))), LEq (.bool (decide (((gt a0 x3_2).kind) = 4))), LIf (!(decide (((gt a0 x3_2).kind) = 4))) (LEq v_a0), LIf (!(decide (((gt a0 x3_2).kind) = 4))) (LEq (.int .i64 x3_2)), LIf (!(decide (((gt a0 x3_2).kind) = 4))) (yu (qr (gt a0 x3_2))), LIf (!(decide (((gt a0 x3_2).kind) = 4))) (LEq (.agg (qr (gt a0 x3_2)).toArray)), LIf (!(decide (((gt a0 x3_2).kind) = 4))) (LEq (.agg (qg (QQ (gt a0 x3_2))).toArray)), LIf (!(decide (((gt a0 x3_2).kind) = 4))) (LEq (.bool (decide (qx (QQ (gt a0 x3_2)) = 0)))), LIf (!(decide (((gt a0 x3_2).kind) = 4))) (LEq (.bool (!(decide (qx (QQ (gt a0 x3_2)) = 0))))), LEq (.bool (qN.e1 a0 x3_2)), LEq (.bool (qN.e1 a0 x3_2)), LIf (!(qN.e1 a0 x3_2)) (LEq (.int .i64 x3_2)), LIf (!(qN.e1 a0 x3_2)) (LEq (.bool (decide (0 < x3_2)))), LIf (!(qN.e1 a0 x3_2)) (LEq (.bool (decide (0 < x3_2)))), LIf (qN.e2 a0 x3_2) (LEq v_a0), LIf (qN.e2 a0 x3_2) (LEq (.int .i64 x3_2)), LIf (qN.e2 a0 x3_2) (LEq (.int .i64 (IntKind.wrap .i64 (x3_2 - 1)))), LIf (qN.e2 a0 x3_2) (yu (qr (gt a0 (IntKind.wrap .i64 (x3_2 - 1))))), LIf (qN.e2 a0 x3_2) (LAt 1 (qr (gt a0 (IntKind.wrap .i64 (x3_2 - 1))))), LIf (qN.e2 a0 x3_2) (LEq (S ((gt a0 (IntKind.wrap .i64 (x3_2 - 1))).path))), LIf (qN.e2 a0 x3_2) (LEq v_a0), LIf (qN.e2 a0 x3_2) (LEq (.int .i64 x3_2)), LIf (qN.e2 a0 x3_2) (yu (qr (gt a0 x3_2))), LIf (qN.e2 a0 x3_2) (LAt 1 (qr (gt a0 x3_2))), LIf (qN.e2 a0 x3_2) (LEq (S ((gt a0 x3_2).path))), LIf (qN.e2 a0 x3_2) (LEq (.bool (qN.e3 a0 x3_2))), LIf (qN.e2 a0 x3_2) (LEq (.bool (!(qN.e3 a0 x3_2)))), LIf (!(qN.e1 a0 x3_2)) (LEq (.bool ((decide (0 < x3_2)) && (!(qN.e3 a0 x3_2))))), LEq (.bool ((qN.e1 a0 x3_2) || ((decide (0 < x3_2)) && (!(qN.e3 a0 x3_2)))))] (by kernel_rfl) (by kernel_rfl) ⟨qm, qm, yu.mono, LAt.mono, qm, qm, qm, lm, lm, (LIf.mono yu.mono), lm, lm, lm, lm, qm, qm, lm, lm, lm, lm, lm, lm, (LIf.mono yu.mono), (LIf.mono LAt.mono), lm, lm, lm, (LIf.mono yu.mono), (LIf.mono LAt.mono), lm, lm, lm, lm, qm, trivial⟩ ⟨?_, ?_, ?_, ?_, ?_, ?_, ?_, ?_, ?_, ?_, ?_, ?_, ?_, ?_, ?_, ?_, ?_, ?_, ?_, ?_, ?_, ?_, ?_, ?_, ?_, ?_, ?_, ?_, ?_, ?_, ?_, ?_, ?_, ?_, trivial⟩ ?_
     ·exact fun s x e f d u => lp rfl (xm v_a0 ((f 0 rfl).trans (K13 0 rfl))) <| se rfl rfl
     ·exact fun s x e f d u => lp rfl (xm (.int .i64 x3_2) ((f 3 rfl).trans h16)) <| se rfl rfl
     ·exact fun s x e f d u => q4 (.plain rfl) rfl (ltb rfl) rfl Tryz.underlying29 Tryz.sizeOf60 (d 0 rfl) (Rd.ext f_a0 (e14.t e)) (d 1 rfl) c20 <| fun p41 h42 => se rfl ⟨_, rfl, h42⟩
     ·intro s x e f d u
      obtain ⟨p43, h44, h45⟩ := (d 2 rfl)
      exact lp rfl (qb Tryz.underlying60 rfl Tryz.sizeOf3 rfl h44) <| se rfl ⟨_, rfl, h45⟩
     ·intro s x e f d u
      obtain ⟨p46, h47, h48⟩ := (d 3 rfl)
      exact lp rfl (vT Tryz.isAgg3 (j := 0) h48 h47 rfl) <| se rfl rfl
     ·exact fun s x e f d u => lp rfl (yn (d 4 rfl) rfl) <| se rfl rfl
     ·exact fun s x e f d u => lp rfl (qf (d 5 rfl)) <| se rfl rfl
     ·exact fun s x e f d u => gF rfl rfl rfl rfl (d 6 rfl) rfl fun b t => lt t rfl rfl (xm v_a0 ((f 0 rfl).trans (K13 0 rfl))) <| sg rfl rfl b rfl
     ·exact fun s x e f d u => gF rfl rfl rfl rfl (d 6 rfl) rfl fun b t => lt t rfl rfl (xm (.int .i64 x3_2) ((f 3 rfl).trans h16)) <| sg rfl rfl b rfl
     ·exact fun s x e f d u => gF rfl rfl rfl rfl (d 6 rfl) rfl fun b t => q4 t rfl (ltb rfl) rfl Tryz.underlying29 Tryz.sizeOf60 ((d 7 rfl).1 (qC (qX b))) (Rd.ext f_a0 (e14.t e)) ((d 8 rfl).1 (qC (qX b))) (vE b c23) <| fun p50 h51 => sg rfl rfl b ⟨_, rfl, h51⟩
     ·intro s x e f d u
      refine gF rfl rfl rfl rfl (d 6 rfl) rfl fun b t => ?_
      obtain ⟨p52, h53, h54⟩ := ((d 9 rfl).1 (qC (qX b)))
      exact lt t rfl rfl (qW Tryz.isAgg60 Tryz.sizeOf60 rfl h53 h54) <| sg rfl rfl b rfl
     ·exact fun s x e f d u => gF rfl rfl rfl rfl (d 6 rfl) rfl fun b t => vy t rfl (ltb rfl) rfl Tryz.call159 (QD.calls (w := x) (a0 := gt a0 x3_2)) (vc ((d 10 rfl).1 (qC (qX b))) rfl) <| fun w55 e56 => sgx rfl rfl b e56 rfl
     ·exact fun s x e f d u => gF rfl rfl rfl rfl (d 6 rfl) rfl fun b t => vy t rfl (ltb rfl) rfl Tryz.call158 (V2.calls (w := x) (a0 := (QQ (gt a0 x3_2)))) (vc ((d 11 rfl).1 (qC (qX b))) rfl) <| fun w57 e58 => sgx rfl rfl b e58 rfl
     ·exact fun s x e f d u => gF rfl rfl rfl rfl (d 6 rfl) rfl fun b t => lt t rfl rfl (yM ((d 12 rfl).1 (qC (qX b)))) <| sg rfl rfl b rfl
     ·exact fun s x e f d u => lp rfl (Vd (d 6 rfl) rfl fun h => ((d 13 rfl).1 (qC h))) <| se rfl rfl
     ·exact fun s x e f d u => lp rfl (qf (d 14 rfl)) <| se rfl rfl
     ·exact fun s x e f d u => gF rfl rfl rfl rfl (d 15 rfl) rfl fun b t => lt t rfl rfl (xm (.int .i64 x3_2) ((f 3 rfl).trans h16)) <| sg rfl rfl b rfl
     ·exact fun s x e f d u => gF rfl rfl rfl rfl (d 15 rfl) rfl fun b t => lt t rfl rfl (jJ ((d 16 rfl).1 (qC (qX b))) rfl) <| sg rfl rfl b rfl
     ·exact fun s x e f d u => gF rfl rfl rfl rfl (d 15 rfl) rfl fun b t => lt t rfl rfl (xm (.bool (decide (0 < x3_2))) ((d 17 rfl).1 (qC (qX b)))) <| sg rfl rfl b rfl
     ·exact fun s x e f d u => hT rfl rfl rfl rfl (d 18 rfl) rfl fun b t => lt t rfl rfl (xm v_a0 ((f 0 rfl).trans (K13 0 rfl))) <| sg rfl rfl b rfl
     ·exact fun s x e f d u => hT rfl rfl rfl rfl (d 18 rfl) rfl fun b t => lt t rfl rfl (xm (.int .i64 x3_2) ((f 3 rfl).trans h16)) <| sg rfl rfl b rfl
     ·exact fun s x e f d u => hT rfl rfl rfl rfl (d 18 rfl) rfl fun b t => lt t rfl rfl (VA ((d 20 rfl).1 (qQ (qC (qX (y9 b))) (ja b))) rfl) <| sg rfl rfl b rfl
     ·exact fun s x e f d u => hT rfl rfl rfl rfl (d 18 rfl) rfl fun b t => q4 t rfl (ltb rfl) rfl Tryz.underlying29 Tryz.sizeOf60 ((d 19 rfl).1 (qQ (qC (qX (y9 b))) (ja b))) (Rd.ext f_a0 (e14.t e)) ((d 21 rfl).1 (qQ (qC (qX (y9 b))) (ja b))) (vE b c30) <| fun p60 h61 => sg rfl rfl b ⟨_, rfl, h61⟩
     ·intro s x e f d u
      refine hT rfl rfl rfl rfl (d 18 rfl) rfl fun b t => ?_
      obtain ⟨p62, h63, h64⟩ := ((d 22 rfl).1 (qQ (qC (qX (y9 b))) (ja b)))
      exact lt t rfl rfl (qb Tryz.underlying60 rfl Tryz.sizeOf9 rfl h63) <| sg rfl rfl b ⟨_, rfl, h64⟩
     ·intro s x e f d u
      refine hT rfl rfl rfl rfl (d 18 rfl) rfl fun b t => ?_
      obtain ⟨p65, h66, h67⟩ := ((d 23 rfl).1 (qQ (qC (qX (y9 b))) (ja b)))
      exact lt t rfl rfl (vT Tryz.isAgg9 (j := 1) h67 h66 rfl) <| sg rfl rfl b rfl
     ·exact fun s x e f d u => hT rfl rfl rfl rfl (d 18 rfl) rfl fun b t => lt t rfl rfl (xm v_a0 ((f 0 rfl).trans (K13 0 rfl))) <| sg rfl rfl b rfl
     ·exact fun s x e f d u => hT rfl rfl rfl rfl (d 18 rfl) rfl fun b t => lt t rfl rfl (xm (.int .i64 x3_2) ((f 3 rfl).trans h16)) <| sg rfl rfl b rfl
     ·exact fun s x e f d u => hT rfl rfl rfl rfl (d 18 rfl) rfl fun b t => q4 t rfl (ltb rfl) rfl Tryz.underlying29 Tryz.sizeOf60 ((d 25 rfl).1 (qQ (qC (qX (y9 b))) (ja b))) (Rd.ext f_a0 (e14.t e)) ((d 26 rfl).1 (qQ (qC (qX (y9 b))) (ja b))) (vE b c33) <| fun p69 h70 => sg rfl rfl b ⟨_, rfl, h70⟩
     ·intro s x e f d u
      refine hT rfl rfl rfl rfl (d 18 rfl) rfl fun b t => ?_
      obtain ⟨p71, h72, h73⟩ := ((d 27 rfl).1 (qQ (qC (qX (y9 b))) (ja b)))
      exact lt t rfl rfl (qb Tryz.underlying60 rfl Tryz.sizeOf9 rfl h72) <| sg rfl rfl b ⟨_, rfl, h73⟩
     ·intro s x e f d u
      refine hT rfl rfl rfl rfl (d 18 rfl) rfl fun b t => ?_
      obtain ⟨p74, h75, h76⟩ := ((d 28 rfl).1 (qQ (qC (qX (y9 b))) (ja b)))
      exact lt t rfl rfl (vT Tryz.isAgg9 (j := 1) h76 h75 rfl) <| sg rfl rfl b rfl
     ·exact fun s x e f d u => hT rfl rfl rfl rfl (d 18 rfl) rfl fun b t => vy t rfl (ltb rfl) rfl Tryz.call205 (vK.calls (w := x) (a0 := (gt a0 (IntKind.wrap .i64 (x3_2 - 1))).path) (a1 := (gt a0 x3_2).path) (od (vE b c36)) (od (vE b c37))) (vc ((d 24 rfl).1 (qQ (qC (qX (y9 b))) (ja b))) (vc ((d 29 rfl).1 (qQ (qC (qX (y9 b))) (ja b))) rfl)) <| fun w79 e80 => sgx rfl rfl b e80 rfl
     ·exact fun s x e f d u => hT rfl rfl rfl rfl (d 18 rfl) rfl fun b t => lt t rfl rfl (yM ((d 30 rfl).1 (qQ (qC (qX (y9 b))) (ja b)))) <| sg rfl rfl b rfl
     ·exact fun s x e f d u => gF rfl rfl rfl rfl (d 15 rfl) rfl fun b t => lt t rfl rfl (Qh ((d 18 rfl).1 (qC (qX b))) rfl fun h => ((d 31 rfl).1 (qQ (qC (qX b)) h))) <| sg rfl rfl b rfl
     ·exact fun s x e f d u => lp rfl (Vd (d 15 rfl) rfl fun h => ((d 32 rfl).1 (qC h))) <| se rfl rfl
     intro s81 w82 e83 hf84 ha85
     have K86 := Kp.ofD (kp := [(15, 49)]) rfl hf84
     have d87 : s81 48 = (.bool ((qN.e1 a0 x3_2) || ((decide (0 < x3_2)) && (!(qN.e3 a0 x3_2))))) := ha85 33 rfl
     clear ha85 hf84
     refine qe ?_
     rcases qd H with ⟨q88, H⟩ | ⟨q88, H⟩
     ·refine qk (d87.trans (cb q88)) <| wr <| lp rfl (xa (.bool false) rfl) <| nx <| qn <| qw <| vv <| qw <| qw <| vv <| qw <| qw <| qt ?_
      obtain rfl := si H
      obtain rfl := si S18
      have H := C5
      obtain rfl := si H
      exact vh rfl (e14.t e83)
     ·refine qi (d87.trans (cb q88)) <| qo <| qe <| wr <| lp rfl (xm v_a0 ((K86 0 rfl).trans (K13 0 rfl))) <| lp rfl (xm (.int .i64 x3_2) ((K86 3 rfl).trans h16)) ?_
      obtain ⟨c89, H⟩ := qa H
      refine q4 (.plain rfl) rfl (ltb rfl) rfl Tryz.underlying29 Tryz.sizeOf60 rfl (Rd.ext f_a0 (e14.t e83)) rfl c89 <| fun p90 h91 => lp rfl (qb Tryz.underlying60 rfl Tryz.sizeOf9 rfl rfl) <| lp rfl (vT Tryz.isAgg9 (j := 1) h91 rfl rfl) ?_
      obtain ⟨c92, H⟩ := qa H
      refine lc rfl rfl Tryz.call161 (vn.calls (w := w82) (a0 := (gt a0 x3_2).path) (od c92)) rfl <| fun w93 e94 => lp rfl (xa (S (qc ((gt a0 x3_2).path))) rfl) <| nx <| wr <| lp rfl (xm (S (qc ((gt a0 x3_2).path))) rfl) <| lp rfl (VK rfl rfl) <| nx ?_
      rcases qd H with ⟨q95, H⟩ | ⟨q95, H⟩
      ·refine qk (cb q95) <| wr <| lp rfl (xm v_a0 ((K86 0 rfl).trans (K13 0 rfl))) <| lp rfl (xm (.int .i64 x3_2) ((K86 3 rfl).trans h16)) ?_
       obtain ⟨c96, H⟩ := qa H
       refine G3 (.plain rfl) rfl (ltb rfl) rfl Tryz.underlying29 Tryz.sizeOf60 rfl (Rd.ext f_a0 ((e14.t e83).t e94)) (l := 0) (h := x3_2) rfl ⟨_, rfl⟩ c96 <| fun v97 h98 => lp rfl (xm (S (qc ((gt a0 x3_2).path))) rfl) ?_
       obtain ⟨c99, H⟩ := qa H
       refine lc rfl rfl Tryz.call162 (jo.calls (w := w93) (a0 := sub a0 0 x3_2) (a1 := (qc ((gt a0 x3_2).path))) h98 (od c99)) rfl <| fun w100 e101 => lp rfl (xa (.int .i64 (vd (sub a0 0 x3_2) (qc ((gt a0 x3_2).path)))) rfl) <| nx <| wr <| lp rfl (xm (.int .i64 (vd (sub a0 0 x3_2) (qc ((gt a0 x3_2).path)))) rfl) <| lp rfl (yl rfl rfl) <| lp rfl (qf rfl) ?_
       obtain ⟨z103, x104, H⟩ := bind_some H
       refine yk 7 [(65, 72)] 71 (fun q => q = z103) ?_ ?_
       ·rcases qd x104 with ⟨b101_, H⟩ | ⟨b101_, H⟩
        ·refine ls rfl rfl rfl (cb b101_) rfl <| ls rfl rfl rfl (cb b101_) rfl <| ls rfl rfl rfl (cb b101_) rfl <| ls rfl rfl rfl (cb b101_) rfl <| ls rfl rfl rfl (cb b101_) rfl <| ls rfl rfl rfl (cb b101_) rfl <| lp rfl (qu (b := true) (v := (.bool true)) (cb b101_) rfl) ?_
         obtain rfl := si H
         exact nx ⟨(ku3 (ku4 kz rfl) rfl), ⟨_, rfl, rfl⟩, er⟩
        ·refine lg rfl rfl rfl rfl (cb b101_) (xm v_a0 ((K86 0 rfl).trans (K13 0 rfl))) <| lg rfl rfl rfl rfl (cb b101_) (xm (.int .i64 (vd (sub a0 0 x3_2) (qc ((gt a0 x3_2).path)))) rfl) ?_
         obtain ⟨c103, H⟩ := qa H
         refine q4 (tg rfl rfl rfl (cb b101_)) rfl (ltb rfl) rfl Tryz.underlying29 Tryz.sizeOf60 rfl (Rd.ext f_a0 (((e14.t e83).t e94).t e101)) rfl c103 <| fun p104 h105 => lg rfl rfl rfl rfl (cb b101_) (qb Tryz.underlying60 rfl Tryz.sizeOf3 rfl rfl) <| lg rfl rfl rfl rfl (cb b101_) (vT Tryz.isAgg3 (j := 0) h105 rfl rfl) <| lg rfl rfl rfl rfl (cb b101_) (j6 rfl rfl) <| lp rfl (qu (b := false) (v := (.bool (!decide (((gt a0 (vd (sub a0 0 x3_2) (qc ((gt a0 x3_2).path)))).kind) = 3)))) (cb b101_) rfl) ?_
         obtain rfl := si H
         exact nx ⟨(ku3 (ku4 kz rfl) rfl), ⟨_, rfl, rfl⟩, er⟩
       intro s109 w105 z110 K106 hq h107 e108
       rw [hq] at h107; clear hq
       refine nx ?_
       rcases qd H with ⟨q111, H⟩ | ⟨q111, H⟩
       ·refine qk (h107.trans (cb q111)) <| wr <| lp rfl (xa (.bool false) rfl) <| nx <| qn <| vv <| qw <| qw <| vv <| qw <| qw <| qt ?_
        obtain rfl := si H
        obtain rfl := si S18
        have H := C5
        obtain rfl := si H
        exact vh rfl ((((e14.t e83).t e94).t e101).t e108)
       ·refine qi (h107.trans (cb q111)) <| qo <| vk <| qe <| qG <| lp rfl (xm (.int .i64 x3_2) ((K106 3 rfl).trans ((K86 3 rfl).trans h16))) <| lp rfl (vi rfl rfl) <| lp rfl (xa (.int .i64 (IntKind.wrap .i64 (x3_2 + 1))) rfl) <| nx ?_
        obtain rfl := si H
        exact ⟨_, Nat.lt_succ_self _, IntKind.wrap .i64 (x3_2 + 1), (ku3 (Kp.cut (ku2 (ku8 (ku8 (Kp.cut (ku4 K13 rfl) K86 rfl) rfl) rfl) rfl) K106 rfl) rfl), rfl, ((((e14.t e83).t e94).t e101).t e108), S18⟩
      ·refine qi (cb q95) <| qo <| vk <| qe <| qG <| lp rfl (xm (.int .i64 x3_2) ((K86 3 rfl).trans h16)) <| lp rfl (vi rfl rfl) <| lp rfl (xa (.int .i64 (IntKind.wrap .i64 (x3_2 + 1))) rfl) <| nx ?_
       obtain rfl := si H
       exact ⟨_, Nat.lt_succ_self _, IntKind.wrap .i64 (x3_2 + 1), (ku4 (ku8 (Kp.cut (ku4 K13 rfl) K86 rfl) rfl) rfl), rfl, ((e14.t e83).t e94), S18⟩
    ·refine qi (cb q19) <| vH <| qY <| qY <| yF <| qe ?_
     obtain rfl := si H
     obtain rfl := si S18
     exact ⟨(ku4 K13 rfl), e14, rfl⟩
  ·rintro s7 w6 ⟨K8, e9, y112⟩
   rw [y112] at C5
   have H := C5
   replace H : _ = some _ := H
   refine qe <| wr <| lp rfl (xa (.bool true) rfl) <| nx <| qn <| qt ?_
   obtain rfl := si H
   exact vh rfl e9
theorem qN.calls {w : World} {a0 : List Nd} {v_a0 : Value} (f_a0 : Rd 4 qr w v_a0 a0) (h0 : ∀ x ∈ a0, x.path.length ≤ 1048576) :
  Calls Tryz.prog 130 #[v_a0] w (Rt (RP w (.bool (jO a0)))) := by
 obtain ⟨k, h⟩ := qN.eq a0 h0
 exact qN.walk f_a0 h
/-! (impl.Node).record -/
theorem Qb.calls {w : World} {a0 : Nd} :
  Calls Tryz.prog 225 #[.agg (qr a0).toArray] w (Rt (RP w (.agg (qg (QQ a0)).toArray))) := by
 have H := Qb.eq a0
 generalize (QQ a0) = r at H ⊢
 unfold Qb.sh at H
 refine VB Tryz.func225 rfl (Nat.le_of_ble_eq_true rfl) Tryz.ntmps225 ?_
 refine wr <| j0 (.plain rfl) rfl (ltb rfl) rfl rfl <| fun b1 w2 z3 z4 e5 k6 => QA (.plain rfl) rfl (ltb rfl) rfl Tryz.zeroValue58 <| fun b7 w8 z9 z10 e11 k12 => nx <| wr <| lp rfl (qb Tryz.underlying60 rfl Tryz.sizeOf3 rfl rfl) <| lp rfl (qz Tryz.isAgg3 (Blk.ext k6 e11) rfl rfl) <| lp rfl (qb Tryz.underlying60 rfl Tryz.sizeOf9 rfl rfl) <| lp rfl (qz Tryz.isAgg9 (Blk.ext k6 e11) rfl rfl) <| lp rfl (qb Tryz.underlying60 rfl Tryz.sizeOf9 rfl rfl) <| lp rfl (qz Tryz.isAgg9 (Blk.ext k6 e11) rfl rfl) <| lp rfl (qb Tryz.underlying60 rfl Tryz.sizeOf3 rfl rfl) <| lp rfl (qz Tryz.isAgg3 (Blk.ext k6 e11) rfl rfl) <| lp rfl (Q0 (vs := [(0, (.int .i64 a0.kind)), (1, (S a0.path)), (2, (S a0.body)), (3, (.int .i64 a0.mode)), (4, (.bool false))]) (pl := #[(0, 1), (1, 1), (2, 1), (3, 1), (4, 1)]) Tryz.underlying58 Tryz.zeroValue58 rfl (fun _ => by kernel_rfl) rfl rfl rfl) <| ji (.plain rfl) rfl rfl Tryz.sizeOf58 rfl rfl rfl rfl rfl k12 <| fun w13 h14 k15 => nx <| qn <| YC ?_
 obtain rfl := si H
 exact finC1 rfl rfl k15 Tryz.isAgg58 Tryz.sizeOf58 rfl (e5.t (Below.trans e11 (Wr.below h14 (Nat.le_of_eq z9))))
/-! impl.nodeOK -/
theorem Vx.calls {w : World} {a0 : Nd} (gv : GV 0 w) :
  Calls Tryz.prog 141 #[.agg (qr a0).toArray] w (Rt (RP w (.bool (nodeOK a0)))) := by
 have H := Vx.eq a0
 generalize (nodeOK a0) = r at H ⊢
 unfold Vx.sh at H
 refine qh Tryz.func141 rfl (Nat.le_of_ble_eq_true rfl) Tryz.ntmps141 rfl ?_
 refine wr <| j0 (.plain rfl) rfl (ltb rfl) rfl rfl <| fun b1 w2 z3 z4 e5 k6 => lp rfl (xa (.bool false) rfl) <| nx <| wr <| lp rfl (qW Tryz.isAgg60 Tryz.sizeOf60 rfl rfl (Blk.at0 k6)) <| lc rfl rfl Tryz.call225 (Qb.calls (w := w2) (a0 := a0)) rfl <| fun w7 e8 => lc rfl rfl Tryz.call224 (Qt.calls (w := w7) (a0 := (QQ a0)) (GV.ext gv (e5.t e8))) rfl <| fun w9 e10 => lp rfl (xm (.bool (decide (qx (QQ a0) = 0))) rfl) <| jI 4 [(7, 11)] 10 (.bool ((decide (qx (QQ a0) = 0)) && (!decide (a0.kind = 4)))) ?_ ?_
 ·rcases ql (decide (qx (QQ a0) = 0)) with b10_ | b10_
  ·exact lg rfl rfl rfl rfl (cb b10_) (qb Tryz.underlying60 rfl Tryz.sizeOf3 rfl rfl) <| lg rfl rfl rfl rfl (cb b10_) (qz Tryz.isAgg3 (Blk.ext k6 (e8.t e10)) rfl rfl) <| lg rfl rfl rfl rfl (cb b10_) (j6 rfl rfl) <| lp rfl (qu (b := true) (v := (.bool (!decide (a0.kind = 4)))) (cb b10_) rfl) <| nx ⟨(ku4 kz rfl), (VP b10_), er⟩
  ·exact ls rfl rfl rfl (cb b10_) rfl <| ls rfl rfl rfl (cb b10_) rfl <| ls rfl rfl rfl (cb b10_) rfl <| lp rfl (qu (b := false) (v := (.bool false)) (cb b10_) rfl) <| nx ⟨(ku4 kz rfl), (VS b10_), er⟩
 intro s16 w12 K13 h14 e15
 refine lp rfl (qA h14) <| nx <| qn <| qt ?_
 obtain rfl := si H
 exact vh rfl (((e5.t e8).t e10).t e15)
/-! impl.at$1 -/
theorem Ys.calls {w : World} {a0 : Nd} {a1 : List UInt8} {b_a1 : Nat} (k_a1 : Blk w b_a1 #[(S a1)] 9) :
  Calls Tryz.prog 262 #[.agg (qr a0).toArray, .pointer (some ⟨b_a1, 0, none⟩)] w (Rt (RP w (.bool (decide (a0.path = a1))))) := by
 have H := Ys.eq a0 a1
 generalize (decide (a0.path = a1)) = r at H ⊢
 unfold Ys.sh at H
 refine qh Tryz.func262 rfl (Nat.le_of_ble_eq_true rfl) Tryz.ntmps262 rfl ?_
 refine wr <| j0 (.plain rfl) rfl (ltb rfl) rfl rfl <| fun b1 w2 z3 z4 e5 k6 => lp rfl (xa (.bool false) rfl) <| nx <| wr <| lp rfl (qb Tryz.underlying60 rfl Tryz.sizeOf9 rfl rfl) <| lp rfl (qz Tryz.isAgg9 k6 rfl rfl) <| lp rfl (qz Tryz.isAgg9 (Blk.ext k_a1 e5) rfl rfl) <| lp rfl (VR rfl rfl) <| lp rfl (xa (.bool (decide (a0.path = a1))) rfl) <| nx <| qn <| qt ?_
 obtain rfl := si H
 exact vh rfl e5
/-! slices.IndexFunc(()impl.Node,impl.Node) -/
theorem vb.walk {k : Nat} {w : World} {a0 : List Nd} {a1 : Nd → Option Bool} {v_a0 : Value} (f_a0 : Rd 4 qr w v_a0 a0) {v_a1 : Value} (f_a1 : ∀ (x0 : Nd) (r : Bool), a1 x0 = some r → jq Tryz.prog w v_a1 [(.agg (qr x0).toArray)] (.bool r)) (g_a1 : v_a1.cells = #[v_a1]) {r : Int} (H : vb.sh k a0 a1 = some r) :
  Calls Tryz.prog 261 #[v_a0, v_a1] w (Rt (RP w (.int .i64 r))) := by
 unfold vb.sh at H
 refine qh Tryz.func261 rfl (Nat.le_of_ble_eq_true rfl) Tryz.ntmps261 rfl ?_
 refine wr <| lp rfl (xa (.int .i64 0) rfl) <| nx <| qj <| wr <| lp rfl (xm v_a0 rfl) <| lp rfl (qO Tryz.underlying29 rfl f_a0) <| lp rfl (xm (.int .i64 0) rfl) <| nx ?_
 obtain ⟨z2, L3, C4⟩ := bind_some H
 clear H
 refine  vD (fun s0 sQ wQ => Kp [(4, 6), (8, 19)] s0 sQ ∧ Ext w wQ ∧ z2 = .inr ()) ?_ ?_
 ·refine qB <| vo (fun s0 kk sQ wQ => ∃ (x8_1 : Int), Kp [(4, 6), (8, 19)] s0 sQ ∧ sQ 8 = .int .i64 x8_1 ∧ Ext w wQ ∧ qp (vb.b1 a0 a1) kk x8_1 = some z2) k ⟨0, kz, rfl, er, L3⟩ ?_
  rintro k9 s10 w11 ⟨x8_1, K12, h15, e13, L14⟩
  cases k9 with
  | zero => exact absurd L14 (by simp [qp])
  | succ k9 =>
   obtain ⟨t16, H, S17⟩ := qK L14
   clear L14
   unfold vb.b1 at H
   refine wr <| lp rfl (yl h15 (K12 7 rfl)) <| nx <| qj ?_
   rcases qd H with ⟨q18, H⟩ | ⟨q18, H⟩
   ·refine qk (cb q18) <| qo <| qe <| qj <| qB <| wr <| lp rfl (qf h15) <| lp rfl (xa (.int .i64 x8_1) rfl) <| nx <| wr <| lp rfl (xm v_a1 (K12 1 rfl)) <| lp rfl (xm v_a0 (K12 0 rfl)) <| lp rfl (xm (.int .i64 x8_1) rfl) ?_
    obtain ⟨c19, H⟩ := qa H
    refine q4 (.plain rfl) rfl (ltb rfl) rfl Tryz.underlying29 Tryz.sizeOf60 rfl (Rd.ext f_a0 e13) rfl c19 <| fun p20 h21 => lp rfl (qW Tryz.isAgg60 Tryz.sizeOf60 rfl rfl h21) ?_
    obtain ⟨z22, x23, H⟩ := bind_some H
    refine Yb (.plain rfl) rfl (ltb rfl) rfl rfl (jq.ext (f_a1 _ _ x23) e13) rfl <| fun w24 e25 => nx ?_
    rcases qd H with ⟨q26, H⟩ | ⟨q26, H⟩
    ·refine qk (cb q26) <| wr <| lp rfl (xm (.int .i64 x8_1) rfl) <| lp rfl (xa (.int .i64 x8_1) rfl) <| nx <| qn <| vv <| qw <| qw <| vv <| qw <| qw <| qt ?_
     obtain rfl := si H
     obtain rfl := si S17
     have H := C4
     obtain rfl := si H
     exact vh rfl (e13.t e25)
    ·refine qi (cb q26) <| qo <| vk <| qe <| qG <| lp rfl (vi h15 rfl) <| lp rfl (xm (.int .i64 (IntKind.wrap .i64 (x8_1 + 1))) rfl) <| nx ?_
     obtain rfl := si H
     exact ⟨_, Nat.lt_succ_self _, IntKind.wrap .i64 (x8_1 + 1), (ku3 (ku8 K12 rfl) rfl), rfl, (e13.t e25), S17⟩
   ·refine qi (cb q18) <| vH <| qY <| qY <| yF <| qe ?_
    obtain rfl := si H
    obtain rfl := si S17
    exact ⟨(ku1 K12 rfl), e13, rfl⟩
 ·rintro s6 w5 ⟨K7, e8, y27⟩
  rw [y27] at C4
  have H := C4
  replace H : _ = some _ := H
  refine qe <| wr <| lp rfl (xa (.int .i64 (-1)) rfl) <| nx <| qn <| qt ?_
  obtain rfl := si H
  exact vh rfl e8
theorem vb.calls {w : World} {a0 : List Nd} {a1 : Nd → Option Bool} {r : Int} {v_a0 : Value} (f_a0 : Rd 4 qr w v_a0 a0) {v_a1 : Value} (f_a1 : ∀ (x0 : Nd) (r : Bool), a1 x0 = some r → jq Tryz.prog w v_a1 [(.agg (qr x0).toArray)] (.bool r)) (g_a1 : v_a1.cells = #[v_a1]) (h0 : a0.length ≤ 4611686018427387904) (H : (Yo a1 a0) = some r) :
  Calls Tryz.prog 261 #[v_a0, v_a1] w (Rt (RP w (.int .i64 r))) := by
 obtain ⟨k, h⟩ := vb.eq a0 a1 h0 H
 exact vb.walk f_a0 f_a1 g_a1 h
/-! impl.at -/
theorem YM.calls {w : World} {a0 : List Nd} {a1 : List UInt8} {v_a0 : Value} (f_a0 : Rd 4 qr w v_a0 a0) (h0 : a0.length ≤ 1048576) :
  Calls Tryz.prog 210 #[v_a0, S a1] w (Rt (RP w (.int .i64 (vd a0 a1)))) := by
 have H := YM.eq a0 a1 h0
 generalize (vd a0 a1) = r at H ⊢
 unfold YM.sh at H
 refine qh Tryz.func210 rfl (Nat.le_of_ble_eq_true rfl) Tryz.ntmps210 rfl ?_
 refine wr <| j0 (.plain rfl) rfl (ltb rfl) rfl rfl <| fun b1 w2 z3 z4 e5 k6 => lp rfl (xa (.int .i64 0) rfl) <| nx <| wr <| lp rfl (xm v_a0 rfl) <| lp rfl (V0 (vs := #[]) (us := #[.pointer (some ⟨b1, 0, none⟩)]) rfl rfl) ?_
 obtain ⟨c11, H⟩ := qa H
 obtain ⟨z12, x13, H⟩ := bind_some H
 refine lc rfl rfl Tryz.call261 (vb.calls (w := w2) (a0 := a0) (a1 := (fun (x0_ : Nd) => some (decide (x0_.path = a1)))) (Rd.ext f_a0 e5) (fun x0_ r h => by have h := si h; subst h; exact jq.mk Tryz.call262 (by rfl) fun w9 k10 => Ys.calls (w := w9) (a0 := x0_) (a1 := a1) (Blk.ext k6 k10)) rfl (od c11) x13) rfl <| fun w14 e15 => lp rfl (xa (.int .i64 z12) rfl) <| nx <| qn <| qt ?_
 obtain rfl := si H
 exact vh rfl (e5.t e15)
/-! impl.isDir -/
theorem Vj.calls {w : World} {a0 : List Nd} {a1 : List UInt8} {v_a0 : Value} (f_a0 : Rd 4 qr w v_a0 a0) (h0 : a0.length ≤ 1048576) :
  Calls Tryz.prog 142 #[v_a0, S a1] w (Rt (RP w (.bool (Q1 a0 a1)))) := by
 have H := Vj.eq a0 a1 h0
 generalize (Q1 a0 a1) = r at H ⊢
 unfold Vj.sh at H
 refine qh Tryz.func142 rfl (Nat.le_of_ble_eq_true rfl) Tryz.ntmps142 rfl ?_
 refine wr <| lp rfl (xa (.bool false) rfl) <| nx <| wr <| lp rfl (xm v_a0 rfl) <| lp rfl (xm (S a1) rfl) ?_
 obtain ⟨c1, H⟩ := qa H
 refine lc rfl rfl Tryz.call210 (YM.calls (w := w) (a0 := a0) (a1 := a1) f_a0 (od c1)) rfl <| fun w2 e3 => lp rfl (xa (.int .i64 (vd a0 a1)) rfl) <| nx <| wr <| lp rfl (xm (S a1) rfl) <| lp rfl (VR rfl rfl) <| lp rfl (xm (.bool (decide (a1 = ([] : List UInt8)))) rfl) ?_
 obtain ⟨z5, x6, H⟩ := bind_some H
 refine yk 11 [(12, 23)] 22 (fun q => q = z5) ?_ ?_
 ·rcases qd x6 with ⟨b3_, H⟩ | ⟨b3_, H⟩
  ·refine ls rfl rfl rfl (cb b3_) rfl <| ls rfl rfl rfl (cb b3_) rfl <| ls rfl rfl rfl (cb b3_) rfl <| lu rfl rfl rfl rfl rfl <| lu rfl rfl rfl rfl rfl <| lu rfl rfl rfl rfl rfl <| lu rfl rfl rfl rfl rfl <| lu rfl rfl rfl rfl rfl <| lu rfl rfl rfl rfl rfl <| ls rfl rfl rfl (cb b3_) rfl <| lp rfl (qu (b := true) (v := (.bool true)) (cb b3_) rfl) ?_
   obtain rfl := si H
   exact nx ⟨(ku3 (ku8 kz rfl) rfl), ⟨_, rfl, rfl⟩, er⟩
  ·refine lg rfl rfl rfl rfl (cb b3_) (xm (.int .i64 (vd a0 a1)) rfl) <| lg rfl rfl rfl rfl (cb b3_) (VQ rfl rfl) <| lg rfl rfl rfl rfl (cb b3_) (xm (.bool (decide (0 ≤ (vd a0 a1)))) rfl) ?_
   obtain ⟨z6, x7, H⟩ := bind_some H
   refine yk 7 [(15, 22)] 21 (fun q => q = z6) ?_ ?_
   ·rcases qd x7 with ⟨b4_, H⟩ | ⟨b4_, H⟩
    ·refine lg rfl rfl rfl rfl (cb b4_) (xm v_a0 rfl) <| lg rfl rfl rfl rfl (cb b4_) (xm (.int .i64 (vd a0 a1)) rfl) ?_
     obtain ⟨c6, H⟩ := qa H
     refine q4 (tg rfl rfl rfl (cb b4_)) rfl (ltb rfl) rfl Tryz.underlying29 Tryz.sizeOf60 rfl (Rd.ext f_a0 e3) rfl c6 <| fun p7 h8 => lg rfl rfl rfl rfl (cb b4_) (qb Tryz.underlying60 rfl Tryz.sizeOf3 rfl rfl) <| lg rfl rfl rfl rfl (cb b4_) (vT Tryz.isAgg3 (j := 0) h8 rfl rfl) <| lg rfl rfl rfl rfl (cb b4_) (yn rfl rfl) <| lg rfl rfl rfl rfl (cb b3_) (qu (b := true) (v := (.bool (decide (((gt a0 (vd a0 a1)).kind) = 3)))) (cb b4_) rfl) ?_
     obtain rfl := si H
     exact nx ⟨(ku3 (ku4 kz rfl) rfl), ⟨_, rfl, rfl⟩, er⟩
    ·refine ls rfl rfl rfl (cb b4_) rfl <| ls rfl rfl rfl (cb b4_) rfl <| ls rfl rfl rfl (cb b4_) rfl <| ls rfl rfl rfl (cb b4_) rfl <| ls rfl rfl rfl (cb b4_) rfl <| ls rfl rfl rfl (cb b4_) rfl <| lg rfl rfl rfl rfl (cb b3_) (qu (b := false) (v := (.bool false)) (cb b4_) rfl) ?_
     obtain rfl := si H
     exact nx ⟨(ku3 (ku4 kz rfl) rfl), ⟨_, rfl, rfl⟩, er⟩
   intro s12 w8 z13 K9 hq h10 e11
   rw [hq] at h10; clear hq
   refine lp rfl (qu (b := false) (v := (.bool z6)) ((K9 11 rfl).trans (cb b3_)) h10) ?_
   obtain rfl := si H
   exact nx ⟨(ku1 (Kp.cut (ku3 kz rfl) K9 rfl) rfl), ⟨_, rfl, rfl⟩, e11⟩
 intro s14 w7 z15 K8 hq h9 e10
 rw [hq] at h9; clear hq
 refine lp rfl (qA h9) <| nx <| qn <| qt ?_
 obtain rfl := si H
 exact vh rfl (e3.t e10)
/-! impl.TreeOK -/
abbrev qM.e1 (a0 : List Nd) (x7_1 : Int) := (((decide (24 ≤ x7_1)) || (!(nodeOK (gt a0 x7_1)))) || ((decide (0 < x7_1)) && (!(vM ((gt a0 (IntKind.wrap .i64 (x7_1 - 1))).path) ((gt a0 x7_1).path)))))
abbrev qM.e2 (a0 : List Nd) (x7_1 : Int) := ((!((decide (24 ≤ x7_1)) || (!(nodeOK (gt a0 x7_1))))) && (decide (0 < x7_1)))
theorem qM.walk {k : Nat} {w : World} {a0 : List Nd} (gv : GV 0 w) {v_a0 : Value} (f_a0 : Rd 4 qr w v_a0 a0) {r : Bool} (H : qM.sh k a0 = some r) :
  Calls Tryz.prog 43 #[v_a0] w (Rt (RP w (.bool r))) := by
 unfold qM.sh at H
 refine qh Tryz.func43 rfl (Nat.le_of_ble_eq_true rfl) Tryz.ntmps43 rfl ?_
 refine wr <| lp rfl (xa (.bool false) rfl) <| nx <| qj <| wr <| lp rfl (xm v_a0 rfl) <| lp rfl (qO Tryz.underlying29 rfl f_a0) <| lp rfl (xm (.int .i64 0) rfl) <| nx ?_
 obtain ⟨z2, L3, C4⟩ := bind_some H
 clear H
 refine  vD (fun s0 sQ wQ => Kp [(2, 5), (7, 46)] s0 sQ ∧ Ext w wQ ∧ z2 = .inr ()) ?_ ?_
 ·refine qB <| vo (fun s0 kk sQ wQ => ∃ (x7_1 : Int), Kp [(2, 5), (7, 46)] s0 sQ ∧ sQ 7 = .int .i64 x7_1 ∧ Ext w wQ ∧ qp (qM.b1 a0) kk x7_1 = some z2) k ⟨0, kz, rfl, er, L3⟩ ?_
  rintro k9 s10 w11 ⟨x7_1, K12, h15, e13, L14⟩
  cases k9 with
  | zero => exact absurd L14 (by simp [qp])
  | succ k9 =>
   obtain ⟨t16, H, S17⟩ := qK L14
   clear L14
   unfold qM.b1 at H
   refine wr <| lp rfl (yl h15 (K12 6 rfl)) <| nx <| qj ?_
   rcases qd H with ⟨q18, H⟩ | ⟨q18, H⟩
   ·refine qk (cb q18) <| qo <| qe <| qj <| qB <| wr <| lp rfl (qf h15) ?_
    obtain ⟨c19, H⟩ := qa H
    refine q4 (.plain rfl) rfl (ltb rfl) rfl Tryz.underlying29 Tryz.sizeOf60 (K12 5 rfl) (Rd.ext f_a0 e13) h15 c19 <| fun p20 h21 => lp rfl (qW Tryz.isAgg60 Tryz.sizeOf60 rfl rfl h21) <| QA (.plain rfl) rfl (ltb rfl) rfl Tryz.zeroValue60 <| fun b22 w23 z24 z25 e26 k27 => lp rfl (xa (.int .i64 x7_1) rfl) <| ji (.plain rfl) rfl rfl Tryz.sizeOf60 rfl rfl rfl rfl rfl k27 <| fun w28 h29 k30 => nx <| qj ?_
    obtain ⟨c33, H⟩ := qa H
    obtain ⟨c38, H⟩ := qa H
    obtain ⟨c41, H⟩ := qa H
    obtain ⟨c44, H⟩ := qa H
    refine Yp [LEq (.int .i64 x7_1), LEq (.bool (decide (24 ≤ x7_1))), LEq (.bool (decide (24 ≤ x7_1))), LIf (!(decide (24 ≤ x7_1))) (LEq (.agg #[(.int .i64 ((gt a0 x7_1).kind)), (S ((gt a0 x7_1).path)), (S ((gt a0 x7_1).body)), (.int .i64 ((gt a0 x7_1).mode))])), LIf (!(decide (24 ≤ x7_1))) (LEq (.bool (nodeOK (gt a0 x7_1)))), LIf (!(decide (24 ≤ x7_1))) (LEq (.bool (!(nodeOK (gt a0 x7_1))))), LEq (.bool ((decide (24 ≤ x7_1)) || (!(nodeOK (gt a0 x7_1))))), LEq (.bool ((decide (24 ≤ x7_1)) || (!(nodeOK (gt a0 x7_1))))), LIf (!((decide (24 ≤ x7_1)) || (!(nodeOK (gt a0 x7_1))))) (LEq (.int .i64 x7_1)), LIf (!((decide (24 ≤ x7_1)) || (!(nodeOK (gt a0 x7_1))))) (LEq (.bool (decide (0 < x7_1)))), LIf (!((decide (24 ≤ x7_1)) || (!(nodeOK (gt a0 x7_1))))) (LEq (.bool (decide (0 < x7_1)))), LIf (qM.e2 a0 x7_1) (LEq v_a0), LIf (qM.e2 a0 x7_1) (LEq (.int .i64 x7_1)), LIf (qM.e2 a0 x7_1) (LEq (.int .i64 (IntKind.wrap .i64 (x7_1 - 1)))), LIf (qM.e2 a0 x7_1) (yu (qr (gt a0 (IntKind.wrap .i64 (x7_1 - 1))))), LIf (qM.e2 a0 x7_1) (LAt 1 (qr (gt a0 (IntKind.wrap .i64 (x7_1 - 1))))), LIf (qM.e2 a0 x7_1) (LEq (S ((gt a0 (IntKind.wrap .i64 (x7_1 - 1))).path))), LIf (qM.e2 a0 x7_1) (LEq (.pointer (some ⟨b22, 1, none⟩))), LIf (qM.e2 a0 x7_1) (LEq (S ((gt a0 x7_1).path))), LIf (qM.e2 a0 x7_1) (LEq (.bool (vM ((gt a0 (IntKind.wrap .i64 (x7_1 - 1))).path) ((gt a0 x7_1).path)))), LIf (qM.e2 a0 x7_1) (LEq (.bool (!(vM ((gt a0 (IntKind.wrap .i64 (x7_1 - 1))).path) ((gt a0 x7_1).path))))), LIf (!((decide (24 ≤ x7_1)) || (!(nodeOK (gt a0 x7_1))))) (LEq (.bool ((decide (0 < x7_1)) && (!(vM ((gt a0 (IntKind.wrap .i64 (x7_1 - 1))).path) ((gt a0 x7_1).path)))))), LEq (.bool (qM.e1 a0 x7_1)), LEq (.bool (qM.e1 a0 x7_1)), LIf (!(qM.e1 a0 x7_1)) (LEq v_a0), LIf (!(qM.e1 a0 x7_1)) (LEq (.int .i64 x7_1)), LIf (!(qM.e1 a0 x7_1)) (LRd 4 qr (sub a0 0 x7_1)), LIf (!(qM.e1 a0 x7_1)) (LEq (.pointer (some ⟨b22, 1, none⟩))), LIf (!(qM.e1 a0 x7_1)) (LEq (S ((gt a0 x7_1).path))), LIf (!(qM.e1 a0 x7_1)) (LEq (S (qc ((gt a0 x7_1).path)))), LIf (!(qM.e1 a0 x7_1)) (LEq (.bool (Q1 (sub a0 0 x7_1) (qc ((gt a0 x7_1).path))))), LIf (!(qM.e1 a0 x7_1)) (LEq (.bool (!(Q1 (sub a0 0 x7_1) (qc ((gt a0 x7_1).path)))))), LEq (.bool ((qM.e1 a0 x7_1) || (!(Q1 (sub a0 0 x7_1) (qc ((gt a0 x7_1).path))))))] (by kernel_rfl) (by kernel_rfl) ⟨qm, qm, qm, lm, lm, lm, qm, qm, lm, lm, lm, lm, lm, lm, (LIf.mono yu.mono), (LIf.mono LAt.mono), lm, lm, lm, lm, lm, lm, qm, qm, lm, lm, (LIf.mono LRd.mono), lm, lm, lm, lm, lm, qm, trivial⟩ ⟨?_, ?_, ?_, ?_, ?_, ?_, ?_, ?_, ?_, ?_, ?_, ?_, ?_, ?_, ?_, ?_, ?_, ?_, ?_, ?_, ?_, ?_, ?_, ?_, ?_, ?_, ?_, ?_, ?_, ?_, ?_, ?_, ?_, trivial⟩ ?_
    ·exact fun s x e f d u => lp rfl (xm (.int .i64 x7_1) (f 3 rfl)) <| se rfl rfl
    ·exact fun s x e f d u => lp rfl (VQ (d 0 rfl) rfl) <| se rfl rfl
    ·exact fun s x e f d u => lp rfl (qf (d 1 rfl)) <| se rfl rfl
    ·exact fun s x e f d u => gF rfl rfl rfl rfl (d 2 rfl) rfl fun b t => lt t rfl rfl (qW Tryz.isAgg60 Tryz.sizeOf60 rfl (f 4 rfl) (Blk.at0 (Blk.ext k30 e))) <| sg rfl rfl b rfl
    ·exact fun s x e f d u => gF rfl rfl rfl rfl (d 2 rfl) rfl fun b t => vy t rfl (ltb rfl) rfl Tryz.call141 (Vx.calls (w := x) (a0 := (gt a0 x7_1)) (GV.ext gv ((e13.t (Below.trans e26 (Wr.below h29 (Nat.le_of_eq z24)))).t e))) (vc ((d 3 rfl).1 (qC (qX b))) rfl) <| fun w47 e48 => sgx rfl rfl b e48 rfl
    ·exact fun s x e f d u => gF rfl rfl rfl rfl (d 2 rfl) rfl fun b t => lt t rfl rfl (yM ((d 4 rfl).1 (qC (qX b)))) <| sg rfl rfl b rfl
    ·exact fun s x e f d u => lp rfl (Vd (d 2 rfl) rfl fun h => ((d 5 rfl).1 (qC h))) <| se rfl rfl
    ·exact fun s x e f d u => lp rfl (qf (d 6 rfl)) <| se rfl rfl
    ·exact fun s x e f d u => gF rfl rfl rfl rfl (d 7 rfl) rfl fun b t => lt t rfl rfl (xm (.int .i64 x7_1) (f 3 rfl)) <| sg rfl rfl b rfl
    ·exact fun s x e f d u => gF rfl rfl rfl rfl (d 7 rfl) rfl fun b t => lt t rfl rfl (jJ ((d 8 rfl).1 (qC (qX b))) rfl) <| sg rfl rfl b rfl
    ·exact fun s x e f d u => gF rfl rfl rfl rfl (d 7 rfl) rfl fun b t => lt t rfl rfl (xm (.bool (decide (0 < x7_1))) ((d 9 rfl).1 (qC (qX b)))) <| sg rfl rfl b rfl
    ·exact fun s x e f d u => hT rfl rfl rfl rfl (d 10 rfl) rfl fun b t => lt t rfl rfl (xm v_a0 ((f 0 rfl).trans (K12 0 rfl))) <| sg rfl rfl b rfl
    ·exact fun s x e f d u => hT rfl rfl rfl rfl (d 10 rfl) rfl fun b t => lt t rfl rfl (xm (.int .i64 x7_1) (f 3 rfl)) <| sg rfl rfl b rfl
    ·exact fun s x e f d u => hT rfl rfl rfl rfl (d 10 rfl) rfl fun b t => lt t rfl rfl (VA ((d 12 rfl).1 (qQ (qC (qX (y9 b))) (ja b))) rfl) <| sg rfl rfl b rfl
    ·exact fun s x e f d u => hT rfl rfl rfl rfl (d 10 rfl) rfl fun b t => q4 t rfl (ltb rfl) rfl Tryz.underlying29 Tryz.sizeOf60 ((d 11 rfl).1 (qQ (qC (qX (y9 b))) (ja b))) (Rd.ext f_a0 ((e13.t (Below.trans e26 (Wr.below h29 (Nat.le_of_eq z24)))).t e)) ((d 13 rfl).1 (qQ (qC (qX (y9 b))) (ja b))) (vE b c33) <| fun p50 h51 => sg rfl rfl b ⟨_, rfl, h51⟩
    ·intro s x e f d u
     refine hT rfl rfl rfl rfl (d 10 rfl) rfl fun b t => ?_
     obtain ⟨p52, h53, h54⟩ := ((d 14 rfl).1 (qQ (qC (qX (y9 b))) (ja b)))
     exact lt t rfl rfl (qb Tryz.underlying60 rfl Tryz.sizeOf9 rfl h53) <| sg rfl rfl b ⟨_, rfl, h54⟩
    ·intro s x e f d u
     refine hT rfl rfl rfl rfl (d 10 rfl) rfl fun b t => ?_
     obtain ⟨p55, h56, h57⟩ := ((d 15 rfl).1 (qQ (qC (qX (y9 b))) (ja b)))
     exact lt t rfl rfl (vT Tryz.isAgg9 (j := 1) h57 h56 rfl) <| sg rfl rfl b rfl
    ·exact fun s x e f d u => hT rfl rfl rfl rfl (d 10 rfl) rfl fun b t => lt t rfl rfl (qb Tryz.underlying60 rfl Tryz.sizeOf9 rfl (f 4 rfl)) <| sg rfl rfl b rfl
    ·exact fun s x e f d u => hT rfl rfl rfl rfl (d 10 rfl) rfl fun b t => lt t rfl rfl (qz Tryz.isAgg9 (Blk.ext k30 e) ((d 17 rfl).1 (qQ (qC (qX (y9 b))) (ja b))) rfl) <| sg rfl rfl b rfl
    ·exact fun s x e f d u => hT rfl rfl rfl rfl (d 10 rfl) rfl fun b t => vy t rfl (ltb rfl) rfl Tryz.call81 (j4.calls (w := x) (a0 := (gt a0 (IntKind.wrap .i64 (x7_1 - 1))).path) (a1 := (gt a0 x7_1).path) (GV.ext gv ((e13.t (Below.trans e26 (Wr.below h29 (Nat.le_of_eq z24)))).t e))) (vc ((d 16 rfl).1 (qQ (qC (qX (y9 b))) (ja b))) (vc ((d 18 rfl).1 (qQ (qC (qX (y9 b))) (ja b))) rfl)) <| fun w58 e59 => sgx rfl rfl b e59 rfl
    ·exact fun s x e f d u => hT rfl rfl rfl rfl (d 10 rfl) rfl fun b t => lt t rfl rfl (yM ((d 19 rfl).1 (qQ (qC (qX (y9 b))) (ja b)))) <| sg rfl rfl b rfl
    ·exact fun s x e f d u => gF rfl rfl rfl rfl (d 7 rfl) rfl fun b t => lt t rfl rfl (Qh ((d 10 rfl).1 (qC (qX b))) rfl fun h => ((d 20 rfl).1 (qQ (qC (qX b)) h))) <| sg rfl rfl b rfl
    ·exact fun s x e f d u => lp rfl (Vd (d 7 rfl) rfl fun h => ((d 21 rfl).1 (qC h))) <| se rfl rfl
    ·exact fun s x e f d u => lp rfl (qf (d 22 rfl)) <| se rfl rfl
    ·exact fun s x e f d u => gF rfl rfl rfl rfl (d 23 rfl) rfl fun b t => lt t rfl rfl (xm v_a0 ((f 0 rfl).trans (K12 0 rfl))) <| sg rfl rfl b rfl
    ·exact fun s x e f d u => gF rfl rfl rfl rfl (d 23 rfl) rfl fun b t => lt t rfl rfl (xm (.int .i64 x7_1) (f 3 rfl)) <| sg rfl rfl b rfl
    ·exact fun s x e f d u => gF rfl rfl rfl rfl (d 23 rfl) rfl fun b t => G3 t rfl (ltb rfl) rfl Tryz.underlying29 Tryz.sizeOf60 ((d 24 rfl).1 (qC (qX b))) (Rd.ext f_a0 ((e13.t (Below.trans e26 (Wr.below h29 (Nat.le_of_eq z24)))).t e)) (l := 0) (h := x7_1) rfl ⟨_, ((d 25 rfl).1 (qC (qX b)))⟩ (vE b c38) <| fun v61 h62 => sg rfl rfl b h62
    ·exact fun s x e f d u => gF rfl rfl rfl rfl (d 23 rfl) rfl fun b t => lt t rfl rfl (qb Tryz.underlying60 rfl Tryz.sizeOf9 rfl (f 4 rfl)) <| sg rfl rfl b rfl
    ·exact fun s x e f d u => gF rfl rfl rfl rfl (d 23 rfl) rfl fun b t => lt t rfl rfl (qz Tryz.isAgg9 (Blk.ext k30 e) ((d 27 rfl).1 (qC (qX b))) rfl) <| sg rfl rfl b rfl
    ·exact fun s x e f d u => gF rfl rfl rfl rfl (d 23 rfl) rfl fun b t => vy t rfl (ltb rfl) rfl Tryz.call143 (jN.calls (w := x) (a0 := (gt a0 x7_1).path) (od (vE b c41))) (vc ((d 28 rfl).1 (qC (qX b))) rfl) <| fun w64 e65 => sgx rfl rfl b e65 rfl
    ·intro s x e f d u
     refine gF rfl rfl rfl rfl (d 23 rfl) rfl fun b t => ?_
     have d66 : Rd 4 qr x (s 38) (sub a0 0 x7_1) := ((d 26 rfl).1 (qC (qX b)))
     exact vy t rfl (ltb rfl) rfl Tryz.call142 (Vj.calls (w := x) (a0 := sub a0 0 x7_1) (a1 := (qc ((gt a0 x7_1).path))) d66 (od (vE b c44))) (vc rfl (vc ((d 29 rfl).1 (qC (qX b))) rfl)) <| fun w68 e69 => sgx rfl rfl b e69 rfl
    ·exact fun s x e f d u => gF rfl rfl rfl rfl (d 23 rfl) rfl fun b t => lt t rfl rfl (yM ((d 30 rfl).1 (qC (qX b)))) <| sg rfl rfl b rfl
    ·exact fun s x e f d u => lp rfl (Vd (d 23 rfl) rfl fun h => ((d 31 rfl).1 (qC h))) <| se rfl rfl
    intro s70 w71 e72 hf73 ha74
    have K75 := Kp.ofD (kp := [(12, 45)]) rfl hf73
    have d76 : s70 44 = (.bool ((qM.e1 a0 x7_1) || (!(Q1 (sub a0 0 x7_1) (qc ((gt a0 x7_1).path)))))) := ha74 32 rfl
    clear ha74 hf73
    refine qe ?_
    rcases qd H with ⟨q77, H⟩ | ⟨q77, H⟩
    ·refine qk (d76.trans (cb q77)) <| wr <| lp rfl (xa (.bool false) rfl) <| nx <| qn <| vv <| qw <| qw <| vv <| qw <| qw <| qt ?_
     obtain rfl := si H
     obtain rfl := si S17
     have H := C4
     obtain rfl := si H
     exact vh rfl ((e13.t (Below.trans e26 (Wr.below h29 (Nat.le_of_eq z24)))).t e72)
    ·refine qi (d76.trans (cb q77)) <| qo <| vk <| qe <| qG <| lp rfl (vi ((K75 7 rfl).trans h15) rfl) <| lp rfl (xm (.int .i64 (IntKind.wrap .i64 (x7_1 + 1))) rfl) <| nx ?_
     obtain rfl := si H
     exact ⟨_, Nat.lt_succ_self _, IntKind.wrap .i64 (x7_1 + 1), (ku2 (Kp.cut (ku2 (ku4 K12 rfl) rfl) K75 rfl) rfl), rfl, ((e13.t (Below.trans e26 (Wr.below h29 (Nat.le_of_eq z24)))).t e72), S17⟩
   ·refine qi (cb q18) <| vH <| qY <| qY <| yF <| qe ?_
    obtain rfl := si H
    obtain rfl := si S17
    exact ⟨(ku1 K12 rfl), e13, rfl⟩
 ·rintro s6 w5 ⟨K7, e8, y78⟩
  rw [y78] at C4
  have H := C4
  replace H : _ = some _ := H
  refine qe <| wr <| lp rfl (xa (.bool true) rfl) <| nx <| qn <| qt ?_
  obtain rfl := si H
  exact vh rfl e8
theorem qM.calls {w : World} {a0 : List Nd} (gv : GV 0 w) {v_a0 : Value} (f_a0 : Rd 4 qr w v_a0 a0) (h0 : a0.length ≤ 1048576) (h1 : ∀ x ∈ a0, x.path.length ≤ 1048576) :
  Calls Tryz.prog 43 #[v_a0] w (Rt (RP w (.bool (jO a0)))) := by
 obtain ⟨k, h⟩ := qM.eq a0 h0 h1
 exact qM.walk gv f_a0 h
/-! spec.l03Under -/
theorem yB.calls {w : World} {a0 : List Rec} {a1 : List UInt8} {v_a0 : Value} (f_a0 : Rd 5 qg w v_a0 a0) (h0 : a0.length ≤ 1048576) (h1 : a1.length ≤ 1048576) :
  Calls Tryz.prog 152 #[v_a0, S a1] w (Rt (RP w (.bool (yz a0 a1)))) := by
 obtain ⟨k, H⟩ := yB.eq a0 a1 h0 h1
 generalize (yz a0 a1) = r at H ⊢
 unfold yB.sh at H
 refine qh Tryz.func152 rfl (Nat.le_of_ble_eq_true rfl) Tryz.ntmps152 rfl ?_
 refine wr <| lp rfl (xa (.bool false) rfl) <| nx <| qj <| wr <| lp rfl (xm (S a1) rfl) ?_
 obtain ⟨c1, H⟩ := qa H
 refine lc rfl rfl Tryz.call161 (vn.calls (w := w) (a0 := a1) (od c1)) rfl <| fun w2 e3 => lp rfl (xa (S (qc a1)) rfl) <| nx ?_
 obtain ⟨z5, L6, C7⟩ := bind_some H
 clear H
 refine  vD (fun s0 sQ wQ => Kp [(4, 7), (9, 25)] s0 sQ ∧ Ext w2 wQ ∧ z5 = .inr ()) ?_ ?_
 ·refine qB <| vo (fun s0 kk sQ wQ => ∃ (x5_4 : List UInt8), Kp [(4, 7), (9, 25)] s0 sQ ∧ sQ 5 = S x5_4 ∧ Ext w2 wQ ∧ qp (yB.b1 a0) kk x5_4 = some z5) k ⟨(qc a1), kz, rfl, er, L6⟩ ?_
  rintro k12 s13 w14 ⟨x5_4, K15, h18, e16, L17⟩
  cases k12 with
  | zero => exact absurd L17 (by simp [qp])
  | succ k12 =>
   obtain ⟨t19, H, S20⟩ := qK L17
   clear L17
   unfold yB.b1 at H
   refine qj <| wr <| lp rfl (qf h18) <| lp rfl (VK rfl rfl) <| nx ?_
   rcases qd H with ⟨q21, H⟩ | ⟨q21, H⟩
   ·refine qk (cb q21) <| qo <| qe <| qj <| qB <| wr <| lp rfl (xm v_a0 (K15 0 rfl)) <| lp rfl (qf h18) ?_
    obtain ⟨c22, H⟩ := qa H
    refine lc rfl rfl Tryz.call145 (y4.calls (w := w14) (a0 := a0) (a1 := x5_4) (Rd.ext f_a0 (e3.t e16)) (od c22)) rfl <| fun w23 e24 => lp rfl (xa (.int .i64 (qD a0 x5_4)) rfl) <| nx <| wr <| lp rfl (xm (.int .i64 (qD a0 x5_4)) rfl) <| lp rfl (VQ rfl rfl) <| lp rfl (xm (.bool (decide (0 ≤ (qD a0 x5_4)))) rfl) ?_
    obtain ⟨z26, x27, H⟩ := bind_some H
    refine yk 6 [(19, 25)] 24 (fun q => q = z26) ?_ ?_
    ·rcases qd x27 with ⟨b24_, H⟩ | ⟨b24_, H⟩
     ·refine lg rfl rfl rfl rfl (cb b24_) (xm v_a0 (K15 0 rfl)) <| lg rfl rfl rfl rfl (cb b24_) (xm (.int .i64 (qD a0 x5_4)) rfl) ?_
      obtain ⟨c26, H⟩ := qa H
      refine q4 (tg rfl rfl rfl (cb b24_)) rfl (ltb rfl) rfl Tryz.underlying35 Tryz.sizeOf58 rfl (Rd.ext f_a0 ((e3.t e16).t e24)) rfl c26 <| fun p27 h28 => lg rfl rfl rfl rfl (cb b24_) (qb Tryz.underlying58 rfl Tryz.sizeOf4 rfl rfl) <| lg rfl rfl rfl rfl (cb b24_) (vT Tryz.isAgg4 (j := 4) h28 rfl rfl) <| lp rfl (qu (b := true) (v := (.bool ((gt a0 (qD a0 x5_4)).opq))) (cb b24_) rfl) ?_
      obtain rfl := si H
      exact nx ⟨(ku2 (ku4 kz rfl) rfl), ⟨_, rfl, rfl⟩, er⟩
     ·refine ls rfl rfl rfl (cb b24_) rfl <| ls rfl rfl rfl (cb b24_) rfl <| ls rfl rfl rfl (cb b24_) rfl <| ls rfl rfl rfl (cb b24_) rfl <| ls rfl rfl rfl (cb b24_) rfl <| lp rfl (qu (b := false) (v := (.bool false)) (cb b24_) rfl) ?_
      obtain rfl := si H
      exact nx ⟨(ku2 (ku4 kz rfl) rfl), ⟨_, rfl, rfl⟩, er⟩
    intro s32 w28 z33 K29 hq h30 e31
    rw [hq] at h30; clear hq
    refine nx ?_
    rcases qd H with ⟨q34, H⟩ | ⟨q34, H⟩
    ·refine qk (h30.trans (cb q34)) <| wr <| lp rfl (xa (.bool true) rfl) <| nx <| qn <| vv <| qw <| qw <| vv <| qw <| qw <| qt ?_
     obtain rfl := si H
     obtain rfl := si S20
     have H := C7
     obtain rfl := si H
     exact vh rfl (((e3.t e16).t e24).t e31)
    ·refine qi (h30.trans (cb q34)) <| qo <| vk <| qe <| qG <| lp rfl (xm (S x5_4) ((K29 5 rfl).trans h18)) ?_
     obtain ⟨c35, H⟩ := qa H
     refine lc rfl rfl Tryz.call161 (vn.calls (w := w28) (a0 := x5_4) (od c35)) rfl <| fun w36 e37 => lp rfl (xa (S (qc x5_4)) rfl) <| nx ?_
     obtain rfl := si H
     exact ⟨_, Nat.lt_succ_self _, (qc x5_4), (ku3 (Kp.cut (ku1 (ku8 K15 rfl) rfl) K29 rfl) rfl), rfl, (((e16.t e24).t e31).t e37), S20⟩
   ·refine qi (cb q21) <| vH <| qY <| qY <| yF <| qe ?_
    obtain rfl := si H
    obtain rfl := si S20
    exact ⟨(ku2 K15 rfl), e16, rfl⟩
 ·rintro s9 w8 ⟨K10, e11, y38⟩
  rw [y38] at C7
  have H := C7
  replace H : _ = some _ := H
  refine qe <| wr <| lp rfl (xa (.bool false) rfl) <| nx <| qn <| qt ?_
  obtain rfl := si H
  exact vh rfl (e3.t e11)
/-! impl.ancestors -/
theorem vU.calls {w : World} {a0 : List UInt8} (h0 : a0.length ≤ 1048576) :
  Calls Tryz.prog 218 #[S a0] w (Rt (RO 9 1 yK w (jK a0))) := by
 obtain ⟨k, H⟩ := vU.eq a0 h0
 generalize (jK a0) = r at H ⊢
 unfold vU.sh at H
 refine qh Tryz.func218 rfl (Nat.le_of_ble_eq_true rfl) Tryz.ntmps218 rfl ?_
 refine wr <| lp rfl (xa (.slice none 0 0) rfl) <| nx <| wr <| vO (.plain rfl) rfl (ltb rfl) rfl Tryz.underlying42 Tryz.sizeOf9 Tryz.zeroValue9 rfl rfl rfl (vs := []) rfl (qR rfl) <| fun b1 w2 z3 z4 e5 k6 => lp rfl (xa (.slice (some ⟨b1, 0, none⟩) 0 0) rfl) <| nx <| qj <| wr <| lp rfl (xm (S a0) rfl) ?_
 obtain ⟨c7, H⟩ := qa H
 refine lc rfl rfl Tryz.call143 (jN.calls (w := w2) (a0 := a0) (od c7)) rfl <| fun w8 e9 => lp rfl (xa (S (qc a0)) rfl) <| nx ?_
 obtain ⟨z13, L14, C15⟩ := bind_some H
 clear H
 refine  vD (fun s0 sQ wQ => ∃ (x3_16 : List (List UInt8)) (v17 : Value), Kp [(0, 1), (3, 4), (7, 15)] s0 sQ ∧ sQ 3 = v17 ∧ Ow 9 1 yK w8.heap.size wQ v17 x3_16 ∧ Ext w8 wQ ∧ z13 = .inr x3_16) ?_ ?_
 ·refine qB <| vo (fun s0 kk sQ wQ => ∃ (x0_10 : List UInt8) (x3_11 : List (List UInt8)) (v12 : Value), Kp [(0, 1), (3, 4), (7, 15)] s0 sQ ∧ sQ 0 = S x0_10 ∧ sQ 3 = v12 ∧ Ow 9 1 yK w8.heap.size wQ v12 x3_11 ∧ Ext w8 wQ ∧ qp (vU.b1) kk (x0_10, x3_11) = some z13) k ⟨(qc a0), ([] : List (List UInt8)), (.slice (some ⟨b1, 0, none⟩) 0 0), kz, rfl, rfl, (Ow.zero), er, L14⟩ ?_
  rintro k22 s23 w24 ⟨x0_10, x3_11, v12, K25, h28, h29, h30, e26, L27⟩
  cases k22 with
  | zero => exact absurd L27 (by simp [qp])
  | succ k22 =>
   obtain ⟨t31, H, S32⟩ := qK L27
   clear L27
   unfold vU.b1 at H
   refine qj <| wr <| lp rfl (qf h28) <| lp rfl (VK rfl rfl) <| nx ?_
   rcases qd H with ⟨q33, H⟩ | ⟨q33, H⟩
   ·refine qk (cb q33) <| qo <| qe <| qj <| qB <| qG <| lp rfl (qf h29) <| lp rfl (qf h28) <| vO (.plain rfl) rfl (ltb rfl) rfl Tryz.underlying42 Tryz.sizeOf9 Tryz.zeroValue9 rfl rfl rfl (vs := [(S x0_10)]) rfl (qR rfl) <| fun b34 w35 z36 z37 e38 k39 => ?_
    obtain ⟨c40, H⟩ := qa H
    refine vW (enc := yK) (.plain rfl) rfl (ltb rfl) rfl El.t42 rfl rfl (Ow.ext h30 e38) (Ow.rd (Ow.new (xs := [x0_10]) (sz := 1) (enc := yK) (base := w24.heap.size) k39 (Nat.le_of_eq z36) rfl (fun _ _ => by rfl) (Nat.le_of_ble_eq_true rfl))) (GJ _) (od c40) ((e26.t e38)).size <| fun v41 w42 o43 z44 g45 => lp rfl (xa v41 rfl) <| qJ <| vk <| qe <| qG <| lp rfl (qf h28) ?_
    obtain ⟨c46, H⟩ := qa H
    refine lc rfl rfl Tryz.call143 (jN.calls (w := w42) (a0 := x0_10) (od c46)) rfl <| fun w47 e48 => lp rfl (xa (S (qc x0_10)) rfl) <| nx ?_
    obtain rfl := si H
    exact ⟨_, Nat.lt_succ_self _, (qc x0_10), x3_11 ++ ([x0_10] : List (List UInt8)), v41, (ku2 (ku8 K25 rfl) rfl), rfl, rfl, (Ow.ext o43 e48), (Ext.trans (g45 _ (e26.t e38)) e48), S32⟩
   ·refine qi (cb q33) <| vH <| qY <| qY <| yF <| qe ?_
    obtain rfl := si H
    obtain rfl := si S32
    exact ⟨x3_11, v12, (ku2 K25 rfl), h29, h30, e26, rfl⟩
 ·rintro s19 w18 ⟨x3_16, v17, K20, h49, h50, e21, y51⟩
  rw [y51] at C15
  have H := C15
  replace H : _ = some _ := H
  refine qe <| wr <| lp rfl (qf h49) <| lp rfl (xa v17 rfl) <| nx <| qn <| qt ?_
  obtain rfl := si H
  exact Qi rfl ((e5.t e9).t e21) h50 ((e5.t e9)).size
/-! impl.above$1 -/
theorem jL.walk {w : World} {a0 : List UInt8} {a1 : List Rec} {a2 : Rec → Option Bool} {v_a1 : Value} (f_a1 : Rd 5 qg w v_a1 a1) (g_a1 : v_a1.cells = #[v_a1]) {b_a1 : Nat} (k_a1 : Blk w b_a1 #[v_a1] 35) {v_a2 : Value} (f_a2 : ∀ (x0 : Rec) (r : Bool), a2 x0 = some r → jq Tryz.prog w v_a2 [(.agg (qg x0).toArray)] (.bool r)) (g_a2 : v_a2.cells = #[v_a2]) {b_a2 : Nat} (k_a2 : Blk w b_a2 #[v_a2] 137) {r : Bool} (H : jL.sh a0 a1 a2 = some r) :
  Calls Tryz.prog 260 #[S a0, .pointer (some ⟨b_a1, 0, none⟩), .pointer (some ⟨b_a2, 0, none⟩)] w (Rt (RP w (.bool r))) := by
 unfold jL.sh at H
 refine qh Tryz.func260 rfl (Nat.le_of_ble_eq_true rfl) Tryz.ntmps260 rfl ?_
 refine wr <| lp rfl (xa (.bool false) rfl) <| nx <| wr <| lp rfl (qz Tryz.isAgg35 k_a1 rfl rfl) <| lp rfl (xm (S a0) rfl) ?_
 obtain ⟨c1, H⟩ := qa H
 refine lc rfl rfl Tryz.call135 (QT.calls (w := w) (a0 := a1) (a1 := a0) f_a1 (od c1)) rfl <| fun w2 e3 => lp rfl (xa (.int .i64 (qD a1 a0)) rfl) <| nx <| qj ?_
 obtain ⟨c4, H⟩ := qa H
 obtain ⟨z7, x8, H⟩ := bind_some H
 refine Yp [LEq (.int .i64 (qD a1 a0)), LEq (.bool (decide (0 ≤ (qD a1 a0)))), LEq (.bool (decide (0 ≤ (qD a1 a0)))), LIf (decide (0 ≤ (qD a1 a0))) (LEq v_a2), LIf (decide (0 ≤ (qD a1 a0))) (LEq v_a1), LIf (decide (0 ≤ (qD a1 a0))) (LEq (.int .i64 (qD a1 a0))), LIf (decide (0 ≤ (qD a1 a0))) (yu (qg (gt a1 (qD a1 a0)))), LIf (decide (0 ≤ (qD a1 a0))) (LEq (.agg (qg (gt a1 (qD a1 a0))).toArray)), LIf (decide (0 ≤ (qD a1 a0))) (LEq (.bool z7)), LEq (.bool ((decide (0 ≤ (qD a1 a0))) && z7)), LEq (.bool ((decide (0 ≤ (qD a1 a0))) && z7))] (by kernel_rfl) (by kernel_rfl) ⟨qm, qm, qm, lm, lm, lm, (LIf.mono yu.mono), lm, lm, qm, qm, trivial⟩ ⟨?_, ?_, ?_, ?_, ?_, ?_, ?_, ?_, ?_, ?_, ?_, trivial⟩ ?_
 ·exact fun s x e f d u => lp rfl (xm (.int .i64 (qD a1 a0)) (f 5 rfl)) <| se rfl rfl
 ·exact fun s x e f d u => lp rfl (VQ (d 0 rfl) rfl) <| se rfl rfl
 ·exact fun s x e f d u => lp rfl (qf (d 1 rfl)) <| se rfl rfl
 ·exact fun s x e f d u => gT rfl rfl rfl rfl (d 2 rfl) rfl fun b t => lt t rfl rfl (qz Tryz.isAgg137 (Blk.ext k_a2 (e3.t e)) (f 2 rfl) rfl) <| sg rfl rfl b rfl
 ·exact fun s x e f d u => gT rfl rfl rfl rfl (d 2 rfl) rfl fun b t => lt t rfl rfl (qz Tryz.isAgg35 (Blk.ext k_a1 (e3.t e)) (f 1 rfl) rfl) <| sg rfl rfl b rfl
 ·exact fun s x e f d u => gT rfl rfl rfl rfl (d 2 rfl) rfl fun b t => lt t rfl rfl (xm (.int .i64 (qD a1 a0)) (f 5 rfl)) <| sg rfl rfl b rfl
 ·exact fun s x e f d u => gT rfl rfl rfl rfl (d 2 rfl) rfl fun b t => q4 t rfl (ltb rfl) rfl Tryz.underlying35 Tryz.sizeOf58 ((d 4 rfl).1 b) (Rd.ext f_a1 (e3.t e)) ((d 5 rfl).1 b) (vE b c4) <| fun p12 h13 => sg rfl rfl b ⟨_, rfl, h13⟩
 ·intro s x e f d u
  refine gT rfl rfl rfl rfl (d 2 rfl) rfl fun b t => ?_
  obtain ⟨p14, h15, h16⟩ := ((d 6 rfl).1 b)
  exact lt t rfl rfl (qW Tryz.isAgg58 Tryz.sizeOf58 rfl h15 h16) <| sg rfl rfl b rfl
 ·exact fun s x e f d u => gT rfl rfl rfl rfl (d 2 rfl) rfl fun b t => Yb t rfl (ltb rfl) rfl ((d 3 rfl).1 b) (jq.ext (f_a2 _ _ x8) (e3.t e)) (vc ((d 7 rfl).1 b) rfl) <| fun w19 e20 => sgx rfl rfl b e20 rfl
 ·exact fun s x e f d u => lp rfl (Qh (d 2 rfl) rfl fun h => ((d 8 rfl).1 h)) <| se rfl rfl
 ·exact fun s x e f d u => lp rfl (qA (d 9 rfl)) <| se rfl rfl
 intro s21 w22 e23 hf24 ha25
 have K26 := Kp.ofD (kp := [(4, 5), (9, 19)]) rfl hf24
 have d27 : s21 4 = (.bool ((decide (0 ≤ (qD a1 a0))) && z7)) := ha25 10 rfl
 clear ha25 hf24
 refine qe <| qn <| qt ?_
 obtain rfl := si H
 exact vh d27 (e3.t e23)
theorem jL.calls {w : World} {a0 : List UInt8} {a1 : List Rec} {a2 : Rec → Option Bool} {r : Bool} {v_a1 : Value} (f_a1 : Rd 5 qg w v_a1 a1) (g_a1 : v_a1.cells = #[v_a1]) {b_a1 : Nat} (k_a1 : Blk w b_a1 #[v_a1] 35) {v_a2 : Value} (f_a2 : ∀ (x0 : Rec) (r : Bool), a2 x0 = some r → jq Tryz.prog w v_a2 [(.agg (qg x0).toArray)] (.bool r)) (g_a2 : v_a2.cells = #[v_a2]) {b_a2 : Nat} (k_a2 : Blk w b_a2 #[v_a2] 137) (h0 : a1.length ≤ 1048576) (H : (YQ a1 a2 a0) = some r) :
  Calls Tryz.prog 260 #[S a0, .pointer (some ⟨b_a1, 0, none⟩), .pointer (some ⟨b_a2, 0, none⟩)] w (Rt (RP w (.bool r))) := jL.walk f_a1 g_a1 k_a1 f_a2 g_a2 k_a2 (jL.eq a0 a1 a2 h0 H)
/-! impl.above -/
theorem Qf.walk {w : World} {a0 : List Rec} {a1 : List UInt8} {a2 : Rec → Option Bool} {v_a0 : Value} (f_a0 : Rd 5 qg w v_a0 a0) {v_a2 : Value} (f_a2 : ∀ (x0 : Rec) (r : Bool), a2 x0 = some r → jq Tryz.prog w v_a2 [(.agg (qg x0).toArray)] (.bool r)) (g_a2 : v_a2.cells = #[v_a2]) {r : Bool} (H : Qf.sh a0 a1 a2 = some r) :
  Calls Tryz.prog 207 #[v_a0, S a1, v_a2] w (Rt (RP w (.bool r))) := by
 unfold Qf.sh at H
 refine qh Tryz.func207 rfl (Nat.le_of_ble_eq_true rfl) Tryz.ntmps207 rfl ?_
 refine wr <| j0 (.plain rfl) rfl (ltb rfl) rfl rfl <| fun b1 w2 z3 z4 e5 k6 => j0 (.plain rfl) rfl (ltb rfl) rfl rfl <| fun b7 w8 z9 z10 e11 k12 => lp rfl (xa (.bool false) rfl) <| nx <| wr <| lp rfl (xm (S a1) rfl) ?_
 obtain ⟨c13, H⟩ := qa H
 refine vp (.plain rfl) rfl (ltb rfl) rfl Tryz.call218 (vU.calls (w := w8) (a0 := a1) (od c13)) rfl <| fun v16 w14 e15 o17 => lp rfl (V0 (vs := #[]) (us := #[.pointer (some ⟨b1, 0, none⟩), .pointer (some ⟨b7, 0, none⟩)]) rfl rfl) ?_
 obtain ⟨c22, H⟩ := qa H
 obtain ⟨z23, x24, H⟩ := bind_some H
 refine lc rfl rfl Tryz.call259 (vJ.calls (w := w14) (a0 := (jK a1)) (a1 := (fun (x0_ : List UInt8) => bif decide (a0.length ≤ 1048576) then (YQ a0 a2 x0_) else none)) (Ow.rd o17) (fun x0_ r h => by obtain ⟨q0, h⟩ := qa h; exact jq.mk Tryz.call260 (by rfl) fun w20 k21 => jL.calls (w := w20) (a0 := x0_) (a1 := a0) (a2 := a2) (Rd.ext f_a0 (((e5.t e11).t e15).t k21)) (Rd.cs (Rd.ext f_a0 e5)) (Blk.ext (Blk.cs k6 (Rd.cs (Rd.ext f_a0 e5))) ((e11.t e15).t k21)) (fun x0 r h => jq.ext (f_a2 x0 r h) (((e5.t e11).t e15).t k21)) g_a2 (Blk.ext (Blk.cs k12 g_a2) (e15.t k21)) (od q0) h) rfl (od c22) x24) rfl <| fun w25 e26 => lp rfl (xa (.bool z23) rfl) <| nx <| qn <| qt ?_
 obtain rfl := si H
 exact vh rfl (((e5.t e11).t e15).t e26)
theorem Qf.calls {w : World} {a0 : List Rec} {a1 : List UInt8} {a2 : Rec → Option Bool} {r : Bool} {v_a0 : Value} (f_a0 : Rd 5 qg w v_a0 a0) {v_a2 : Value} (f_a2 : ∀ (x0 : Rec) (r : Bool), a2 x0 = some r → jq Tryz.prog w v_a2 [(.agg (qg x0).toArray)] (.bool r)) (g_a2 : v_a2.cells = #[v_a2]) (h0 : a0.length ≤ 1048576) (h1 : a1.length ≤ 1048576) (H : (Yg (YQ a0 a2) (jK a1)) = some r) :
  Calls Tryz.prog 207 #[v_a0, S a1, v_a2] w (Rt (RP w (.bool r))) := Qf.walk f_a0 f_a2 g_a2 (Qf.eq a0 a1 a2 h0 h1 H)
/-! impl.underOpaque$1 -/
theorem yJ.walk {w : World} {a0 : Rec} {r : Bool} (H : yJ.sh a0 = some r) :
  Calls Tryz.prog 233 #[.agg (qg a0).toArray] w (Rt (RP w (.bool r))) := by
 unfold yJ.sh at H
 refine qh Tryz.func233 rfl (Nat.le_of_ble_eq_true rfl) Tryz.ntmps233 rfl ?_
 refine wr <| j0 (.plain rfl) rfl (ltb rfl) rfl rfl <| fun b1 w2 z3 z4 e5 k6 => lp rfl (xa (.bool false) rfl) <| nx <| wr <| lp rfl (qb Tryz.underlying58 rfl Tryz.sizeOf4 rfl rfl) <| lp rfl (qz Tryz.isAgg4 k6 rfl rfl) <| lp rfl (xa (.bool a0.opq) rfl) <| nx <| qn <| qt ?_
 obtain rfl := si H
 exact vh rfl e5
theorem yJ.calls {w : World} {a0 : Rec} :
  Calls Tryz.prog 233 #[.agg (qg a0).toArray] w (Rt (RP w (.bool a0.opq))) := yJ.walk (yJ.eq a0)
/-! impl.underOpaque -/
theorem jF.calls {w : World} {a0 : List Rec} {a1 : List UInt8} {v_a0 : Value} (f_a0 : Rd 5 qg w v_a0 a0) (h0 : a0.length ≤ 1048576) (h1 : a1.length ≤ 1048576) :
  Calls Tryz.prog 151 #[v_a0, S a1] w (Rt (RP w (.bool (yz a0 a1)))) := by
 have H := jF.eq a0 a1 h0 h1
 generalize (yz a0 a1) = r at H ⊢
 unfold jF.sh at H
 refine qh Tryz.func151 rfl (Nat.le_of_ble_eq_true rfl) Tryz.ntmps151 rfl ?_
 refine wr <| lp rfl (xa (.bool false) rfl) <| nx <| wr <| lp rfl (xm v_a0 rfl) <| lp rfl (xm (S a1) rfl) ?_
 obtain ⟨c5, H⟩ := qa H
 obtain ⟨c6, H⟩ := qa H
 obtain ⟨z7, x8, H⟩ := bind_some H
 refine lc rfl rfl Tryz.call207 (Qf.calls (w := w) (a0 := a0) (a1 := a1) (a2 := (fun (x0_ : Rec) => some x0_.opq)) f_a0 (fun x0_ r h => by have h := si h; subst h; exact jq.mk Tryz.call233 (by rfl) fun w3 k4 => yJ.calls (w := w3) (a0 := x0_)) rfl (od c5) (od c6) x8) rfl <| fun w9 e10 => lp rfl (xa (.bool z7) rfl) <| nx <| qn <| qt ?_
 obtain rfl := si H
 exact vh rfl e10
/-! spec.l06Stops -/
theorem Qw.calls {w : World} {a0 : Rec} :
  Calls Tryz.prog 208 #[.agg (qg a0).toArray] w (Rt (RP w (.bool (vz a0)))) := by
 have H := Qw.eq a0
 generalize (vz a0) = r at H ⊢
 unfold Qw.sh at H
 refine qh Tryz.func208 rfl (Nat.le_of_ble_eq_true rfl) Tryz.ntmps208 rfl ?_
 refine wr <| j0 (.plain rfl) rfl (ltb rfl) rfl rfl <| fun b1 w2 z3 z4 e5 k6 => lp rfl (xa (.bool false) rfl) <| nx <| wr <| lp rfl (qb Tryz.underlying58 rfl Tryz.sizeOf3 rfl rfl) <| lp rfl (qz Tryz.isAgg3 k6 rfl rfl) <| lp rfl (j6 rfl rfl) <| lp rfl (xm (.bool (!decide (a0.kind = 3))) rfl) <| jI 3 [(7, 10)] 9 (.bool ((!decide (a0.kind = 3)) || a0.opq)) ?_ ?_
 ·rcases ql (!decide (a0.kind = 3)) with b6_ | b6_
  ·exact ls rfl rfl rfl (cb b6_) rfl <| ls rfl rfl rfl (cb b6_) rfl <| lp rfl (qu (b := true) (v := (.bool true)) (cb b6_) rfl) <| nx ⟨(ku3 kz rfl), (Jo b6_), er⟩
  ·exact lg rfl rfl rfl rfl (cb b6_) (qb Tryz.underlying58 rfl Tryz.sizeOf4 rfl rfl) <| lg rfl rfl rfl rfl (cb b6_) (qz Tryz.isAgg4 k6 rfl rfl) <| lp rfl (qu (b := false) (v := (.bool a0.opq)) (cb b6_) rfl) <| nx ⟨(ku3 kz rfl), (Jn b6_), er⟩
 intro s12 w8 K9 h10 e11
 refine lp rfl (qA h10) <| nx <| qn <| qt ?_
 obtain rfl := si H
 exact vh rfl (e5.t e11)
/-! spec.l06Cuts -/
theorem yI.calls {w : World} {a0 : List Rec} {a1 : List UInt8} {v_a0 : Value} (f_a0 : Rd 5 qg w v_a0 a0) (h0 : a0.length ≤ 1048576) (h1 : a1.length ≤ 1048576) :
  Calls Tryz.prog 123 #[v_a0, S a1] w (Rt (RP w (.bool (vL a0 a1)))) := by
 obtain ⟨k, H⟩ := yI.eq a0 a1 h0 h1
 generalize (vL a0 a1) = r at H ⊢
 unfold yI.sh at H
 refine qh Tryz.func123 rfl (Nat.le_of_ble_eq_true rfl) Tryz.ntmps123 rfl ?_
 refine wr <| lp rfl (xa (.bool false) rfl) <| nx <| qj <| wr <| lp rfl (xm (S a1) rfl) ?_
 obtain ⟨c1, H⟩ := qa H
 refine lc rfl rfl Tryz.call161 (vn.calls (w := w) (a0 := a1) (od c1)) rfl <| fun w2 e3 => lp rfl (xa (S (qc a1)) rfl) <| nx ?_
 obtain ⟨z5, L6, C7⟩ := bind_some H
 clear H
 refine  vD (fun s0 sQ wQ => Kp [(4, 7), (9, 25)] s0 sQ ∧ Ext w2 wQ ∧ z5 = .inr ()) ?_ ?_
 ·refine qB <| vo (fun s0 kk sQ wQ => ∃ (x5_4 : List UInt8), Kp [(4, 7), (9, 25)] s0 sQ ∧ sQ 5 = S x5_4 ∧ Ext w2 wQ ∧ qp (yI.b1 a0) kk x5_4 = some z5) k ⟨(qc a1), kz, rfl, er, L6⟩ ?_
  rintro k12 s13 w14 ⟨x5_4, K15, h18, e16, L17⟩
  cases k12 with
  | zero => exact absurd L17 (by simp [qp])
  | succ k12 =>
   obtain ⟨t19, H, S20⟩ := qK L17
   clear L17
   unfold yI.b1 at H
   refine qj <| wr <| lp rfl (qf h18) <| lp rfl (VK rfl rfl) <| nx ?_
   rcases qd H with ⟨q21, H⟩ | ⟨q21, H⟩
   ·refine qk (cb q21) <| qo <| qe <| qj <| qB <| wr <| lp rfl (xm v_a0 (K15 0 rfl)) <| lp rfl (qf h18) ?_
    obtain ⟨c22, H⟩ := qa H
    refine lc rfl rfl Tryz.call145 (y4.calls (w := w14) (a0 := a0) (a1 := x5_4) (Rd.ext f_a0 (e3.t e16)) (od c22)) rfl <| fun w23 e24 => lp rfl (xa (.int .i64 (qD a0 x5_4)) rfl) <| nx <| wr <| lp rfl (xm (.int .i64 (qD a0 x5_4)) rfl) <| lp rfl (VQ rfl rfl) <| lp rfl (xm (.bool (decide (0 ≤ (qD a0 x5_4)))) rfl) ?_
    obtain ⟨z26, x27, H⟩ := bind_some H
    refine yk 6 [(19, 25)] 24 (fun q => q = z26) ?_ ?_
    ·rcases qd x27 with ⟨b24_, H⟩ | ⟨b24_, H⟩
     ·refine lg rfl rfl rfl rfl (cb b24_) (xm v_a0 (K15 0 rfl)) <| lg rfl rfl rfl rfl (cb b24_) (xm (.int .i64 (qD a0 x5_4)) rfl) ?_
      obtain ⟨c26, H⟩ := qa H
      refine q4 (tg rfl rfl rfl (cb b24_)) rfl (ltb rfl) rfl Tryz.underlying35 Tryz.sizeOf58 rfl (Rd.ext f_a0 ((e3.t e16).t e24)) rfl c26 <| fun p27 h28 => lg rfl rfl rfl rfl (cb b24_) (qW Tryz.isAgg58 Tryz.sizeOf58 rfl rfl h28) <| vy (tg rfl rfl rfl (cb b24_)) rfl (ltb rfl) rfl Tryz.call208 (Qw.calls (w := w23) (a0 := gt a0 (qD a0 x5_4))) rfl <| fun w29 e30 => lp rfl (qu (b := true) (v := (.bool (vz (gt a0 (qD a0 x5_4))))) (cb b24_) rfl) ?_
      obtain rfl := si H
      exact nx ⟨(ku2 (ku4 kz rfl) rfl), ⟨_, rfl, rfl⟩, e30⟩
     ·refine ls rfl rfl rfl (cb b24_) rfl <| ls rfl rfl rfl (cb b24_) rfl <| ls rfl rfl rfl (cb b24_) rfl <| ls rfl rfl rfl (cb b24_) rfl <| ls rfl rfl rfl (cb b24_) rfl <| lp rfl (qu (b := false) (v := (.bool false)) (cb b24_) rfl) ?_
      obtain rfl := si H
      exact nx ⟨(ku2 (ku4 kz rfl) rfl), ⟨_, rfl, rfl⟩, er⟩
    intro s32 w28 z33 K29 hq h30 e31
    rw [hq] at h30; clear hq
    refine nx ?_
    rcases qd H with ⟨q34, H⟩ | ⟨q34, H⟩
    ·refine qk (h30.trans (cb q34)) <| wr <| lp rfl (xa (.bool true) rfl) <| nx <| qn <| vv <| qw <| qw <| vv <| qw <| qw <| qt ?_
     obtain rfl := si H
     obtain rfl := si S20
     have H := C7
     obtain rfl := si H
     exact vh rfl (((e3.t e16).t e24).t e31)
    ·refine qi (h30.trans (cb q34)) <| qo <| vk <| qe <| qG <| lp rfl (xm (S x5_4) ((K29 5 rfl).trans h18)) ?_
     obtain ⟨c35, H⟩ := qa H
     refine lc rfl rfl Tryz.call161 (vn.calls (w := w28) (a0 := x5_4) (od c35)) rfl <| fun w36 e37 => lp rfl (xa (S (qc x5_4)) rfl) <| nx ?_
     obtain rfl := si H
     exact ⟨_, Nat.lt_succ_self _, (qc x5_4), (ku3 (Kp.cut (ku1 (ku8 K15 rfl) rfl) K29 rfl) rfl), rfl, (((e16.t e24).t e31).t e37), S20⟩
   ·refine qi (cb q21) <| vH <| qY <| qY <| yF <| qe ?_
    obtain rfl := si H
    obtain rfl := si S20
    exact ⟨(ku2 K15 rfl), e16, rfl⟩
 ·rintro s9 w8 ⟨K10, e11, y38⟩
  rw [y38] at C7
  have H := C7
  replace H : _ = some _ := H
  refine qe <| wr <| lp rfl (xa (.bool false) rfl) <| nx <| qn <| qt ?_
  obtain rfl := si H
  exact vh rfl (e3.t e11)
/-! impl.stops -/
theorem Vf.calls {w : World} {a0 : Rec} :
  Calls Tryz.prog 204 #[.agg (qg a0).toArray] w (Rt (RP w (.bool (vz a0)))) := by
 have H := Vf.eq a0
 generalize (vz a0) = r at H ⊢
 unfold Vf.sh at H
 refine qh Tryz.func204 rfl (Nat.le_of_ble_eq_true rfl) Tryz.ntmps204 rfl ?_
 refine wr <| j0 (.plain rfl) rfl (ltb rfl) rfl rfl <| fun b1 w2 z3 z4 e5 k6 => lp rfl (xa (.bool false) rfl) <| nx <| wr <| lp rfl (qb Tryz.underlying58 rfl Tryz.sizeOf3 rfl rfl) <| lp rfl (qz Tryz.isAgg3 k6 rfl rfl) <| lp rfl (j6 rfl rfl) <| lp rfl (xm (.bool (!decide (a0.kind = 3))) rfl) <| jI 3 [(7, 10)] 9 (.bool ((!decide (a0.kind = 3)) || a0.opq)) ?_ ?_
 ·rcases ql (!decide (a0.kind = 3)) with b6_ | b6_
  ·exact ls rfl rfl rfl (cb b6_) rfl <| ls rfl rfl rfl (cb b6_) rfl <| lp rfl (qu (b := true) (v := (.bool true)) (cb b6_) rfl) <| nx ⟨(ku3 kz rfl), (Jo b6_), er⟩
  ·exact lg rfl rfl rfl rfl (cb b6_) (qb Tryz.underlying58 rfl Tryz.sizeOf4 rfl rfl) <| lg rfl rfl rfl rfl (cb b6_) (qz Tryz.isAgg4 k6 rfl rfl) <| lp rfl (qu (b := false) (v := (.bool a0.opq)) (cb b6_) rfl) <| nx ⟨(ku3 kz rfl), (Jn b6_), er⟩
 intro s12 w8 K9 h10 e11
 refine lp rfl (qA h10) <| nx <| qn <| qt ?_
 obtain rfl := si H
 exact vh rfl (e5.t e11)
/-! impl.cuts -/
theorem Vr.calls {w : World} {a0 : List Rec} {a1 : List UInt8} {v_a0 : Value} (f_a0 : Rd 5 qg w v_a0 a0) (h0 : a0.length ≤ 1048576) (h1 : a1.length ≤ 1048576) :
  Calls Tryz.prog 122 #[v_a0, S a1] w (Rt (RP w (.bool (vL a0 a1)))) := by
 have H := Vr.eq a0 a1 h0 h1
 generalize (vL a0 a1) = r at H ⊢
 unfold Vr.sh at H
 refine qh Tryz.func122 rfl (Nat.le_of_ble_eq_true rfl) Tryz.ntmps122 rfl ?_
 refine wr <| lp rfl (xa (.bool false) rfl) <| nx <| wr <| lp rfl (xm v_a0 rfl) <| lp rfl (xm (S a1) rfl) ?_
 obtain ⟨c5, H⟩ := qa H
 obtain ⟨c6, H⟩ := qa H
 obtain ⟨z7, x8, H⟩ := bind_some H
 refine lc rfl rfl Tryz.call207 (Qf.calls (w := w) (a0 := a0) (a1 := a1) (a2 := (fun (x0_ : Rec) => some (vz x0_))) f_a0 (fun x0_ r h => by have h := si h; subst h; exact jq.mk Tryz.call204 (by rfl) fun w3 k4 => Vf.calls (w := w3) (a0 := x0_)) rfl (od c5) (od c6) x8) rfl <| fun w9 e10 => lp rfl (xa (.bool z7) rfl) <| nx <| qn <| qt ?_
 obtain rfl := si H
 exact vh rfl e10
/-! spec.l05Stack -/
theorem yC.calls {w : World} {a0 : List (List Rec)} {v_a0 : Value} (f_a0 : Rd2 5 qg w v_a0 a0) (h0 : a0.length ≤ 1048576) (h1 : ∀ l ∈ a0, l.length ≤ 1048576) (h2 : ∀ l ∈ a0, ∀ x ∈ l, x.path.length ≤ 1048576) :
  Calls Tryz.prog 107 #[v_a0] w (Rt (RP w (.bool (jQ a0)))) := by
 obtain ⟨k, H⟩ := yC.eq a0 h0 h1 h2
 generalize (jQ a0) = r at H ⊢
 unfold yC.sh at H
 refine qh Tryz.func107 rfl (Nat.le_of_ble_eq_true rfl) Tryz.ntmps107 rfl ?_
 refine wr <| lp rfl (xa (.bool false) rfl) <| nx <| qj <| wr <| lp rfl (xm v_a0 rfl) <| lp rfl (Ym Tryz.underlying23 rfl f_a0) <| lp rfl (jJ rfl rfl) <| nx ?_
 rcases qd H with ⟨q1, H⟩ | ⟨q1, H⟩
 ·refine qk (cb q1) <| wr <| lp rfl (xa (.bool false) rfl) <| nx <| qn <| qw <| qt ?_
  obtain rfl := si H
  exact vh rfl er
 ·refine qi (cb q1) <| qo <| qe <| qj <| wr <| lp rfl (xa (.int .i64 0) rfl) <| nx ?_
  obtain ⟨z3, L4, C5⟩ := bind_some H
  clear H
  refine  vD (fun s0 sQ wQ => Kp [(2, 4), (7, 19)] s0 sQ ∧ Ext w wQ ∧ z3 = .inr ()) ?_ ?_
  ·refine qB <| vo (fun s0 kk sQ wQ => ∃ (x3_2 : Int), Kp [(2, 4), (7, 19)] s0 sQ ∧ sQ 3 = .int .i64 x3_2 ∧ Ext w wQ ∧ qp (yC.b1 a0) kk x3_2 = some z3) k ⟨0, kz, rfl, er, L4⟩ ?_
   rintro k10 s11 w12 ⟨x3_2, K13, h16, e14, L15⟩
   cases k10 with
   | zero => exact absurd L15 (by simp [qp])
   | succ k10 =>
    obtain ⟨t17, H, S18⟩ := qK L15
    clear L15
    unfold yC.b1 at H
    refine qj <| wr <| lp rfl (qf h16) <| lp rfl (xm v_a0 (K13 0 rfl)) <| lp rfl (Ym Tryz.underlying23 rfl (Rd2.ext f_a0 e14)) <| lp rfl (yl rfl rfl) <| nx ?_
    rcases qd H with ⟨q19, H⟩ | ⟨q19, H⟩
    ·refine qk (cb q19) <| qo <| qe <| qj <| qB <| wr <| lp rfl (xm v_a0 (K13 0 rfl)) <| lp rfl (qf h16) ?_
     obtain ⟨c20, H⟩ := qa H
     refine L_idx2 (.plain rfl) rfl (ltb rfl) rfl Tryz.underlying23 Tryz.sizeOf35 rfl (Rd2.ext f_a0 e14) rfl c20 <| fun p21 v23 h22 h24 => lp rfl (yr Tryz.isAgg35 rfl h22 rfl) ?_
     obtain ⟨c25, H⟩ := qa H
     obtain ⟨c26, H⟩ := qa H
     refine lc rfl rfl Tryz.call120 (jU.calls (w := w12) (a0 := gt a0 x3_2) h24 (od c25) (od c26)) rfl <| fun w27 e28 => lp rfl (yM rfl) <| nx ?_
     rcases qd H with ⟨q29, H⟩ | ⟨q29, H⟩
     ·refine qk (cb q29) <| wr <| lp rfl (xa (.bool false) rfl) <| nx <| qn <| vv <| qw <| qw <| vv <| qw <| qw <| qt ?_
      obtain rfl := si H
      obtain rfl := si S18
      have H := C5
      obtain rfl := si H
      exact vh rfl (e14.t e28)
     ·refine qi (cb q29) <| qo <| vk <| qe <| qG <| lp rfl (qf h16) <| lp rfl (vi rfl rfl) <| lp rfl (xa (.int .i64 (IntKind.wrap .i64 (x3_2 + 1))) rfl) <| nx ?_
      obtain rfl := si H
      exact ⟨_, Nat.lt_succ_self _, IntKind.wrap .i64 (x3_2 + 1), (ku1 (ku4 (ku8 K13 rfl) rfl) rfl), rfl, (e14.t e28), S18⟩
    ·refine qi (cb q19) <| vH <| qY <| qY <| yF <| qe ?_
     obtain rfl := si H
     obtain rfl := si S18
     exact ⟨(ku4 K13 rfl), e14, rfl⟩
  ·rintro s7 w6 ⟨K8, e9, y30⟩
   rw [y30] at C5
   have H := C5
   replace H : _ = some _ := H
   refine qe <| wr <| lp rfl (xa (.bool true) rfl) <| nx <| qn <| qt ?_
   obtain rfl := si H
   exact vh rfl e9
/-! impl.all(()impl.Record)$1 -/
theorem jM.walk {w : World} {a0 : List Rec} {a1 : List Rec → Option Bool} {v_a0 : Value} (f_a0 : Rd 5 qg w v_a0 a0) {v_a1 : Value} (f_a1 : ∀ (x0 : List Rec) (r : Bool), a1 x0 = some r → ∀ (u0 : Value) (wR : World), Ext w wR → Rd 5 qg wR u0 x0 → jq Tryz.prog wR v_a1 [u0] (.bool r)) (g_a1 : v_a1.cells = #[v_a1]) {b_a1 : Nat} (k_a1 : Blk w b_a1 #[v_a1] 50) {r : Bool} (H : jM.sh a0 a1 = some r) :
  Calls Tryz.prog 200 #[v_a0, .pointer (some ⟨b_a1, 0, none⟩)] w (Rt (RP w (.bool r))) := by
 unfold jM.sh at H
 refine qh Tryz.func200 rfl (Nat.le_of_ble_eq_true rfl) Tryz.ntmps200 rfl ?_
 refine wr <| lp rfl (xa (.bool false) rfl) <| nx <| wr <| lp rfl (qz Tryz.isAgg50 k_a1 rfl rfl) <| lp rfl (xm v_a0 rfl) ?_
 obtain ⟨z1, x2, H⟩ := bind_some H
 refine Yb (.plain rfl) rfl (ltb rfl) rfl rfl (f_a1 _ _ x2 v_a0 w er f_a0) rfl <| fun w3 e4 => lp rfl (yM rfl) <| lp rfl (xa (.bool (!z1)) rfl) <| nx <| qn <| qt ?_
 obtain rfl := si H
 exact vh rfl e4
theorem jM.calls {w : World} {a0 : List Rec} {a1 : List Rec → Option Bool} {r : Bool} {v_a0 : Value} (f_a0 : Rd 5 qg w v_a0 a0) {v_a1 : Value} (f_a1 : ∀ (x0 : List Rec) (r : Bool), a1 x0 = some r → ∀ (u0 : Value) (wR : World), Ext w wR → Rd 5 qg wR u0 x0 → jq Tryz.prog wR v_a1 [u0] (.bool r)) (g_a1 : v_a1.cells = #[v_a1]) {b_a1 : Nat} (k_a1 : Blk w b_a1 #[v_a1] 50) (H : ((a1 a0).map (!·)) = some r) :
  Calls Tryz.prog 200 #[v_a0, .pointer (some ⟨b_a1, 0, none⟩)] w (Rt (RP w (.bool r))) := jM.walk f_a0 f_a1 g_a1 k_a1 (jM.eq a0 a1 H)
/-! slices.IndexFunc(()()impl.Record,()impl.Record) -/
theorem va.walk {k : Nat} {w : World} {a0 : List (List Rec)} {a1 : List Rec → Option Bool} {v_a0 : Value} (f_a0 : Rd2 5 qg w v_a0 a0) {v_a1 : Value} (f_a1 : ∀ (x0 : List Rec) (r : Bool), a1 x0 = some r → ∀ (u0 : Value) (wR : World), Ext w wR → Rd 5 qg wR u0 x0 → jq Tryz.prog wR v_a1 [u0] (.bool r)) (g_a1 : v_a1.cells = #[v_a1]) {r : Int} (H : va.sh k a0 a1 = some r) :
  Calls Tryz.prog 258 #[v_a0, v_a1] w (Rt (RP w (.int .i64 r))) := by
 unfold va.sh at H
 refine qh Tryz.func258 rfl (Nat.le_of_ble_eq_true rfl) Tryz.ntmps258 rfl ?_
 refine wr <| lp rfl (xa (.int .i64 0) rfl) <| nx <| qj <| wr <| lp rfl (xm v_a0 rfl) <| lp rfl (Ym Tryz.underlying23 rfl f_a0) <| lp rfl (xm (.int .i64 0) rfl) <| nx ?_
 obtain ⟨z2, L3, C4⟩ := bind_some H
 clear H
 refine  vD (fun s0 sQ wQ => Kp [(4, 6), (8, 19)] s0 sQ ∧ Ext w wQ ∧ z2 = .inr ()) ?_ ?_
 ·refine qB <| vo (fun s0 kk sQ wQ => ∃ (x8_1 : Int), Kp [(4, 6), (8, 19)] s0 sQ ∧ sQ 8 = .int .i64 x8_1 ∧ Ext w wQ ∧ qp (va.b1 a0 a1) kk x8_1 = some z2) k ⟨0, kz, rfl, er, L3⟩ ?_
  rintro k9 s10 w11 ⟨x8_1, K12, h15, e13, L14⟩
  cases k9 with
  | zero => exact absurd L14 (by simp [qp])
  | succ k9 =>
   obtain ⟨t16, H, S17⟩ := qK L14
   clear L14
   unfold va.b1 at H
   refine wr <| lp rfl (yl h15 (K12 7 rfl)) <| nx <| qj ?_
   rcases qd H with ⟨q18, H⟩ | ⟨q18, H⟩
   ·refine qk (cb q18) <| qo <| qe <| qj <| qB <| wr <| lp rfl (qf h15) <| lp rfl (xa (.int .i64 x8_1) rfl) <| nx <| wr <| lp rfl (xm v_a1 (K12 1 rfl)) <| lp rfl (xm v_a0 (K12 0 rfl)) <| lp rfl (xm (.int .i64 x8_1) rfl) ?_
    obtain ⟨c19, H⟩ := qa H
    refine L_idx2 (.plain rfl) rfl (ltb rfl) rfl Tryz.underlying23 Tryz.sizeOf35 rfl (Rd2.ext f_a0 e13) rfl c19 <| fun p20 v22 h21 h23 => lp rfl (yr Tryz.isAgg35 rfl h21 rfl) ?_
    obtain ⟨z24, x25, H⟩ := bind_some H
    refine Yb (.plain rfl) rfl (ltb rfl) rfl rfl (f_a1 _ _ x25 v22 w11 e13 h23) rfl <| fun w26 e27 => nx ?_
    rcases qd H with ⟨q28, H⟩ | ⟨q28, H⟩
    ·refine qk (cb q28) <| wr <| lp rfl (xm (.int .i64 x8_1) rfl) <| lp rfl (xa (.int .i64 x8_1) rfl) <| nx <| qn <| vv <| qw <| qw <| vv <| qw <| qw <| qt ?_
     obtain rfl := si H
     obtain rfl := si S17
     have H := C4
     obtain rfl := si H
     exact vh rfl (e13.t e27)
    ·refine qi (cb q28) <| qo <| vk <| qe <| qG <| lp rfl (vi h15 rfl) <| lp rfl (xm (.int .i64 (IntKind.wrap .i64 (x8_1 + 1))) rfl) <| nx ?_
     obtain rfl := si H
     exact ⟨_, Nat.lt_succ_self _, IntKind.wrap .i64 (x8_1 + 1), (ku3 (ku8 K12 rfl) rfl), rfl, (e13.t e27), S17⟩
   ·refine qi (cb q18) <| vH <| qY <| qY <| yF <| qe ?_
    obtain rfl := si H
    obtain rfl := si S17
    exact ⟨(ku1 K12 rfl), e13, rfl⟩
 ·rintro s6 w5 ⟨K7, e8, y29⟩
  rw [y29] at C4
  have H := C4
  replace H : _ = some _ := H
  refine qe <| wr <| lp rfl (xa (.int .i64 (-1)) rfl) <| nx <| qn <| qt ?_
  obtain rfl := si H
  exact vh rfl e8
theorem va.calls {w : World} {a0 : List (List Rec)} {a1 : List Rec → Option Bool} {r : Int} {v_a0 : Value} (f_a0 : Rd2 5 qg w v_a0 a0) {v_a1 : Value} (f_a1 : ∀ (x0 : List Rec) (r : Bool), a1 x0 = some r → ∀ (u0 : Value) (wR : World), Ext w wR → Rd 5 qg wR u0 x0 → jq Tryz.prog wR v_a1 [u0] (.bool r)) (g_a1 : v_a1.cells = #[v_a1]) (h0 : a0.length ≤ 4611686018427387904) (H : (Yo a1 a0) = some r) :
  Calls Tryz.prog 258 #[v_a0, v_a1] w (Rt (RP w (.int .i64 r))) := by
 obtain ⟨k, h⟩ := va.eq a0 a1 h0 H
 exact va.walk f_a0 f_a1 g_a1 h
/-! slices.ContainsFunc(()()impl.Record,()impl.Record) -/
theorem vQ.walk {w : World} {a0 : List (List Rec)} {a1 : List Rec → Option Bool} {v_a0 : Value} (f_a0 : Rd2 5 qg w v_a0 a0) {v_a1 : Value} (f_a1 : ∀ (x0 : List Rec) (r : Bool), a1 x0 = some r → ∀ (u0 : Value) (wR : World), Ext w wR → Rd 5 qg wR u0 x0 → jq Tryz.prog wR v_a1 [u0] (.bool r)) (g_a1 : v_a1.cells = #[v_a1]) {r : Bool} (H : vQ.sh a0 a1 = some r) :
  Calls Tryz.prog 199 #[v_a0, v_a1] w (Rt (RP w (.bool r))) := by
 unfold vQ.sh at H
 refine qh Tryz.func199 rfl (Nat.le_of_ble_eq_true rfl) Tryz.ntmps199 rfl ?_
 refine wr <| lp rfl (xa (.bool false) rfl) <| nx <| wr <| lp rfl (xm v_a0 rfl) <| lp rfl (xm v_a1 rfl) ?_
 obtain ⟨c1, H⟩ := qa H
 obtain ⟨z2, x3, H⟩ := bind_some H
 refine lc rfl rfl Tryz.call258 (va.calls (w := w) (a0 := a0) (a1 := a1) f_a0 (fun x0 r h u0 wR kR q0 => f_a1 x0 r h u0 wR (Ext.trans er kR) q0) g_a1 (od c1) x3) rfl <| fun w4 e5 => lp rfl (VQ rfl rfl) <| lp rfl (xa (.bool (decide (0 ≤ z2))) rfl) <| nx <| qn <| qt ?_
 obtain rfl := si H
 exact vh rfl e5
theorem vQ.calls {w : World} {a0 : List (List Rec)} {a1 : List Rec → Option Bool} {r : Bool} {v_a0 : Value} (f_a0 : Rd2 5 qg w v_a0 a0) {v_a1 : Value} (f_a1 : ∀ (x0 : List Rec) (r : Bool), a1 x0 = some r → ∀ (u0 : Value) (wR : World), Ext w wR → Rd 5 qg wR u0 x0 → jq Tryz.prog wR v_a1 [u0] (.bool r)) (g_a1 : v_a1.cells = #[v_a1]) (h0 : a0.length ≤ 4611686018427387904) (H : (Yg a1 a0) = some r) :
  Calls Tryz.prog 199 #[v_a0, v_a1] w (Rt (RP w (.bool r))) := vQ.walk f_a0 f_a1 g_a1 (vQ.eq a0 a1 h0 H)
/-! impl.all(()impl.Record) -/
theorem Qr.walk {w : World} {a0 : List (List Rec)} {a1 : List Rec → Option Bool} {v_a0 : Value} (f_a0 : Rd2 5 qg w v_a0 a0) {v_a1 : Value} (f_a1 : ∀ (x0 : List Rec) (r : Bool), a1 x0 = some r → ∀ (u0 : Value) (wR : World), Ext w wR → Rd 5 qg wR u0 x0 → jq Tryz.prog wR v_a1 [u0] (.bool r)) (g_a1 : v_a1.cells = #[v_a1]) {r : Bool} (H : Qr.sh a0 a1 = some r) :
  Calls Tryz.prog 113 #[v_a0, v_a1] w (Rt (RP w (.bool r))) := by
 unfold Qr.sh at H
 refine qh Tryz.func113 rfl (Nat.le_of_ble_eq_true rfl) Tryz.ntmps113 rfl ?_
 refine wr <| j0 (.plain rfl) rfl (ltb rfl) rfl rfl <| fun b1 w2 z3 z4 e5 k6 => lp rfl (xa (.bool false) rfl) <| nx <| wr <| lp rfl (xm v_a0 rfl) <| lp rfl (V0 (vs := #[]) (us := #[.pointer (some ⟨b1, 0, none⟩)]) rfl rfl) ?_
 obtain ⟨c11, H⟩ := qa H
 obtain ⟨z12, x13, H⟩ := bind_some H
 refine lc rfl rfl Tryz.call199 (vQ.calls (w := w2) (a0 := a0) (a1 := (fun (x0_ : List Rec) => ((a1 x0_).map (!·)))) (Rd2.ext f_a0 e5) (fun x0_ r h ux0_ w7 k8 hx0_ => by exact jq.mk Tryz.call200 (by rfl) fun w9 k10 => jM.calls (w := w9) (a0 := x0_) (a1 := a1) (Rd.ext hx0_ k10) (fun x0 r h u0 wR kR q0 => f_a1 x0 r h u0 wR (((e5.t k8).t k10).t kR) q0) g_a1 (Blk.ext (Blk.cs k6 g_a1) (Ext.trans k8 k10)) h) rfl (od c11) x13) rfl <| fun w14 e15 => lp rfl (yM rfl) <| lp rfl (xa (.bool (!z12)) rfl) <| nx <| qn <| qt ?_
 obtain rfl := si H
 exact vh rfl (e5.t e15)
theorem Qr.calls {w : World} {a0 : List (List Rec)} {a1 : List Rec → Option Bool} {r : Bool} {v_a0 : Value} (f_a0 : Rd2 5 qg w v_a0 a0) {v_a1 : Value} (f_a1 : ∀ (x0 : List Rec) (r : Bool), a1 x0 = some r → ∀ (u0 : Value) (wR : World), Ext w wR → Rd 5 qg wR u0 x0 → jq Tryz.prog wR v_a1 [u0] (.bool r)) (g_a1 : v_a1.cells = #[v_a1]) (h0 : a0.length ≤ 4611686018427387904) (H : (Xi a1 a0) = some r) :
  Calls Tryz.prog 113 #[v_a0, v_a1] w (Rt (RP w (.bool r))) := Qr.walk f_a0 f_a1 g_a1 (Qr.eq a0 a1 h0 H)
end Go.Proofs.YtfefjaohlhkmaaaGreatDoor
