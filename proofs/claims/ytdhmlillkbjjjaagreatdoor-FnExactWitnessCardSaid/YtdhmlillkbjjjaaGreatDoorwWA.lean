/- The walks, by program (wip/tools). -/
import Derived.Test.YtdhmlillkbjjjaaGreatDoorProg
import Derived.Test.YtdhmlillkbjjjaaGreatDoorKI
import Derived.Test.YtdhmlillkbjjjaaGreatDoorwSrt
import Derived.Test.YtdhmlillkbjjjaaGreatDoorwH
set_option linter.unusedVariables false
set_option linter.unusedSimpArgs false
set_option maxRecDepth 10000
namespace Go.Proofs.YtdhmlillkbjjjaaGreatDoor
open Go.UL Go.RowKit
theorem El.t29 : ElemI Tryz.prog 29 91 4 48 (.agg #[.int .i64 0, .string ⟨#[]⟩, .string ⟨#[]⟩, .int .i64 0]) := ElemI.mk' Tryz.underlying29 (by kernel_rfl) rfl rfl rfl
theorem El.t35 : ElemI Tryz.prog 35 52 5 56 (.agg #[.int .i64 0, .string ⟨#[]⟩, .string ⟨#[]⟩, .int .i64 0, .bool false]) := ElemI.mk' Tryz.underlying35 (by kernel_rfl) rfl rfl rfl
theorem El.t44 : ElemI Tryz.prog 44 9 1 16 (.string ⟨#[]⟩) := ElemI.mk' Tryz.underlying44 (by kernel_rfl) rfl rfl rfl
theorem Eqg.t52 : Tryz.prog.eqGuardType Tryz.prog.depth 52 = false := by kernel_rfl
theorem Eqs.t52 (a b : Rec) (w : World) : (Op.equal 52 (.agg (ql a).toArray) (.agg (ql b).toArray)).run Tryz.prog w = .ok (decide (a = b)) w := run_eqRec (d := 9998) (ti := 3) (ts := 9) (tb := 4) Tryz.underlying52 rfl Tryz.underlying3 Tryz.underlying9 Tryz.underlying4 Tryz.isAgg3 Tryz.isAgg9 Tryz.isAgg4 (by kernel_rfl)
/-! impl.within -/
theorem jm.calls {w : World} {a0 : Int} {a1 : Int} {a2 : Int} :
  Calls Tryz.prog 117 #[.int .i64 a0, .int .i64 a1, .int .i64 a2] w (Rt (RP w (.bool (within a0 a1 a2)))) := by
 have H := jm.eq a0 a1 a2
 generalize (within a0 a1 a2) = r at H ⊢
 unfold jm.sh at H
 refine qp Tryz.func117 rfl (Nat.le_of_ble_eq_true rfl) Tryz.ntmps117 rfl ?_
 refine wr <| lp rfl (xa (.bool false) rfl) <| nx <| wr <| lp rfl (xm (.int .i64 a1) rfl) <| lp rfl (xm (.int .i64 a0) rfl) <| lp rfl (X_leq rfl rfl) <| lp rfl (xm (.bool (decide (a1 ≤ a0))) rfl) <| yR 4 [(11, 15)] 14 (.bool ((decide (a1 ≤ a0)) && (decide (a0 ≤ a2)))) ?_ ?_
 ·rcases qw (decide (a1 ≤ a0)) with b0_ | b0_
  ·exact lg rfl rfl rfl rfl (cb b0_) (xm (.int .i64 a0) rfl) <| lg rfl rfl rfl rfl (cb b0_) (xm (.int .i64 a2) rfl) <| lg rfl rfl rfl rfl (cb b0_) (X_leq rfl rfl) <| lp rfl (qE (b := true) (v := (.bool (decide (a0 ≤ a2)))) (cb b0_) rfl) <| nx ⟨(ku4 kz rfl), (Qg b0_), er⟩
  ·exact ls rfl rfl rfl (cb b0_) rfl <| ls rfl rfl rfl (cb b0_) rfl <| ls rfl rfl rfl (cb b0_) rfl <| lp rfl (qE (b := false) (v := (.bool false)) (cb b0_) rfl) <| nx ⟨(ku4 kz rfl), (Qd b0_), er⟩
 intro s6 w2 K3 h4 e5
 refine lp rfl (qC h4) <| nx <| qu <| qy ?_
 obtain rfl := si H
 exact qT rfl e5
/-! spec.l01In -/
theorem jT.calls {w : World} {a0 : Int} {a1 : Int} {a2 : Int} :
  Calls Tryz.prog 61 #[.int .i64 a0, .int .i64 a1, .int .i64 a2] w (Rt (RP w (.bool (within a0 a1 a2)))) := by
 have H := jT.eq a0 a1 a2
 generalize (within a0 a1 a2) = r at H ⊢
 unfold jT.sh at H
 refine qp Tryz.func61 rfl (Nat.le_of_ble_eq_true rfl) Tryz.ntmps61 rfl ?_
 refine wr <| lp rfl (xa (.bool false) rfl) <| nx <| wr <| lp rfl (xm (.int .i64 a0) rfl) <| lp rfl (xm (.int .i64 a1) rfl) <| lp rfl (VZ rfl rfl) <| lp rfl (xm (.bool (decide (a1 ≤ a0))) rfl) <| yR 4 [(11, 15)] 14 (.bool ((decide (a1 ≤ a0)) && (decide (a0 ≤ a2)))) ?_ ?_
 ·rcases qw (decide (a1 ≤ a0)) with b0_ | b0_
  ·exact lg rfl rfl rfl rfl (cb b0_) (xm (.int .i64 a0) rfl) <| lg rfl rfl rfl rfl (cb b0_) (xm (.int .i64 a2) rfl) <| lg rfl rfl rfl rfl (cb b0_) (X_leq rfl rfl) <| lp rfl (qE (b := true) (v := (.bool (decide (a0 ≤ a2)))) (cb b0_) rfl) <| nx ⟨(ku4 kz rfl), (Qg b0_), er⟩
  ·exact ls rfl rfl rfl (cb b0_) rfl <| ls rfl rfl rfl (cb b0_) rfl <| ls rfl rfl rfl (cb b0_) rfl <| lp rfl (qE (b := false) (v := (.bool false)) (cb b0_) rfl) <| nx ⟨(ku4 kz rfl), (Qd b0_), er⟩
 intro s6 w2 K3 h4 e5
 refine lp rfl (qC h4) <| nx <| qu <| qy ?_
 obtain rfl := si H
 exact qT rfl e5
/-! spec.l01Part -/
theorem vX.calls {w : World} {a0 : List UInt8} :
  Calls Tryz.prog 161 #[S a0] w (Rt (RP w (.bool (yt a0)))) := by
 obtain ⟨k, H⟩ := vX.eq a0
 generalize (yt a0) = r at H ⊢
 unfold vX.sh at H
 refine qp Tryz.func161 rfl (Nat.le_of_ble_eq_true rfl) Tryz.ntmps161 rfl ?_
 refine wr <| lp rfl (xa (.bool false) rfl) <| nx <| qj <| wr <| lp rfl (xm (S a0) rfl) <| lp rfl (QO Tryz.underlying9 rfl) <| lc rfl rfl Tryz.call61 (jT.calls (w := w) (a0 := (a0.length : Int)) (a1 := 1) (a2 := 8)) rfl <| fun w1 e2 => lp rfl (jh rfl) <| lp rfl (xm (.bool (!(within (a0.length : Int) 1 8))) rfl) <| yR 3 [(9, 12)] 11 (.bool ((!(within (a0.length : Int) 1 8)) || (decide (a0 = ([46] : List UInt8))))) ?_ ?_
 ·rcases qw (!(within (a0.length : Int) 1 8)) with b2_ | b2_
  ·exact ls rfl rfl rfl (cb b2_) rfl <| ls rfl rfl rfl (cb b2_) rfl <| lp rfl (qE (b := true) (v := (.bool true)) (cb b2_) rfl) <| nx ⟨(ku3 kz rfl), (Jn b2_), er⟩
  ·exact lg rfl rfl rfl rfl (cb b2_) (xm (S a0) rfl) <| lg rfl rfl rfl rfl (cb b2_) (Ym rfl rfl) <| lp rfl (qE (b := false) (v := (.bool (decide (a0 = ([46] : List UInt8))))) (cb b2_) rfl) <| nx ⟨(ku3 kz rfl), (Y4 b2_), er⟩
 intro s8 w4 K5 h6 e7
 refine lp rfl (qg h6) <| yR 3 [(13, 16)] 15 (.bool (((!(within (a0.length : Int) 1 8)) || (decide (a0 = ([46] : List UInt8)))) || (decide (a0 = ([46, 46] : List UInt8))))) ?_ ?_
 ·rcases qw ((!(within (a0.length : Int) 1 8)) || (decide (a0 = ([46] : List UInt8)))) with b8_ | b8_
  ·exact ls rfl rfl rfl (cb b8_) rfl <| ls rfl rfl rfl (cb b8_) rfl <| lp rfl (qE (b := true) (v := (.bool true)) (cb b8_) rfl) <| nx ⟨(ku3 kz rfl), (Jn b8_), er⟩
  ·exact lg rfl rfl rfl rfl (cb b8_) (xm (S a0) (K5 0 rfl)) <| lg rfl rfl rfl rfl (cb b8_) (Ym rfl rfl) <| lp rfl (qE (b := false) (v := (.bool (decide (a0 = ([46, 46] : List UInt8))))) (cb b8_) rfl) <| nx ⟨(ku3 kz rfl), (Y4 b8_), er⟩
 intro s14 w10 K11 h12 e13
 refine nx ?_
 rcases qf H with ⟨q15, H⟩ | ⟨q15, H⟩
 ·refine qq (h12.trans (cb q15)) <| wr <| lp rfl (xa (.bool false) rfl) <| nx <| qu <| qk <| qy ?_
  obtain rfl := si H
  exact qT rfl ((e2.t e7).t e13)
 ·refine qh (h12.trans (cb q15)) <| qv <| qe <| qj <| wr <| lp rfl (xa (.int .i64 0) rfl) <| nx ?_
  obtain ⟨z17, L18, C19⟩ := bind_some H
  clear H
  refine  vT (fun s0 sQ wQ => Kp [(2, 4), (16, 38)] s0 sQ ∧ Ext w10 wQ ∧ z17 = .inr ()) ?_ ?_
  ·refine qH <| vy (fun s0 kk sQ wQ => ∃ (x3_16 : Int), Kp [(2, 4), (16, 38)] s0 sQ ∧ sQ 3 = .int .i64 x3_16 ∧ Ext w10 wQ ∧ qr (vX.b1 a0) kk x3_16 = some z17) k ⟨0, kz, rfl, er, L18⟩ ?_
   rintro k24 s25 w26 ⟨x3_16, K27, h30, e28, L29⟩
   cases k24 with
   | zero => exact absurd L29 (by simp [qr])
   | succ k24 =>
    obtain ⟨t31, H, S32⟩ := qO L29
    clear L29
    unfold vX.b1 at H
    refine qj <| wr <| lp rfl (qg h30) <| lp rfl (xm (S a0) ((K27 0 rfl).trans ((K11 0 rfl).trans (K5 0 rfl)))) <| lp rfl (QO Tryz.underlying9 rfl) <| lp rfl (vI rfl rfl) <| nx ?_
    rcases qf H with ⟨q33, H⟩ | ⟨q33, H⟩
    ·refine qq (cb q33) <| qv <| qe <| qj <| qH <| wr <| lp rfl (xm (S a0) ((K27 0 rfl).trans ((K11 0 rfl).trans (K5 0 rfl)))) <| lp rfl (qg h30) ?_
     obtain ⟨c34, H⟩ := qa H
     refine lp rfl (Q4 Tryz.underlying9 rfl rfl (jO c34) (jC c34)) <| lp rfl (vI rfl rfl) <| lp rfl (xm (.bool (decide ((byt a0 x3_16) < 33))) rfl) ?_
     obtain ⟨z36, x37, H⟩ := bind_some H
     refine Ql 5 [(27, 32)] 31 (fun q => q = z36) ?_ ?_
     ·rcases qf x37 with ⟨b34_, H⟩ | ⟨b34_, H⟩
      ·refine ls rfl rfl rfl (cb b34_) rfl <| ls rfl rfl rfl (cb b34_) rfl <| ls rfl rfl rfl (cb b34_) rfl <| ls rfl rfl rfl (cb b34_) rfl <| lp rfl (qE (b := true) (v := (.bool true)) (cb b34_) rfl) ?_
       obtain rfl := si H
       exact nx ⟨(ku1 (ku4 kz rfl) rfl), ⟨_, rfl, rfl⟩, er⟩
      ·refine lg rfl rfl rfl rfl (cb b34_) (xm (S a0) ((K27 0 rfl).trans ((K11 0 rfl).trans (K5 0 rfl)))) <| lg rfl rfl rfl rfl (cb b34_) (qg h30) ?_
       obtain ⟨c36, H⟩ := qa H
       refine lg rfl rfl rfl rfl (cb b34_) (Q4 Tryz.underlying9 rfl rfl (jO c36) (jC c36)) <| lg rfl rfl rfl rfl (cb b34_) (VE rfl rfl) <| lp rfl (qE (b := false) (v := (.bool (decide (126 < (byt a0 x3_16))))) (cb b34_) rfl) ?_
       obtain rfl := si H
       exact nx ⟨(ku1 (ku4 kz rfl) rfl), ⟨_, rfl, rfl⟩, er⟩
     intro s42 w38 z43 K39 hq h40 e41
     rw [hq] at h40; clear hq
     refine lp rfl (qg h40) ?_
     obtain ⟨z45, x46, H⟩ := bind_some H
     refine Ql 5 [(33, 38)] 37 (fun q => q = z45) ?_ ?_
     ·rcases qf x46 with ⟨b43_, H⟩ | ⟨b43_, H⟩
      ·refine ls rfl rfl rfl (cb b43_) rfl <| ls rfl rfl rfl (cb b43_) rfl <| ls rfl rfl rfl (cb b43_) rfl <| ls rfl rfl rfl (cb b43_) rfl <| lp rfl (qE (b := true) (v := (.bool true)) (cb b43_) rfl) ?_
       obtain rfl := si H
       exact nx ⟨(ku1 (ku4 kz rfl) rfl), ⟨_, rfl, rfl⟩, er⟩
      ·refine lg rfl rfl rfl rfl (cb b43_) (xm (S a0) ((K39 0 rfl).trans ((K27 0 rfl).trans ((K11 0 rfl).trans (K5 0 rfl))))) <| lg rfl rfl rfl rfl (cb b43_) (xm (.int .i64 x3_16) ((K39 3 rfl).trans h30)) ?_
       obtain ⟨c45, H⟩ := qa H
       refine lg rfl rfl rfl rfl (cb b43_) (Q4 Tryz.underlying9 rfl rfl (jO c45) (jC c45)) <| lg rfl rfl rfl rfl (cb b43_) (yp rfl rfl) <| lp rfl (qE (b := false) (v := (.bool (decide ((byt a0 x3_16) = 47)))) (cb b43_) rfl) ?_
       obtain rfl := si H
       exact nx ⟨(ku1 (ku4 kz rfl) rfl), ⟨_, rfl, rfl⟩, er⟩
     intro s51 w47 z52 K48 hq h49 e50
     rw [hq] at h49; clear hq
     refine nx ?_
     rcases qf H with ⟨q53, H⟩ | ⟨q53, H⟩
     ·refine qq (h49.trans (cb q53)) <| wr <| lp rfl (xa (.bool false) rfl) <| nx <| qu <| qU <| qk <| qk <| qU <| qk <| qk <| qy ?_
      obtain rfl := si H
      obtain rfl := si S32
      have H := C19
      obtain rfl := si H
      exact qT rfl (((((e2.t e7).t e13).t e28).t e41).t e50)
     ·refine qh (h49.trans (cb q53)) <| qv <| yq <| qe <| qQ <| lp rfl (xm (.int .i64 x3_16) ((K48 3 rfl).trans ((K39 3 rfl).trans h30))) <| lp rfl (vE rfl rfl) <| lp rfl (xa (.int .i64 (IntKind.wrap .i64 (x3_16 + 1))) rfl) <| nx ?_
      obtain rfl := si H
      exact ⟨_, Nat.lt_succ_self _, IntKind.wrap .i64 (x3_16 + 1), (ku3 (Kp.cut (ku1 (Kp.cut (ku1 (ku8 K27 rfl) rfl) K39 rfl) rfl) K48 rfl) rfl), rfl, ((e28.t e41).t e50), S32⟩
    ·refine qh (cb q33) <| vY <| vg <| vg <| yM <| qe ?_
     obtain rfl := si H
     obtain rfl := si S32
     exact ⟨(ku4 K27 rfl), e28, rfl⟩
  ·rintro s21 w20 ⟨K22, e23, y54⟩
   rw [y54] at C19
   have H := C19
   replace H : _ = some _ := H
   refine qe <| wr <| lp rfl (xa (.bool true) rfl) <| nx <| qu <| qy ?_
   obtain rfl := si H
   exact qT rfl (((e2.t e7).t e13).t e23)
/-! impl.PartOK -/
theorem yi.calls {w : World} {a0 : List UInt8} (h0 : a0.length ≤ 4611686018427387904) :
  Calls Tryz.prog 168 #[S a0] w (Rt (RP w (.bool (yt a0)))) := by
 obtain ⟨k, H⟩ := yi.eq a0 h0
 generalize (yt a0) = r at H ⊢
 unfold yi.sh at H
 refine qp Tryz.func168 rfl (Nat.le_of_ble_eq_true rfl) Tryz.ntmps168 rfl ?_
 refine wr <| lp rfl (xa (.bool false) rfl) <| nx <| qj <| wr <| lp rfl (xm (S a0) rfl) <| lp rfl (QO Tryz.underlying9 rfl) <| lp rfl (xm (.int .i64 0) rfl) <| nx ?_
 obtain ⟨z2, L3, C4⟩ := bind_some H
 clear H
 refine  vT (fun s0 sQ wQ => Kp [(2, 4), (6, 22)] s0 sQ ∧ Ext w wQ ∧ z2 = .inr ()) ?_ ?_
 ·refine qH <| vy (fun s0 kk sQ wQ => ∃ (x6_1 : Int), Kp [(2, 4), (6, 22)] s0 sQ ∧ sQ 6 = .int .i64 x6_1 ∧ Ext w wQ ∧ qr (yi.b1 a0) kk x6_1 = some z2) k ⟨0, kz, rfl, er, L3⟩ ?_
  rintro k9 s10 w11 ⟨x6_1, K12, h15, e13, L14⟩
  cases k9 with
  | zero => exact absurd L14 (by simp [qr])
  | succ k9 =>
   obtain ⟨t16, H, S17⟩ := qO L14
   clear L14
   unfold yi.b1 at H
   refine wr <| lp rfl (vI h15 (K12 5 rfl)) <| nx <| qj ?_
   rcases qf H with ⟨q18, H⟩ | ⟨q18, H⟩
   ·refine qq (cb q18) <| qv <| qe <| qj <| qH <| wr <| lp rfl (qg h15) <| lp rfl (xa (.int .i64 x6_1) rfl) <| nx <| wr <| lp rfl (xm (S a0) (K12 0 rfl)) <| lp rfl (xm (.int .i64 x6_1) rfl) ?_
    obtain ⟨c19, H⟩ := qa H
    refine lp rfl (Q4 Tryz.underlying9 rfl rfl (jO c19) (jC c19)) <| lp rfl (Q2 Tryz.underlying5 Tryz.underlying3 rfl) <| lc rfl rfl Tryz.call117 (jm.calls (w := w11) (a0 := IntKind.wrap .i64 (byt a0 x6_1)) (a1 := 33) (a2 := 126)) rfl <| fun w20 e21 => lp rfl (jh rfl) <| lp rfl (xm (.bool (!(within (IntKind.wrap .i64 (byt a0 x6_1)) 33 126))) rfl) ?_
    obtain ⟨z23, x24, H⟩ := bind_some H
    refine Ql 5 [(16, 21)] 20 (fun q => q = z23) ?_ ?_
    ·rcases qf x24 with ⟨b21_, H⟩ | ⟨b21_, H⟩
     ·refine ls rfl rfl rfl (cb b21_) rfl <| ls rfl rfl rfl (cb b21_) rfl <| ls rfl rfl rfl (cb b21_) rfl <| ls rfl rfl rfl (cb b21_) rfl <| lp rfl (qE (b := true) (v := (.bool true)) (cb b21_) rfl) ?_
      obtain rfl := si H
      exact nx ⟨(ku1 (ku4 kz rfl) rfl), ⟨_, rfl, rfl⟩, er⟩
     ·refine lg rfl rfl rfl rfl (cb b21_) (xm (S a0) (K12 0 rfl)) <| lg rfl rfl rfl rfl (cb b21_) (xm (.int .i64 x6_1) rfl) ?_
      obtain ⟨c23, H⟩ := qa H
      refine lg rfl rfl rfl rfl (cb b21_) (Q4 Tryz.underlying9 rfl rfl (jO c23) (jC c23)) <| lg rfl rfl rfl rfl (cb b21_) (yp rfl rfl) <| lp rfl (qE (b := false) (v := (.bool (decide ((byt a0 x6_1) = 47)))) (cb b21_) rfl) ?_
      obtain rfl := si H
      exact nx ⟨(ku1 (ku4 kz rfl) rfl), ⟨_, rfl, rfl⟩, er⟩
    intro s29 w25 z30 K26 hq h27 e28
    rw [hq] at h27; clear hq
    refine nx ?_
    rcases qf H with ⟨q31, H⟩ | ⟨q31, H⟩
    ·refine qq (h27.trans (cb q31)) <| wr <| lp rfl (xa (.bool false) rfl) <| nx <| qu <| qU <| qk <| qk <| qU <| qk <| qk <| qy ?_
     obtain rfl := si H
     obtain rfl := si S17
     have H := C4
     obtain rfl := si H
     exact qT rfl ((e13.t e21).t e28)
    ·refine qh (h27.trans (cb q31)) <| qv <| yq <| qe <| qQ <| lp rfl (vE ((K26 6 rfl).trans h15) rfl) <| lp rfl (xm (.int .i64 (IntKind.wrap .i64 (x6_1 + 1))) rfl) <| nx ?_
     obtain rfl := si H
     exact ⟨_, Nat.lt_succ_self _, IntKind.wrap .i64 (x6_1 + 1), (ku2 (Kp.cut (ku2 (ku8 K12 rfl) rfl) K26 rfl) rfl), rfl, ((e13.t e21).t e28), S17⟩
   ·refine qh (cb q18) <| vY <| vg <| vg <| yM <| qe ?_
    obtain rfl := si H
    obtain rfl := si S17
    exact ⟨(ku1 K12 rfl), e13, rfl⟩
 ·rintro s6 w5 ⟨K7, e8, y32⟩
  rw [y32] at C4
  have H := C4
  replace H : _ = some _ := H
  refine qe <| wr <| lp rfl (xm (S a0) (K7 0 rfl)) <| lp rfl (QO Tryz.underlying9 rfl) <| lc rfl rfl Tryz.call117 (jm.calls (w := w5) (a0 := (a0.length : Int)) (a1 := 1) (a2 := 8)) rfl <| fun w33 e34 => lp rfl (xm (.bool (within (a0.length : Int) 1 8)) rfl) <| yR 3 [(26, 29)] 28 (.bool ((within (a0.length : Int) 1 8) && (!decide (a0 = ([46] : List UInt8))))) ?_ ?_
  ·rcases qw (within (a0.length : Int) 1 8) with b34_ | b34_
   ·exact lg rfl rfl rfl rfl (cb b34_) (xm (S a0) (K7 0 rfl)) <| lg rfl rfl rfl rfl (cb b34_) (Qo rfl rfl) <| lp rfl (qE (b := true) (v := (.bool (!decide (a0 = ([46] : List UInt8))))) (cb b34_) rfl) <| nx ⟨(ku3 kz rfl), (Qg b34_), er⟩
   ·exact ls rfl rfl rfl (cb b34_) rfl <| ls rfl rfl rfl (cb b34_) rfl <| lp rfl (qE (b := false) (v := (.bool false)) (cb b34_) rfl) <| nx ⟨(ku3 kz rfl), (Qd b34_), er⟩
  intro s40 w36 K37 h38 e39
  refine lp rfl (qg h38) <| yR 3 [(30, 33)] 32 (.bool (((within (a0.length : Int) 1 8) && (!decide (a0 = ([46] : List UInt8)))) && (!decide (a0 = ([46, 46] : List UInt8))))) ?_ ?_
  ·rcases qw ((within (a0.length : Int) 1 8) && (!decide (a0 = ([46] : List UInt8)))) with b40_ | b40_
   ·exact lg rfl rfl rfl rfl (cb b40_) (xm (S a0) ((K37 0 rfl).trans (K7 0 rfl))) <| lg rfl rfl rfl rfl (cb b40_) (Qo rfl rfl) <| lp rfl (qE (b := true) (v := (.bool (!decide (a0 = ([46, 46] : List UInt8))))) (cb b40_) rfl) <| nx ⟨(ku3 kz rfl), (Qg b40_), er⟩
   ·exact ls rfl rfl rfl (cb b40_) rfl <| ls rfl rfl rfl (cb b40_) rfl <| lp rfl (qE (b := false) (v := (.bool false)) (cb b40_) rfl) <| nx ⟨(ku3 kz rfl), (Qd b40_), er⟩
  intro s46 w42 K43 h44 e45
  refine lp rfl (qC h44) <| nx <| qu <| qy ?_
  obtain rfl := si H
  exact qT rfl (((e8.t e34).t e39).t e45)
/-! spec.l00Cut -/
theorem vS.calls {w : World} {a0 : List UInt8} {a1 : Int} (h0 : a0.length ≤ 1048576) :
  Calls Tryz.prog 135 #[S a0, .int .u8 a1] w (Rt (RO 9 1 yu w (cut a1 a0))) := by
 obtain ⟨k, H⟩ := vS.eq a0 a1 h0
 generalize (cut a1 a0) = r at H ⊢
 unfold vS.sh at H
 refine qp Tryz.func135 rfl (Nat.le_of_ble_eq_true rfl) Tryz.ntmps135 rfl ?_
 refine wr <| lp rfl (xa (.slice none 0 0) rfl) <| nx <| wr <| jg (.plain rfl) rfl (ltb rfl) rfl Tryz.underlying44 Tryz.sizeOf9 Tryz.zeroValue9 rfl rfl rfl (vs := []) rfl (vM rfl) <| fun b1 w2 z3 z4 e5 k6 => lp rfl (xa (.slice (some ⟨b1, 0, none⟩) 0 0) rfl) <| nx <| wr <| lp rfl (xa (.int .i64 0) rfl) <| nx <| qj <| wr <| lp rfl (xa (.int .i64 0) rfl) <| nx ?_
 obtain ⟨z11, L12, C13⟩ := bind_some H
 clear H
 refine  vT (fun s0 sQ wQ => ∃ (x5_14 : List (List UInt8)) (v15 : Value) (x6_16 : Int), Kp [(5, 8), (9, 29)] s0 sQ ∧ sQ 5 = v15 ∧ Ow 9 1 yu w2.heap.size wQ v15 x5_14 ∧ sQ 6 = .int .i64 x6_16 ∧ Ext w2 wQ ∧ z11 = .inr (x5_14, x6_16)) ?_ ?_
 ·refine qH <| vy (fun s0 kk sQ wQ => ∃ (x5_7 : List (List UInt8)) (v8 : Value) (x6_9 : Int) (x7_10 : Int), Kp [(5, 8), (9, 29)] s0 sQ ∧ sQ 5 = v8 ∧ Ow 9 1 yu w2.heap.size wQ v8 x5_7 ∧ sQ 6 = .int .i64 x6_9 ∧ sQ 7 = .int .i64 x7_10 ∧ Ext w2 wQ ∧ qr (vS.b1 a0 a1) kk (x5_7, x6_9, x7_10) = some z11) k ⟨([] : List (List UInt8)), (.slice (some ⟨b1, 0, none⟩) 0 0), 0, 0, kz, rfl, (Ow.zero), rfl, rfl, er, L12⟩ ?_
  rintro k21 s22 w23 ⟨x5_7, v8, x6_9, x7_10, K24, h27, h28, h29, h30, e25, L26⟩
  cases k21 with
  | zero => exact absurd L26 (by simp [qr])
  | succ k21 =>
   obtain ⟨t31, H, S32⟩ := qO L26
   clear L26
   unfold vS.b1 at H
   refine qj <| wr <| lp rfl (qg h30) <| lp rfl (xm (S a0) (K24 0 rfl)) <| lp rfl (QO Tryz.underlying9 rfl) <| lp rfl (vI rfl rfl) <| nx ?_
   rcases qf H with ⟨q33, H⟩ | ⟨q33, H⟩
   ·refine qq (cb q33) <| qv <| qe <| qj <| qH <| wr <| lp rfl (xm (S a0) (K24 0 rfl)) <| lp rfl (qg h30) ?_
    obtain ⟨c34, H⟩ := qa H
    refine lp rfl (Q4 Tryz.underlying9 rfl rfl (jO c34) (jC c34)) <| lp rfl (xm (.int .u8 a1) (K24 1 rfl)) <| lp rfl (yp rfl rfl) <| nx ?_
    rcases qf H with ⟨q35, H⟩ | ⟨q35, H⟩
    ·refine qq (cb q35) <| wr <| lp rfl (qg h27) <| lp rfl (xm (S a0) (K24 0 rfl)) <| lp rfl (qg h29) <| lp rfl (qg h30) ?_
     obtain ⟨c36, H⟩ := qa H
     refine lp rfl (Ji Tryz.underlying9 rfl (l := x6_9) (h := x7_10) ⟨_, rfl⟩ ⟨_, rfl⟩ (G8 c36) (G1 c36) (GZ c36)) <| jg (.plain rfl) rfl (ltb rfl) rfl Tryz.underlying44 Tryz.sizeOf9 Tryz.zeroValue9 rfl rfl rfl (vs := [(S (sub a0 x6_9 x7_10))]) rfl (vM rfl) <| fun b37 w38 z39 z40 e41 k42 => ?_
     obtain ⟨c43, H⟩ := qa H
     refine Qm (enc := yu) (.plain rfl) rfl (ltb rfl) rfl El.t44 rfl rfl (Ow.ext h28 e41) (Ow.rd (Ow.new (xs := [sub a0 x6_9 x7_10]) (sz := 1) (enc := yu) (base := w23.heap.size) k42 (Nat.le_of_eq z39) rfl (fun _ _ => by rfl) (Nat.le_of_ble_eq_true rfl))) (XG _) (od c43) ((e25.t e41)).size <| fun v44 w45 o46 z47 g48 => lp rfl (xa v44 rfl) <| nx <| qQ <| lp rfl (qg h30) <| lp rfl (vE rfl rfl) <| lp rfl (xa (.int .i64 (IntKind.wrap .i64 (x7_10 + 1))) rfl) <| vL <| yq <| qe <| qQ <| lp rfl (qg h30) <| lp rfl (vE rfl rfl) <| lp rfl (xa (.int .i64 (IntKind.wrap .i64 (x7_10 + 1))) rfl) <| nx ?_
     obtain rfl := si H
     exact ⟨_, Nat.lt_succ_self _, x5_7 ++ ([sub a0 x6_9 x7_10] : List (List UInt8)), v44, IntKind.wrap .i64 (x7_10 + 1), IntKind.wrap .i64 (x7_10 + 1), (ku3 (ku4 (ku8 (ku8 K24 rfl) rfl) rfl) rfl), rfl, o46, rfl, rfl, (g48 _ (e25.t e41)), S32⟩
    ·refine qh (cb q35) <| qv <| yq <| qe <| qQ <| lp rfl (qg h30) <| lp rfl (vE rfl rfl) <| lp rfl (xa (.int .i64 (IntKind.wrap .i64 (x7_10 + 1))) rfl) <| nx ?_
     obtain rfl := si H
     exact ⟨_, Nat.lt_succ_self _, x5_7, v8, x6_9, IntKind.wrap .i64 (x7_10 + 1), (ku4 (ku8 K24 rfl) rfl), h27, h28, h29, rfl, e25, S32⟩
   ·refine qh (cb q33) <| vY <| vg <| vg <| yM <| qe ?_
    obtain rfl := si H
    obtain rfl := si S32
    exact ⟨x5_7, v8, x6_9, (ku4 K24 rfl), h27, h28, h29, e25, rfl⟩
 ·rintro s18 w17 ⟨x5_14, v15, x6_16, K19, h49, h50, h51, e20, y52⟩
  rw [y52] at C13
  have H := C13
  replace H : _ = some _ := H
  refine qe <| wr <| lp rfl (qg h49) <| lp rfl (xm (S a0) (K19 0 rfl)) <| lp rfl (qg h51) ?_
  obtain ⟨c53, H⟩ := qa H
  refine lp rfl (Ji Tryz.underlying9 rfl (l := x6_16) (h := (a0.length : Int)) ⟨_, rfl⟩ rfl (G8 c53) (G1 c53) (GZ c53)) <| jg (.plain rfl) rfl (ltb rfl) rfl Tryz.underlying44 Tryz.sizeOf9 Tryz.zeroValue9 rfl rfl rfl (vs := [(S (sub a0 x6_16 (a0.length : Int)))]) rfl (vM rfl) <| fun b54 w55 z56 z57 e58 k59 => ?_
  obtain ⟨c60, H⟩ := qa H
  refine Qm (enc := yu) (.plain rfl) rfl (ltb rfl) rfl El.t44 rfl rfl (Ow.ext h50 e58) (Ow.rd (Ow.new (xs := [sub a0 x6_16 (a0.length : Int)]) (sz := 1) (enc := yu) (base := w17.heap.size) k59 (Nat.le_of_eq z56) rfl (fun _ _ => by rfl) (Nat.le_of_ble_eq_true rfl))) (XG _) (od c60) ((e20.t e58)).size <| fun v61 w62 o63 z64 g65 => lp rfl (xa v61 rfl) <| nx <| qu <| qy ?_
  obtain rfl := si H
  exact YB rfl (e5.t (g65 _ (e20.t e58))) o63 (e5).size
/-! impl.parts -/
theorem vJ.calls {w : World} {a0 : List UInt8} (gv : GV 0 w) (h0 : a0.length ≤ 1048576) :
  Calls Tryz.prog 132 #[S a0] w (Rt (RO 9 1 yu w (cut 47 a0))) := by
 have H := vJ.eq a0 h0
 generalize (cut 47 a0) = r at H ⊢
 unfold vJ.sh at H
 refine qp Tryz.func132 rfl (Nat.le_of_ble_eq_true rfl) Tryz.ntmps132 rfl ?_
 refine wr <| lp rfl (xa (.slice none 0 0) rfl) <| nx <| wr <| lp rfl (xm (S a0) rfl) ?_
 obtain ⟨c1, H⟩ := qa H
 obtain ⟨c2, H⟩ := qa H
 refine vG (.plain rfl) rfl (ltb rfl) rfl Tryz.call193 (strings_Split.calls (w := w) (a0 := a0) (a1 := ([47] : List UInt8)) gv (od c1) (od c2)) rfl <| fun v5 w3 e4 o6 => lp rfl (xa v5 rfl) <| nx <| qu <| qy ?_
 obtain rfl := si H
 exact YB rfl e4 o6 (er).size
/-! impl.all(string)$1 -/
theorem y6.walk {w : World} {a0 : List UInt8} {a1 : List UInt8 → Option Bool} {v_a1 : Value} (f_a1 : ∀ (x0 : List UInt8) (r : Bool), a1 x0 = some r → jH Tryz.prog w v_a1 [(S x0)] (.bool r)) (g_a1 : v_a1.cells = #[v_a1]) {b_a1 : Nat} (k_a1 : Blk w b_a1 #[v_a1] 113) {r : Bool} (H : y6.sh a0 a1 = some r) :
  Calls Tryz.prog 216 #[S a0, .pointer (some ⟨b_a1, 0, none⟩)] w (Rt (RP w (.bool r))) := by
 unfold y6.sh at H
 refine qp Tryz.func216 rfl (Nat.le_of_ble_eq_true rfl) Tryz.ntmps216 rfl ?_
 refine wr <| lp rfl (xa (.bool false) rfl) <| nx <| wr <| lp rfl (qA Tryz.isAgg113 k_a1 rfl rfl) <| lp rfl (xm (S a0) rfl) ?_
 obtain ⟨z1, x2, H⟩ := bind_some H
 refine JX (.plain rfl) rfl (ltb rfl) rfl rfl (jH.ext (f_a1 _ _ x2) er) rfl <| fun w3 e4 => lp rfl (jh rfl) <| lp rfl (xa (.bool (!z1)) rfl) <| nx <| qu <| qy ?_
 obtain rfl := si H
 exact qT rfl e4
theorem y6.calls {w : World} {a0 : List UInt8} {a1 : List UInt8 → Option Bool} {r : Bool} {v_a1 : Value} (f_a1 : ∀ (x0 : List UInt8) (r : Bool), a1 x0 = some r → jH Tryz.prog w v_a1 [(S x0)] (.bool r)) (g_a1 : v_a1.cells = #[v_a1]) {b_a1 : Nat} (k_a1 : Blk w b_a1 #[v_a1] 113) (H : ((a1 a0).map (!·)) = some r) :
  Calls Tryz.prog 216 #[S a0, .pointer (some ⟨b_a1, 0, none⟩)] w (Rt (RP w (.bool r))) := y6.walk f_a1 g_a1 k_a1 (y6.eq a0 a1 H)
/-! slices.IndexFunc(()string,string) -/
theorem qP.walk {k : Nat} {w : World} {a0 : List (List UInt8)} {a1 : List UInt8 → Option Bool} {v_a0 : Value} (f_a0 : Rd 1 yu w v_a0 a0) {v_a1 : Value} (f_a1 : ∀ (x0 : List UInt8) (r : Bool), a1 x0 = some r → jH Tryz.prog w v_a1 [(S x0)] (.bool r)) (g_a1 : v_a1.cells = #[v_a1]) {r : Int} (H : qP.sh k a0 a1 = some r) :
  Calls Tryz.prog 241 #[v_a0, v_a1] w (Rt (RP w (.int .i64 r))) := by
 unfold qP.sh at H
 refine qp Tryz.func241 rfl (Nat.le_of_ble_eq_true rfl) Tryz.ntmps241 rfl ?_
 refine wr <| lp rfl (xa (.int .i64 0) rfl) <| nx <| qj <| wr <| lp rfl (xm v_a0 rfl) <| lp rfl (vf Tryz.underlying44 rfl f_a0) <| lp rfl (xm (.int .i64 0) rfl) <| nx ?_
 obtain ⟨z2, L3, C4⟩ := bind_some H
 clear H
 refine  vT (fun s0 sQ wQ => Kp [(4, 6), (8, 19)] s0 sQ ∧ Ext w wQ ∧ z2 = .inr ()) ?_ ?_
 ·refine qH <| vy (fun s0 kk sQ wQ => ∃ (x8_1 : Int), Kp [(4, 6), (8, 19)] s0 sQ ∧ sQ 8 = .int .i64 x8_1 ∧ Ext w wQ ∧ qr (qP.b1 a0 a1) kk x8_1 = some z2) k ⟨0, kz, rfl, er, L3⟩ ?_
  rintro k9 s10 w11 ⟨x8_1, K12, h15, e13, L14⟩
  cases k9 with
  | zero => exact absurd L14 (by simp [qr])
  | succ k9 =>
   obtain ⟨t16, H, S17⟩ := qO L14
   clear L14
   unfold qP.b1 at H
   refine wr <| lp rfl (vI h15 (K12 7 rfl)) <| nx <| qj ?_
   rcases qf H with ⟨q18, H⟩ | ⟨q18, H⟩
   ·refine qq (cb q18) <| qv <| qe <| qj <| qH <| wr <| lp rfl (qg h15) <| lp rfl (xa (.int .i64 x8_1) rfl) <| nx <| wr <| lp rfl (xm v_a1 (K12 1 rfl)) <| lp rfl (xm v_a0 (K12 0 rfl)) <| lp rfl (xm (.int .i64 x8_1) rfl) ?_
    obtain ⟨c19, H⟩ := qa H
    refine vF (.plain rfl) rfl (ltb rfl) rfl Tryz.underlying44 Tryz.sizeOf9 rfl (Rd.ext f_a0 e13) rfl c19 <| fun p20 h21 => lp rfl (yW Tryz.isAgg9 rfl h21 rfl) ?_
    obtain ⟨z22, x23, H⟩ := bind_some H
    refine JX (.plain rfl) rfl (ltb rfl) rfl rfl (jH.ext (f_a1 _ _ x23) e13) rfl <| fun w24 e25 => nx ?_
    rcases qf H with ⟨q26, H⟩ | ⟨q26, H⟩
    ·refine qq (cb q26) <| wr <| lp rfl (xm (.int .i64 x8_1) rfl) <| lp rfl (xa (.int .i64 x8_1) rfl) <| nx <| qu <| qU <| qk <| qk <| qU <| qk <| qk <| qy ?_
     obtain rfl := si H
     obtain rfl := si S17
     have H := C4
     obtain rfl := si H
     exact qT rfl (e13.t e25)
    ·refine qh (cb q26) <| qv <| yq <| qe <| qQ <| lp rfl (vE h15 rfl) <| lp rfl (xm (.int .i64 (IntKind.wrap .i64 (x8_1 + 1))) rfl) <| nx ?_
     obtain rfl := si H
     exact ⟨_, Nat.lt_succ_self _, IntKind.wrap .i64 (x8_1 + 1), (ku3 (ku8 K12 rfl) rfl), rfl, (e13.t e25), S17⟩
   ·refine qh (cb q18) <| vY <| vg <| vg <| yM <| qe ?_
    obtain rfl := si H
    obtain rfl := si S17
    exact ⟨(ku1 K12 rfl), e13, rfl⟩
 ·rintro s6 w5 ⟨K7, e8, y27⟩
  rw [y27] at C4
  have H := C4
  replace H : _ = some _ := H
  refine qe <| wr <| lp rfl (xa (.int .i64 (-1)) rfl) <| nx <| qu <| qy ?_
  obtain rfl := si H
  exact qT rfl e8
theorem qP.calls {w : World} {a0 : List (List UInt8)} {a1 : List UInt8 → Option Bool} {r : Int} {v_a0 : Value} (f_a0 : Rd 1 yu w v_a0 a0) {v_a1 : Value} (f_a1 : ∀ (x0 : List UInt8) (r : Bool), a1 x0 = some r → jH Tryz.prog w v_a1 [(S x0)] (.bool r)) (g_a1 : v_a1.cells = #[v_a1]) (h0 : a0.length ≤ 4611686018427387904) (H : (V3 a1 a0) = some r) :
  Calls Tryz.prog 241 #[v_a0, v_a1] w (Rt (RP w (.int .i64 r))) := by
 obtain ⟨k, h⟩ := qP.eq a0 a1 h0 H
 exact qP.walk f_a0 f_a1 g_a1 h
/-! slices.ContainsFunc(()string,string) -/
theorem vb.walk {w : World} {a0 : List (List UInt8)} {a1 : List UInt8 → Option Bool} {v_a0 : Value} (f_a0 : Rd 1 yu w v_a0 a0) {v_a1 : Value} (f_a1 : ∀ (x0 : List UInt8) (r : Bool), a1 x0 = some r → jH Tryz.prog w v_a1 [(S x0)] (.bool r)) (g_a1 : v_a1.cells = #[v_a1]) {r : Bool} (H : vb.sh a0 a1 = some r) :
  Calls Tryz.prog 215 #[v_a0, v_a1] w (Rt (RP w (.bool r))) := by
 unfold vb.sh at H
 refine qp Tryz.func215 rfl (Nat.le_of_ble_eq_true rfl) Tryz.ntmps215 rfl ?_
 refine wr <| lp rfl (xa (.bool false) rfl) <| nx <| wr <| lp rfl (xm v_a0 rfl) <| lp rfl (xm v_a1 rfl) ?_
 obtain ⟨c1, H⟩ := qa H
 obtain ⟨z2, x3, H⟩ := bind_some H
 refine lc rfl rfl Tryz.call241 (qP.calls (w := w) (a0 := a0) (a1 := a1) f_a0 (fun x0 r h => jH.ext (f_a1 x0 r h) er) g_a1 (od c1) x3) rfl <| fun w4 e5 => lp rfl (VZ rfl rfl) <| lp rfl (xa (.bool (decide (0 ≤ z2))) rfl) <| nx <| qu <| qy ?_
 obtain rfl := si H
 exact qT rfl e5
theorem vb.calls {w : World} {a0 : List (List UInt8)} {a1 : List UInt8 → Option Bool} {r : Bool} {v_a0 : Value} (f_a0 : Rd 1 yu w v_a0 a0) {v_a1 : Value} (f_a1 : ∀ (x0 : List UInt8) (r : Bool), a1 x0 = some r → jH Tryz.prog w v_a1 [(S x0)] (.bool r)) (g_a1 : v_a1.cells = #[v_a1]) (h0 : a0.length ≤ 4611686018427387904) (H : (Vz a1 a0) = some r) :
  Calls Tryz.prog 215 #[v_a0, v_a1] w (Rt (RP w (.bool r))) := vb.walk f_a0 f_a1 g_a1 (vb.eq a0 a1 h0 H)
/-! impl.all(string) -/
theorem jL.walk {w : World} {a0 : List (List UInt8)} {a1 : List UInt8 → Option Bool} {v_a0 : Value} (f_a0 : Rd 1 yu w v_a0 a0) {v_a1 : Value} (f_a1 : ∀ (x0 : List UInt8) (r : Bool), a1 x0 = some r → jH Tryz.prog w v_a1 [(S x0)] (.bool r)) (g_a1 : v_a1.cells = #[v_a1]) {r : Bool} (H : jL.sh a0 a1 = some r) :
  Calls Tryz.prog 167 #[v_a0, v_a1] w (Rt (RP w (.bool r))) := by
 unfold jL.sh at H
 refine qp Tryz.func167 rfl (Nat.le_of_ble_eq_true rfl) Tryz.ntmps167 rfl ?_
 refine wr <| QS (.plain rfl) rfl (ltb rfl) rfl rfl <| fun b1 w2 z3 z4 e5 k6 => lp rfl (xa (.bool false) rfl) <| nx <| wr <| lp rfl (xm v_a0 rfl) <| lp rfl (VV (vs := #[]) (us := #[.pointer (some ⟨b1, 0, none⟩)]) rfl rfl) ?_
 obtain ⟨c11, H⟩ := qa H
 obtain ⟨z12, x13, H⟩ := bind_some H
 refine lc rfl rfl Tryz.call215 (vb.calls (w := w2) (a0 := a0) (a1 := (fun (x0_ : List UInt8) => ((a1 x0_).map (!·)))) (Rd.ext f_a0 e5) (fun x0_ r h => by exact jH.mk Tryz.call216 (by rfl) fun w9 k10 => y6.calls (w := w9) (a0 := x0_) (a1 := a1) (fun x0 r h => jH.ext (f_a1 x0 r h) (e5.t k10)) g_a1 (Blk.ext (Blk.cs k6 g_a1) k10) h) rfl (od c11) x13) rfl <| fun w14 e15 => lp rfl (jh rfl) <| lp rfl (xa (.bool (!z12)) rfl) <| nx <| qu <| qy ?_
 obtain rfl := si H
 exact qT rfl (e5.t e15)
theorem jL.calls {w : World} {a0 : List (List UInt8)} {a1 : List UInt8 → Option Bool} {r : Bool} {v_a0 : Value} (f_a0 : Rd 1 yu w v_a0 a0) {v_a1 : Value} (f_a1 : ∀ (x0 : List UInt8) (r : Bool), a1 x0 = some r → jH Tryz.prog w v_a1 [(S x0)] (.bool r)) (g_a1 : v_a1.cells = #[v_a1]) (h0 : a0.length ≤ 4611686018427387904) (H : (XV a1 a0) = some r) :
  Calls Tryz.prog 167 #[v_a0, v_a1] w (Rt (RP w (.bool r))) := jL.walk f_a0 f_a1 g_a1 (jL.eq a0 a1 h0 H)
/-! impl.PathOK -/
theorem jj.calls {w : World} {a0 : List UInt8} (gv : GV 0 w) :
  Calls Tryz.prog 101 #[S a0] w (Rt (RP w (.bool (qz a0)))) := by
 have H := jj.eq a0
 generalize (qz a0) = r at H ⊢
 unfold jj.sh at H
 refine qp Tryz.func101 rfl (Nat.le_of_ble_eq_true rfl) Tryz.ntmps101 rfl ?_
 refine wr <| lp rfl (xa (.bool false) rfl) <| nx <| wr <| lp rfl (xm (S a0) rfl) <| lp rfl (QO Tryz.underlying9 rfl) <| lp rfl (vI rfl rfl) <| lp rfl (xm (.bool (decide ((a0.length : Int) < 36))) rfl) ?_
 obtain ⟨z2, x3, H⟩ := bind_some H
 refine Ql 5 [(7, 12)] 11 (fun q => q = z2) ?_ ?_
 ·rcases qf x3 with ⟨b0_, H⟩ | ⟨b0_, H⟩
  ·refine lg rfl rfl rfl rfl (cb b0_) (xm (S a0) rfl) ?_
   obtain ⟨c2, H⟩ := qa H
   refine vG (tg rfl rfl rfl (cb b0_)) rfl (ltb rfl) rfl Tryz.call132 (vJ.calls (w := w) (a0 := a0) gv (od c2)) rfl <| fun v5 w3 e4 o6 => lg rfl rfl rfl rfl (cb b0_) (vf Tryz.underlying44 rfl (Ow.rd o6)) <| lg rfl rfl rfl rfl (cb b0_) (X_leq rfl rfl) <| lp rfl (qE (b := true) (v := (.bool (decide (((cut 47 a0).length : Int) ≤ 4)))) (cb b0_) rfl) ?_
   obtain rfl := si H
   exact nx ⟨(ku1 (ku4 kz rfl) rfl), ⟨_, rfl, rfl⟩, e4⟩
  ·refine ls rfl rfl rfl (cb b0_) rfl <| ls rfl rfl rfl (cb b0_) rfl <| ls rfl rfl rfl (cb b0_) rfl <| ls rfl rfl rfl (cb b0_) rfl <| lp rfl (qE (b := false) (v := (.bool false)) (cb b0_) rfl) ?_
   obtain rfl := si H
   exact nx ⟨(ku1 (ku4 kz rfl) rfl), ⟨_, rfl, rfl⟩, er⟩
 intro s8 w4 z9 K5 hq h6 e7
 rw [hq] at h6; clear hq
 refine lp rfl (qg h6) ?_
 obtain ⟨z11, x12, H⟩ := bind_some H
 refine Ql 4 [(13, 17)] 16 (fun q => q = z11) ?_ ?_
 ·rcases qf x12 with ⟨b9_, H⟩ | ⟨b9_, H⟩
  ·refine lg rfl rfl rfl rfl (cb b9_) (xm (S a0) (K5 0 rfl)) ?_
   obtain ⟨c11, H⟩ := qa H
   refine vG (tg rfl rfl rfl (cb b9_)) rfl (ltb rfl) rfl Tryz.call132 (vJ.calls (w := w4) (a0 := a0) (GV.ext gv e7) (od c11)) rfl <| fun v14 w12 e13 o15 => ?_
   obtain ⟨c20, H⟩ := qa H
   obtain ⟨z21, x22, H⟩ := bind_some H
   refine jf (tg rfl rfl rfl (cb b9_)) rfl (ltb rfl) rfl Tryz.call167 (jL.calls (w := w12) (a0 := (cut 47 a0)) (a1 := (fun (x0_ : List UInt8) => bif decide (x0_.length ≤ 4611686018427387904) then (some (yt x0_)) else none)) (Ow.rd o15) (fun x0_ r h => by obtain ⟨q0, h⟩ := qa h; have h := si h; subst h; exact jH.mk Tryz.call168 (by rfl) fun w18 k19 => yi.calls (w := w18) (a0 := x0_) (od q0)) rfl (od c20) x22) rfl <| fun w23 e24 => lp rfl (qE (b := true) (v := (.bool z21)) (cb b9_) rfl) ?_
   obtain rfl := si H
   exact nx ⟨(ku4 kz rfl), ⟨_, rfl, rfl⟩, (e13.t e24)⟩
  ·refine ls rfl rfl rfl (cb b9_) rfl <| ls rfl rfl rfl (cb b9_) rfl <| ls rfl rfl rfl (cb b9_) rfl <| lp rfl (qE (b := false) (v := (.bool false)) (cb b9_) rfl) ?_
   obtain rfl := si H
   exact nx ⟨(ku4 kz rfl), ⟨_, rfl, rfl⟩, er⟩
 intro s25 w13 z26 K14 hq h15 e16
 rw [hq] at h15; clear hq
 refine lp rfl (qC h15) <| nx <| qu <| qy ?_
 obtain rfl := si H
 exact qT rfl (e7.t e16)
/-! impl.first -/
theorem yg.calls {w : World} {a0 : List (Bool ⊕ Int)} {v_a0 : Value} (f_a0 : Rd 1 (Qw 4 3) w v_a0 a0) (h0 : a0.length ≤ 4611686018427387904) :
  Calls Tryz.prog 77 #[v_a0] w (Rt (RP w (.int .i64 (vA a0)))) := by
 obtain ⟨k, H⟩ := yg.eq a0 h0
 generalize (vA a0) = r at H ⊢
 unfold yg.sh at H
 refine qp Tryz.func77 rfl (Nat.le_of_ble_eq_true rfl) Tryz.ntmps77 rfl ?_
 refine wr <| lp rfl (xa (.int .i64 0) rfl) <| nx <| qj <| wr <| lp rfl (xa (.int .i64 0) rfl) <| nx ?_
 obtain ⟨z2, L3, C4⟩ := bind_some H
 clear H
 refine  vT (fun s0 sQ wQ => Kp [(2, 34)] s0 sQ ∧ Ext w wQ ∧ z2 = .inr ()) ?_ ?_
 ·refine qH <| vy (fun s0 kk sQ wQ => ∃ (x3_1 : Int), Kp [(2, 34)] s0 sQ ∧ sQ 3 = .int .i64 x3_1 ∧ Ext w wQ ∧ qr (yg.b1 a0) kk x3_1 = some z2) k ⟨0, kz, rfl, er, L3⟩ ?_
  rintro k9 s10 w11 ⟨x3_1, K12, h15, e13, L14⟩
  cases k9 with
  | zero => exact absurd L14 (by simp [qr])
  | succ k9 =>
   obtain ⟨t16, H, S17⟩ := qO L14
   clear L14
   unfold yg.b1 at H
   refine qj <| wr <| lp rfl (qg h15) <| lp rfl (vE rfl rfl) <| lp rfl (xm v_a0 (K12 0 rfl)) <| lp rfl (vf Tryz.underlying142 rfl (Rd.ext f_a0 e13)) <| lp rfl (vI rfl rfl) <| nx ?_
   rcases qf H with ⟨q18, H⟩ | ⟨q18, H⟩
   ·refine qq (cb q18) <| qv <| qe <| qj <| qH <| wr <| lp rfl (xm v_a0 (K12 0 rfl)) <| lp rfl (qg h15) ?_
    obtain ⟨c19, H⟩ := qa H
    refine vF (.plain rfl) rfl (ltb rfl) rfl Tryz.underlying142 Tryz.sizeOf20 rfl (Rd.ext f_a0 e13) rfl c19 <| fun p20 h21 => lp rfl (yW Tryz.isAgg20 rfl h21 rfl) <| lp rfl (X_taB Tryz.underlying4 Tryz.zeroValue4 (by decide) rfl) <| lp rfl (xm (.tuple #[(.bool (GF (gt a0 x3_1))), (.bool (isB (gt a0 x3_1)))]) rfl) <| lp rfl (vR (v := (.bool (GF (gt a0 x3_1)))) rfl rfl) <| lp rfl (vR (v := (.bool (isB (gt a0 x3_1)))) rfl rfl) <| lp rfl (xa (.bool (GF (gt a0 x3_1))) rfl) <| lp rfl (xa (.bool (isB (gt a0 x3_1))) rfl) <| nx <| wr <| lp rfl (xm (.bool (GF (gt a0 x3_1))) rfl) <| nx ?_
    rcases qf H with ⟨q22, H⟩ | ⟨q22, H⟩
    ·refine qq (cb q22) <| wr <| lp rfl (xm v_a0 (K12 0 rfl)) <| lp rfl (qg h15) <| lp rfl (vE rfl rfl) ?_
     obtain ⟨c23, H⟩ := qa H
     refine vF (.plain rfl) rfl (ltb rfl) rfl Tryz.underlying142 Tryz.sizeOf20 rfl (Rd.ext f_a0 e13) rfl c23 <| fun p24 h25 => lp rfl (yW Tryz.isAgg20 rfl h25 rfl) <| lp rfl (X_taI Tryz.underlying3 Tryz.zeroValue3 (by decide) rfl) <| lp rfl (qg rfl) <| lp rfl (vR (v := (.int .i64 (XA (gt a0 (IntKind.wrap .i64 (x3_1 + 1)))))) rfl rfl) <| lp rfl (vR (v := (.bool (!isB (gt a0 (IntKind.wrap .i64 (x3_1 + 1)))))) rfl rfl) <| lp rfl (xa (.int .i64 (XA (gt a0 (IntKind.wrap .i64 (x3_1 + 1))))) rfl) <| lp rfl (xa (.bool (!isB (gt a0 (IntKind.wrap .i64 (x3_1 + 1))))) rfl) <| nx <| wr <| lp rfl (xm (.int .i64 (XA (gt a0 (IntKind.wrap .i64 (x3_1 + 1))))) rfl) <| lp rfl (xa (.int .i64 (XA (gt a0 (IntKind.wrap .i64 (x3_1 + 1))))) rfl) <| nx <| qu <| qU <| qk <| qk <| qU <| qk <| qk <| qy ?_
     obtain rfl := si H
     obtain rfl := si S17
     have H := C4
     obtain rfl := si H
     exact qT rfl e13
    ·refine qh (cb q22) <| qv <| yq <| qe <| qQ <| lp rfl (qg h15) <| lp rfl (vE rfl rfl) <| lp rfl (xa (.int .i64 (IntKind.wrap .i64 (x3_1 + 2))) rfl) <| nx ?_
     obtain rfl := si H
     exact ⟨_, Nat.lt_succ_self _, IntKind.wrap .i64 (x3_1 + 2), (ku3 (ku8 (ku8 K12 rfl) rfl) rfl), rfl, e13, S17⟩
   ·refine qh (cb q18) <| vY <| vg <| vg <| yM <| qe ?_
    obtain rfl := si H
    obtain rfl := si S17
    exact ⟨(ku1 (ku4 K12 rfl) rfl), e13, rfl⟩
 ·rintro s6 w5 ⟨K7, e8, y26⟩
  rw [y26] at C4
  have H := C4
  replace H : _ = some _ := H
  refine qe <| wr <| lp rfl (xa (.int .i64 0) rfl) <| nx <| qu <| qy ?_
  obtain rfl := si H
  exact qT rfl e8
/-! spec.l01OK -/
theorem yo.calls {w : World} {a0 : List UInt8} :
  Calls Tryz.prog 97 #[S a0] w (Rt (RP w (.bool (qz a0)))) := by
 obtain ⟨k, H⟩ := yo.eq a0
 generalize (qz a0) = r at H ⊢
 unfold yo.sh at H
 refine qp Tryz.func97 rfl (Nat.le_of_ble_eq_true rfl) Tryz.ntmps97 rfl ?_
 refine wr <| lp rfl (xa (.bool false) rfl) <| nx <| qj <| wr <| lp rfl (xm (S a0) rfl) <| lp rfl (QO Tryz.underlying9 rfl) <| lp rfl (VE rfl rfl) <| nx ?_
 rcases qf H with ⟨q1, H⟩ | ⟨q1, H⟩
 ·refine qq (cb q1) <| wr <| lp rfl (xa (.bool false) rfl) <| nx <| qu <| qk <| qy ?_
  obtain rfl := si H
  exact qT rfl er
 ·refine qh (cb q1) <| qv <| qe <| wr <| lp rfl (xm (S a0) rfl) ?_
  obtain ⟨c2, H⟩ := qa H
  refine vG (.plain rfl) rfl (ltb rfl) rfl Tryz.call135 (vS.calls (w := w) (a0 := a0) (a1 := 47) (od c2)) rfl <| fun v5 w3 e4 o6 => lp rfl (xa v5 rfl) <| nx <| qj <| wr <| lp rfl (xm v5 rfl) <| lp rfl (vf Tryz.underlying44 rfl (Ow.rd o6)) <| lp rfl (VE rfl rfl) <| nx ?_
  rcases qf H with ⟨q7, H⟩ | ⟨q7, H⟩
  ·refine qq (cb q7) <| wr <| lp rfl (xa (.bool false) rfl) <| nx <| qu <| qk <| qy ?_
   obtain rfl := si H
   exact qT rfl e4
  ·refine qh (cb q7) <| qv <| qe <| qj <| wr <| lp rfl (xa (.int .i64 0) rfl) <| nx ?_
   obtain ⟨z9, L10, C11⟩ := bind_some H
   clear H
   refine  vT (fun s0 sQ wQ => Kp [(2, 3), (4, 5), (13, 25)] s0 sQ ∧ Ext w3 wQ ∧ z9 = .inr ()) ?_ ?_
   ·refine qH <| vy (fun s0 kk sQ wQ => ∃ (x4_8 : Int), Kp [(2, 3), (4, 5), (13, 25)] s0 sQ ∧ sQ 4 = .int .i64 x4_8 ∧ Ext w3 wQ ∧ qr (yo.b1 a0) kk x4_8 = some z9) k ⟨0, kz, rfl, er, L10⟩ ?_
    rintro k16 s17 w18 ⟨x4_8, K19, h22, e20, L21⟩
    cases k16 with
    | zero => exact absurd L21 (by simp [qr])
    | succ k16 =>
     obtain ⟨t23, H, S24⟩ := qO L21
     clear L21
     unfold yo.b1 at H
     refine qj <| wr <| lp rfl (qg h22) <| lp rfl (xm v5 (K19 3 rfl)) <| lp rfl (vf Tryz.underlying44 rfl (Ow.rd (Ow.ext o6 e20))) <| lp rfl (vI rfl rfl) <| nx ?_
     rcases qf H with ⟨q25, H⟩ | ⟨q25, H⟩
     ·refine qq (cb q25) <| qv <| qe <| qj <| qH <| wr <| lp rfl (xm v5 (K19 3 rfl)) <| lp rfl (qg h22) ?_
      obtain ⟨c26, H⟩ := qa H
      refine vF (.plain rfl) rfl (ltb rfl) rfl Tryz.underlying44 Tryz.sizeOf9 rfl (Ow.rd (Ow.ext o6 e20)) rfl c26 <| fun p27 h28 => lp rfl (yW Tryz.isAgg9 rfl h28 rfl) <| lc rfl rfl Tryz.call161 (vX.calls (w := w18) (a0 := gt (cut 47 a0) x4_8)) rfl <| fun w29 e30 => lp rfl (jh rfl) <| nx ?_
      rcases qf H with ⟨q31, H⟩ | ⟨q31, H⟩
      ·refine qq (cb q31) <| wr <| lp rfl (xa (.bool false) rfl) <| nx <| qu <| qU <| qk <| qk <| qU <| qk <| qk <| qy ?_
       obtain rfl := si H
       obtain rfl := si S24
       have H := C11
       obtain rfl := si H
       exact qT rfl ((e4.t e20).t e30)
      ·refine qh (cb q31) <| qv <| yq <| qe <| qQ <| lp rfl (qg h22) <| lp rfl (vE rfl rfl) <| lp rfl (xa (.int .i64 (IntKind.wrap .i64 (x4_8 + 1))) rfl) <| nx ?_
       obtain rfl := si H
       exact ⟨_, Nat.lt_succ_self _, IntKind.wrap .i64 (x4_8 + 1), (ku1 (ku4 (ku8 K19 rfl) rfl) rfl), rfl, (e20.t e30), S24⟩
     ·refine qh (cb q25) <| vY <| vg <| vg <| yM <| qe ?_
      obtain rfl := si H
      obtain rfl := si S24
      exact ⟨(ku4 K19 rfl), e20, rfl⟩
   ·rintro s13 w12 ⟨K14, e15, y32⟩
    rw [y32] at C11
    have H := C11
    replace H : _ = some _ := H
    refine qe <| wr <| lp rfl (xa (.bool true) rfl) <| nx <| qu <| qy ?_
    obtain rfl := si H
    exact qT rfl (e4.t e15)
/-! laws.szRecord -/
theorem jr.calls {w : World} {a0 : Rec} {a1 : Int} (h0 : (0 : Int) ≤ a1) (h1 : (a1 : Int) ≤ 1048576) (h2 : a0.path.length ≤ 9223372036854775807) (h3 : a0.body.length ≤ 9223372036854775807) :
  Calls Tryz.prog 113 #[.agg (ql a0).toArray, .int .i64 a1] w (Rt (RP w (.int .i64 (Qb a0 a1)))) := by
 have H := jr.eq a0 a1 h0 h1 h2 h3
 generalize (Qb a0 a1) = r at H ⊢
 unfold jr.sh at H
 refine qp Tryz.func113 rfl (Nat.le_of_ble_eq_true rfl) Tryz.ntmps113 rfl ?_
 refine wr <| QS (.plain rfl) rfl (ltb rfl) rfl rfl <| fun b1 w2 z3 z4 e5 k6 => lp rfl (xa (.int .i64 0) rfl) <| nx <| wr <| lp rfl (xm (.int .i64 a1) rfl) <| lp rfl (qc Tryz.underlying125 rfl Tryz.sizeOf9 rfl rfl) <| lp rfl (qA Tryz.isAgg9 k6 rfl rfl) <| lp rfl (QO Tryz.underlying9 rfl) <| lp rfl (V8 rfl rfl) <| lp rfl (xa (.int .i64 (IntKind.wrap .i64 (a1 - (a0.path.length : Int)))) rfl) <| nx <| qj <| wr <| lp rfl (xm (.int .i64 (IntKind.wrap .i64 (a1 - (a0.path.length : Int)))) rfl) <| lp rfl (vI rfl rfl) <| nx ?_
 rcases qf H with ⟨q7, H⟩ | ⟨q7, H⟩
 ·refine qq (cb q7) <| wr <| lp rfl (xa (.int .i64 (-1)) rfl) <| nx <| qu <| qk <| qy ?_
  obtain rfl := si H
  exact qT rfl e5
 ·refine qh (cb q7) <| qv <| qe <| wr <| lp rfl (xm (.int .i64 (IntKind.wrap .i64 (a1 - (a0.path.length : Int)))) rfl) <| lp rfl (qc Tryz.underlying125 rfl Tryz.sizeOf9 rfl rfl) <| lp rfl (qA Tryz.isAgg9 k6 rfl rfl) <| lp rfl (QO Tryz.underlying9 rfl) <| lp rfl (V8 rfl rfl) <| lp rfl (qC rfl) <| nx <| qj <| wr <| lp rfl (qg rfl) <| lp rfl (vI rfl rfl) <| nx ?_
  rcases qf H with ⟨q8, H⟩ | ⟨q8, H⟩
  ·refine qq (cb q8) <| wr <| lp rfl (xa (.int .i64 (-1)) rfl) <| nx <| qu <| qk <| qy ?_
   obtain rfl := si H
   exact qT rfl e5
  ·refine qh (cb q8) <| qv <| qe <| wr <| lp rfl (qg rfl) <| lp rfl (qC rfl) <| nx <| qu <| qy ?_
   obtain rfl := si H
   exact qT rfl e5
/-! laws.toRecord -/
theorem yN.walk {w : World} {a0 : Rec} {r : Rec} (H : yN.sh a0 = some r) :
  Calls Tryz.prog 114 #[.agg (ql a0).toArray] w (Rt (RP w (.agg (ql r).toArray))) := by
 unfold yN.sh at H
 refine JK Tryz.func114 rfl (Nat.le_of_ble_eq_true rfl) Tryz.ntmps114 ?_
 refine wr <| QS (.plain rfl) rfl (ltb rfl) rfl rfl <| fun b1 w2 z3 z4 e5 k6 => j7 (.plain rfl) rfl (ltb rfl) rfl Tryz.zeroValue52 <| fun b7 w8 z9 z10 e11 k12 => nx <| wr <| j7 (.plain rfl) rfl (ltb rfl) rfl Tryz.zeroValue52 <| fun b13 w14 z15 z16 e17 k18 => nx <| wr <| lp rfl (qc Tryz.underlying125 rfl Tryz.sizeOf3 rfl rfl) <| lp rfl (qA Tryz.isAgg3 (Blk.ext k6 (e11.t e17)) rfl rfl) <| lp rfl (qc Tryz.underlying52 rfl Tryz.sizeOf3 rfl rfl) <| QK (.plain rfl) rfl rfl Tryz.sizeOf3 rfl rfl rfl k18 (ltb rfl) <| fun w19 h20 k21 => nx <| wr <| lp rfl (qc Tryz.underlying125 rfl Tryz.sizeOf9 rfl rfl) <| lp rfl (qA Tryz.isAgg9 (Blk.ext k6 (e11.t (Below.trans e17 (Wr.below h20 (Nat.le_of_eq z15))))) rfl rfl) <| lp rfl (qc Tryz.underlying52 rfl Tryz.sizeOf9 rfl rfl) <| QK (.plain rfl) rfl rfl Tryz.sizeOf9 rfl rfl rfl k21 (ltb rfl) <| fun w22 h23 k24 => nx <| wr <| lp rfl (qc Tryz.underlying125 rfl Tryz.sizeOf9 rfl rfl) <| lp rfl (qA Tryz.isAgg9 (Blk.ext k6 (e11.t (Below.trans (Below.trans e17 (Wr.below h20 (Nat.le_of_eq z15))) (Wr.below h23 (Nat.le_of_eq z15))))) rfl rfl) <| lp rfl (qc Tryz.underlying52 rfl Tryz.sizeOf9 rfl rfl) <| QK (.plain rfl) rfl rfl Tryz.sizeOf9 rfl rfl rfl k24 (ltb rfl) <| fun w25 h26 k27 => nx <| wr <| lp rfl (qc Tryz.underlying125 rfl Tryz.sizeOf3 rfl rfl) <| lp rfl (qA Tryz.isAgg3 (Blk.ext k6 (e11.t (Below.trans (Below.trans (Below.trans e17 (Wr.below h20 (Nat.le_of_eq z15))) (Wr.below h23 (Nat.le_of_eq z15))) (Wr.below h26 (Nat.le_of_eq z15))))) rfl rfl) <| lp rfl (qc Tryz.underlying52 rfl Tryz.sizeOf3 rfl rfl) <| QK (.plain rfl) rfl rfl Tryz.sizeOf3 rfl rfl rfl k27 (ltb rfl) <| fun w28 h29 k30 => nx <| wr <| lp rfl (qc Tryz.underlying125 rfl Tryz.sizeOf4 rfl rfl) <| lp rfl (qA Tryz.isAgg4 (Blk.ext k6 (e11.t (Below.trans (Below.trans (Below.trans (Below.trans e17 (Wr.below h20 (Nat.le_of_eq z15))) (Wr.below h23 (Nat.le_of_eq z15))) (Wr.below h26 (Nat.le_of_eq z15))) (Wr.below h29 (Nat.le_of_eq z15))))) rfl rfl) <| lp rfl (qc Tryz.underlying52 rfl Tryz.sizeOf4 rfl rfl) <| QK (.plain rfl) rfl rfl Tryz.sizeOf4 rfl rfl rfl k30 (ltb rfl) <| fun w31 h32 k33 => nx <| wr <| lp rfl (vN Tryz.isAgg52 Tryz.sizeOf52 rfl rfl (Blk.at0 k33)) <| yk (.plain rfl) rfl rfl Tryz.sizeOf52 rfl rfl rfl rfl rfl (Blk.ext k12 (Below.trans (Below.trans (Below.trans (Below.trans (Below.trans e17 (Wr.below h20 (Nat.le_of_eq z15))) (Wr.below h23 (Nat.le_of_eq z15))) (Wr.below h26 (Nat.le_of_eq z15))) (Wr.below h29 (Nat.le_of_eq z15))) (Wr.below h32 (Nat.le_of_eq z15)))) <| fun w34 h35 k36 => nx <| qu <| Jo ?_
 obtain rfl := si H
 exact finC1 rfl rfl k36 Tryz.isAgg52 Tryz.sizeOf52 rfl (e5.t (Below.trans (e11.t (Below.trans (Below.trans (Below.trans (Below.trans (Below.trans e17 (Wr.below h20 (Nat.le_of_eq z15))) (Wr.below h23 (Nat.le_of_eq z15))) (Wr.below h26 (Nat.le_of_eq z15))) (Wr.below h29 (Nat.le_of_eq z15))) (Wr.below h32 (Nat.le_of_eq z15)))) (Wr.below h35 (Nat.le_of_eq z9))))
theorem yN.calls {w : World} {a0 : Rec} :
  Calls Tryz.prog 114 #[.agg (ql a0).toArray] w (Rt (RP w (.agg (ql a0).toArray))) := yN.walk (yN.eq a0)
/-! spec.l02Fault -/
theorem jx.calls {w : World} {a0 : Rec} :
  Calls Tryz.prog 194 #[.agg (ql a0).toArray] w (Rt (RP w (.int .i64 (qB a0)))) := by
 have H := jx.eq a0
 generalize (qB a0) = r at H ⊢
 unfold jx.sh at H
 refine qp Tryz.func194 rfl (Nat.le_of_ble_eq_true rfl) Tryz.ntmps194 rfl ?_
 refine wr <| QS (.plain rfl) rfl (ltb rfl) rfl rfl <| fun b1 w2 z3 z4 e5 k6 => lp rfl (xa (.int .i64 0) rfl) <| nx <| wr <| lp rfl (qc Tryz.underlying52 rfl Tryz.sizeOf3 rfl rfl) <| lp rfl (qA Tryz.isAgg3 k6 rfl rfl) <| lp rfl (yp rfl rfl) <| lp rfl (xa (.bool (decide (a0.kind = 3))) rfl) <| nx <| qj <| qH <| wr <| lp rfl (qc Tryz.underlying52 rfl Tryz.sizeOf3 rfl rfl) <| lp rfl (qA Tryz.isAgg3 k6 rfl rfl) <| lc rfl rfl Tryz.call61 (jT.calls (w := w2) (a0 := a0.kind) (a1 := 1) (a2 := 4)) rfl <| fun w7 e8 => lp rfl (jh rfl) <| lp rfl (xa (.bool (!(within a0.kind 1 4))) rfl) <| nx ?_
 rcases qf H with ⟨q9, H⟩ | ⟨q9, H⟩
 ·refine qq (cb q9) <| wr <| lp rfl (xa (.int .i64 9) rfl) <| nx <| qu <| qU <| qk <| qy ?_
  obtain rfl := si H
  exact qT rfl (e5.t e8)
 ·refine qh (cb q9) <| wr <| lp rfl (qc Tryz.underlying52 rfl Tryz.sizeOf9 rfl rfl) <| lp rfl (qA Tryz.isAgg9 (Blk.ext k6 e8) rfl rfl) <| lc rfl rfl Tryz.call97 (yo.calls (w := w7) (a0 := a0.path)) rfl <| fun w10 e11 => lp rfl (jh rfl) <| lp rfl (xa (.bool (!(qz a0.path))) rfl) <| nx ?_
  rcases qf H with ⟨q12, H⟩ | ⟨q12, H⟩
  ·refine qq (cb q12) <| wr <| lp rfl (xa (.int .i64 10) rfl) <| nx <| qu <| qU <| qk <| qy ?_
   obtain rfl := si H
   exact qT rfl ((e5.t e8).t e11)
  ·refine qh (cb q12) <| wr <| lp rfl (qc Tryz.underlying52 rfl Tryz.sizeOf9 rfl rfl) <| lp rfl (qA Tryz.isAgg9 (Blk.ext k6 (e8.t e11)) rfl rfl) <| lp rfl (QO Tryz.underlying9 rfl) <| lp rfl (VE rfl rfl) <| lp rfl (xm (.bool (decide (20 < (a0.body.length : Int)))) rfl) <| yR 9 [(23, 32)] 31 (.bool ((decide (20 < (a0.body.length : Int))) || ((decide (a0.kind = 2)) && (decide (a0.body = ([] : List UInt8)))))) ?_ ?_
   ·rcases qw (decide (20 < (a0.body.length : Int))) with b12_ | b12_
    ·exact ls rfl rfl rfl (cb b12_) rfl <| ls rfl rfl rfl (cb b12_) rfl <| ls rfl rfl rfl (cb b12_) rfl <| ls rfl rfl rfl (cb b12_) rfl <| lu rfl rfl rfl rfl rfl <| lu rfl rfl rfl rfl rfl <| lu rfl rfl rfl rfl rfl <| ls rfl rfl rfl (cb b12_) rfl <| lp rfl (qE (b := true) (v := (.bool true)) (cb b12_) rfl) <| nx ⟨(ku1 (ku8 kz rfl) rfl), (Jn b12_), er⟩
    ·refine lg rfl rfl rfl rfl (cb b12_) (qc Tryz.underlying52 rfl Tryz.sizeOf3 rfl rfl) <| lg rfl rfl rfl rfl (cb b12_) (qA Tryz.isAgg3 (Blk.ext k6 (e8.t e11)) rfl rfl) <| lg rfl rfl rfl rfl (cb b12_) (yp rfl rfl) <| lg rfl rfl rfl rfl (cb b12_) (xm (.bool (decide (a0.kind = 2))) rfl) <| yR 4 [(27, 31)] 30 (.bool ((decide (a0.kind = 2)) && (decide (a0.body = ([] : List UInt8))))) ?_ ?_
     ·rcases qw (decide (a0.kind = 2)) with b13_ | b13_
      ·exact lg rfl rfl rfl rfl (cb b13_) (qc Tryz.underlying52 rfl Tryz.sizeOf9 rfl rfl) <| lg rfl rfl rfl rfl (cb b13_) (qA Tryz.isAgg9 (Blk.ext k6 (e8.t e11)) rfl rfl) <| lg rfl rfl rfl rfl (cb b13_) (Ym rfl rfl) <| lg rfl rfl rfl rfl (cb b12_) (qE (b := true) (v := (.bool (decide (a0.body = ([] : List UInt8))))) (cb b13_) rfl) <| nx ⟨(ku4 kz rfl), (Qg b13_), er⟩
      ·exact ls rfl rfl rfl (cb b13_) rfl <| ls rfl rfl rfl (cb b13_) rfl <| ls rfl rfl rfl (cb b13_) rfl <| lg rfl rfl rfl rfl (cb b12_) (qE (b := false) (v := (.bool false)) (cb b13_) rfl) <| nx ⟨(ku4 kz rfl), (Qd b13_), er⟩
     intro s19 w15 K16 h17 e18
     exact lp rfl (qE (b := false) (v := (.bool ((decide (a0.kind = 2)) && (decide (a0.body = ([] : List UInt8)))))) ((K16 22 rfl).trans (cb b12_)) h17) <| nx ⟨(ku1 (Kp.cut (ku4 kz rfl) K16 rfl) rfl), (Y4 b12_), e18⟩
   intro s20 w14 K15 h16 e17
   refine lp rfl (qC h16) <| nx ?_
   rcases qf H with ⟨q21, H⟩ | ⟨q21, H⟩
   ·refine qq (cb q21) <| wr <| lp rfl (xa (.int .i64 8) rfl) <| nx <| qu <| qU <| qk <| qy ?_
    obtain rfl := si H
    exact qT rfl (((e5.t e8).t e11).t e17)
   ·refine qh (cb q21) <| wr <| lp rfl (qc Tryz.underlying52 rfl Tryz.sizeOf9 rfl (K15 1 rfl)) <| lp rfl (qA Tryz.isAgg9 (Blk.ext k6 ((e8.t e11).t e17)) rfl rfl) <| lp rfl (Qo rfl rfl) <| lp rfl (xm (.bool (!decide (a0.body = ([] : List UInt8)))) rfl) <| yR 7 [(37, 44)] 43 (.bool ((!decide (a0.body = ([] : List UInt8))) && ((decide (a0.kind = 3)) || (decide (a0.kind = 4))))) ?_ ?_
    ·rcases qw (!decide (a0.body = ([] : List UInt8))) with b21_ | b21_
     ·refine lg rfl rfl rfl rfl (cb b21_) (xm (.bool (decide (a0.kind = 3))) (K15 3 rfl)) <| lg rfl rfl rfl rfl (cb b21_) (xm (.bool (decide (a0.kind = 3))) rfl) <| yR 4 [(39, 43)] 42 (.bool ((decide (a0.kind = 3)) || (decide (a0.kind = 4)))) ?_ ?_
      ·rcases qw (decide (a0.kind = 3)) with b22_ | b22_
       ·exact ls rfl rfl rfl (cb b22_) rfl <| ls rfl rfl rfl (cb b22_) rfl <| ls rfl rfl rfl (cb b22_) rfl <| lg rfl rfl rfl rfl (cb b21_) (qE (b := true) (v := (.bool true)) (cb b22_) rfl) <| nx ⟨(ku4 kz rfl), (Jn b22_), er⟩
       ·exact lg rfl rfl rfl rfl (cb b22_) (qc Tryz.underlying52 rfl Tryz.sizeOf3 rfl (K15 1 rfl)) <| lg rfl rfl rfl rfl (cb b22_) (qA Tryz.isAgg3 (Blk.ext k6 ((e8.t e11).t e17)) rfl rfl) <| lg rfl rfl rfl rfl (cb b22_) (yp rfl rfl) <| lg rfl rfl rfl rfl (cb b21_) (qE (b := false) (v := (.bool (decide (a0.kind = 4)))) (cb b22_) rfl) <| nx ⟨(ku4 kz rfl), (Y4 b22_), er⟩
      intro s28 w24 K25 h26 e27
      exact lp rfl (qE (b := true) (v := (.bool ((decide (a0.kind = 3)) || (decide (a0.kind = 4))))) ((K25 36 rfl).trans (cb b21_)) h26) <| nx ⟨(ku1 (Kp.cut (ku2 kz rfl) K25 rfl) rfl), (Qg b21_), e27⟩
     ·exact ls rfl rfl rfl (cb b21_) rfl <| ls rfl rfl rfl (cb b21_) rfl <| lu rfl rfl rfl rfl rfl <| lu rfl rfl rfl rfl rfl <| lu rfl rfl rfl rfl rfl <| ls rfl rfl rfl (cb b21_) rfl <| lp rfl (qE (b := false) (v := (.bool false)) (cb b21_) rfl) <| nx ⟨(ku3 (ku4 kz rfl) rfl), (Qd b21_), er⟩
    intro s29 w23 K24 h25 e26
    refine lp rfl (qg h25) <| yR 7 [(45, 52)] 51 (.bool (((!decide (a0.body = ([] : List UInt8))) && ((decide (a0.kind = 3)) || (decide (a0.kind = 4)))) || (a0.opq && (!(decide (a0.kind = 3)))))) ?_ ?_
    ·rcases qw ((!decide (a0.body = ([] : List UInt8))) && ((decide (a0.kind = 3)) || (decide (a0.kind = 4)))) with b29_ | b29_
     ·exact ls rfl rfl rfl (cb b29_) rfl <| ls rfl rfl rfl (cb b29_) rfl <| ls rfl rfl rfl (cb b29_) rfl <| lu rfl rfl rfl rfl rfl <| lu rfl rfl rfl rfl rfl <| ls rfl rfl rfl (cb b29_) rfl <| lp rfl (qE (b := true) (v := (.bool true)) (cb b29_) rfl) <| nx ⟨(ku3 (ku4 kz rfl) rfl), (Jn b29_), er⟩
     ·refine lg rfl rfl rfl rfl (cb b29_) (qc Tryz.underlying52 rfl Tryz.sizeOf4 rfl ((K24 1 rfl).trans (K15 1 rfl))) <| lg rfl rfl rfl rfl (cb b29_) (qA Tryz.isAgg4 (Blk.ext k6 (((e8.t e11).t e17).t e26)) rfl rfl) <| lg rfl rfl rfl rfl (cb b29_) (xm (.bool a0.opq) rfl) <| yR 3 [(48, 51)] 50 (.bool (a0.opq && (!(decide (a0.kind = 3))))) ?_ ?_
      ·rcases qw a0.opq with b30_ | b30_
       ·exact lg rfl rfl rfl rfl (cb b30_) (xm (.bool (decide (a0.kind = 3))) ((K24 3 rfl).trans (K15 3 rfl))) <| lg rfl rfl rfl rfl (cb b30_) (jh rfl) <| lg rfl rfl rfl rfl (cb b29_) (qE (b := true) (v := (.bool (!(decide (a0.kind = 3))))) (cb b30_) rfl) <| nx ⟨(ku3 kz rfl), (Qg b30_), er⟩
       ·exact ls rfl rfl rfl (cb b30_) rfl <| ls rfl rfl rfl (cb b30_) rfl <| lg rfl rfl rfl rfl (cb b29_) (qE (b := false) (v := (.bool false)) (cb b30_) rfl) <| nx ⟨(ku3 kz rfl), (Qd b30_), er⟩
      intro s36 w32 K33 h34 e35
      exact lp rfl (qE (b := false) (v := (.bool (a0.opq && (!(decide (a0.kind = 3)))))) ((K33 44 rfl).trans (cb b29_)) h34) <| nx ⟨(ku1 (Kp.cut (ku3 kz rfl) K33 rfl) rfl), (Y4 b29_), e35⟩
    intro s37 w31 K32 h33 e34
    refine lp rfl (qC h33) <| nx ?_
    rcases qf H with ⟨q38, H⟩ | ⟨q38, H⟩
    ·refine qq (cb q38) <| wr <| lp rfl (xa (.int .i64 3) rfl) <| nx <| qu <| qU <| qk <| qy ?_
     obtain rfl := si H
     exact qT rfl (((((e5.t e8).t e11).t e17).t e26).t e34)
    ·refine qh (cb q38) <| wr <| lp rfl (qc Tryz.underlying52 rfl Tryz.sizeOf3 rfl ((K32 1 rfl).trans ((K24 1 rfl).trans (K15 1 rfl)))) <| lp rfl (qA Tryz.isAgg3 (Blk.ext k6 ((((e8.t e11).t e17).t e26).t e34)) rfl rfl) <| lc rfl rfl Tryz.call61 (jT.calls (w := w31) (a0 := a0.mode) (a1 := 0) (a2 := 511)) rfl <| fun w39 e40 => lp rfl (jh rfl) <| lp rfl (xm (.bool (!(within a0.mode 0 511))) rfl) <| yR 14 [(58, 72)] 71 (.bool ((!(within a0.mode 0 511)) || ((!decide (a0.mode = 0)) && ((decide (a0.kind = 4)) || (decide (a0.kind = 2)))))) ?_ ?_
     ·rcases qw (!(within a0.mode 0 511)) with b40_ | b40_
      ·exact ls rfl rfl rfl (cb b40_) rfl <| ls rfl rfl rfl (cb b40_) rfl <| ls rfl rfl rfl (cb b40_) rfl <| ls rfl rfl rfl (cb b40_) rfl <| lu rfl rfl rfl rfl rfl <| lu rfl rfl rfl rfl rfl <| lu rfl rfl rfl rfl rfl <| lu rfl rfl rfl rfl rfl <| lu rfl rfl rfl rfl rfl <| lu rfl rfl rfl rfl rfl <| lu rfl rfl rfl rfl rfl <| lu rfl rfl rfl rfl rfl <| ls rfl rfl rfl (cb b40_) rfl <| lp rfl (qE (b := true) (v := (.bool true)) (cb b40_) rfl) <| nx ⟨(ku2 (ku4 (ku8 kz rfl) rfl) rfl), (Jn b40_), er⟩
      ·refine lg rfl rfl rfl rfl (cb b40_) (qc Tryz.underlying52 rfl Tryz.sizeOf3 rfl ((K32 1 rfl).trans ((K24 1 rfl).trans (K15 1 rfl)))) <| lg rfl rfl rfl rfl (cb b40_) (qA Tryz.isAgg3 (Blk.ext k6 (((((e8.t e11).t e17).t e26).t e34).t e40)) rfl rfl) <| lg rfl rfl rfl rfl (cb b40_) (jJ rfl rfl) <| lg rfl rfl rfl rfl (cb b40_) (xm (.bool (!decide (a0.mode = 0))) rfl) <| yR 9 [(62, 71)] 70 (.bool ((!decide (a0.mode = 0)) && ((decide (a0.kind = 4)) || (decide (a0.kind = 2))))) ?_ ?_
       ·rcases qw (!decide (a0.mode = 0)) with b41_ | b41_
        ·refine lg rfl rfl rfl rfl (cb b41_) (qc Tryz.underlying52 rfl Tryz.sizeOf3 rfl ((K32 1 rfl).trans ((K24 1 rfl).trans (K15 1 rfl)))) <| lg rfl rfl rfl rfl (cb b41_) (qA Tryz.isAgg3 (Blk.ext k6 (((((e8.t e11).t e17).t e26).t e34).t e40)) rfl rfl) <| lg rfl rfl rfl rfl (cb b41_) (yp rfl rfl) <| lg rfl rfl rfl rfl (cb b41_) (xm (.bool (decide (a0.kind = 4))) rfl) <| yR 4 [(66, 70)] 69 (.bool ((decide (a0.kind = 4)) || (decide (a0.kind = 2)))) ?_ ?_
         ·rcases qw (decide (a0.kind = 4)) with b42_ | b42_
          ·exact ls rfl rfl rfl (cb b42_) rfl <| ls rfl rfl rfl (cb b42_) rfl <| ls rfl rfl rfl (cb b42_) rfl <| lg rfl rfl rfl rfl (cb b41_) (qE (b := true) (v := (.bool true)) (cb b42_) rfl) <| nx ⟨(ku4 kz rfl), (Jn b42_), er⟩
          ·exact lg rfl rfl rfl rfl (cb b42_) (qc Tryz.underlying52 rfl Tryz.sizeOf3 rfl ((K32 1 rfl).trans ((K24 1 rfl).trans (K15 1 rfl)))) <| lg rfl rfl rfl rfl (cb b42_) (qA Tryz.isAgg3 (Blk.ext k6 (((((e8.t e11).t e17).t e26).t e34).t e40)) rfl rfl) <| lg rfl rfl rfl rfl (cb b42_) (yp rfl rfl) <| lg rfl rfl rfl rfl (cb b41_) (qE (b := false) (v := (.bool (decide (a0.kind = 2)))) (cb b42_) rfl) <| nx ⟨(ku4 kz rfl), (Y4 b42_), er⟩
         intro s48 w44 K45 h46 e47
         exact lg rfl rfl rfl rfl ((K45 57 rfl).trans (cb b40_)) (qE (b := true) (v := (.bool ((decide (a0.kind = 4)) || (decide (a0.kind = 2))))) ((K45 61 rfl).trans (cb b41_)) h46) <| nx ⟨(ku1 (Kp.cut (ku4 kz rfl) K45 rfl) rfl), (Qg b41_), e47⟩
        ·exact ls rfl rfl rfl (cb b41_) rfl <| ls rfl rfl rfl (cb b41_) rfl <| ls rfl rfl rfl (cb b41_) rfl <| ls rfl rfl rfl (cb b41_) rfl <| lu rfl rfl rfl rfl rfl <| lu rfl rfl rfl rfl rfl <| lu rfl rfl rfl rfl rfl <| ls rfl rfl rfl (cb b41_) rfl <| lg rfl rfl rfl rfl (cb b40_) (qE (b := false) (v := (.bool false)) (cb b41_) rfl) <| nx ⟨(ku1 (ku8 kz rfl) rfl), (Qd b41_), er⟩
       intro s49 w43 K44 h45 e46
       exact lp rfl (qE (b := false) (v := (.bool ((!decide (a0.mode = 0)) && ((decide (a0.kind = 4)) || (decide (a0.kind = 2)))))) ((K44 57 rfl).trans (cb b40_)) h45) <| nx ⟨(ku1 (Kp.cut (ku4 kz rfl) K44 rfl) rfl), (Y4 b40_), e46⟩
     intro s50 w42 K43 h44 e45
     refine lp rfl (qC h44) <| nx ?_
     rcases qf H with ⟨q51, H⟩ | ⟨q51, H⟩
     ·refine qq (cb q51) <| wr <| lp rfl (xa (.int .i64 4) rfl) <| nx <| qu <| qU <| qk <| qy ?_
      obtain rfl := si H
      exact qT rfl (((((((e5.t e8).t e11).t e17).t e26).t e34).t e40).t e45)
     ·refine qh (cb q51) <| qv <| yq <| qe <| wr <| lp rfl (xa (.int .i64 0) rfl) <| nx <| qu <| qy ?_
      obtain rfl := si H
      exact qT rfl (((((((e5.t e8).t e11).t e17).t e26).t e34).t e40).t e45)
/-! impl.RecordFault -/
abbrev qi.e1 (a0 : Rec) := ([.inl (!(within a0.kind 1 4)), .inr 9, .inl (!(qz a0.path)), .inr 10, .inl ((decide (20 < (a0.body.length : Int))) || ((decide (a0.kind = 2)) && (decide (a0.body = ([] : List UInt8))))), .inr 8, .inl ((((decide (a0.kind = 3)) || (decide (a0.kind = 4))) && (!decide (a0.body = ([] : List UInt8)))) || ((!decide (a0.kind = 3)) && a0.opq)), .inr 3, .inl ((!(within a0.mode 0 511)) || (((decide (a0.kind = 2)) || (decide (a0.kind = 4))) && (!decide (a0.mode = 0)))), .inr 4] : List (Bool ⊕ Int))
abbrev qi.e2 (a0 : Rec) := (((decide (a0.kind = 3)) || (decide (a0.kind = 4))) && (!decide (a0.body = ([] : List UInt8))))
abbrev qi.e3 (a0 : Rec) := ((decide (a0.kind = 2)) || (decide (a0.kind = 4)))
abbrev qi.e4 (a0 : Rec) := ((decide (20 < (a0.body.length : Int))) || ((decide (a0.kind = 2)) && (decide (a0.body = ([] : List UInt8)))))
theorem qi.walk {w : World} {a0 : Rec} (gv : GV 0 w) {r : Int} (H : qi.sh a0 = some r) :
  Calls Tryz.prog 211 #[.agg (ql a0).toArray] w (Rt (RP w (.int .i64 r))) := by
 unfold qi.sh at H
 refine qp Tryz.func211 rfl (Nat.le_of_ble_eq_true rfl) Tryz.ntmps211 rfl ?_
 refine wr <| QS (.plain rfl) rfl (ltb rfl) rfl rfl <| fun b1 w2 z3 z4 e5 k6 => lp rfl (xa (.int .i64 0) rfl) <| nx <| wr <| lp rfl (qc Tryz.underlying52 rfl Tryz.sizeOf3 rfl rfl) <| lp rfl (qA Tryz.isAgg3 k6 rfl rfl) <| lp rfl (yp rfl rfl) <| lp rfl (xm (.bool (decide (a0.kind = 3))) rfl) <| yR 4 [(8, 12)] 11 (.bool ((decide (a0.kind = 3)) || (decide (a0.kind = 4)))) ?_ ?_
 ·rcases qw (decide (a0.kind = 3)) with b6_ | b6_
  ·exact ls rfl rfl rfl (cb b6_) rfl <| ls rfl rfl rfl (cb b6_) rfl <| ls rfl rfl rfl (cb b6_) rfl <| lp rfl (qE (b := true) (v := (.bool true)) (cb b6_) rfl) <| nx ⟨(ku4 kz rfl), (Jn b6_), er⟩
  ·exact lg rfl rfl rfl rfl (cb b6_) (qc Tryz.underlying52 rfl Tryz.sizeOf3 rfl rfl) <| lg rfl rfl rfl rfl (cb b6_) (qA Tryz.isAgg3 k6 rfl rfl) <| lg rfl rfl rfl rfl (cb b6_) (yp rfl rfl) <| lp rfl (qE (b := false) (v := (.bool (decide (a0.kind = 4)))) (cb b6_) rfl) <| nx ⟨(ku4 kz rfl), (Y4 b6_), er⟩
 intro s12 w8 K9 h10 e11
 refine lp rfl (qC h10) <| nx <| qj ?_
 obtain ⟨c25, H⟩ := qa H
 refine Yv [LEq (.pointer (some ⟨b1, 0, none⟩)), LEq (.int .i64 a0.kind), LEq (.bool (within a0.kind 1 4)), LEq (.bool (!(within a0.kind 1 4))), LEq (.iface 4 (.bool (!(within a0.kind 1 4)))), LEq (.iface 3 (.int .i64 9)), LEq (.pointer (some ⟨b1, 1, none⟩)), LEq (S a0.path), LEq (.bool (qz a0.path)), LEq (.bool (!(qz a0.path))), LEq (.iface 4 (.bool (!(qz a0.path)))), LEq (.iface 3 (.int .i64 10)), LEq (.pointer (some ⟨b1, 2, none⟩)), LEq (S a0.body), LEq (.int .i64 (a0.body.length : Int)), LEq (.bool (decide (20 < (a0.body.length : Int)))), LEq (.bool (decide (20 < (a0.body.length : Int)))), LIf (!(decide (20 < (a0.body.length : Int)))) (LEq (.pointer (some ⟨b1, 0, none⟩))), LIf (!(decide (20 < (a0.body.length : Int)))) (LEq (.int .i64 a0.kind)), LIf (!(decide (20 < (a0.body.length : Int)))) (LEq (.bool (decide (a0.kind = 2)))), LIf (!(decide (20 < (a0.body.length : Int)))) (LEq (.bool (decide (a0.kind = 2)))), LIf ((!(decide (20 < (a0.body.length : Int)))) && (decide (a0.kind = 2))) (LEq (.pointer (some ⟨b1, 2, none⟩))), LIf ((!(decide (20 < (a0.body.length : Int)))) && (decide (a0.kind = 2))) (LEq (S a0.body)), LIf ((!(decide (20 < (a0.body.length : Int)))) && (decide (a0.kind = 2))) (LEq (.bool (decide (a0.body = ([] : List UInt8))))), LIf (!(decide (20 < (a0.body.length : Int)))) (LEq (.bool ((decide (a0.kind = 2)) && (decide (a0.body = ([] : List UInt8)))))), LEq (.bool (qi.e4 a0)), LEq (.iface 4 (.bool (qi.e4 a0))), LEq (.iface 3 (.int .i64 8)), LEq (.bool ((decide (a0.kind = 3)) || (decide (a0.kind = 4)))), LEq (.bool ((decide (a0.kind = 3)) || (decide (a0.kind = 4)))), LIf ((decide (a0.kind = 3)) || (decide (a0.kind = 4))) (LEq (.pointer (some ⟨b1, 2, none⟩))), LIf ((decide (a0.kind = 3)) || (decide (a0.kind = 4))) (LEq (S a0.body)), LIf ((decide (a0.kind = 3)) || (decide (a0.kind = 4))) (LEq (.bool (!decide (a0.body = ([] : List UInt8))))), LEq (.bool (qi.e2 a0)), LEq (.bool (qi.e2 a0)), LIf (!(qi.e2 a0)) (LEq (.pointer (some ⟨b1, 0, none⟩))), LIf (!(qi.e2 a0)) (LEq (.int .i64 a0.kind)), LIf (!(qi.e2 a0)) (LEq (.bool (!decide (a0.kind = 3)))), LIf (!(qi.e2 a0)) (LEq (.bool (!decide (a0.kind = 3)))), LIf ((!(qi.e2 a0)) && (!decide (a0.kind = 3))) (LEq (.pointer (some ⟨b1, 4, none⟩))), LIf ((!(qi.e2 a0)) && (!decide (a0.kind = 3))) (LEq (.bool a0.opq)), LIf (!(qi.e2 a0)) (LEq (.bool ((!decide (a0.kind = 3)) && a0.opq))), LEq (.bool ((qi.e2 a0) || ((!decide (a0.kind = 3)) && a0.opq))), LEq (.iface 4 (.bool ((qi.e2 a0) || ((!decide (a0.kind = 3)) && a0.opq)))), LEq (.iface 3 (.int .i64 3)), LEq (.pointer (some ⟨b1, 3, none⟩)), LEq (.int .i64 a0.mode), LEq (.bool (within a0.mode 0 511)), LEq (.bool (!(within a0.mode 0 511))), LEq (.bool (!(within a0.mode 0 511))), LIf (!(!(within a0.mode 0 511))) (LEq (.pointer (some ⟨b1, 0, none⟩))), LIf (!(!(within a0.mode 0 511))) (LEq (.int .i64 a0.kind)), LIf (!(!(within a0.mode 0 511))) (LEq (.bool (decide (a0.kind = 2)))), LIf (!(!(within a0.mode 0 511))) (LEq (.bool (decide (a0.kind = 2)))), LIf ((!(!(within a0.mode 0 511))) && (!(decide (a0.kind = 2)))) (LEq (.pointer (some ⟨b1, 0, none⟩))), LIf ((!(!(within a0.mode 0 511))) && (!(decide (a0.kind = 2)))) (LEq (.int .i64 a0.kind)), LIf ((!(!(within a0.mode 0 511))) && (!(decide (a0.kind = 2)))) (LEq (.bool (decide (a0.kind = 4)))), LIf (!(!(within a0.mode 0 511))) (LEq (.bool (qi.e3 a0))), LIf (!(!(within a0.mode 0 511))) (LEq (.bool (qi.e3 a0))), LIf ((!(!(within a0.mode 0 511))) && (qi.e3 a0)) (LEq (.pointer (some ⟨b1, 3, none⟩))), LIf ((!(!(within a0.mode 0 511))) && (qi.e3 a0)) (LEq (.int .i64 a0.mode)), LIf ((!(!(within a0.mode 0 511))) && (qi.e3 a0)) (LEq (.bool (!decide (a0.mode = 0)))), LIf (!(!(within a0.mode 0 511))) (LEq (.bool ((qi.e3 a0) && (!decide (a0.mode = 0))))), LEq (.bool ((!(within a0.mode 0 511)) || ((qi.e3 a0) && (!decide (a0.mode = 0))))), LEq (.iface 4 (.bool ((!(within a0.mode 0 511)) || ((qi.e3 a0) && (!decide (a0.mode = 0)))))), LEq (.iface 3 (.int .i64 4)), LRd 1 (Qw 4 3) (qi.e1 a0), LEq (.int .i64 (vA (qi.e1 a0))), LEq (.int .i64 (vA (qi.e1 a0)))] (by kernel_rfl) (by kernel_rfl) ⟨qm, qm, qm, qm, qm, qm, qm, qm, qm, qm, qm, qm, qm, qm, qm, qm, qm, lm, lm, lm, lm, lm, lm, lm, lm, qm, qm, qm, qm, qm, lm, lm, lm, qm, qm, lm, lm, lm, lm, lm, lm, lm, qm, qm, qm, qm, qm, qm, qm, qm, lm, lm, lm, lm, lm, lm, lm, lm, lm, lm, lm, lm, lm, qm, qm, qm, LRd.mono, qm, qm, trivial⟩ ⟨?_, ?_, ?_, ?_, ?_, ?_, ?_, ?_, ?_, ?_, ?_, ?_, ?_, ?_, ?_, ?_, ?_, ?_, ?_, ?_, ?_, ?_, ?_, ?_, ?_, ?_, ?_, ?_, ?_, ?_, ?_, ?_, ?_, ?_, ?_, ?_, ?_, ?_, ?_, ?_, ?_, ?_, ?_, ?_, ?_, ?_, ?_, ?_, ?_, ?_, ?_, ?_, ?_, ?_, ?_, ?_, ?_, ?_, ?_, ?_, ?_, ?_, ?_, ?_, ?_, ?_, ?_, ?_, ?_, trivial⟩ ?_
 ·exact fun s x e f d u => lp rfl (qc Tryz.underlying52 rfl Tryz.sizeOf3 rfl ((f 1 rfl).trans (K9 1 rfl))) <| se rfl rfl
 ·exact fun s x e f d u => lp rfl (qA Tryz.isAgg3 (Blk.ext k6 (e11.t e)) (d 0 rfl) rfl) <| se rfl rfl
 ·exact fun s x e f d u => lc rfl rfl Tryz.call117 (jm.calls (w := x) (a0 := a0.kind) (a1 := 1) (a2 := 4)) (vu (d 1 rfl) (vu rfl (vu rfl rfl))) <| fun w28 e29 => sx rfl e29 rfl
 ·exact fun s x e f d u => lp rfl (jh (d 2 rfl)) <| se rfl rfl
 ·exact fun s x e f d u => lp rfl (vh Tryz.underlying4 rfl (d 3 rfl)) <| se rfl rfl
 ·exact fun s x e f d u => lp rfl (vh Tryz.underlying3 rfl rfl) <| se rfl rfl
 ·exact fun s x e f d u => lp rfl (qc Tryz.underlying52 rfl Tryz.sizeOf9 rfl ((f 1 rfl).trans (K9 1 rfl))) <| se rfl rfl
 ·exact fun s x e f d u => lp rfl (qA Tryz.isAgg9 (Blk.ext k6 (e11.t e)) (d 6 rfl) rfl) <| se rfl rfl
 ·exact fun s x e f d u => lc rfl rfl Tryz.call101 (jj.calls (w := x) (a0 := a0.path) (GV.ext gv ((e5.t e11).t e))) (vu (d 7 rfl) rfl) <| fun w30 e31 => sx rfl e31 rfl
 ·exact fun s x e f d u => lp rfl (jh (d 8 rfl)) <| se rfl rfl
 ·exact fun s x e f d u => lp rfl (vh Tryz.underlying4 rfl (d 9 rfl)) <| se rfl rfl
 ·exact fun s x e f d u => lp rfl (vh Tryz.underlying3 rfl rfl) <| se rfl rfl
 ·exact fun s x e f d u => lp rfl (qc Tryz.underlying52 rfl Tryz.sizeOf9 rfl ((f 1 rfl).trans (K9 1 rfl))) <| se rfl rfl
 ·exact fun s x e f d u => lp rfl (qA Tryz.isAgg9 (Blk.ext k6 (e11.t e)) (d 12 rfl) rfl) <| se rfl rfl
 ·exact fun s x e f d u => lp rfl (QO Tryz.underlying9 (d 13 rfl)) <| se rfl rfl
 ·exact fun s x e f d u => lp rfl (VE (d 14 rfl) rfl) <| se rfl rfl
 ·exact fun s x e f d u => lp rfl (qg (d 15 rfl)) <| se rfl rfl
 ·exact fun s x e f d u => gF rfl rfl rfl rfl (d 16 rfl) rfl fun b t => lt t rfl rfl (qc Tryz.underlying52 rfl Tryz.sizeOf3 rfl ((f 1 rfl).trans (K9 1 rfl))) <| sg rfl rfl b rfl
 ·exact fun s x e f d u => gF rfl rfl rfl rfl (d 16 rfl) rfl fun b t => lt t rfl rfl (qA Tryz.isAgg3 (Blk.ext k6 (e11.t e)) ((d 17 rfl).1 (vD (yF b))) rfl) <| sg rfl rfl b rfl
 ·exact fun s x e f d u => gF rfl rfl rfl rfl (d 16 rfl) rfl fun b t => lt t rfl rfl (yp ((d 18 rfl).1 (vD (yF b))) rfl) <| sg rfl rfl b rfl
 ·exact fun s x e f d u => gF rfl rfl rfl rfl (d 16 rfl) rfl fun b t => lt t rfl rfl (xm (.bool (decide (a0.kind = 2))) ((d 19 rfl).1 (vD (yF b)))) <| sg rfl rfl b rfl
 ·exact fun s x e f d u => hT rfl rfl rfl rfl (d 20 rfl) rfl fun b t => lt t rfl rfl (qc Tryz.underlying52 rfl Tryz.sizeOf9 rfl ((f 1 rfl).trans (K9 1 rfl))) <| sg rfl rfl b rfl
 ·exact fun s x e f d u => hT rfl rfl rfl rfl (d 20 rfl) rfl fun b t => lt t rfl rfl (qA Tryz.isAgg9 (Blk.ext k6 (e11.t e)) ((d 21 rfl).1 (vB (vD (yF (Gx b))) (J4 b))) rfl) <| sg rfl rfl b rfl
 ·exact fun s x e f d u => hT rfl rfl rfl rfl (d 20 rfl) rfl fun b t => lt t rfl rfl (Ym ((d 22 rfl).1 (vB (vD (yF (Gx b))) (J4 b))) rfl) <| sg rfl rfl b rfl
 ·exact fun s x e f d u => gF rfl rfl rfl rfl (d 16 rfl) rfl fun b t => lt t rfl rfl (j4 ((d 20 rfl).1 (vD (yF b))) rfl fun h => ((d 23 rfl).1 (vB (vD (yF b)) h))) <| sg rfl rfl b rfl
 ·exact fun s x e f d u => lp rfl (Y9 (d 16 rfl) rfl fun h => ((d 24 rfl).1 (vD h))) <| se rfl rfl
 ·exact fun s x e f d u => lp rfl (vh Tryz.underlying4 rfl (d 25 rfl)) <| se rfl rfl
 ·exact fun s x e f d u => lp rfl (vh Tryz.underlying3 rfl rfl) <| se rfl rfl
 ·exact fun s x e f d u => lp rfl (xm (.bool ((decide (a0.kind = 3)) || (decide (a0.kind = 4)))) (f 3 rfl)) <| se rfl rfl
 ·exact fun s x e f d u => lp rfl (qg (d 28 rfl)) <| se rfl rfl
 ·exact fun s x e f d u => gT rfl rfl rfl rfl (d 29 rfl) rfl fun b t => lt t rfl rfl (qc Tryz.underlying52 rfl Tryz.sizeOf9 rfl ((f 1 rfl).trans (K9 1 rfl))) <| sg rfl rfl b rfl
 ·exact fun s x e f d u => gT rfl rfl rfl rfl (d 29 rfl) rfl fun b t => lt t rfl rfl (qA Tryz.isAgg9 (Blk.ext k6 (e11.t e)) ((d 30 rfl).1 b) rfl) <| sg rfl rfl b rfl
 ·exact fun s x e f d u => gT rfl rfl rfl rfl (d 29 rfl) rfl fun b t => lt t rfl rfl (Qo ((d 31 rfl).1 b) rfl) <| sg rfl rfl b rfl
 ·exact fun s x e f d u => lp rfl (j4 (d 29 rfl) rfl fun h => ((d 32 rfl).1 h)) <| se rfl rfl
 ·exact fun s x e f d u => lp rfl (qg (d 33 rfl)) <| se rfl rfl
 ·exact fun s x e f d u => gF rfl rfl rfl rfl (d 34 rfl) rfl fun b t => lt t rfl rfl (qc Tryz.underlying52 rfl Tryz.sizeOf3 rfl ((f 1 rfl).trans (K9 1 rfl))) <| sg rfl rfl b rfl
 ·exact fun s x e f d u => gF rfl rfl rfl rfl (d 34 rfl) rfl fun b t => lt t rfl rfl (qA Tryz.isAgg3 (Blk.ext k6 (e11.t e)) ((d 35 rfl).1 (vD (yF b))) rfl) <| sg rfl rfl b rfl
 ·exact fun s x e f d u => gF rfl rfl rfl rfl (d 34 rfl) rfl fun b t => lt t rfl rfl (jJ ((d 36 rfl).1 (vD (yF b))) rfl) <| sg rfl rfl b rfl
 ·exact fun s x e f d u => gF rfl rfl rfl rfl (d 34 rfl) rfl fun b t => lt t rfl rfl (xm (.bool (!decide (a0.kind = 3))) ((d 37 rfl).1 (vD (yF b)))) <| sg rfl rfl b rfl
 ·exact fun s x e f d u => hT rfl rfl rfl rfl (d 38 rfl) rfl fun b t => lt t rfl rfl (qc Tryz.underlying52 rfl Tryz.sizeOf4 rfl ((f 1 rfl).trans (K9 1 rfl))) <| sg rfl rfl b rfl
 ·exact fun s x e f d u => hT rfl rfl rfl rfl (d 38 rfl) rfl fun b t => lt t rfl rfl (qA Tryz.isAgg4 (Blk.ext k6 (e11.t e)) ((d 39 rfl).1 (vB (vD (yF (Gx b))) (J4 b))) rfl) <| sg rfl rfl b rfl
 ·exact fun s x e f d u => gF rfl rfl rfl rfl (d 34 rfl) rfl fun b t => lt t rfl rfl (j4 ((d 38 rfl).1 (vD (yF b))) rfl fun h => ((d 40 rfl).1 (vB (vD (yF b)) h))) <| sg rfl rfl b rfl
 ·exact fun s x e f d u => lp rfl (Y9 (d 34 rfl) rfl fun h => ((d 41 rfl).1 (vD h))) <| se rfl rfl
 ·exact fun s x e f d u => lp rfl (vh Tryz.underlying4 rfl (d 42 rfl)) <| se rfl rfl
 ·exact fun s x e f d u => lp rfl (vh Tryz.underlying3 rfl rfl) <| se rfl rfl
 ·exact fun s x e f d u => lp rfl (qc Tryz.underlying52 rfl Tryz.sizeOf3 rfl ((f 1 rfl).trans (K9 1 rfl))) <| se rfl rfl
 ·exact fun s x e f d u => lp rfl (qA Tryz.isAgg3 (Blk.ext k6 (e11.t e)) (d 45 rfl) rfl) <| se rfl rfl
 ·exact fun s x e f d u => lc rfl rfl Tryz.call117 (jm.calls (w := x) (a0 := a0.mode) (a1 := 0) (a2 := 511)) (vu (d 46 rfl) (vu rfl (vu rfl rfl))) <| fun w32 e33 => sx rfl e33 rfl
 ·exact fun s x e f d u => lp rfl (jh (d 47 rfl)) <| se rfl rfl
 ·exact fun s x e f d u => lp rfl (qg (d 48 rfl)) <| se rfl rfl
 ·exact fun s x e f d u => gF rfl rfl rfl rfl (d 49 rfl) rfl fun b t => lt t rfl rfl (qc Tryz.underlying52 rfl Tryz.sizeOf3 rfl ((f 1 rfl).trans (K9 1 rfl))) <| sg rfl rfl b rfl
 ·exact fun s x e f d u => gF rfl rfl rfl rfl (d 49 rfl) rfl fun b t => lt t rfl rfl (qA Tryz.isAgg3 (Blk.ext k6 (e11.t e)) ((d 50 rfl).1 (vD (yF b))) rfl) <| sg rfl rfl b rfl
 ·exact fun s x e f d u => gF rfl rfl rfl rfl (d 49 rfl) rfl fun b t => lt t rfl rfl (yp ((d 51 rfl).1 (vD (yF b))) rfl) <| sg rfl rfl b rfl
 ·exact fun s x e f d u => gF rfl rfl rfl rfl (d 49 rfl) rfl fun b t => lt t rfl rfl (xm (.bool (decide (a0.kind = 2))) ((d 52 rfl).1 (vD (yF b)))) <| sg rfl rfl b rfl
 ·exact fun s x e f d u => hF rfl rfl rfl rfl (d 53 rfl) rfl fun b t => lt t rfl rfl (qc Tryz.underlying52 rfl Tryz.sizeOf3 rfl ((f 1 rfl).trans (K9 1 rfl))) <| sg rfl rfl b rfl
 ·exact fun s x e f d u => hF rfl rfl rfl rfl (d 53 rfl) rfl fun b t => lt t rfl rfl (qA Tryz.isAgg3 (Blk.ext k6 (e11.t e)) ((d 54 rfl).1 (vB (vD (yF (Gx b))) (vD (yF (J4 b))))) rfl) <| sg rfl rfl b rfl
 ·exact fun s x e f d u => hF rfl rfl rfl rfl (d 53 rfl) rfl fun b t => lt t rfl rfl (yp ((d 55 rfl).1 (vB (vD (yF (Gx b))) (vD (yF (J4 b))))) rfl) <| sg rfl rfl b rfl
 ·exact fun s x e f d u => gF rfl rfl rfl rfl (d 49 rfl) rfl fun b t => lt t rfl rfl (Y9 ((d 53 rfl).1 (vD (yF b))) rfl fun h => ((d 56 rfl).1 (vB (vD (yF b)) (vD h)))) <| sg rfl rfl b rfl
 ·exact fun s x e f d u => gF rfl rfl rfl rfl (d 49 rfl) rfl fun b t => lt t rfl rfl (xm (.bool (qi.e3 a0)) ((d 57 rfl).1 (vD (yF b)))) <| sg rfl rfl b rfl
 ·exact fun s x e f d u => hT rfl rfl rfl rfl (d 58 rfl) rfl fun b t => lt t rfl rfl (qc Tryz.underlying52 rfl Tryz.sizeOf3 rfl ((f 1 rfl).trans (K9 1 rfl))) <| sg rfl rfl b rfl
 ·exact fun s x e f d u => hT rfl rfl rfl rfl (d 58 rfl) rfl fun b t => lt t rfl rfl (qA Tryz.isAgg3 (Blk.ext k6 (e11.t e)) ((d 59 rfl).1 (vB (vD (yF (Gx b))) (J4 b))) rfl) <| sg rfl rfl b rfl
 ·exact fun s x e f d u => hT rfl rfl rfl rfl (d 58 rfl) rfl fun b t => lt t rfl rfl (jJ ((d 60 rfl).1 (vB (vD (yF (Gx b))) (J4 b))) rfl) <| sg rfl rfl b rfl
 ·exact fun s x e f d u => gF rfl rfl rfl rfl (d 49 rfl) rfl fun b t => lt t rfl rfl (j4 ((d 58 rfl).1 (vD (yF b))) rfl fun h => ((d 61 rfl).1 (vB (vD (yF b)) h))) <| sg rfl rfl b rfl
 ·exact fun s x e f d u => lp rfl (Y9 (d 49 rfl) rfl fun h => ((d 62 rfl).1 (vD h))) <| se rfl rfl
 ·exact fun s x e f d u => lp rfl (vh Tryz.underlying4 rfl (d 63 rfl)) <| se rfl rfl
 ·exact fun s x e f d u => lp rfl (vh Tryz.underlying3 rfl rfl) <| se rfl rfl
 ·exact fun s x e f d u => jg (.plain rfl) rfl (ltb rfl) rfl Tryz.underlying142 Tryz.sizeOf20 Tryz.zeroValue20 rfl rfl rfl (vs := [(.iface 4 (.bool (!(within a0.kind 1 4)))), (.iface 3 (.int .i64 9)), (.iface 4 (.bool (!(qz a0.path)))), (.iface 3 (.int .i64 10)), (.iface 4 (.bool (qi.e4 a0))), (.iface 3 (.int .i64 8)), (.iface 4 (.bool ((qi.e2 a0) || ((!decide (a0.kind = 3)) && a0.opq)))), (.iface 3 (.int .i64 3)), (.iface 4 (.bool ((!(within a0.mode 0 511)) || ((qi.e3 a0) && (!decide (a0.mode = 0)))))), (.iface 3 (.int .i64 4))]) (vu (d 4 rfl) (vu (d 5 rfl) (vu (d 10 rfl) (vu (d 11 rfl) (vu (d 26 rfl) (vu (d 27 rfl) (vu (d 43 rfl) (vu (d 44 rfl) (vu (d 64 rfl) (vu (d 65 rfl) rfl)))))))))) (vM rfl) <| fun b34 w35 z36 z37 e38 k39 => sx rfl e38 (Ow.rd (Ow.new (xs := [.inl (!(within a0.kind 1 4)), .inr 9, .inl (!(qz a0.path)), .inr 10, .inl (qi.e4 a0), .inr 8, .inl ((qi.e2 a0) || ((!decide (a0.kind = 3)) && a0.opq)), .inr 3, .inl ((!(within a0.mode 0 511)) || ((qi.e3 a0) && (!decide (a0.mode = 0)))), .inr 4]) (sz := 1) (enc := (Qw 4 3)) (base := x.heap.size) k39 (Nat.le_of_eq z36) rfl (fun _ _ => by first | rfl | exact VL _ _ _) (Nat.le_of_ble_eq_true rfl)))
 ·intro s x e f d u
  have d40 : Rd 1 (Qw 4 3) x (s 78) (qi.e1 a0) := (d 66 rfl)
  exact lc rfl rfl Tryz.call77 (yg.calls (w := x) (a0 := (qi.e1 a0)) d40 (od c25)) rfl <| fun w42 e43 => sx rfl e43 rfl
 ·exact fun s x e f d u => lp rfl (qC (d 67 rfl)) <| se rfl rfl
 intro s44 w45 e46 hf47 ha48
 have K49 := Kp.ofD (kp := [(2, 3), (12, 80)]) rfl hf47
 have d50 : s44 2 = (.int .i64 (vA (qi.e1 a0))) := ha48 68 rfl
 clear ha48 hf47
 refine qe <| qu <| qy ?_
 obtain rfl := si H
 exact qT d50 ((e5.t e11).t e46)
theorem qi.calls {w : World} {a0 : Rec} (gv : GV 0 w) :
  Calls Tryz.prog 211 #[.agg (ql a0).toArray] w (Rt (RP w (.int .i64 (qB a0)))) := qi.walk gv (qi.eq a0)
/-! impl.RecordOK -/
theorem jN.calls {w : World} {a0 : Rec} (gv : GV 0 w) :
  Calls Tryz.prog 157 #[.agg (ql a0).toArray] w (Rt (RP w (.bool (decide (qB a0 = 0))))) := by
 have H := jN.eq a0
 generalize (decide (qB a0 = 0)) = r at H ⊢
 unfold jN.sh at H
 refine qp Tryz.func157 rfl (Nat.le_of_ble_eq_true rfl) Tryz.ntmps157 rfl ?_
 refine wr <| QS (.plain rfl) rfl (ltb rfl) rfl rfl <| fun b1 w2 z3 z4 e5 k6 => lp rfl (xa (.bool false) rfl) <| nx <| wr <| lp rfl (vN Tryz.isAgg52 Tryz.sizeOf52 rfl rfl (Blk.at0 k6)) <| lc rfl rfl Tryz.call211 (qi.calls (w := w2) (a0 := a0) (GV.ext gv e5)) rfl <| fun w7 e8 => lp rfl (yp rfl rfl) <| lp rfl (xa (.bool (decide ((qB a0) = 0))) rfl) <| nx <| qu <| qy ?_
 obtain rfl := si H
 exact qT rfl (e5.t e8)
/-! spec.l01Join -/
theorem jG.calls {w : World} {a0 : List UInt8} {a1 : List UInt8} (h0 : a0.length ≤ 1048576) (h1 : a1.length ≤ 1048576) :
  Calls Tryz.prog 199 #[S a0, S a1] w (Rt (RP w (S (jc a0 a1)))) := by
 have H := jG.eq a0 a1 h0 h1
 generalize (jc a0 a1) = r at H ⊢
 unfold jG.sh at H
 refine qp Tryz.func199 rfl (Nat.le_of_ble_eq_true rfl) Tryz.ntmps199 rfl ?_
 refine wr <| lp rfl (xa (S ([] : List UInt8)) rfl) <| nx <| qj <| wr <| lp rfl (xm (S a0) rfl) <| lp rfl (Ym rfl rfl) <| nx ?_
 rcases qf H with ⟨q1, H⟩ | ⟨q1, H⟩
 ·refine qq (cb q1) <| wr <| lp rfl (xm (S a1) rfl) <| lp rfl (xa (S a1) rfl) <| nx <| qu <| qk <| qy ?_
  obtain rfl := si H
  exact qT rfl er
 ·refine qh (cb q1) <| qv <| qe <| wr <| lp rfl (xm (S a0) rfl) ?_
  obtain ⟨c2, H⟩ := qa H
  refine lp rfl (VX rfl rfl (od c2)) <| lp rfl (xm (S a1) rfl) ?_
  obtain ⟨c3, H⟩ := qa H
  refine lp rfl (VX rfl rfl (od c3)) <| lp rfl (xa (S ((a0 ++ ([47] : List UInt8)) ++ a1)) rfl) <| nx <| qu <| qy ?_
  obtain rfl := si H
  exact qT rfl er
/-! impl.join -/
theorem Qx.calls {w : World} {a0 : List UInt8} {a1 : List UInt8} (h0 : a0.length ≤ 1048576) (h1 : a1.length ≤ 1048576) :
  Calls Tryz.prog 82 #[S a0, S a1] w (Rt (RP w (S (jc a0 a1)))) := by
 have H := Qx.eq a0 a1 h0 h1
 generalize (jc a0 a1) = r at H ⊢
 unfold Qx.sh at H
 refine qp Tryz.func82 rfl (Nat.le_of_ble_eq_true rfl) Tryz.ntmps82 rfl ?_
 refine wr <| lp rfl (xa (S ([] : List UInt8)) rfl) <| nx <| qj <| wr <| lp rfl (xm (S a0) rfl) <| lp rfl (Ym rfl rfl) <| nx ?_
 rcases qf H with ⟨q1, H⟩ | ⟨q1, H⟩
 ·refine qq (cb q1) <| wr <| lp rfl (xm (S a1) rfl) <| lp rfl (xa (S a1) rfl) <| nx <| qu <| qk <| qy ?_
  obtain rfl := si H
  exact qT rfl er
 ·refine qh (cb q1) <| qv <| qe <| wr <| lp rfl (xm (S a0) rfl) ?_
  obtain ⟨c2, H⟩ := qa H
  refine lp rfl (VX rfl rfl (od c2)) <| lp rfl (xm (S a1) rfl) ?_
  obtain ⟨c3, H⟩ := qa H
  refine lp rfl (VX rfl rfl (od c3)) <| lp rfl (xa (S ((a0 ++ ([47] : List UInt8)) ++ a1)) rfl) <| nx <| qu <| qy ?_
  obtain rfl := si H
  exact qT rfl er
/-! spec.l01Less -/
theorem vt.calls {w : World} {a0 : List UInt8} {a1 : List UInt8} (h0 : a0.length ≤ 1048576) (h1 : a1.length ≤ 1048576) :
  Calls Tryz.prog 153 #[S a0, S a1] w (Rt (RP w (.bool (vo (cut 47 a0) (cut 47 a1))))) := by
 obtain ⟨k, H⟩ := vt.eq a0 a1 h0 h1
 generalize (vo (cut 47 a0) (cut 47 a1)) = r at H ⊢
 unfold vt.sh at H
 refine qp Tryz.func153 rfl (Nat.le_of_ble_eq_true rfl) Tryz.ntmps153 rfl ?_
 refine wr <| lp rfl (xa (.bool false) rfl) <| nx <| wr <| lp rfl (xm (S a0) rfl) ?_
 obtain ⟨c1, H⟩ := qa H
 refine vG (.plain rfl) rfl (ltb rfl) rfl Tryz.call135 (vS.calls (w := w) (a0 := a0) (a1 := 47) (od c1)) rfl <| fun v4 w2 e3 o5 => lp rfl (xa v4 rfl) <| nx <| wr <| lp rfl (xm (S a1) rfl) ?_
 obtain ⟨c6, H⟩ := qa H
 refine vG (.plain rfl) rfl (ltb rfl) rfl Tryz.call135 (vS.calls (w := w2) (a0 := a1) (a1 := 47) (od c6)) rfl <| fun v9 w7 e8 o10 => lp rfl (xa v9 rfl) <| nx <| qj <| wr <| lp rfl (xa (.int .i64 0) rfl) <| nx ?_
 obtain ⟨z12, L13, C14⟩ := bind_some H
 clear H
 refine  vT (fun s0 sQ wQ => Kp [(4, 5), (7, 8), (12, 42)] s0 sQ ∧ Ext w7 wQ ∧ z12 = .inr ()) ?_ ?_
 ·refine qH <| vy (fun s0 kk sQ wQ => ∃ (x7_11 : Int), Kp [(4, 5), (7, 8), (12, 42)] s0 sQ ∧ sQ 7 = .int .i64 x7_11 ∧ Ext w7 wQ ∧ qr (vt.b1 a0 a1) kk x7_11 = some z12) k ⟨0, kz, rfl, er, L13⟩ ?_
  rintro k19 s20 w21 ⟨x7_11, K22, h25, e23, L24⟩
  cases k19 with
  | zero => exact absurd L24 (by simp [qr])
  | succ k19 =>
   obtain ⟨t26, H, S27⟩ := qO L24
   clear L24
   unfold vt.b1 at H
   refine qj <| wr <| lp rfl (qg h25) <| lp rfl (xm v4 (K22 5 rfl)) <| lp rfl (vf Tryz.underlying44 rfl (Ow.rd (Ow.ext o5 (e8.t e23)))) <| lp rfl (vI rfl rfl) <| lp rfl (xm (.bool (decide (x7_11 < ((cut 47 a0).length : Int)))) rfl) <| yR 5 [(17, 22)] 21 (.bool ((decide (x7_11 < ((cut 47 a0).length : Int))) && (decide (x7_11 < ((cut 47 a1).length : Int))))) ?_ ?_
   ·rcases qw (decide (x7_11 < ((cut 47 a0).length : Int))) with b27_ | b27_
    ·exact lg rfl rfl rfl rfl (cb b27_) (qg h25) <| lg rfl rfl rfl rfl (cb b27_) (xm v9 (K22 6 rfl)) <| lg rfl rfl rfl rfl (cb b27_) (vf Tryz.underlying44 rfl (Ow.rd (Ow.ext o10 e23))) <| lg rfl rfl rfl rfl (cb b27_) (vI rfl rfl) <| lp rfl (qE (b := true) (v := (.bool (decide (x7_11 < ((cut 47 a1).length : Int))))) (cb b27_) rfl) <| nx ⟨(ku1 (ku4 kz rfl) rfl), (Qg b27_), er⟩
    ·exact ls rfl rfl rfl (cb b27_) rfl <| ls rfl rfl rfl (cb b27_) rfl <| ls rfl rfl rfl (cb b27_) rfl <| ls rfl rfl rfl (cb b27_) rfl <| lp rfl (qE (b := false) (v := (.bool false)) (cb b27_) rfl) <| nx ⟨(ku1 (ku4 kz rfl) rfl), (Qd b27_), er⟩
   intro s33 w29 K30 h31 e32
   refine nx ?_
   rcases qf H with ⟨q34, H⟩ | ⟨q34, H⟩
   ·refine qq (h31.trans (cb q34)) <| qv <| qe <| qj <| qH <| qj ?_
    obtain ⟨c35, H⟩ := qa H
    obtain ⟨c38, H⟩ := qa H
    refine Yv [LEq v4, LEq (.int .i64 x7_11), yD (yu (gt (cut 47 a0) x7_11)), LEq (S (gt (cut 47 a0) x7_11)), LEq v9, LEq (.int .i64 x7_11), yD (yu (gt (cut 47 a1) x7_11)), LEq (S (gt (cut 47 a1) x7_11)), LEq (.bool (!decide ((gt (cut 47 a0) x7_11) = (gt (cut 47 a1) x7_11))))] (by kernel_rfl) (by kernel_rfl) ⟨qm, qm, yD.mono, qm, qm, qm, yD.mono, qm, qm, trivial⟩ ⟨?_, ?_, ?_, ?_, ?_, ?_, ?_, ?_, ?_, trivial⟩ ?_
    ·exact fun s x e f d u => lp rfl (xm v4 ((f 5 rfl).trans ((K30 5 rfl).trans (K22 5 rfl)))) <| se rfl rfl
    ·exact fun s x e f d u => lp rfl (xm (.int .i64 x7_11) ((f 7 rfl).trans ((K30 7 rfl).trans h25))) <| se rfl rfl
    ·exact fun s x e f d u => vF (.plain rfl) rfl (ltb rfl) rfl Tryz.underlying44 Tryz.sizeOf9 (d 0 rfl) (Ow.rd (Ow.ext o5 (((e8.t e23).t e32).t e))) (d 1 rfl) c35 <| fun p42 h43 => se rfl ⟨_, rfl, h43⟩
    ·intro s x e f d u
     obtain ⟨p44, h45, h46⟩ := (d 2 rfl)
     exact lp rfl (yW Tryz.isAgg9 h45 h46 rfl) <| se rfl rfl
    ·exact fun s x e f d u => lp rfl (xm v9 ((f 6 rfl).trans ((K30 6 rfl).trans (K22 6 rfl)))) <| se rfl rfl
    ·exact fun s x e f d u => lp rfl (xm (.int .i64 x7_11) ((f 7 rfl).trans ((K30 7 rfl).trans h25))) <| se rfl rfl
    ·exact fun s x e f d u => vF (.plain rfl) rfl (ltb rfl) rfl Tryz.underlying44 Tryz.sizeOf9 (d 4 rfl) (Ow.rd (Ow.ext o10 ((e23.t e32).t e))) (d 5 rfl) c38 <| fun p48 h49 => se rfl ⟨_, rfl, h49⟩
    ·intro s x e f d u
     obtain ⟨p50, h51, h52⟩ := (d 6 rfl)
     exact lp rfl (yW Tryz.isAgg9 h51 h52 rfl) <| se rfl rfl
    ·exact fun s x e f d u => lp rfl (Qo (d 3 rfl) (d 7 rfl)) <| se rfl rfl
    intro s53 w54 e55 hf56 ha57
    have K58 := Kp.ofD (kp := [(24, 33)]) rfl hf56
    have d59 : s53 32 = (.bool (!decide ((gt (cut 47 a0) x7_11) = (gt (cut 47 a1) x7_11)))) := ha57 8 rfl
    clear ha57 hf56
    refine qe ?_
    rcases qf H with ⟨q60, H⟩ | ⟨q60, H⟩
    ·refine qq (d59.trans (cb q60)) <| qj ?_
     obtain ⟨c61, H⟩ := qa H
     obtain ⟨c64, H⟩ := qa H
     refine Yv [LEq v4, LEq (.int .i64 x7_11), yD (yu (gt (cut 47 a0) x7_11)), LEq (S (gt (cut 47 a0) x7_11)), LEq v9, LEq (.int .i64 x7_11), yD (yu (gt (cut 47 a1) x7_11)), LEq (S (gt (cut 47 a1) x7_11)), LEq (.bool (lt8 (gt (cut 47 a0) x7_11) (gt (cut 47 a1) x7_11))), LEq (.bool (lt8 (gt (cut 47 a0) x7_11) (gt (cut 47 a1) x7_11)))] (by kernel_rfl) (by kernel_rfl) ⟨qm, qm, yD.mono, qm, qm, qm, yD.mono, qm, qm, qm, trivial⟩ ⟨?_, ?_, ?_, ?_, ?_, ?_, ?_, ?_, ?_, ?_, trivial⟩ ?_
     ·exact fun s x e f d u => lp rfl (xm v4 ((f 5 rfl).trans ((K58 5 rfl).trans ((K30 5 rfl).trans (K22 5 rfl))))) <| se rfl rfl
     ·exact fun s x e f d u => lp rfl (xm (.int .i64 x7_11) ((f 7 rfl).trans ((K58 7 rfl).trans ((K30 7 rfl).trans h25)))) <| se rfl rfl
     ·exact fun s x e f d u => vF (.plain rfl) rfl (ltb rfl) rfl Tryz.underlying44 Tryz.sizeOf9 (d 0 rfl) (Ow.rd (Ow.ext o5 ((((e8.t e23).t e32).t e55).t e))) (d 1 rfl) c61 <| fun p68 h69 => se rfl ⟨_, rfl, h69⟩
     ·intro s x e f d u
      obtain ⟨p70, h71, h72⟩ := (d 2 rfl)
      exact lp rfl (yW Tryz.isAgg9 h71 h72 rfl) <| se rfl rfl
     ·exact fun s x e f d u => lp rfl (xm v9 ((f 6 rfl).trans ((K58 6 rfl).trans ((K30 6 rfl).trans (K22 6 rfl))))) <| se rfl rfl
     ·exact fun s x e f d u => lp rfl (xm (.int .i64 x7_11) ((f 7 rfl).trans ((K58 7 rfl).trans ((K30 7 rfl).trans h25)))) <| se rfl rfl
     ·exact fun s x e f d u => vF (.plain rfl) rfl (ltb rfl) rfl Tryz.underlying44 Tryz.sizeOf9 (d 4 rfl) (Ow.rd (Ow.ext o10 (((e23.t e32).t e55).t e))) (d 5 rfl) c64 <| fun p74 h75 => se rfl ⟨_, rfl, h75⟩
     ·intro s x e f d u
      obtain ⟨p76, h77, h78⟩ := (d 6 rfl)
      exact lp rfl (yW Tryz.isAgg9 h77 h78 rfl) <| se rfl rfl
     ·exact fun s x e f d u => lp rfl (X_slt (d 3 rfl) (d 7 rfl)) <| se rfl rfl
     ·exact fun s x e f d u => lp rfl (qC (d 8 rfl)) <| se rfl rfl
     intro s79 w80 e81 hf82 ha83
     have K84 := Kp.ofD (kp := [(4, 5), (33, 42)]) rfl hf82
     have d85 : s79 4 = (.bool (lt8 (gt (cut 47 a0) x7_11) (gt (cut 47 a1) x7_11))) := ha83 9 rfl
     clear ha83 hf82
     refine qe <| qu <| qU <| qk <| qk <| qU <| qk <| qk <| qy ?_
     obtain rfl := si H
     obtain rfl := si S27
     have H := C14
     obtain rfl := si H
     exact qT d85 (((((e3.t e8).t e23).t e32).t e55).t e81)
    ·refine qh (d59.trans (cb q60)) <| qv <| yq <| qe <| qQ <| lp rfl (xm (.int .i64 x7_11) ((K58 7 rfl).trans ((K30 7 rfl).trans h25))) <| lp rfl (vE rfl rfl) <| lp rfl (xa (.int .i64 (IntKind.wrap .i64 (x7_11 + 1))) rfl) <| nx ?_
     obtain rfl := si H
     exact ⟨_, Nat.lt_succ_self _, IntKind.wrap .i64 (x7_11 + 1), (ku3 (Kp.cut (Kp.cut (ku1 (ku4 K22 rfl) rfl) K30 rfl) K58 rfl) rfl), rfl, ((e23.t e32).t e55), S27⟩
   ·refine qh (h31.trans (cb q34)) <| vY <| vg <| vg <| yM <| qe ?_
    obtain rfl := si H
    obtain rfl := si S27
    exact ⟨(Kp.cut (ku1 (ku4 K22 rfl) rfl) K30 rfl), (e23.t e32), rfl⟩
 ·rintro s16 w15 ⟨K17, e18, y86⟩
  rw [y86] at C14
  have H := C14
  replace H : _ = some _ := H
  refine qe <| wr <| lp rfl (xm v4 (K17 5 rfl)) <| lp rfl (vf Tryz.underlying44 rfl (Ow.rd (Ow.ext o5 (e8.t e18)))) <| lp rfl (xm v9 (K17 6 rfl)) <| lp rfl (vf Tryz.underlying44 rfl (Ow.rd (Ow.ext o10 e18))) <| lp rfl (vI rfl rfl) <| lp rfl (qC rfl) <| nx <| qu <| qy ?_
  obtain rfl := si H
  exact qT rfl ((e3.t e8).t e18)
/-! cmp.isNaN(string) -/
theorem vk.walk {w : World} {a0 : List UInt8} {r : Bool} (H : vk.sh a0 = some r) :
  Calls Tryz.prog 242 #[S a0] w (Rt (RP w (.bool r))) := by
 unfold vk.sh at H
 refine qp Tryz.func242 rfl (Nat.le_of_ble_eq_true rfl) Tryz.ntmps242 rfl ?_
 refine wr <| lp rfl (xa (.bool false) rfl) <| nx <| wr <| lp rfl (xm (S a0) rfl) <| lp rfl (xm (S a0) rfl) <| lp rfl (Qo rfl rfl) <| lp rfl (xa (.bool (!decide (a0 = a0))) rfl) <| nx <| qu <| qy ?_
 obtain rfl := si H
 exact qT rfl er
theorem vk.calls {w : World} {a0 : List UInt8} :
  Calls Tryz.prog 242 #[S a0] w (Rt (RP w (.bool false))) := vk.walk (vk.eq a0)
/-! cmp.Compare(string) -/
theorem vQ.calls {w : World} {a0 : List UInt8} {a1 : List UInt8} :
  Calls Tryz.prog 217 #[S a0, S a1] w (Rt (RP w (.int .i64 (cmpS a0 a1)))) := by
 have H := vQ.eq a0 a1
 generalize (cmpS a0 a1) = r at H ⊢
 unfold vQ.sh at H
 refine qp Tryz.func217 rfl (Nat.le_of_ble_eq_true rfl) Tryz.ntmps217 rfl ?_
 refine wr <| lp rfl (xa (.int .i64 0) rfl) <| nx <| wr <| lp rfl (xm (S a0) rfl) <| lc rfl rfl Tryz.call242 (vk.calls (w := w) (a0 := a0)) rfl <| fun w1 e2 => lp rfl (xa (.bool false) rfl) <| nx <| wr <| lp rfl (xm (S a1) rfl) <| lc rfl rfl Tryz.call242 (vk.calls (w := w1) (a0 := a1)) rfl <| fun w3 e4 => lp rfl (xa (.bool false) rfl) <| nx <| qj <| wr <| lp rfl (xm (.bool false) rfl) <| nx ?_
 rcases qf H with ⟨q5, H⟩ | ⟨q5, H⟩
 ·refine qq (cb q5) <| qj <| wr <| lp rfl (xm (.bool false) rfl) <| nx ?_
  rcases qf H with ⟨q6, H⟩ | ⟨q6, H⟩
  ·refine qq (cb q6) <| wr <| lp rfl (xa (.int .i64 0) rfl) <| nx <| qu <| qk <| qk <| qy ?_
   obtain rfl := si H
   exact qT rfl (e2.t e4)
  ·refine qh (cb q6) <| qv <| qe <| wr <| lp rfl (xa (.int .i64 (-1)) rfl) <| nx <| qu <| qk <| qy ?_
   obtain rfl := si H
   exact qT rfl (e2.t e4)
 ·refine qh (cb q5) <| qv <| qe <| qj <| wr <| lp rfl (xm (.bool false) rfl) <| nx ?_
  rcases qf H with ⟨q7, H⟩ | ⟨q7, H⟩
  ·refine qq (cb q7) <| wr <| lp rfl (xa (.int .i64 1) rfl) <| nx <| qu <| qk <| qy ?_
   obtain rfl := si H
   exact qT rfl (e2.t e4)
  ·refine qh (cb q7) <| qv <| qe <| qj <| wr <| lp rfl (xm (S a0) rfl) <| lp rfl (xm (S a1) rfl) <| lp rfl (X_slt rfl rfl) <| nx ?_
   rcases qf H with ⟨q8, H⟩ | ⟨q8, H⟩
   ·refine qq (cb q8) <| wr <| lp rfl (xa (.int .i64 (-1)) rfl) <| nx <| qu <| qk <| qy ?_
    obtain rfl := si H
    exact qT rfl (e2.t e4)
   ·refine qh (cb q8) <| qv <| qe <| qj <| wr <| lp rfl (xm (S a0) rfl) <| lp rfl (xm (S a1) rfl) <| lp rfl (X_sgt rfl rfl) <| nx ?_
    rcases qf H with ⟨q9, H⟩ | ⟨q9, H⟩
    ·refine qq (cb q9) <| wr <| lp rfl (xa (.int .i64 1) rfl) <| nx <| qu <| qk <| qy ?_
     obtain rfl := si H
     exact qT rfl (e2.t e4)
    ·refine qh (cb q9) <| qv <| qe <| wr <| lp rfl (xa (.int .i64 0) rfl) <| nx <| qu <| qy ?_
     obtain rfl := si H
     exact qT rfl (e2.t e4)
/-! slices.Compare(()string,string) -/
theorem qD.calls {w : World} {a0 : List (List UInt8)} {a1 : List (List UInt8)} {v_a0 : Value} (f_a0 : Rd 1 yu w v_a0 a0) {v_a1 : Value} (f_a1 : Rd 1 yu w v_a1 a1) (h0 : a0.length ≤ 4611686018427387904) (h1 : a1.length ≤ 4611686018427387904) :
  Calls Tryz.prog 169 #[v_a0, v_a1] w (Rt (RP w (.int .i64 (cmpL a0 a1)))) := by
 obtain ⟨k, H⟩ := qD.eq a0 a1 h0 h1
 generalize (cmpL a0 a1) = r at H ⊢
 unfold qD.sh at H
 refine qp Tryz.func169 rfl (Nat.le_of_ble_eq_true rfl) Tryz.ntmps169 rfl ?_
 refine wr <| lp rfl (xa (.int .i64 0) rfl) <| nx <| qj <| wr <| lp rfl (xm v_a0 rfl) <| lp rfl (vf Tryz.underlying44 rfl f_a0) <| lp rfl (xm (.int .i64 0) rfl) <| nx ?_
 obtain ⟨z2, L3, C4⟩ := bind_some H
 clear H
 refine  vT (fun s0 sQ wQ => Kp [(4, 9), (11, 31)] s0 sQ ∧ Ext w wQ ∧ z2 = .inr ()) ?_ ?_
 ·refine qH <| vy (fun s0 kk sQ wQ => ∃ (x11_1 : Int), Kp [(4, 9), (11, 31)] s0 sQ ∧ sQ 11 = .int .i64 x11_1 ∧ Ext w wQ ∧ qr (qD.b1 a0 a1) kk x11_1 = some z2) k ⟨0, kz, rfl, er, L3⟩ ?_
  rintro k9 s10 w11 ⟨x11_1, K12, h15, e13, L14⟩
  cases k9 with
  | zero => exact absurd L14 (by simp [qr])
  | succ k9 =>
   obtain ⟨t16, H, S17⟩ := qO L14
   clear L14
   unfold qD.b1 at H
   refine wr <| lp rfl (vI h15 (K12 10 rfl)) <| nx <| qj ?_
   rcases qf H with ⟨q18, H⟩ | ⟨q18, H⟩
   ·refine qq (cb q18) <| qv <| qe <| qj <| qH <| wr <| lp rfl (qg h15) ?_
    obtain ⟨c19, H⟩ := qa H
    refine vF (.plain rfl) rfl (ltb rfl) rfl Tryz.underlying44 Tryz.sizeOf9 (K12 9 rfl) (Rd.ext f_a0 e13) h15 c19 <| fun p20 h21 => lp rfl (yW Tryz.isAgg9 rfl h21 rfl) <| lp rfl (xa (.int .i64 x11_1) rfl) <| lp rfl (xa (S (gt a0 x11_1)) rfl) <| nx <| qj <| wr <| lp rfl (xm (.int .i64 x11_1) rfl) <| lp rfl (xm v_a1 (K12 1 rfl)) <| lp rfl (vf Tryz.underlying44 rfl (Rd.ext f_a1 e13)) <| lp rfl (VZ rfl rfl) <| nx ?_
    rcases qf H with ⟨q22, H⟩ | ⟨q22, H⟩
    ·refine qq (cb q22) <| wr <| lp rfl (xa (.int .i64 1) rfl) <| nx <| qu <| qk <| qU <| qk <| qk <| qU <| qk <| qk <| qy ?_
     obtain rfl := si H
     obtain rfl := si S17
     have H := C4
     obtain rfl := si H
     exact qT rfl e13
    ·refine qh (cb q22) <| qv <| qe <| wr <| lp rfl (xm v_a1 (K12 1 rfl)) <| lp rfl (xm (.int .i64 x11_1) rfl) ?_
     obtain ⟨c23, H⟩ := qa H
     refine vF (.plain rfl) rfl (ltb rfl) rfl Tryz.underlying44 Tryz.sizeOf9 rfl (Rd.ext f_a1 e13) rfl c23 <| fun p24 h25 => lp rfl (yW Tryz.isAgg9 rfl h25 rfl) <| lp rfl (xa (S (gt a1 x11_1)) rfl) <| nx <| wr <| lp rfl (xm (S (gt a0 x11_1)) rfl) <| lp rfl (xm (S (gt a1 x11_1)) rfl) <| lc rfl rfl Tryz.call217 (vQ.calls (w := w11) (a0 := gt a0 x11_1) (a1 := gt a1 x11_1)) rfl <| fun w26 e27 => lp rfl (xa (.int .i64 (cmpS (gt a0 x11_1) (gt a1 x11_1))) rfl) <| nx <| wr <| lp rfl (xm (.int .i64 (cmpS (gt a0 x11_1) (gt a1 x11_1))) rfl) <| lp rfl (jJ rfl rfl) <| nx ?_
     rcases qf H with ⟨q28, H⟩ | ⟨q28, H⟩
     ·refine qq (cb q28) <| wr <| lp rfl (xm (.int .i64 (cmpS (gt a0 x11_1) (gt a1 x11_1))) rfl) <| lp rfl (xa (.int .i64 (cmpS (gt a0 x11_1) (gt a1 x11_1))) rfl) <| nx <| qu <| qU <| qk <| qk <| qU <| qk <| qk <| qy ?_
      obtain rfl := si H
      obtain rfl := si S17
      have H := C4
      obtain rfl := si H
      exact qT rfl (e13.t e27)
     ·refine qh (cb q28) <| qv <| yq <| qe <| qQ <| lp rfl (vE h15 rfl) <| lp rfl (xm (.int .i64 (IntKind.wrap .i64 (x11_1 + 1))) rfl) <| nx ?_
      obtain rfl := si H
      exact ⟨_, Nat.lt_succ_self _, IntKind.wrap .i64 (x11_1 + 1), (ku3 (ku4 (ku8 (ku8 K12 rfl) rfl) rfl) rfl), rfl, (e13.t e27), S17⟩
   ·refine qh (cb q18) <| vY <| vg <| vg <| yM <| qe ?_
    obtain rfl := si H
    obtain rfl := si S17
    exact ⟨(ku1 K12 rfl), e13, rfl⟩
 ·rintro s6 w5 ⟨K7, e8, y29⟩
  rw [y29] at C4
  have H := C4
  replace H : _ = some _ := H
  refine qe <| qj <| wr <| lp rfl (xm v_a0 (K7 0 rfl)) <| lp rfl (vf Tryz.underlying44 rfl (Rd.ext f_a0 e8)) <| lp rfl (xm v_a1 (K7 1 rfl)) <| lp rfl (vf Tryz.underlying44 rfl (Rd.ext f_a1 e8)) <| lp rfl (vI rfl rfl) <| nx ?_
  rcases qf H with ⟨q30, H⟩ | ⟨q30, H⟩
  ·refine qq (cb q30) <| wr <| lp rfl (xa (.int .i64 (-1)) rfl) <| nx <| qu <| qk <| qy ?_
   obtain rfl := si H
   exact qT rfl e8
  ·refine qh (cb q30) <| qv <| qe <| wr <| lp rfl (xa (.int .i64 0) rfl) <| nx <| qu <| qy ?_
   obtain rfl := si H
   exact qT rfl e8
/-! impl.compare -/
theorem impl_compare.calls {w : World} {a0 : List UInt8} {a1 : List UInt8} (gv : GV 0 w) (h0 : a0.length ≤ 1048576) (h1 : a1.length ≤ 1048576) :
  Calls Tryz.prog 102 #[S a0, S a1] w (Rt (RP w (.int .i64 (cmpL (cut 47 a0) (cut 47 a1))))) := by
 have H := impl_compare.eq a0 a1 h0 h1
 generalize (cmpL (cut 47 a0) (cut 47 a1)) = r at H ⊢
 unfold impl_compare.sh at H
 refine qp Tryz.func102 rfl (Nat.le_of_ble_eq_true rfl) Tryz.ntmps102 rfl ?_
 refine wr <| lp rfl (xa (.int .i64 0) rfl) <| nx <| wr <| lp rfl (xm (S a0) rfl) ?_
 obtain ⟨c1, H⟩ := qa H
 refine vG (.plain rfl) rfl (ltb rfl) rfl Tryz.call132 (vJ.calls (w := w) (a0 := a0) gv (od c1)) rfl <| fun v4 w2 e3 o5 => lp rfl (xm (S a1) rfl) ?_
 obtain ⟨c6, H⟩ := qa H
 refine vG (.plain rfl) rfl (ltb rfl) rfl Tryz.call132 (vJ.calls (w := w2) (a0 := a1) (GV.ext gv e3) (od c6)) rfl <| fun v9 w7 e8 o10 => ?_
 obtain ⟨c11, H⟩ := qa H
 obtain ⟨c12, H⟩ := qa H
 refine lc rfl rfl Tryz.call169 (qD.calls (w := w7) (a0 := (cut 47 a0)) (a1 := (cut 47 a1)) (Ow.rd (Ow.ext o5 e8)) (Ow.rd o10) (od c11) (od c12)) rfl <| fun w13 e14 => lp rfl (xa (.int .i64 (cmpL (cut 47 a0) (cut 47 a1))) rfl) <| nx <| qu <| qy ?_
 obtain rfl := si H
 exact qT rfl ((e3.t e8).t e14)
/-! impl.PathLess -/
theorem js.calls {w : World} {a0 : List UInt8} {a1 : List UInt8} (gv : GV 0 w) :
  Calls Tryz.prog 37 #[S a0, S a1] w (Rt (RP w (.bool (yj a0 a1)))) := by
 have H := js.eq a0 a1
 generalize (yj a0 a1) = r at H ⊢
 unfold js.sh at H
 refine qp Tryz.func37 rfl (Nat.le_of_ble_eq_true rfl) Tryz.ntmps37 rfl ?_
 refine wr <| lp rfl (xa (.bool false) rfl) <| nx <| wr <| lp rfl (xm (S a0) rfl) <| lc rfl rfl Tryz.call101 (jj.calls (w := w) (a0 := a0) gv) rfl <| fun w1 e2 => lp rfl (xm (.bool (qz a0)) rfl) <| yR 3 [(8, 11)] 10 (.bool ((qz a0) && (qz a1))) ?_ ?_
 ·rcases qw (qz a0) with b2_ | b2_
  ·exact lg rfl rfl rfl rfl (cb b2_) (xm (S a1) rfl) <| jf (tg rfl rfl rfl (cb b2_)) rfl (ltb rfl) rfl Tryz.call101 (jj.calls (w := w1) (a0 := a1) (GV.ext gv e2)) rfl <| fun w4 e5 => lp rfl (qE (b := true) (v := (.bool (qz a1))) (cb b2_) rfl) <| nx ⟨(ku3 kz rfl), (Qg b2_), e5⟩
  ·exact ls rfl rfl rfl (cb b2_) rfl <| ls rfl rfl rfl (cb b2_) rfl <| lp rfl (qE (b := false) (v := (.bool false)) (cb b2_) rfl) <| nx ⟨(ku3 kz rfl), (Qd b2_), er⟩
 intro s8 w4 K5 h6 e7
 refine lp rfl (qg h6) ?_
 obtain ⟨z10, x11, H⟩ := bind_some H
 refine Ql 5 [(12, 17)] 16 (fun q => q = z10) ?_ ?_
 ·rcases qf x11 with ⟨b8_, H⟩ | ⟨b8_, H⟩
  ·refine lg rfl rfl rfl rfl (cb b8_) (xm (S a0) (K5 0 rfl)) <| lg rfl rfl rfl rfl (cb b8_) (xm (S a1) (K5 1 rfl)) ?_
   obtain ⟨c10, H⟩ := qa H
   obtain ⟨c11, H⟩ := qa H
   refine jf (tg rfl rfl rfl (cb b8_)) rfl (ltb rfl) rfl Tryz.call102 (impl_compare.calls (w := w4) (a0 := a0) (a1 := a1) (GV.ext gv (e2.t e7)) (od c10) (od c11)) rfl <| fun w12 e13 => lg rfl rfl rfl rfl (cb b8_) (vI rfl rfl) <| lp rfl (qE (b := true) (v := (.bool (decide ((cmpL (cut 47 a0) (cut 47 a1)) < 0)))) (cb b8_) rfl) ?_
   obtain rfl := si H
   exact nx ⟨(ku1 (ku4 kz rfl) rfl), ⟨_, rfl, rfl⟩, e13⟩
  ·refine ls rfl rfl rfl (cb b8_) rfl <| ls rfl rfl rfl (cb b8_) rfl <| ls rfl rfl rfl (cb b8_) rfl <| ls rfl rfl rfl (cb b8_) rfl <| lp rfl (qE (b := false) (v := (.bool false)) (cb b8_) rfl) ?_
   obtain rfl := si H
   exact nx ⟨(ku1 (ku4 kz rfl) rfl), ⟨_, rfl, rfl⟩, er⟩
 intro s16 w12 z17 K13 hq h14 e15
 rw [hq] at h14; clear hq
 refine lp rfl (qC h14) <| nx <| qu <| qy ?_
 obtain rfl := si H
 exact qT rfl ((e2.t e7).t e15)
/-! laws.markText -/
theorem qV.calls {w : World} {a0 : Int} (h0 : (a0 : Int) ≤ 4611686018427387904) :
  Calls Tryz.prog 112 #[.int .i64 a0] w (Rt (RP w (S (yn a0)))) := by
 obtain ⟨k, H⟩ := qV.eq a0 h0
 generalize (yn a0) = r at H ⊢
 unfold qV.sh at H
 refine qp Tryz.func112 rfl (Nat.le_of_ble_eq_true rfl) Tryz.ntmps112 rfl ?_
 refine wr <| lp rfl (xa (S ([] : List UInt8)) rfl) <| nx <| qj <| wr <| lp rfl (xm (.int .i64 a0) rfl) <| lp rfl (X_leq rfl rfl) <| nx ?_
 rcases qf H with ⟨q1, H⟩ | ⟨q1, H⟩
 ·refine qq (cb q1) <| wr <| lp rfl (xa (S ([109, 48] : List UInt8)) rfl) <| nx <| qu <| qk <| qy ?_
  obtain rfl := si H
  exact qT rfl er
 ·refine qh (cb q1) <| qv <| qe <| wr <| lp rfl (xa (S ([] : List UInt8)) rfl) <| nx <| qj ?_
  obtain ⟨z4, L5, C6⟩ := bind_some H
  clear H
  refine  vT (fun s0 sQ wQ => ∃ (x3_7 : List UInt8), Kp [(0, 1), (3, 4), (6, 18)] s0 sQ ∧ sQ 3 = S x3_7 ∧ Ext w wQ ∧ z4 = .inr x3_7) ?_ ?_
  ·refine qH <| vy (fun s0 kk sQ wQ => ∃ (x0_2 : Int) (x3_3 : List UInt8), Kp [(0, 1), (3, 4), (6, 18)] s0 sQ ∧ sQ 0 = .int .i64 x0_2 ∧ sQ 3 = S x3_3 ∧ Ext w wQ ∧ qr (qV.b1) kk (x0_2, x3_3) = some z4) k ⟨a0, ([] : List UInt8), kz, rfl, rfl, er, L5⟩ ?_
   rintro k12 s13 w14 ⟨x0_2, x3_3, K15, h18, h19, e16, L17⟩
   cases k12 with
   | zero => exact absurd L17 (by simp [qr])
   | succ k12 =>
    obtain ⟨t20, H, S21⟩ := qO L17
    clear L17
    unfold qV.b1 at H
    refine qj <| wr <| lp rfl (qg h18) <| lp rfl (VE rfl rfl) <| nx ?_
    rcases qf H with ⟨q22, H⟩ | ⟨q22, H⟩
    ·refine qq (cb q22) <| qv <| qe <| qH <| wr <| lp rfl (qg h18) <| lp rfl (X_rem rfl rfl (by decide)) <| lp rfl (vE rfl rfl) <| lp rfl (Q2 Tryz.underlying3 Tryz.underlying5 rfl) <| jg (.plain rfl) rfl (ltb rfl) rfl Tryz.underlying22 Tryz.sizeOf5 Tryz.zeroValue5 rfl rfl rfl (vs := [(.int .u8 (IntKind.wrap .u8 (IntKind.wrap .i64 (48 + (x0_2.tmod 10)))))]) rfl (vM rfl) <| fun b23 w24 z25 z26 e27 k28 => lp rfl (Yl Tryz.underlying22 Tryz.underlying5 Tryz.underlying9 rfl (Ow.rd (Ow.new (xs := [IntKind.wrap .u8 (IntKind.wrap .i64 (48 + (x0_2.tmod 10)))]) (sz := 1) (enc := (Go.UL.encI .u8)) (base := w14.heap.size) k28 (Nat.le_of_eq z25) rfl (fun _ _ => by rfl) (Nat.le_of_ble_eq_true rfl)))) <| lp rfl (qg h19) ?_
     obtain ⟨c29, H⟩ := qa H
     refine lp rfl (VX rfl rfl (od c29)) <| lp rfl (qC rfl) <| nx <| qQ <| lp rfl (qg h18) <| lp rfl (X_quo rfl rfl (by decide)) <| lp rfl (xa (.int .i64 (IntKind.wrap .i64 (x0_2.tdiv 10))) rfl) <| vL <| yq <| qe ?_
     obtain rfl := si H
     exact ⟨_, Nat.lt_succ_self _, IntKind.wrap .i64 (x0_2.tdiv 10), (yA ([IntKind.wrap .u8 (IntKind.wrap .i64 (48 + (x0_2.tmod 10)))] : List Int)) ++ x3_3, (ku2 (ku4 (ku8 K15 rfl) rfl) rfl), rfl, rfl, (e16.t e27), S21⟩
    ·refine qh (cb q22) <| vY <| vg <| vg <| yM <| qe ?_
     obtain rfl := si H
     obtain rfl := si S21
     exact ⟨x3_3, (ku2 K15 rfl), h19, e16, rfl⟩
  ·rintro s9 w8 ⟨x3_7, K10, h30, e11, y31⟩
   rw [y31] at C6
   have H := C6
   replace H : _ = some _ := H
   refine qe <| wr <| lp rfl (qg h30) ?_
   obtain ⟨c32, H⟩ := qa H
   refine lp rfl (VX rfl rfl (od c32)) <| lp rfl (xa (S (([109] : List UInt8) ++ x3_7)) rfl) <| nx <| qu <| qy ?_
   obtain rfl := si H
   exact qT rfl e11
/-! laws.eqRecord -/
theorem jw.calls {w : World} {a0 : Rec} {a1 : Rec} :
  Calls Tryz.prog 110 #[.agg (ql a0).toArray, .agg (ql a1).toArray] w (Rt (RP w (.bool (decide (a0 = a1))))) := by
 have H := jw.eq a0 a1
 generalize (decide (a0 = a1)) = r at H ⊢
 unfold jw.sh at H
 refine qp Tryz.func110 rfl (Nat.le_of_ble_eq_true rfl) Tryz.ntmps110 rfl ?_
 refine wr <| QS (.plain rfl) rfl (ltb rfl) rfl rfl <| fun b1 w2 z3 z4 e5 k6 => QS (.plain rfl) rfl (ltb rfl) rfl rfl <| fun b7 w8 z9 z10 e11 k12 => lp rfl (xa (.bool false) rfl) <| nx <| qj <| wr <| lp rfl (qc Tryz.underlying52 rfl Tryz.sizeOf3 rfl rfl) <| lp rfl (qA Tryz.isAgg3 (Blk.ext k6 e11) rfl rfl) <| lp rfl (qc Tryz.underlying52 rfl Tryz.sizeOf3 rfl rfl) <| lp rfl (qA Tryz.isAgg3 k12 rfl rfl) <| lp rfl (jJ rfl rfl) <| nx ?_
 rcases qf H with ⟨q13, H⟩ | ⟨q13, H⟩
 ·refine qq (cb q13) <| wr <| lp rfl (xa (.bool false) rfl) <| nx <| qu <| qk <| qy ?_
  obtain rfl := si H
  exact qT rfl (e5.t e11)
 ·refine qh (cb q13) <| qv <| qe <| qj <| wr <| lp rfl (qc Tryz.underlying52 rfl Tryz.sizeOf9 rfl rfl) <| lp rfl (qA Tryz.isAgg9 (Blk.ext k6 e11) rfl rfl) <| lp rfl (qc Tryz.underlying52 rfl Tryz.sizeOf9 rfl rfl) <| lp rfl (qA Tryz.isAgg9 k12 rfl rfl) <| lp rfl (Qo rfl rfl) <| nx ?_
  rcases qf H with ⟨q14, H⟩ | ⟨q14, H⟩
  ·refine qq (cb q14) <| wr <| lp rfl (xa (.bool false) rfl) <| nx <| qu <| qk <| qy ?_
   obtain rfl := si H
   exact qT rfl (e5.t e11)
  ·refine qh (cb q14) <| qv <| qe <| qj <| wr <| lp rfl (qc Tryz.underlying52 rfl Tryz.sizeOf9 rfl rfl) <| lp rfl (qA Tryz.isAgg9 (Blk.ext k6 e11) rfl rfl) <| lp rfl (qc Tryz.underlying52 rfl Tryz.sizeOf9 rfl rfl) <| lp rfl (qA Tryz.isAgg9 k12 rfl rfl) <| lp rfl (Qo rfl rfl) <| nx ?_
   rcases qf H with ⟨q15, H⟩ | ⟨q15, H⟩
   ·refine qq (cb q15) <| wr <| lp rfl (xa (.bool false) rfl) <| nx <| qu <| qk <| qy ?_
    obtain rfl := si H
    exact qT rfl (e5.t e11)
   ·refine qh (cb q15) <| qv <| qe <| qj <| wr <| lp rfl (qc Tryz.underlying52 rfl Tryz.sizeOf3 rfl rfl) <| lp rfl (qA Tryz.isAgg3 (Blk.ext k6 e11) rfl rfl) <| lp rfl (qc Tryz.underlying52 rfl Tryz.sizeOf3 rfl rfl) <| lp rfl (qA Tryz.isAgg3 k12 rfl rfl) <| lp rfl (jJ rfl rfl) <| nx ?_
    rcases qf H with ⟨q16, H⟩ | ⟨q16, H⟩
    ·refine qq (cb q16) <| wr <| lp rfl (xa (.bool false) rfl) <| nx <| qu <| qk <| qy ?_
     obtain rfl := si H
     exact qT rfl (e5.t e11)
    ·refine qh (cb q16) <| qv <| qe <| qj <| wr <| lp rfl (qc Tryz.underlying52 rfl Tryz.sizeOf4 rfl rfl) <| lp rfl (qA Tryz.isAgg4 (Blk.ext k6 e11) rfl rfl) <| lp rfl (qc Tryz.underlying52 rfl Tryz.sizeOf4 rfl rfl) <| lp rfl (qA Tryz.isAgg4 k12 rfl rfl) <| lp rfl (X_bne Tryz.underlying4 rfl rfl) <| nx ?_
     rcases qf H with ⟨q17, H⟩ | ⟨q17, H⟩
     ·refine qq (cb q17) <| wr <| lp rfl (xa (.bool false) rfl) <| nx <| qu <| qk <| qy ?_
      obtain rfl := si H
      exact qT rfl (e5.t e11)
     ·refine qh (cb q17) <| qv <| qe <| wr <| lp rfl (xa (.bool true) rfl) <| nx <| qu <| qy ?_
      obtain rfl := si H
      exact qT rfl (e5.t e11)
/-! laws.eqNode -/
theorem jV.calls {w : World} {a0 : Nd} {a1 : Nd} :
  Calls Tryz.prog 111 #[.agg (yv a0).toArray, .agg (yv a1).toArray] w (Rt (RP w (.bool (decide (a0 = a1))))) := by
 have H := jV.eq a0 a1
 generalize (decide (a0 = a1)) = r at H ⊢
 unfold jV.sh at H
 refine qp Tryz.func111 rfl (Nat.le_of_ble_eq_true rfl) Tryz.ntmps111 rfl ?_
 refine wr <| QS (.plain rfl) rfl (ltb rfl) rfl rfl <| fun b1 w2 z3 z4 e5 k6 => QS (.plain rfl) rfl (ltb rfl) rfl rfl <| fun b7 w8 z9 z10 e11 k12 => lp rfl (xa (.bool false) rfl) <| nx <| qj <| wr <| lp rfl (qc Tryz.underlying91 rfl Tryz.sizeOf3 rfl rfl) <| lp rfl (qA Tryz.isAgg3 (Blk.ext k6 e11) rfl rfl) <| lp rfl (qc Tryz.underlying91 rfl Tryz.sizeOf3 rfl rfl) <| lp rfl (qA Tryz.isAgg3 k12 rfl rfl) <| lp rfl (jJ rfl rfl) <| nx ?_
 rcases qf H with ⟨q13, H⟩ | ⟨q13, H⟩
 ·refine qq (cb q13) <| wr <| lp rfl (xa (.bool false) rfl) <| nx <| qu <| qk <| qy ?_
  obtain rfl := si H
  exact qT rfl (e5.t e11)
 ·refine qh (cb q13) <| qv <| qe <| qj <| wr <| lp rfl (qc Tryz.underlying91 rfl Tryz.sizeOf9 rfl rfl) <| lp rfl (qA Tryz.isAgg9 (Blk.ext k6 e11) rfl rfl) <| lp rfl (qc Tryz.underlying91 rfl Tryz.sizeOf9 rfl rfl) <| lp rfl (qA Tryz.isAgg9 k12 rfl rfl) <| lp rfl (Qo rfl rfl) <| nx ?_
  rcases qf H with ⟨q14, H⟩ | ⟨q14, H⟩
  ·refine qq (cb q14) <| wr <| lp rfl (xa (.bool false) rfl) <| nx <| qu <| qk <| qy ?_
   obtain rfl := si H
   exact qT rfl (e5.t e11)
  ·refine qh (cb q14) <| qv <| qe <| qj <| wr <| lp rfl (qc Tryz.underlying91 rfl Tryz.sizeOf9 rfl rfl) <| lp rfl (qA Tryz.isAgg9 (Blk.ext k6 e11) rfl rfl) <| lp rfl (qc Tryz.underlying91 rfl Tryz.sizeOf9 rfl rfl) <| lp rfl (qA Tryz.isAgg9 k12 rfl rfl) <| lp rfl (Qo rfl rfl) <| nx ?_
   rcases qf H with ⟨q15, H⟩ | ⟨q15, H⟩
   ·refine qq (cb q15) <| wr <| lp rfl (xa (.bool false) rfl) <| nx <| qu <| qk <| qy ?_
    obtain rfl := si H
    exact qT rfl (e5.t e11)
   ·refine qh (cb q15) <| qv <| qe <| qj <| wr <| lp rfl (qc Tryz.underlying91 rfl Tryz.sizeOf3 rfl rfl) <| lp rfl (qA Tryz.isAgg3 (Blk.ext k6 e11) rfl rfl) <| lp rfl (qc Tryz.underlying91 rfl Tryz.sizeOf3 rfl rfl) <| lp rfl (qA Tryz.isAgg3 k12 rfl rfl) <| lp rfl (jJ rfl rfl) <| nx ?_
    rcases qf H with ⟨q16, H⟩ | ⟨q16, H⟩
    ·refine qq (cb q16) <| wr <| lp rfl (xa (.bool false) rfl) <| nx <| qu <| qk <| qy ?_
     obtain rfl := si H
     exact qT rfl (e5.t e11)
    ·refine qh (cb q16) <| qv <| qe <| wr <| lp rfl (xa (.bool true) rfl) <| nx <| qu <| qy ?_
     obtain rfl := si H
     exact qT rfl (e5.t e11)
/-! spec.l01Parent -/
theorem qY.calls {w : World} {a0 : List UInt8} (h0 : a0.length ≤ 4611686018427387904) :
  Calls Tryz.prog 154 #[S a0] w (Rt (RP w (S (qd a0)))) := by
 obtain ⟨k, H⟩ := qY.eq a0 h0
 generalize (qd a0) = r at H ⊢
 unfold qY.sh at H
 refine qp Tryz.func154 rfl (Nat.le_of_ble_eq_true rfl) Tryz.ntmps154 rfl ?_
 refine wr <| lp rfl (xa (S ([] : List UInt8)) rfl) <| nx <| qj <| wr <| lp rfl (xm (S a0) rfl) <| lp rfl (QO Tryz.underlying9 rfl) <| lp rfl (V8 rfl rfl) <| lp rfl (xa (.int .i64 (IntKind.wrap .i64 ((a0.length : Int) - 1))) rfl) <| nx ?_
 obtain ⟨z2, L3, C4⟩ := bind_some H
 clear H
 refine  vT (fun s0 sQ wQ => Kp [(2, 4), (7, 18)] s0 sQ ∧ Ext w wQ ∧ z2 = .inr ()) ?_ ?_
 ·refine qH <| vy (fun s0 kk sQ wQ => ∃ (x3_1 : Int), Kp [(2, 4), (7, 18)] s0 sQ ∧ sQ 3 = .int .i64 x3_1 ∧ Ext w wQ ∧ qr (qY.b1 a0) kk x3_1 = some z2) k ⟨IntKind.wrap .i64 ((a0.length : Int) - 1), kz, rfl, er, L3⟩ ?_
  rintro k9 s10 w11 ⟨x3_1, K12, h15, e13, L14⟩
  cases k9 with
  | zero => exact absurd L14 (by simp [qr])
  | succ k9 =>
   obtain ⟨t16, H, S17⟩ := qO L14
   clear L14
   unfold qY.b1 at H
   refine qj <| wr <| lp rfl (qg h15) <| lp rfl (VZ rfl rfl) <| nx ?_
   rcases qf H with ⟨q18, H⟩ | ⟨q18, H⟩
   ·refine qq (cb q18) <| qv <| qe <| qj <| qH <| wr <| lp rfl (xm (S a0) (K12 0 rfl)) <| lp rfl (qg h15) ?_
    obtain ⟨c19, H⟩ := qa H
    refine lp rfl (Q4 Tryz.underlying9 rfl rfl (jO c19) (jC c19)) <| lp rfl (yp rfl rfl) <| nx ?_
    rcases qf H with ⟨q20, H⟩ | ⟨q20, H⟩
    ·refine qq (cb q20) <| wr <| lp rfl (xm (S a0) (K12 0 rfl)) <| lp rfl (qg h15) ?_
     obtain ⟨c21, H⟩ := qa H
     refine lp rfl (Ji Tryz.underlying9 rfl (l := 0) (h := x3_1) rfl ⟨_, rfl⟩ (G8 c21) (G1 c21) (GZ c21)) <| lp rfl (xa (S (sub a0 0 x3_1)) rfl) <| nx <| qu <| qU <| qk <| qk <| qU <| qk <| qk <| qy ?_
     obtain rfl := si H
     obtain rfl := si S17
     have H := C4
     obtain rfl := si H
     exact qT rfl e13
    ·refine qh (cb q20) <| qv <| yq <| qe <| qQ <| lp rfl (qg h15) <| lp rfl (V8 rfl rfl) <| lp rfl (xa (.int .i64 (IntKind.wrap .i64 (x3_1 - 1))) rfl) <| nx ?_
     obtain rfl := si H
     exact ⟨_, Nat.lt_succ_self _, IntKind.wrap .i64 (x3_1 - 1), (ku1 (ku8 K12 rfl) rfl), rfl, e13, S17⟩
   ·refine qh (cb q18) <| vY <| vg <| vg <| yM <| qe ?_
    obtain rfl := si H
    obtain rfl := si S17
    exact ⟨(ku2 K12 rfl), e13, rfl⟩
 ·rintro s6 w5 ⟨K7, e8, y22⟩
  rw [y22] at C4
  have H := C4
  replace H : _ = some _ := H
  refine qe <| wr <| lp rfl (xa (S ([] : List UInt8)) rfl) <| nx <| qu <| qy ?_
  obtain rfl := si H
  exact qT rfl e8
/-! impl.parent -/
theorem ja.calls {w : World} {a0 : List UInt8} (h0 : a0.length ≤ 1048576) :
  Calls Tryz.prog 92 #[S a0] w (Rt (RP w (S (qd a0)))) := by
 have H := ja.eq a0 h0
 generalize (qd a0) = r at H ⊢
 unfold ja.sh at H
 refine qp Tryz.func92 rfl (Nat.le_of_ble_eq_true rfl) Tryz.ntmps92 rfl ?_
 refine wr <| lp rfl (xa (S ([] : List UInt8)) rfl) <| nx <| wr <| lp rfl (xm (S a0) rfl) <| lp rfl (xm (S a0) rfl) ?_
 obtain ⟨c1, H⟩ := qa H
 obtain ⟨c2, H⟩ := qa H
 refine lc rfl rfl Tryz.call159 (Jk.calls (w := w) (a0 := a0) (a1 := ([47] : List UInt8)) (od c1) (od c2)) rfl <| fun w3 e4 => lp rfl (X_max rfl rfl) ?_
 obtain ⟨c5, H⟩ := qa H
 refine lp rfl (Ji Tryz.underlying9 rfl (l := 0) (h := (if ((va a0) < 0 : Prop) then 0 else (va a0))) rfl ⟨_, rfl⟩ (G8 c5) (G1 c5) (GZ c5)) <| lp rfl (qC rfl) <| nx <| qu <| qy ?_
 obtain rfl := si H
 exact qT rfl e4
/-! laws.szRecordS -/
theorem vm.calls {w : World} {a0 : List Rec} {a1 : Int} {v_a0 : Value} (f_a0 : Rd 5 ql w v_a0 a0) (h0 : (0 : Int) ≤ a1) (h1 : (a1 : Int) ≤ 1048576) (h2 : a0.length ≤ 9223372036854775807) (h3 : ∀ x ∈ a0, VW x) :
  Calls Tryz.prog 53 #[v_a0, .int .i64 a1] w (Rt (RP w (.int .i64 (yG a0 a1)))) := by
 obtain ⟨k, H⟩ := vm.eq a0 a1 h0 h1 h2 h3
 generalize (yG a0 a1) = r at H ⊢
 unfold vm.sh at H
 refine qp Tryz.func53 rfl (Nat.le_of_ble_eq_true rfl) Tryz.ntmps53 rfl ?_
 refine wr <| lp rfl (xa (.int .i64 0) rfl) <| nx <| wr <| lp rfl (xm (.int .i64 a1) rfl) <| lp rfl (xm v_a0 rfl) <| lp rfl (vf Tryz.underlying76 rfl f_a0) <| lp rfl (V8 rfl rfl) <| lp rfl (xa (.int .i64 (IntKind.wrap .i64 (a1 - (a0.length : Int)))) rfl) <| nx <| qj <| wr <| lp rfl (xm (.int .i64 (IntKind.wrap .i64 (a1 - (a0.length : Int)))) rfl) <| lp rfl (vI rfl rfl) <| nx ?_
 rcases qf H with ⟨q1, H⟩ | ⟨q1, H⟩
 ·refine qq (cb q1) <| wr <| lp rfl (xa (.int .i64 (-1)) rfl) <| nx <| qu <| qk <| qy ?_
  obtain rfl := si H
  exact qT rfl er
 ·refine qh (cb q1) <| qv <| qe <| qj <| wr <| lp rfl (xa (.int .i64 0) rfl) <| nx ?_
  obtain ⟨z4, L5, C6⟩ := bind_some H
  clear H
  refine  vT (fun s0 sQ wQ => ∃ (x1_7 : Int), Kp [(1, 2), (4, 6), (12, 26)] s0 sQ ∧ sQ 1 = .int .i64 x1_7 ∧ Ext w wQ ∧ z4 = .inr x1_7) ?_ ?_
  ·refine qH <| vy (fun s0 kk sQ wQ => ∃ (x1_2 : Int) (x5_3 : Int), Kp [(1, 2), (4, 6), (12, 26)] s0 sQ ∧ sQ 1 = .int .i64 x1_2 ∧ sQ 5 = .int .i64 x5_3 ∧ Ext w wQ ∧ qr (vm.b1 a0) kk (x1_2, x5_3) = some z4) k ⟨IntKind.wrap .i64 (a1 - (a0.length : Int)), 0, kz, rfl, rfl, er, L5⟩ ?_
   rintro k12 s13 w14 ⟨x1_2, x5_3, K15, h18, h19, e16, L17⟩
   cases k12 with
   | zero => exact absurd L17 (by simp [qr])
   | succ k12 =>
    obtain ⟨t20, H, S21⟩ := qO L17
    clear L17
    unfold vm.b1 at H
    refine qj <| wr <| lp rfl (qg h19) <| lp rfl (xm v_a0 (K15 0 rfl)) <| lp rfl (vf Tryz.underlying76 rfl (Rd.ext f_a0 e16)) <| lp rfl (vI rfl rfl) <| nx ?_
    rcases qf H with ⟨q22, H⟩ | ⟨q22, H⟩
    ·refine qq (cb q22) <| qv <| qe <| qj <| qH <| wr <| lp rfl (xm v_a0 (K15 0 rfl)) <| lp rfl (qg h19) ?_
     obtain ⟨c23, H⟩ := qa H
     refine vF (.plain rfl) rfl (ltb rfl) rfl Tryz.underlying76 Tryz.sizeOf125 rfl (Rd.ext f_a0 e16) rfl c23 <| fun p24 h25 => lp rfl (vN Tryz.isAgg125 Tryz.sizeOf125 rfl rfl h25) <| lp rfl (qg h18) ?_
     obtain ⟨c26, H⟩ := qa H
     obtain ⟨c27, H⟩ := qa H
     obtain ⟨c28, H⟩ := qa H
     obtain ⟨c29, H⟩ := qa H
     refine lc rfl rfl Tryz.call113 (jr.calls (w := w14) (a0 := gt a0 x5_3) (a1 := x1_2) (od c26) (od c27) (od c28) (od c29)) rfl <| fun w30 e31 => lp rfl (xa (.int .i64 (Qb (gt a0 x5_3) x1_2)) rfl) <| nx <| wr <| lp rfl (xm (.int .i64 (Qb (gt a0 x5_3) x1_2)) rfl) <| lp rfl (vI rfl rfl) <| nx ?_
     rcases qf H with ⟨q32, H⟩ | ⟨q32, H⟩
     ·refine qq (cb q32) <| wr <| lp rfl (xa (.int .i64 (-1)) rfl) <| nx <| qu <| qU <| qk <| qk <| qU <| qk <| qk <| qy ?_
      obtain rfl := si H
      obtain rfl := si S21
      have H := C6
      obtain rfl := si H
      exact qT rfl (e16.t e31)
     ·refine qh (cb q32) <| qv <| yq <| qe <| qQ <| lp rfl (qg h19) <| lp rfl (vE rfl rfl) <| lp rfl (xa (.int .i64 (IntKind.wrap .i64 (x5_3 + 1))) rfl) <| nx ?_
      obtain rfl := si H
      exact ⟨_, Nat.lt_succ_self _, (Qb (gt a0 x5_3) x1_2), IntKind.wrap .i64 (x5_3 + 1), (ku8 (ku8 K15 rfl) rfl), rfl, rfl, (e16.t e31), S21⟩
    ·refine qh (cb q22) <| vY <| vg <| vg <| yM <| qe ?_
     obtain rfl := si H
     obtain rfl := si S21
     exact ⟨x1_2, (ku4 K15 rfl), h18, e16, rfl⟩
  ·rintro s9 w8 ⟨x1_7, K10, h33, e11, y34⟩
   rw [y34] at C6
   have H := C6
   replace H : _ = some _ := H
   refine qe <| wr <| lp rfl (qg h33) <| lp rfl (xa (.int .i64 x1_7) rfl) <| nx <| qu <| qy ?_
   obtain rfl := si H
   exact qT rfl e11
/-! laws.toRecordS -/
theorem qM.walk {k : Nat} {w : World} {a0 : List Rec} {v_a0 : Value} (f_a0 : Rd 5 ql w v_a0 a0) {r : List Rec} (H : qM.sh k a0 = some r) :
  Calls Tryz.prog 54 #[v_a0] w (Rt (RO 52 5 ql w r)) := by
 unfold qM.sh at H
 refine qp Tryz.func54 rfl (Nat.le_of_ble_eq_true rfl) Tryz.ntmps54 rfl ?_
 refine wr <| lp rfl (xa (.slice none 0 0) rfl) <| nx <| wr <| lp rfl (xm v_a0 rfl) <| lp rfl (vf Tryz.underlying76 rfl f_a0) ?_
 obtain ⟨c1, H⟩ := qa H
 refine L_make (enc := ql) (zr := (⟨0, [], [], 0, false⟩ : Rec)) (n := a0.length) (.plain rfl) rfl (ltb rfl) rfl El.t35 rfl rfl rfl (od c1) (Nat.le_refl _) <| fun b2 w3 z4 z5 e6 o7 => lp rfl (xa (.slice (some ⟨b2, 0, none⟩) a0.length a0.length) rfl) <| nx <| qj <| wr <| lp rfl (xa (.int .i64 0) rfl) <| nx ?_
 obtain ⟨z10, L11, C12⟩ := bind_some H
 clear H
 refine  vT (fun s0 sQ wQ => ∃ (y13 : List Rec), Kp [(4, 5), (8, 22)] s0 sQ ∧ Ow 52 5 ql w.heap.size wQ (.slice (some ⟨b2, 0, none⟩) a0.length a0.length) y13 ∧ Ext w wQ ∧ z10 = .inr y13) ?_ ?_
 ·refine qH <| vy (fun s0 kk sQ wQ => ∃ (x4_8 : Int) (y9 : List Rec), Kp [(4, 5), (8, 22)] s0 sQ ∧ sQ 4 = .int .i64 x4_8 ∧ Ow 52 5 ql w.heap.size wQ (.slice (some ⟨b2, 0, none⟩) a0.length a0.length) y9 ∧ Ext w wQ ∧ qr (qM.b1 a0) kk (x4_8, y9) = some z10) k ⟨0, List.replicate a0.length (⟨0, [], [], 0, false⟩ : Rec), kz, rfl, o7, e6, L11⟩ ?_
  rintro k18 s19 w20 ⟨x4_8, y9, K21, h24, h25, e22, L23⟩
  cases k18 with
  | zero => exact absurd L23 (by simp [qr])
  | succ k18 =>
   obtain ⟨t26, H, S27⟩ := qO L23
   clear L23
   unfold qM.b1 at H
   refine qj <| wr <| lp rfl (qg h24) <| lp rfl (xm v_a0 (K21 0 rfl)) <| lp rfl (vf Tryz.underlying76 rfl (Rd.ext f_a0 e22)) <| lp rfl (vI rfl rfl) <| nx ?_
   rcases qf H with ⟨q28, H⟩ | ⟨q28, H⟩
   ·refine qq (cb q28) <| qv <| qe <| qj <| qH <| qQ <| lp rfl (xm (.slice (some ⟨b2, 0, none⟩) a0.length a0.length) (K21 3 rfl)) <| lp rfl (qg h24) <| lp rfl (xm v_a0 (K21 0 rfl)) <| lp rfl (qg h24) ?_
    obtain ⟨c29, H⟩ := qa H
    refine vF (.plain rfl) rfl (ltb rfl) rfl Tryz.underlying76 Tryz.sizeOf125 rfl (Rd.ext f_a0 e22) rfl c29 <| fun p30 h31 => lp rfl (vN Tryz.isAgg125 Tryz.sizeOf125 rfl rfl h31) <| lc rfl rfl Tryz.call114 (yN.calls (w := w20) (a0 := gt a0 x4_8)) rfl <| fun w32 e33 => ?_
    obtain ⟨c36, H⟩ := qa H
    refine Vw (.plain rfl) rfl (ltb rfl) rfl Tryz.underlying35 Tryz.sizeOf52 rfl (Ow.ext h25 e33) rfl c36 <| fun p34 h35 => Jl (a := (gt a0 x4_8)) (vs := [(.int .i64 ((gt a0 x4_8).kind)), (S ((gt a0 x4_8).path)), (S ((gt a0 x4_8).body)), (.int .i64 ((gt a0 x4_8).mode)), (.bool ((gt a0 x4_8).opq))]) (off := 0) (.plain rfl) rfl rfl Tryz.sizeOf52 rfl h35 rfl rfl rfl rfl rfl rfl <| fun b37 w38 h39 h40 h41 o42 => vL <| yq <| qe <| qQ <| lp rfl (qg h24) <| lp rfl (vE rfl rfl) <| lp rfl (xa (.int .i64 (IntKind.wrap .i64 (x4_8 + 1))) rfl) <| nx ?_
    obtain rfl := si H
    exact ⟨_, Nat.lt_succ_self _, IntKind.wrap .i64 (x4_8 + 1), QB y9 x4_8 (gt a0 x4_8), (ku3 (ku4 (ku8 K21 rfl) rfl) rfl), rfl, o42, (Ext.wr (e22.t e33) h41 h40 (Nat.le_refl _)), S27⟩
   ·refine qh (cb q28) <| vY <| vg <| vg <| yM <| qe ?_
    obtain rfl := si H
    obtain rfl := si S27
    exact ⟨y9, (ku4 K21 rfl), h25, e22, rfl⟩
 ·rintro s15 w14 ⟨y13, K16, h43, e17, y44⟩
  rw [y44] at C12
  have H := C12
  replace H : _ = some _ := H
  refine qe <| wr <| lp rfl (xm (.slice (some ⟨b2, 0, none⟩) a0.length a0.length) (K16 3 rfl)) <| lp rfl (xa (.slice (some ⟨b2, 0, none⟩) a0.length a0.length) rfl) <| nx <| qu <| qy ?_
  obtain rfl := si H
  exact YB rfl e17 h43 (er).size
theorem qM.calls {w : World} {a0 : List Rec} {v_a0 : Value} (f_a0 : Rd 5 ql w v_a0 a0) (h0 : a0.length ≤ 1048576) :
  Calls Tryz.prog 54 #[v_a0] w (Rt (RO 52 5 ql w a0)) := by
 obtain ⟨k, h⟩ := qM.eq a0 h0
 exact qM.walk f_a0 h
/-! spec.l03At -/
theorem vZ.calls {w : World} {a0 : List Rec} {a1 : List UInt8} {v_a0 : Value} (f_a0 : Rd 5 ql w v_a0 a0) (h0 : a0.length ≤ 1048576) :
  Calls Tryz.prog 162 #[v_a0, S a1] w (Rt (RP w (.int .i64 (qJ a0 a1)))) := by
 obtain ⟨k, H⟩ := vZ.eq a0 a1 h0
 generalize (qJ a0 a1) = r at H ⊢
 unfold vZ.sh at H
 refine qp Tryz.func162 rfl (Nat.le_of_ble_eq_true rfl) Tryz.ntmps162 rfl ?_
 refine wr <| lp rfl (xa (.int .i64 0) rfl) <| nx <| qj <| wr <| lp rfl (xa (.int .i64 0) rfl) <| nx ?_
 obtain ⟨z2, L3, C4⟩ := bind_some H
 clear H
 refine  vT (fun s0 sQ wQ => Kp [(4, 20)] s0 sQ ∧ Ext w wQ ∧ z2 = .inr ()) ?_ ?_
 ·refine qH <| vy (fun s0 kk sQ wQ => ∃ (x5_1 : Int), Kp [(4, 20)] s0 sQ ∧ sQ 5 = .int .i64 x5_1 ∧ Ext w wQ ∧ qr (vZ.b1 a0 a1) kk x5_1 = some z2) k ⟨0, kz, rfl, er, L3⟩ ?_
  rintro k9 s10 w11 ⟨x5_1, K12, h15, e13, L14⟩
  cases k9 with
  | zero => exact absurd L14 (by simp [qr])
  | succ k9 =>
   obtain ⟨t16, H, S17⟩ := qO L14
   clear L14
   unfold vZ.b1 at H
   refine qj <| wr <| lp rfl (qg h15) <| lp rfl (xm v_a0 (K12 0 rfl)) <| lp rfl (vf Tryz.underlying35 rfl (Rd.ext f_a0 e13)) <| lp rfl (vI rfl rfl) <| nx ?_
   rcases qf H with ⟨q18, H⟩ | ⟨q18, H⟩
   ·refine qq (cb q18) <| qv <| qe <| qj <| qH <| wr <| lp rfl (xm v_a0 (K12 0 rfl)) <| lp rfl (qg h15) ?_
    obtain ⟨c19, H⟩ := qa H
    refine vF (.plain rfl) rfl (ltb rfl) rfl Tryz.underlying35 Tryz.sizeOf52 rfl (Rd.ext f_a0 e13) rfl c19 <| fun p20 h21 => lp rfl (qc Tryz.underlying52 rfl Tryz.sizeOf9 rfl rfl) <| lp rfl (yZ Tryz.isAgg9 (j := 1) h21 rfl rfl) <| lp rfl (xm (S a1) (K12 1 rfl)) <| lp rfl (Ym rfl rfl) <| nx ?_
    rcases qf H with ⟨q22, H⟩ | ⟨q22, H⟩
    ·refine qq (cb q22) <| wr <| lp rfl (qg h15) <| lp rfl (xa (.int .i64 x5_1) rfl) <| nx <| qu <| qU <| qk <| qk <| qU <| qk <| qk <| qy ?_
     obtain rfl := si H
     obtain rfl := si S17
     have H := C4
     obtain rfl := si H
     exact qT rfl e13
    ·refine qh (cb q22) <| qv <| yq <| qe <| qQ <| lp rfl (qg h15) <| lp rfl (vE rfl rfl) <| lp rfl (xa (.int .i64 (IntKind.wrap .i64 (x5_1 + 1))) rfl) <| nx ?_
     obtain rfl := si H
     exact ⟨_, Nat.lt_succ_self _, IntKind.wrap .i64 (x5_1 + 1), (ku2 (ku4 (ku8 K12 rfl) rfl) rfl), rfl, e13, S17⟩
   ·refine qh (cb q18) <| vY <| vg <| vg <| yM <| qe ?_
    obtain rfl := si H
    obtain rfl := si S17
    exact ⟨(ku4 K12 rfl), e13, rfl⟩
 ·rintro s6 w5 ⟨K7, e8, y23⟩
  rw [y23] at C4
  have H := C4
  replace H : _ = some _ := H
  refine qe <| wr <| lp rfl (xa (.int .i64 (-1)) rfl) <| nx <| qu <| qy ?_
  obtain rfl := si H
  exact qT rfl e8
/-! spec.l03Fault -/
theorem ve.walk {k : Nat} {w : World} {a0 : List Rec} {v_a0 : Value} (f_a0 : Rd 5 ql w v_a0 a0) {r : Int × Int} (H : ve.sh k a0 = some r) :
  Calls Tryz.prog 133 #[v_a0] w (Rt (RP w (.tuple #[.int .i64 r.1, .int .i64 r.2]))) := by
 unfold ve.sh at H
 refine qp Tryz.func133 rfl (Nat.le_of_ble_eq_true rfl) Tryz.ntmps133 rfl ?_
 refine wr <| lp rfl (xa (.int .i64 0) rfl) <| lp rfl (xa (.int .i64 0) rfl) <| nx <| qj <| wr <| lp rfl (xa (.int .i64 0) rfl) <| nx ?_
 obtain ⟨z2, L3, C4⟩ := bind_some H
 clear H
 refine  vT (fun s0 sQ wQ => Kp [(2, 84)] s0 sQ ∧ Ext w wQ ∧ z2 = .inr ()) ?_ ?_
 ·refine qH <| vy (fun s0 kk sQ wQ => ∃ (x4_1 : Int), Kp [(2, 84)] s0 sQ ∧ sQ 4 = .int .i64 x4_1 ∧ Ext w wQ ∧ qr (ve.b1 a0) kk x4_1 = some z2) k ⟨0, kz, rfl, er, L3⟩ ?_
  rintro k9 s10 w11 ⟨x4_1, K12, h15, e13, L14⟩
  cases k9 with
  | zero => exact absurd L14 (by simp [qr])
  | succ k9 =>
   obtain ⟨t16, H, S17⟩ := qO L14
   clear L14
   unfold ve.b1 at H
   refine qj <| wr <| lp rfl (qg h15) <| lp rfl (xm v_a0 (K12 0 rfl)) <| lp rfl (vf Tryz.underlying35 rfl (Rd.ext f_a0 e13)) <| lp rfl (vI rfl rfl) <| nx ?_
   rcases qf H with ⟨q18, H⟩ | ⟨q18, H⟩
   ·refine qq (cb q18) <| qv <| qe <| qj <| qH <| qj <| wr <| lp rfl (qg h15) <| lp rfl (yp rfl rfl) <| nx ?_
    rcases qf H with ⟨q19, H⟩ | ⟨q19, H⟩
    ·refine qq (cb q19) <| wr <| lp rfl (qg h15) <| lp rfl (xa (.int .i64 x4_1) rfl) <| lp rfl (xa (.int .i64 6) rfl) <| nx <| qu <| qk <| qU <| qk <| qk <| qU <| qk <| qk <| qy ?_
     obtain rfl := si H
     obtain rfl := si S17
     have H := C4
     obtain rfl := si H
     exact Gd rfl rfl e13
    ·refine qh (cb q19) <| qv <| qe <| qj <| wr <| lp rfl (xm v_a0 (K12 0 rfl)) <| lp rfl (qg h15) ?_
     obtain ⟨c20, H⟩ := qa H
     refine vF (.plain rfl) rfl (ltb rfl) rfl Tryz.underlying35 Tryz.sizeOf52 rfl (Rd.ext f_a0 e13) rfl c20 <| fun p21 h22 => lp rfl (vN Tryz.isAgg52 Tryz.sizeOf52 rfl rfl h22) <| lc rfl rfl Tryz.call194 (jx.calls (w := w11) (a0 := gt a0 x4_1)) rfl <| fun w23 e24 => lp rfl (xa (.int .i64 (qB (gt a0 x4_1))) rfl) <| nx <| wr <| lp rfl (xm (.int .i64 (qB (gt a0 x4_1))) rfl) <| lp rfl (jJ rfl rfl) <| nx ?_
     rcases qf H with ⟨q25, H⟩ | ⟨q25, H⟩
     ·refine qq (cb q25) <| wr <| lp rfl (qg h15) <| lp rfl (xm (.int .i64 (qB (gt a0 x4_1))) rfl) <| lp rfl (xa (.int .i64 x4_1) rfl) <| lp rfl (xa (.int .i64 (qB (gt a0 x4_1))) rfl) <| nx <| qu <| qk <| qU <| qk <| qk <| qU <| qk <| qk <| qy ?_
      obtain rfl := si H
      obtain rfl := si S17
      have H := C4
      obtain rfl := si H
      exact Gd rfl rfl (e13.t e24)
     ·refine qh (cb q25) <| qv <| qe <| qj <| qj ?_
      obtain ⟨c26, H⟩ := qa H
      obtain ⟨c29, H⟩ := qa H
      refine Yv [LEq (.int .i64 x4_1), LEq (.bool (decide (0 < x4_1))), LEq (.bool (decide (0 < x4_1))), LIf (decide (0 < x4_1)) (LEq v_a0), LIf (decide (0 < x4_1)) (LEq (.int .i64 x4_1)), LIf (decide (0 < x4_1)) (yD (ql (gt a0 x4_1))), LIf (decide (0 < x4_1)) (LAt 1 (ql (gt a0 x4_1))), LIf (decide (0 < x4_1)) (LEq (S ((gt a0 x4_1).path))), LIf (decide (0 < x4_1)) (LEq v_a0), LIf (decide (0 < x4_1)) (LEq (.int .i64 x4_1)), LIf (decide (0 < x4_1)) (LEq (.int .i64 (IntKind.wrap .i64 (x4_1 - 1)))), LIf (decide (0 < x4_1)) (yD (ql (gt a0 (IntKind.wrap .i64 (x4_1 - 1))))), LIf (decide (0 < x4_1)) (LAt 1 (ql (gt a0 (IntKind.wrap .i64 (x4_1 - 1))))), LIf (decide (0 < x4_1)) (LEq (S ((gt a0 (IntKind.wrap .i64 (x4_1 - 1))).path))), LIf (decide (0 < x4_1)) (LEq (.bool (decide (((gt a0 x4_1).path) = ((gt a0 (IntKind.wrap .i64 (x4_1 - 1))).path))))), LEq (.bool ((decide (0 < x4_1)) && (decide (((gt a0 x4_1).path) = ((gt a0 (IntKind.wrap .i64 (x4_1 - 1))).path)))))] (by kernel_rfl) (by kernel_rfl) ⟨qm, qm, qm, lm, lm, (LIf.mono yD.mono), (LIf.mono LAt.mono), lm, lm, lm, lm, (LIf.mono yD.mono), (LIf.mono LAt.mono), lm, lm, qm, trivial⟩ ⟨?_, ?_, ?_, ?_, ?_, ?_, ?_, ?_, ?_, ?_, ?_, ?_, ?_, ?_, ?_, ?_, trivial⟩ ?_
      ·exact fun s x e f d u => lp rfl (xm (.int .i64 x4_1) ((f 4 rfl).trans h15)) <| se rfl rfl
      ·exact fun s x e f d u => lp rfl (VE (d 0 rfl) rfl) <| se rfl rfl
      ·exact fun s x e f d u => lp rfl (qg (d 1 rfl)) <| se rfl rfl
      ·exact fun s x e f d u => gT rfl rfl rfl rfl (d 2 rfl) rfl fun b t => lt t rfl rfl (xm v_a0 ((f 0 rfl).trans (K12 0 rfl))) <| sg rfl rfl b rfl
      ·exact fun s x e f d u => gT rfl rfl rfl rfl (d 2 rfl) rfl fun b t => lt t rfl rfl (xm (.int .i64 x4_1) ((f 4 rfl).trans h15)) <| sg rfl rfl b rfl
      ·exact fun s x e f d u => gT rfl rfl rfl rfl (d 2 rfl) rfl fun b t => vF t rfl (ltb rfl) rfl Tryz.underlying35 Tryz.sizeOf52 ((d 3 rfl).1 b) (Rd.ext f_a0 ((e13.t e24).t e)) ((d 4 rfl).1 b) (yY b c26) <| fun p33 h34 => sg rfl rfl b ⟨_, rfl, h34⟩
      ·intro s x e f d u
       refine gT rfl rfl rfl rfl (d 2 rfl) rfl fun b t => ?_
       obtain ⟨p35, h36, h37⟩ := ((d 5 rfl).1 b)
       exact lt t rfl rfl (qc Tryz.underlying52 rfl Tryz.sizeOf9 rfl h36) <| sg rfl rfl b ⟨_, rfl, h37⟩
      ·intro s x e f d u
       refine gT rfl rfl rfl rfl (d 2 rfl) rfl fun b t => ?_
       obtain ⟨p38, h39, h40⟩ := ((d 6 rfl).1 b)
       exact lt t rfl rfl (yZ Tryz.isAgg9 (j := 1) h40 h39 rfl) <| sg rfl rfl b rfl
      ·exact fun s x e f d u => gT rfl rfl rfl rfl (d 2 rfl) rfl fun b t => lt t rfl rfl (xm v_a0 ((f 0 rfl).trans (K12 0 rfl))) <| sg rfl rfl b rfl
      ·exact fun s x e f d u => gT rfl rfl rfl rfl (d 2 rfl) rfl fun b t => lt t rfl rfl (xm (.int .i64 x4_1) ((f 4 rfl).trans h15)) <| sg rfl rfl b rfl
      ·exact fun s x e f d u => gT rfl rfl rfl rfl (d 2 rfl) rfl fun b t => lt t rfl rfl (V8 ((d 9 rfl).1 b) rfl) <| sg rfl rfl b rfl
      ·exact fun s x e f d u => gT rfl rfl rfl rfl (d 2 rfl) rfl fun b t => vF t rfl (ltb rfl) rfl Tryz.underlying35 Tryz.sizeOf52 ((d 8 rfl).1 b) (Rd.ext f_a0 ((e13.t e24).t e)) ((d 10 rfl).1 b) (yY b c29) <| fun p42 h43 => sg rfl rfl b ⟨_, rfl, h43⟩
      ·intro s x e f d u
       refine gT rfl rfl rfl rfl (d 2 rfl) rfl fun b t => ?_
       obtain ⟨p44, h45, h46⟩ := ((d 11 rfl).1 b)
       exact lt t rfl rfl (qc Tryz.underlying52 rfl Tryz.sizeOf9 rfl h45) <| sg rfl rfl b ⟨_, rfl, h46⟩
      ·intro s x e f d u
       refine gT rfl rfl rfl rfl (d 2 rfl) rfl fun b t => ?_
       obtain ⟨p47, h48, h49⟩ := ((d 12 rfl).1 b)
       exact lt t rfl rfl (yZ Tryz.isAgg9 (j := 1) h49 h48 rfl) <| sg rfl rfl b rfl
      ·exact fun s x e f d u => gT rfl rfl rfl rfl (d 2 rfl) rfl fun b t => lt t rfl rfl (Ym ((d 7 rfl).1 b) ((d 13 rfl).1 b)) <| sg rfl rfl b rfl
      ·exact fun s x e f d u => lp rfl (j4 (d 2 rfl) rfl fun h => ((d 14 rfl).1 h)) <| se rfl rfl
      intro s50 w51 e52 hf53 ha54
      have K55 := Kp.ofD (kp := [(26, 42)]) rfl hf53
      have d56 : s50 41 = (.bool ((decide (0 < x4_1)) && (decide (((gt a0 x4_1).path) = ((gt a0 (IntKind.wrap .i64 (x4_1 - 1))).path))))) := ha54 15 rfl
      clear ha54 hf53
      refine qe ?_
      rcases qf H with ⟨q57, H⟩ | ⟨q57, H⟩
      ·refine qq (d56.trans (cb q57)) <| wr <| lp rfl (xm (.int .i64 x4_1) ((K55 4 rfl).trans h15)) <| lp rfl (xa (.int .i64 x4_1) rfl) <| lp rfl (xa (.int .i64 18) rfl) <| nx <| qu <| qk <| qU <| qk <| qk <| qU <| qk <| qk <| qy ?_
       obtain rfl := si H
       obtain rfl := si S17
       have H := C4
       obtain rfl := si H
       exact Gd rfl rfl ((e13.t e24).t e52)
      ·refine qh (d56.trans (cb q57)) <| qv <| qe <| qj <| qj ?_
       obtain ⟨c58, H⟩ := qa H
       obtain ⟨c61, H⟩ := qa H
       obtain ⟨c64, H⟩ := qa H
       obtain ⟨c65, H⟩ := qa H
       refine Yv [LEq (.int .i64 x4_1), LEq (.bool (decide (0 < x4_1))), LEq (.bool (decide (0 < x4_1))), LIf (decide (0 < x4_1)) (LEq v_a0), LIf (decide (0 < x4_1)) (LEq (.int .i64 x4_1)), LIf (decide (0 < x4_1)) (LEq (.int .i64 (IntKind.wrap .i64 (x4_1 - 1)))), LIf (decide (0 < x4_1)) (yD (ql (gt a0 (IntKind.wrap .i64 (x4_1 - 1))))), LIf (decide (0 < x4_1)) (LAt 1 (ql (gt a0 (IntKind.wrap .i64 (x4_1 - 1))))), LIf (decide (0 < x4_1)) (LEq (S ((gt a0 (IntKind.wrap .i64 (x4_1 - 1))).path))), LIf (decide (0 < x4_1)) (LEq v_a0), LIf (decide (0 < x4_1)) (LEq (.int .i64 x4_1)), LIf (decide (0 < x4_1)) (yD (ql (gt a0 x4_1))), LIf (decide (0 < x4_1)) (LAt 1 (ql (gt a0 x4_1))), LIf (decide (0 < x4_1)) (LEq (S ((gt a0 x4_1).path))), LIf (decide (0 < x4_1)) (LEq (.bool (vo (cut 47 ((gt a0 (IntKind.wrap .i64 (x4_1 - 1))).path)) (cut 47 ((gt a0 x4_1).path))))), LIf (decide (0 < x4_1)) (LEq (.bool (!(vo (cut 47 ((gt a0 (IntKind.wrap .i64 (x4_1 - 1))).path)) (cut 47 ((gt a0 x4_1).path)))))), LEq (.bool ((decide (0 < x4_1)) && (!(vo (cut 47 ((gt a0 (IntKind.wrap .i64 (x4_1 - 1))).path)) (cut 47 ((gt a0 x4_1).path))))))] (by kernel_rfl) (by kernel_rfl) ⟨qm, qm, qm, lm, lm, lm, (LIf.mono yD.mono), (LIf.mono LAt.mono), lm, lm, lm, (LIf.mono yD.mono), (LIf.mono LAt.mono), lm, lm, lm, qm, trivial⟩ ⟨?_, ?_, ?_, ?_, ?_, ?_, ?_, ?_, ?_, ?_, ?_, ?_, ?_, ?_, ?_, ?_, ?_, trivial⟩ ?_
       ·exact fun s x e f d u => lp rfl (xm (.int .i64 x4_1) ((f 4 rfl).trans ((K55 4 rfl).trans h15))) <| se rfl rfl
       ·exact fun s x e f d u => lp rfl (VE (d 0 rfl) rfl) <| se rfl rfl
       ·exact fun s x e f d u => lp rfl (qg (d 1 rfl)) <| se rfl rfl
       ·exact fun s x e f d u => gT rfl rfl rfl rfl (d 2 rfl) rfl fun b t => lt t rfl rfl (xm v_a0 ((f 0 rfl).trans ((K55 0 rfl).trans (K12 0 rfl)))) <| sg rfl rfl b rfl
       ·exact fun s x e f d u => gT rfl rfl rfl rfl (d 2 rfl) rfl fun b t => lt t rfl rfl (xm (.int .i64 x4_1) ((f 4 rfl).trans ((K55 4 rfl).trans h15))) <| sg rfl rfl b rfl
       ·exact fun s x e f d u => gT rfl rfl rfl rfl (d 2 rfl) rfl fun b t => lt t rfl rfl (V8 ((d 4 rfl).1 b) rfl) <| sg rfl rfl b rfl
       ·exact fun s x e f d u => gT rfl rfl rfl rfl (d 2 rfl) rfl fun b t => vF t rfl (ltb rfl) rfl Tryz.underlying35 Tryz.sizeOf52 ((d 3 rfl).1 b) (Rd.ext f_a0 (((e13.t e24).t e52).t e)) ((d 5 rfl).1 b) (yY b c58) <| fun p69 h70 => sg rfl rfl b ⟨_, rfl, h70⟩
       ·intro s x e f d u
        refine gT rfl rfl rfl rfl (d 2 rfl) rfl fun b t => ?_
        obtain ⟨p71, h72, h73⟩ := ((d 6 rfl).1 b)
        exact lt t rfl rfl (qc Tryz.underlying52 rfl Tryz.sizeOf9 rfl h72) <| sg rfl rfl b ⟨_, rfl, h73⟩
       ·intro s x e f d u
        refine gT rfl rfl rfl rfl (d 2 rfl) rfl fun b t => ?_
        obtain ⟨p74, h75, h76⟩ := ((d 7 rfl).1 b)
        exact lt t rfl rfl (yZ Tryz.isAgg9 (j := 1) h76 h75 rfl) <| sg rfl rfl b rfl
       ·exact fun s x e f d u => gT rfl rfl rfl rfl (d 2 rfl) rfl fun b t => lt t rfl rfl (xm v_a0 ((f 0 rfl).trans ((K55 0 rfl).trans (K12 0 rfl)))) <| sg rfl rfl b rfl
       ·exact fun s x e f d u => gT rfl rfl rfl rfl (d 2 rfl) rfl fun b t => lt t rfl rfl (xm (.int .i64 x4_1) ((f 4 rfl).trans ((K55 4 rfl).trans h15))) <| sg rfl rfl b rfl
       ·exact fun s x e f d u => gT rfl rfl rfl rfl (d 2 rfl) rfl fun b t => vF t rfl (ltb rfl) rfl Tryz.underlying35 Tryz.sizeOf52 ((d 9 rfl).1 b) (Rd.ext f_a0 (((e13.t e24).t e52).t e)) ((d 10 rfl).1 b) (yY b c61) <| fun p78 h79 => sg rfl rfl b ⟨_, rfl, h79⟩
       ·intro s x e f d u
        refine gT rfl rfl rfl rfl (d 2 rfl) rfl fun b t => ?_
        obtain ⟨p80, h81, h82⟩ := ((d 11 rfl).1 b)
        exact lt t rfl rfl (qc Tryz.underlying52 rfl Tryz.sizeOf9 rfl h81) <| sg rfl rfl b ⟨_, rfl, h82⟩
       ·intro s x e f d u
        refine gT rfl rfl rfl rfl (d 2 rfl) rfl fun b t => ?_
        obtain ⟨p83, h84, h85⟩ := ((d 12 rfl).1 b)
        exact lt t rfl rfl (yZ Tryz.isAgg9 (j := 1) h85 h84 rfl) <| sg rfl rfl b rfl
       ·exact fun s x e f d u => gT rfl rfl rfl rfl (d 2 rfl) rfl fun b t => jf t rfl (ltb rfl) rfl Tryz.call153 (vt.calls (w := x) (a0 := (gt a0 (IntKind.wrap .i64 (x4_1 - 1))).path) (a1 := (gt a0 x4_1).path) (od (yY b c64)) (od (yY b c65))) (vu ((d 8 rfl).1 b) (vu ((d 13 rfl).1 b) rfl)) <| fun w88 e89 => sgx rfl rfl b e89 rfl
       ·exact fun s x e f d u => gT rfl rfl rfl rfl (d 2 rfl) rfl fun b t => lt t rfl rfl (jh ((d 14 rfl).1 b)) <| sg rfl rfl b rfl
       ·exact fun s x e f d u => lp rfl (j4 (d 2 rfl) rfl fun h => ((d 15 rfl).1 h)) <| se rfl rfl
       intro s90 w91 e92 hf93 ha94
       have K95 := Kp.ofD (kp := [(43, 60)]) rfl hf93
       have d96 : s90 59 = (.bool ((decide (0 < x4_1)) && (!(vo (cut 47 ((gt a0 (IntKind.wrap .i64 (x4_1 - 1))).path)) (cut 47 ((gt a0 x4_1).path)))))) := ha94 16 rfl
       clear ha94 hf93
       refine qe ?_
       rcases qf H with ⟨q97, H⟩ | ⟨q97, H⟩
       ·refine qq (d96.trans (cb q97)) <| wr <| lp rfl (xm (.int .i64 x4_1) ((K95 4 rfl).trans ((K55 4 rfl).trans h15))) <| lp rfl (xa (.int .i64 x4_1) rfl) <| lp rfl (xa (.int .i64 11) rfl) <| nx <| qu <| qk <| qU <| qk <| qk <| qU <| qk <| qk <| qy ?_
        obtain rfl := si H
        obtain rfl := si S17
        have H := C4
        obtain rfl := si H
        exact Gd rfl rfl (((e13.t e24).t e52).t e92)
       ·refine qh (d96.trans (cb q97)) <| qv <| qe <| wr <| lp rfl (xm v_a0 ((K95 0 rfl).trans ((K55 0 rfl).trans (K12 0 rfl)))) <| lp rfl (xm (.int .i64 x4_1) ((K95 4 rfl).trans ((K55 4 rfl).trans h15))) ?_
        obtain ⟨c98, H⟩ := qa H
        refine vF (.plain rfl) rfl (ltb rfl) rfl Tryz.underlying35 Tryz.sizeOf52 rfl (Rd.ext f_a0 (((e13.t e24).t e52).t e92)) rfl c98 <| fun p99 h100 => lp rfl (qc Tryz.underlying52 rfl Tryz.sizeOf9 rfl rfl) <| lp rfl (yZ Tryz.isAgg9 (j := 1) h100 rfl rfl) ?_
        obtain ⟨c101, H⟩ := qa H
        refine lc rfl rfl Tryz.call154 (qY.calls (w := w91) (a0 := (gt a0 x4_1).path) (od c101)) rfl <| fun w102 e103 => lp rfl (xa (S (qd ((gt a0 x4_1).path))) rfl) <| nx <| qj <| wr <| lp rfl (xm (S (qd ((gt a0 x4_1).path))) rfl) <| lp rfl (Ym rfl rfl) <| nx ?_
        rcases qf H with ⟨q104, H⟩ | ⟨q104, H⟩
        ·refine qq (cb q104) <| vY <| vg <| yM <| qe <| qQ <| lp rfl (xm (.int .i64 x4_1) ((K95 4 rfl).trans ((K55 4 rfl).trans h15))) <| lp rfl (vE rfl rfl) <| lp rfl (xa (.int .i64 (IntKind.wrap .i64 (x4_1 + 1))) rfl) <| nx ?_
         obtain rfl := si H
         exact ⟨_, Nat.lt_succ_self _, IntKind.wrap .i64 (x4_1 + 1), (ku4 (ku8 (Kp.cut (Kp.cut (ku2 (ku4 (ku8 K12 rfl) rfl) rfl) K55 rfl) K95 rfl) rfl) rfl), rfl, ((((e13.t e24).t e52).t e92).t e103), S17⟩
        ·refine qh (cb q104) <| qv <| qe <| wr <| lp rfl (xm v_a0 ((K95 0 rfl).trans ((K55 0 rfl).trans (K12 0 rfl)))) <| lp rfl (xm (.int .i64 x4_1) ((K95 4 rfl).trans ((K55 4 rfl).trans h15))) ?_
         obtain ⟨c105, H⟩ := qa H
         refine L_sub (.plain rfl) rfl (ltb rfl) rfl Tryz.underlying35 Tryz.sizeOf52 rfl (Rd.ext f_a0 ((((e13.t e24).t e52).t e92).t e103)) (l := 0) (h := x4_1) rfl ⟨_, rfl⟩ c105 <| fun v106 h107 => lp rfl (xm (S (qd ((gt a0 x4_1).path))) rfl) ?_
         obtain ⟨c108, H⟩ := qa H
         refine lc rfl rfl Tryz.call162 (vZ.calls (w := w102) (a0 := sub a0 0 x4_1) (a1 := (qd ((gt a0 x4_1).path))) h107 (od c108)) rfl <| fun w109 e110 => lp rfl (xa (.int .i64 (qJ (sub a0 0 x4_1) (qd ((gt a0 x4_1).path)))) rfl) <| nx <| qj <| wr <| lp rfl (xm (.int .i64 (qJ (sub a0 0 x4_1) (qd ((gt a0 x4_1).path)))) rfl) <| lp rfl (vI rfl rfl) <| nx ?_
         rcases qf H with ⟨q111, H⟩ | ⟨q111, H⟩
         ·refine qq (cb q111) <| wr <| lp rfl (xm (.int .i64 x4_1) ((K95 4 rfl).trans ((K55 4 rfl).trans h15))) <| lp rfl (xa (.int .i64 x4_1) rfl) <| lp rfl (xa (.int .i64 12) rfl) <| nx <| qu <| qk <| qU <| qk <| qk <| qU <| qk <| qk <| qy ?_
          obtain rfl := si H
          obtain rfl := si S17
          have H := C4
          obtain rfl := si H
          exact Gd rfl rfl (((((e13.t e24).t e52).t e92).t e103).t e110)
         ·refine qh (cb q111) <| qv <| qe <| wr <| lp rfl (xm v_a0 ((K95 0 rfl).trans ((K55 0 rfl).trans (K12 0 rfl)))) <| lp rfl (xm (.int .i64 (qJ (sub a0 0 x4_1) (qd ((gt a0 x4_1).path)))) rfl) ?_
          obtain ⟨c112, H⟩ := qa H
          refine vF (.plain rfl) rfl (ltb rfl) rfl Tryz.underlying35 Tryz.sizeOf52 rfl (Rd.ext f_a0 (((((e13.t e24).t e52).t e92).t e103).t e110)) rfl c112 <| fun p113 h114 => lp rfl (qc Tryz.underlying52 rfl Tryz.sizeOf3 rfl rfl) <| lp rfl (yZ Tryz.isAgg3 (j := 0) h114 rfl rfl) <| lp rfl (jJ rfl rfl) <| nx ?_
          rcases qf H with ⟨q115, H⟩ | ⟨q115, H⟩
          ·refine qq (cb q115) <| wr <| lp rfl (xm (.int .i64 x4_1) ((K95 4 rfl).trans ((K55 4 rfl).trans h15))) <| lp rfl (xa (.int .i64 x4_1) rfl) <| lp rfl (xa (.int .i64 13) rfl) <| nx <| qu <| qU <| qk <| qk <| qU <| qk <| qk <| qy ?_
           obtain rfl := si H
           obtain rfl := si S17
           have H := C4
           obtain rfl := si H
           exact Gd rfl rfl (((((e13.t e24).t e52).t e92).t e103).t e110)
          ·refine qh (cb q115) <| qv <| yq <| qe <| qQ <| lp rfl (xm (.int .i64 x4_1) ((K95 4 rfl).trans ((K55 4 rfl).trans h15))) <| lp rfl (vE rfl rfl) <| lp rfl (xa (.int .i64 (IntKind.wrap .i64 (x4_1 + 1))) rfl) <| nx ?_
           obtain rfl := si H
           exact ⟨_, Nat.lt_succ_self _, IntKind.wrap .i64 (x4_1 + 1), (ku2 (ku8 (ku8 (ku8 (Kp.cut (Kp.cut (ku2 (ku4 (ku8 K12 rfl) rfl) rfl) K55 rfl) K95 rfl) rfl) rfl) rfl) rfl), rfl, (((((e13.t e24).t e52).t e92).t e103).t e110), S17⟩
   ·refine qh (cb q18) <| vY <| vg <| vg <| yM <| qe ?_
    obtain rfl := si H
    obtain rfl := si S17
    exact ⟨(ku4 K12 rfl), e13, rfl⟩
 ·rintro s6 w5 ⟨K7, e8, y116⟩
  rw [y116] at C4
  have H := C4
  replace H : _ = some _ := H
  refine qe <| wr <| lp rfl (xa (.int .i64 0) rfl) <| lp rfl (xa (.int .i64 0) rfl) <| nx <| qu <| qy ?_
  obtain rfl := si H
  exact Gd rfl rfl e8
theorem ve.calls {w : World} {a0 : List Rec} {v_a0 : Value} (f_a0 : Rd 5 ql w v_a0 a0) (h0 : a0.length ≤ 1048576) (h1 : ∀ x ∈ a0, x.path.length ≤ 1048576) :
  Calls Tryz.prog 133 #[v_a0] w (Rt (RP w (.tuple #[.int .i64 ((qo a0).1), .int .i64 ((qo a0).2)]))) := by
 obtain ⟨k, h⟩ := ve.eq a0 h0 h1
 exact ve.walk f_a0 h
/-! impl.isLongList(impl.Record) -/
theorem yd.calls {w : World} {a0 : List Rec} {v_a0 : Value} (f_a0 : Rd 5 ql w v_a0 a0) :
  Calls Tryz.prog 78 #[v_a0] w (Rt (RP w (.bool (decide (4096 < a0.length))))) := by
 have H := yd.eq a0
 generalize (decide (4096 < a0.length)) = r at H ⊢
 unfold yd.sh at H
 refine qp Tryz.func78 rfl (Nat.le_of_ble_eq_true rfl) Tryz.ntmps78 rfl ?_
 refine wr <| lp rfl (xa (.bool false) rfl) <| nx <| wr <| lp rfl (xm v_a0 rfl) <| lp rfl (vf Tryz.underlying35 rfl f_a0) <| lp rfl (VE rfl rfl) <| lp rfl (xa (.bool (decide (4096 < (a0.length : Int)))) rfl) <| nx <| qu <| qy ?_
 obtain rfl := si H
 exact qT rfl er
/-! impl.find$1 -/
theorem Qc.calls {w : World} {a0 : Rec} {a1 : List UInt8} {b_a1 : Nat} (k_a1 : Blk w b_a1 #[(S a1)] 9) :
  Calls Tryz.prog 139 #[.agg (ql a0).toArray, .pointer (some ⟨b_a1, 0, none⟩)] w (Rt (RP w (.bool (decide (a0.path = a1))))) := by
 have H := Qc.eq a0 a1
 generalize (decide (a0.path = a1)) = r at H ⊢
 unfold Qc.sh at H
 refine qp Tryz.func139 rfl (Nat.le_of_ble_eq_true rfl) Tryz.ntmps139 rfl ?_
 refine wr <| QS (.plain rfl) rfl (ltb rfl) rfl rfl <| fun b1 w2 z3 z4 e5 k6 => lp rfl (xa (.bool false) rfl) <| nx <| wr <| lp rfl (qc Tryz.underlying52 rfl Tryz.sizeOf9 rfl rfl) <| lp rfl (qA Tryz.isAgg9 k6 rfl rfl) <| lp rfl (qA Tryz.isAgg9 (Blk.ext k_a1 e5) rfl rfl) <| lp rfl (Ym rfl rfl) <| lp rfl (xa (.bool (decide (a0.path = a1))) rfl) <| nx <| qu <| qy ?_
 obtain rfl := si H
 exact qT rfl e5
/-! slices.IndexFunc(()impl.Record,impl.Record) -/
theorem qR.walk {k : Nat} {w : World} {a0 : List Rec} {a1 : Rec → Option Bool} {v_a0 : Value} (f_a0 : Rd 5 ql w v_a0 a0) {v_a1 : Value} (f_a1 : ∀ (x0 : Rec) (r : Bool), a1 x0 = some r → jH Tryz.prog w v_a1 [(.agg (ql x0).toArray)] (.bool r)) (g_a1 : v_a1.cells = #[v_a1]) {r : Int} (H : qR.sh k a0 a1 = some r) :
  Calls Tryz.prog 138 #[v_a0, v_a1] w (Rt (RP w (.int .i64 r))) := by
 unfold qR.sh at H
 refine qp Tryz.func138 rfl (Nat.le_of_ble_eq_true rfl) Tryz.ntmps138 rfl ?_
 refine wr <| lp rfl (xa (.int .i64 0) rfl) <| nx <| qj <| wr <| lp rfl (xm v_a0 rfl) <| lp rfl (vf Tryz.underlying35 rfl f_a0) <| lp rfl (xm (.int .i64 0) rfl) <| nx ?_
 obtain ⟨z2, L3, C4⟩ := bind_some H
 clear H
 refine  vT (fun s0 sQ wQ => Kp [(4, 6), (8, 19)] s0 sQ ∧ Ext w wQ ∧ z2 = .inr ()) ?_ ?_
 ·refine qH <| vy (fun s0 kk sQ wQ => ∃ (x8_1 : Int), Kp [(4, 6), (8, 19)] s0 sQ ∧ sQ 8 = .int .i64 x8_1 ∧ Ext w wQ ∧ qr (qR.b1 a0 a1) kk x8_1 = some z2) k ⟨0, kz, rfl, er, L3⟩ ?_
  rintro k9 s10 w11 ⟨x8_1, K12, h15, e13, L14⟩
  cases k9 with
  | zero => exact absurd L14 (by simp [qr])
  | succ k9 =>
   obtain ⟨t16, H, S17⟩ := qO L14
   clear L14
   unfold qR.b1 at H
   refine wr <| lp rfl (vI h15 (K12 7 rfl)) <| nx <| qj ?_
   rcases qf H with ⟨q18, H⟩ | ⟨q18, H⟩
   ·refine qq (cb q18) <| qv <| qe <| qj <| qH <| wr <| lp rfl (qg h15) <| lp rfl (xa (.int .i64 x8_1) rfl) <| nx <| wr <| lp rfl (xm v_a1 (K12 1 rfl)) <| lp rfl (xm v_a0 (K12 0 rfl)) <| lp rfl (xm (.int .i64 x8_1) rfl) ?_
    obtain ⟨c19, H⟩ := qa H
    refine vF (.plain rfl) rfl (ltb rfl) rfl Tryz.underlying35 Tryz.sizeOf52 rfl (Rd.ext f_a0 e13) rfl c19 <| fun p20 h21 => lp rfl (vN Tryz.isAgg52 Tryz.sizeOf52 rfl rfl h21) ?_
    obtain ⟨z22, x23, H⟩ := bind_some H
    refine JX (.plain rfl) rfl (ltb rfl) rfl rfl (jH.ext (f_a1 _ _ x23) e13) rfl <| fun w24 e25 => nx ?_
    rcases qf H with ⟨q26, H⟩ | ⟨q26, H⟩
    ·refine qq (cb q26) <| wr <| lp rfl (xm (.int .i64 x8_1) rfl) <| lp rfl (xa (.int .i64 x8_1) rfl) <| nx <| qu <| qU <| qk <| qk <| qU <| qk <| qk <| qy ?_
     obtain rfl := si H
     obtain rfl := si S17
     have H := C4
     obtain rfl := si H
     exact qT rfl (e13.t e25)
    ·refine qh (cb q26) <| qv <| yq <| qe <| qQ <| lp rfl (vE h15 rfl) <| lp rfl (xm (.int .i64 (IntKind.wrap .i64 (x8_1 + 1))) rfl) <| nx ?_
     obtain rfl := si H
     exact ⟨_, Nat.lt_succ_self _, IntKind.wrap .i64 (x8_1 + 1), (ku3 (ku8 K12 rfl) rfl), rfl, (e13.t e25), S17⟩
   ·refine qh (cb q18) <| vY <| vg <| vg <| yM <| qe ?_
    obtain rfl := si H
    obtain rfl := si S17
    exact ⟨(ku1 K12 rfl), e13, rfl⟩
 ·rintro s6 w5 ⟨K7, e8, y27⟩
  rw [y27] at C4
  have H := C4
  replace H : _ = some _ := H
  refine qe <| wr <| lp rfl (xa (.int .i64 (-1)) rfl) <| nx <| qu <| qy ?_
  obtain rfl := si H
  exact qT rfl e8
theorem qR.calls {w : World} {a0 : List Rec} {a1 : Rec → Option Bool} {r : Int} {v_a0 : Value} (f_a0 : Rd 5 ql w v_a0 a0) {v_a1 : Value} (f_a1 : ∀ (x0 : Rec) (r : Bool), a1 x0 = some r → jH Tryz.prog w v_a1 [(.agg (ql x0).toArray)] (.bool r)) (g_a1 : v_a1.cells = #[v_a1]) (h0 : a0.length ≤ 4611686018427387904) (H : (V3 a1 a0) = some r) :
  Calls Tryz.prog 138 #[v_a0, v_a1] w (Rt (RP w (.int .i64 r))) := by
 obtain ⟨k, h⟩ := qR.eq a0 a1 h0 H
 exact qR.walk f_a0 f_a1 g_a1 h
/-! impl.find -/
theorem ji.calls {w : World} {a0 : List Rec} {a1 : List UInt8} {v_a0 : Value} (f_a0 : Rd 5 ql w v_a0 a0) (h0 : a0.length ≤ 1048576) :
  Calls Tryz.prog 80 #[v_a0, S a1] w (Rt (RP w (.int .i64 (qJ a0 a1)))) := by
 have H := ji.eq a0 a1 h0
 generalize (qJ a0 a1) = r at H ⊢
 unfold ji.sh at H
 refine qp Tryz.func80 rfl (Nat.le_of_ble_eq_true rfl) Tryz.ntmps80 rfl ?_
 refine wr <| QS (.plain rfl) rfl (ltb rfl) rfl rfl <| fun b1 w2 z3 z4 e5 k6 => lp rfl (xa (.int .i64 0) rfl) <| nx <| wr <| lp rfl (xm v_a0 rfl) <| lp rfl (VV (vs := #[]) (us := #[.pointer (some ⟨b1, 0, none⟩)]) rfl rfl) ?_
 obtain ⟨c11, H⟩ := qa H
 obtain ⟨z12, x13, H⟩ := bind_some H
 refine lc rfl rfl Tryz.call138 (qR.calls (w := w2) (a0 := a0) (a1 := (fun (x0_ : Rec) => some (decide (x0_.path = a1)))) (Rd.ext f_a0 e5) (fun x0_ r h => by have h := si h; subst h; exact jH.mk Tryz.call139 (by rfl) fun w9 k10 => Qc.calls (w := w9) (a0 := x0_) (a1 := a1) (Blk.ext k6 k10)) rfl (od c11) x13) rfl <| fun w14 e15 => lp rfl (xa (.int .i64 z12) rfl) <| nx <| qu <| qy ?_
 obtain rfl := si H
 exact qT rfl (e5.t e15)
/-! impl.faultAt -/
abbrev qn.e1 (a0 : List Rec) (a1 : Int) (x6_19 : Int) := ([.inl (!(decide (qB (gt a0 a1) = 0))), .inr (qB (gt a0 a1)), .inl ((decide (0 < a1)) && (decide (((gt a0 (if ((IntKind.wrap .i64 (a1 - 1)) < 0 : Prop) then 0 else (IntKind.wrap .i64 (a1 - 1)))).path) = ((gt a0 a1).path)))), .inr 18, .inl ((decide (0 < a1)) && (!(yj ((gt a0 (if ((IntKind.wrap .i64 (a1 - 1)) < 0 : Prop) then 0 else (IntKind.wrap .i64 (a1 - 1)))).path) ((gt a0 a1).path)))), .inr 11, .inl (decide (x6_19 < 0)), .inr 12, .inl ((!decide ((qd ((gt a0 a1).path)) = ([] : List UInt8))) && (!decide (((gt a0 (if (x6_19 < 0 : Prop) then 0 else x6_19)).kind) = 3))), .inr 13] : List (Bool ⊕ Int))
abbrev qn.e2 (a1 : Int) := (if ((IntKind.wrap .i64 (a1 - 1)) < 0 : Prop) then 0 else (IntKind.wrap .i64 (a1 - 1)))
abbrev qn.e3 (a0 : List Rec) (a1 : Int) := (!decide ((qd ((gt a0 a1).path)) = ([] : List UInt8)))
abbrev qn.e4 (a0 : List Rec) (a1 : Int) (x6_19 : Int) := ([.inl (decide (16 ≤ a1)), .inr 6, .inl true, .inr (vA (qn.e1 a0 a1 x6_19))] : List (Bool ⊕ Int))
theorem qn.walk {w : World} {a0 : List Rec} {a1 : Int} (gv : GV 0 w) {v_a0 : Value} (f_a0 : Rd 5 ql w v_a0 a0) {r : Int} (H : qn.sh a0 a1 = some r) :
  Calls Tryz.prog 220 #[v_a0, .int .i64 a1] w (Rt (RP w (.int .i64 r))) := by
 unfold qn.sh at H
 refine qp Tryz.func220 rfl (Nat.le_of_ble_eq_true rfl) Tryz.ntmps220 rfl ?_
 refine wr <| lp rfl (xa (.int .i64 0) rfl) <| nx <| wr <| lp rfl (xm v_a0 rfl) <| lp rfl (xm (.int .i64 a1) rfl) ?_
 obtain ⟨c1, H⟩ := qa H
 refine vF (.plain rfl) rfl (ltb rfl) rfl Tryz.underlying35 Tryz.sizeOf52 rfl f_a0 rfl c1 <| fun p2 h3 => lp rfl (vN Tryz.isAgg52 Tryz.sizeOf52 rfl rfl h3) <| j7 (.plain rfl) rfl (ltb rfl) rfl Tryz.zeroValue52 <| fun b4 w5 z6 z7 e8 k9 => yk (.plain rfl) rfl rfl Tryz.sizeOf52 rfl rfl rfl rfl rfl k9 <| fun w10 h11 k12 => lp rfl (xa (.int .i64 0) rfl) <| nx <| qj <| wr <| lp rfl (qc Tryz.underlying52 rfl Tryz.sizeOf9 rfl rfl) <| lp rfl (qA Tryz.isAgg9 k12 rfl rfl) ?_
 obtain ⟨c13, H⟩ := qa H
 refine lc rfl rfl Tryz.call92 (ja.calls (w := w10) (a0 := (gt a0 a1).path) (od c13)) rfl <| fun w14 e15 => lp rfl (xa (S (qd ((gt a0 a1).path))) rfl) <| nx <| wr <| lp rfl (xm (S (qd ((gt a0 a1).path))) rfl) <| lp rfl (Qo rfl rfl) <| nx ?_
 obtain ⟨z16, L17, C18⟩ := bind_some H
 clear H
 refine vT (fun s0 sQ wQ => ∃ (x6_19 : Int), Kp [(6, 7), (17, 22)] s0 sQ ∧ sQ 6 = .int .i64 x6_19 ∧ Ext w14 wQ ∧ z16 = .inr x6_19) ?_ ?_
 ·have H := L17
  rcases qf H with ⟨q20, H⟩ | ⟨q20, H⟩
  ·refine qq (cb q20) <| qQ <| lp rfl (xm v_a0 rfl) <| lp rfl (xm (.int .i64 a1) rfl) ?_
   obtain ⟨c21, H⟩ := qa H
   refine L_sub (.plain rfl) rfl (ltb rfl) rfl Tryz.underlying35 Tryz.sizeOf52 rfl (Rd.ext f_a0 (Ext.trans (Below.trans e8 (Wr.below h11 (Nat.le_of_eq z6))) e15)) (l := 0) (h := a1) rfl ⟨_, rfl⟩ c21 <| fun v22 h23 => lp rfl (xm (S (qd ((gt a0 a1).path))) rfl) ?_
   obtain ⟨c24, H⟩ := qa H
   refine lc rfl rfl Tryz.call80 (ji.calls (w := w14) (a0 := sub a0 0 a1) (a1 := (qd ((gt a0 a1).path))) h23 (od c24)) rfl <| fun w25 e26 => lp rfl (xa (.int .i64 (qJ (sub a0 0 a1) (qd ((gt a0 a1).path)))) rfl) <| nx ?_
   obtain rfl := si H
   exact ⟨(qJ (sub a0 0 a1) (qd ((gt a0 a1).path))), (ku2 (ku4 kz rfl) rfl), rfl, e26, rfl⟩
  ·refine qh (cb q20) <| qv <| qe ?_
   obtain rfl := si H
   exact ⟨0, kz, rfl, er, rfl⟩
 ·rintro s28 w27 ⟨x6_19, K29, h32, e30, y31⟩
  rw [y31] at C18
  have H := C18
  refine qe <| qj ?_
  obtain ⟨c37, H⟩ := qa H
  obtain ⟨c40, H⟩ := qa H
  obtain ⟨c45, H⟩ := qa H
  obtain ⟨c48, H⟩ := qa H
  obtain ⟨c57, H⟩ := qa H
  obtain ⟨c66, H⟩ := qa H
  refine Yv [LEq (.int .i64 a1), LEq (.bool (decide (16 ≤ a1))), LEq (.iface 4 (.bool (decide (16 ≤ a1)))), LEq (.iface 3 (.int .i64 6)), LEq (.iface 4 (.bool true)), LEq (.agg #[(.int .i64 ((gt a0 a1).kind)), (S ((gt a0 a1).path)), (S ((gt a0 a1).body)), (.int .i64 ((gt a0 a1).mode)), (.bool ((gt a0 a1).opq))]), LEq (.bool (decide (qB (gt a0 a1) = 0))), LEq (.bool (!(decide (qB (gt a0 a1) = 0)))), LEq (.iface 4 (.bool (!(decide (qB (gt a0 a1) = 0))))), LEq (.agg #[(.int .i64 ((gt a0 a1).kind)), (S ((gt a0 a1).path)), (S ((gt a0 a1).body)), (.int .i64 ((gt a0 a1).mode)), (.bool ((gt a0 a1).opq))]), LEq (.int .i64 (qB (gt a0 a1))), LEq (.iface 3 (.int .i64 (qB (gt a0 a1)))), LEq (.int .i64 a1), LEq (.bool (decide (0 < a1))), LEq (.bool (decide (0 < a1))), LIf (decide (0 < a1)) (LEq v_a0), LIf (decide (0 < a1)) (LEq (.int .i64 a1)), LIf (decide (0 < a1)) (LEq (.int .i64 (IntKind.wrap .i64 (a1 - 1)))), LIf (decide (0 < a1)) (LEq (.int .i64 (qn.e2 a1))), LIf (decide (0 < a1)) (yD (ql (gt a0 (qn.e2 a1)))), LIf (decide (0 < a1)) (LAt 1 (ql (gt a0 (qn.e2 a1)))), LIf (decide (0 < a1)) (LEq (S ((gt a0 (qn.e2 a1)).path))), LIf (decide (0 < a1)) (LEq (.pointer (some ⟨b4, 1, none⟩))), LIf (decide (0 < a1)) (LEq (S ((gt a0 a1).path))), LIf (decide (0 < a1)) (LEq (.bool (decide (((gt a0 (qn.e2 a1)).path) = ((gt a0 a1).path))))), LEq (.bool ((decide (0 < a1)) && (decide (((gt a0 (qn.e2 a1)).path) = ((gt a0 a1).path))))), LEq (.iface 4 (.bool ((decide (0 < a1)) && (decide (((gt a0 (qn.e2 a1)).path) = ((gt a0 a1).path)))))), LEq (.iface 3 (.int .i64 18)), LEq (.int .i64 a1), LEq (.bool (decide (0 < a1))), LEq (.bool (decide (0 < a1))), LIf (decide (0 < a1)) (LEq v_a0), LIf (decide (0 < a1)) (LEq (.int .i64 a1)), LIf (decide (0 < a1)) (LEq (.int .i64 (IntKind.wrap .i64 (a1 - 1)))), LIf (decide (0 < a1)) (LEq (.int .i64 (qn.e2 a1))), LIf (decide (0 < a1)) (yD (ql (gt a0 (qn.e2 a1)))), LIf (decide (0 < a1)) (LAt 1 (ql (gt a0 (qn.e2 a1)))), LIf (decide (0 < a1)) (LEq (S ((gt a0 (qn.e2 a1)).path))), LIf (decide (0 < a1)) (LEq (.pointer (some ⟨b4, 1, none⟩))), LIf (decide (0 < a1)) (LEq (S ((gt a0 a1).path))), LIf (decide (0 < a1)) (LEq (.bool (yj ((gt a0 (qn.e2 a1)).path) ((gt a0 a1).path)))), LIf (decide (0 < a1)) (LEq (.bool (!(yj ((gt a0 (qn.e2 a1)).path) ((gt a0 a1).path))))), LEq (.bool ((decide (0 < a1)) && (!(yj ((gt a0 (qn.e2 a1)).path) ((gt a0 a1).path))))), LEq (.iface 4 (.bool ((decide (0 < a1)) && (!(yj ((gt a0 (qn.e2 a1)).path) ((gt a0 a1).path)))))), LEq (.iface 3 (.int .i64 11)), LEq (.int .i64 x6_19), LEq (.bool (decide (x6_19 < 0))), LEq (.iface 4 (.bool (decide (x6_19 < 0)))), LEq (.iface 3 (.int .i64 12)), LEq (.pointer (some ⟨b4, 1, none⟩)), LEq (S ((gt a0 a1).path)), LEq (S (qd ((gt a0 a1).path))), LEq (.bool (qn.e3 a0 a1)), LEq (.bool (qn.e3 a0 a1)), LIf (qn.e3 a0 a1) (LEq v_a0), LIf (qn.e3 a0 a1) (LEq (.int .i64 x6_19)), LIf (qn.e3 a0 a1) (LEq (.int .i64 (if (x6_19 < 0 : Prop) then 0 else x6_19))), LIf (qn.e3 a0 a1) (yD (ql (gt a0 (if (x6_19 < 0 : Prop) then 0 else x6_19)))), LIf (qn.e3 a0 a1) (LAt 0 (ql (gt a0 (if (x6_19 < 0 : Prop) then 0 else x6_19)))), LIf (qn.e3 a0 a1) (LEq (.int .i64 ((gt a0 (if (x6_19 < 0 : Prop) then 0 else x6_19)).kind))), LIf (qn.e3 a0 a1) (LEq (.bool (!decide (((gt a0 (if (x6_19 < 0 : Prop) then 0 else x6_19)).kind) = 3)))), LEq (.bool ((qn.e3 a0 a1) && (!decide (((gt a0 (if (x6_19 < 0 : Prop) then 0 else x6_19)).kind) = 3)))), LEq (.iface 4 (.bool ((qn.e3 a0 a1) && (!decide (((gt a0 (if (x6_19 < 0 : Prop) then 0 else x6_19)).kind) = 3))))), LEq (.iface 3 (.int .i64 13)), LRd 1 (Qw 4 3) (qn.e1 a0 a1 x6_19), LEq (.int .i64 (vA (qn.e1 a0 a1 x6_19))), LEq (.iface 3 (.int .i64 (vA (qn.e1 a0 a1 x6_19)))), LRd 1 (Qw 4 3) (qn.e4 a0 a1 x6_19), LEq (.int .i64 (vA (qn.e4 a0 a1 x6_19))), LEq (.int .i64 (vA (qn.e4 a0 a1 x6_19)))] (by kernel_rfl) (by kernel_rfl) ⟨qm, qm, qm, qm, qm, qm, qm, qm, qm, qm, qm, qm, qm, qm, qm, lm, lm, lm, lm, (LIf.mono yD.mono), (LIf.mono LAt.mono), lm, lm, lm, lm, qm, qm, qm, qm, qm, qm, lm, lm, lm, lm, (LIf.mono yD.mono), (LIf.mono LAt.mono), lm, lm, lm, lm, lm, qm, qm, qm, qm, qm, qm, qm, qm, qm, qm, qm, qm, lm, lm, lm, (LIf.mono yD.mono), (LIf.mono LAt.mono), lm, lm, qm, qm, qm, LRd.mono, qm, qm, LRd.mono, qm, qm, trivial⟩ ⟨?_, ?_, ?_, ?_, ?_, ?_, ?_, ?_, ?_, ?_, ?_, ?_, ?_, ?_, ?_, ?_, ?_, ?_, ?_, ?_, ?_, ?_, ?_, ?_, ?_, ?_, ?_, ?_, ?_, ?_, ?_, ?_, ?_, ?_, ?_, ?_, ?_, ?_, ?_, ?_, ?_, ?_, ?_, ?_, ?_, ?_, ?_, ?_, ?_, ?_, ?_, ?_, ?_, ?_, ?_, ?_, ?_, ?_, ?_, ?_, ?_, ?_, ?_, ?_, ?_, ?_, ?_, ?_, ?_, ?_, trivial⟩ ?_
  ·exact fun s x e f d u => lp rfl (xm (.int .i64 a1) ((f 1 rfl).trans (K29 1 rfl))) <| se rfl rfl
  ·exact fun s x e f d u => lp rfl (VZ (d 0 rfl) rfl) <| se rfl rfl
  ·exact fun s x e f d u => lp rfl (vh Tryz.underlying4 rfl (d 1 rfl)) <| se rfl rfl
  ·exact fun s x e f d u => lp rfl (vh Tryz.underlying3 rfl rfl) <| se rfl rfl
  ·exact fun s x e f d u => lp rfl (vh Tryz.underlying4 rfl rfl) <| se rfl rfl
  ·exact fun s x e f d u => lp rfl (vN Tryz.isAgg52 Tryz.sizeOf52 rfl ((f 5 rfl).trans (K29 5 rfl)) (Blk.at0 (Blk.ext k12 ((e15.t e30).t e)))) <| se rfl rfl
  ·exact fun s x e f d u => lc rfl rfl Tryz.call157 (jN.calls (w := x) (a0 := (gt a0 a1)) (GV.ext gv (Ext.trans (Ext.trans (Ext.trans (Below.trans e8 (Wr.below h11 (Nat.le_of_eq z6))) e15) e30) e))) (vu (d 5 rfl) rfl) <| fun w69 e70 => sx rfl e70 rfl
  ·exact fun s x e f d u => lp rfl (jh (d 6 rfl)) <| se rfl rfl
  ·exact fun s x e f d u => lp rfl (vh Tryz.underlying4 rfl (d 7 rfl)) <| se rfl rfl
  ·exact fun s x e f d u => lp rfl (vN Tryz.isAgg52 Tryz.sizeOf52 rfl ((f 5 rfl).trans (K29 5 rfl)) (Blk.at0 (Blk.ext k12 ((e15.t e30).t e)))) <| se rfl rfl
  ·exact fun s x e f d u => lc rfl rfl Tryz.call211 (qi.calls (w := x) (a0 := (gt a0 a1)) (GV.ext gv (Ext.trans (Ext.trans (Ext.trans (Below.trans e8 (Wr.below h11 (Nat.le_of_eq z6))) e15) e30) e))) (vu (d 9 rfl) rfl) <| fun w71 e72 => sx rfl e72 rfl
  ·exact fun s x e f d u => lp rfl (vh Tryz.underlying3 rfl (d 10 rfl)) <| se rfl rfl
  ·exact fun s x e f d u => lp rfl (xm (.int .i64 a1) ((f 1 rfl).trans (K29 1 rfl))) <| se rfl rfl
  ·exact fun s x e f d u => lp rfl (VE (d 12 rfl) rfl) <| se rfl rfl
  ·exact fun s x e f d u => lp rfl (qg (d 13 rfl)) <| se rfl rfl
  ·exact fun s x e f d u => gT rfl rfl rfl rfl (d 14 rfl) rfl fun b t => lt t rfl rfl (xm v_a0 ((f 0 rfl).trans (K29 0 rfl))) <| sg rfl rfl b rfl
  ·exact fun s x e f d u => gT rfl rfl rfl rfl (d 14 rfl) rfl fun b t => lt t rfl rfl (xm (.int .i64 a1) ((f 1 rfl).trans (K29 1 rfl))) <| sg rfl rfl b rfl
  ·exact fun s x e f d u => gT rfl rfl rfl rfl (d 14 rfl) rfl fun b t => lt t rfl rfl (V8 ((d 16 rfl).1 b) rfl) <| sg rfl rfl b rfl
  ·exact fun s x e f d u => gT rfl rfl rfl rfl (d 14 rfl) rfl fun b t => lt t rfl rfl (X_max ((d 17 rfl).1 b) rfl) <| sg rfl rfl b rfl
  ·exact fun s x e f d u => gT rfl rfl rfl rfl (d 14 rfl) rfl fun b t => vF t rfl (ltb rfl) rfl Tryz.underlying35 Tryz.sizeOf52 ((d 15 rfl).1 b) (Rd.ext f_a0 (Ext.trans (Ext.trans (Ext.trans (Below.trans e8 (Wr.below h11 (Nat.le_of_eq z6))) e15) e30) e)) ((d 18 rfl).1 b) (yY b c40) <| fun p74 h75 => sg rfl rfl b ⟨_, rfl, h75⟩
  ·intro s x e f d u
   refine gT rfl rfl rfl rfl (d 14 rfl) rfl fun b t => ?_
   obtain ⟨p76, h77, h78⟩ := ((d 19 rfl).1 b)
   exact lt t rfl rfl (qc Tryz.underlying52 rfl Tryz.sizeOf9 rfl h77) <| sg rfl rfl b ⟨_, rfl, h78⟩
  ·intro s x e f d u
   refine gT rfl rfl rfl rfl (d 14 rfl) rfl fun b t => ?_
   obtain ⟨p79, h80, h81⟩ := ((d 20 rfl).1 b)
   exact lt t rfl rfl (yZ Tryz.isAgg9 (j := 1) h81 h80 rfl) <| sg rfl rfl b rfl
  ·exact fun s x e f d u => gT rfl rfl rfl rfl (d 14 rfl) rfl fun b t => lt t rfl rfl (qc Tryz.underlying52 rfl Tryz.sizeOf9 rfl ((f 5 rfl).trans (K29 5 rfl))) <| sg rfl rfl b rfl
  ·exact fun s x e f d u => gT rfl rfl rfl rfl (d 14 rfl) rfl fun b t => lt t rfl rfl (qA Tryz.isAgg9 (Blk.ext k12 ((e15.t e30).t e)) ((d 22 rfl).1 b) rfl) <| sg rfl rfl b rfl
  ·exact fun s x e f d u => gT rfl rfl rfl rfl (d 14 rfl) rfl fun b t => lt t rfl rfl (Ym ((d 21 rfl).1 b) ((d 23 rfl).1 b)) <| sg rfl rfl b rfl
  ·exact fun s x e f d u => lp rfl (j4 (d 14 rfl) rfl fun h => ((d 24 rfl).1 h)) <| se rfl rfl
  ·exact fun s x e f d u => lp rfl (vh Tryz.underlying4 rfl (d 25 rfl)) <| se rfl rfl
  ·exact fun s x e f d u => lp rfl (vh Tryz.underlying3 rfl rfl) <| se rfl rfl
  ·exact fun s x e f d u => lp rfl (xm (.int .i64 a1) ((f 1 rfl).trans (K29 1 rfl))) <| se rfl rfl
  ·exact fun s x e f d u => lp rfl (VE (d 28 rfl) rfl) <| se rfl rfl
  ·exact fun s x e f d u => lp rfl (qg (d 29 rfl)) <| se rfl rfl
  ·exact fun s x e f d u => gT rfl rfl rfl rfl (d 30 rfl) rfl fun b t => lt t rfl rfl (xm v_a0 ((f 0 rfl).trans (K29 0 rfl))) <| sg rfl rfl b rfl
  ·exact fun s x e f d u => gT rfl rfl rfl rfl (d 30 rfl) rfl fun b t => lt t rfl rfl (xm (.int .i64 a1) ((f 1 rfl).trans (K29 1 rfl))) <| sg rfl rfl b rfl
  ·exact fun s x e f d u => gT rfl rfl rfl rfl (d 30 rfl) rfl fun b t => lt t rfl rfl (V8 ((d 32 rfl).1 b) rfl) <| sg rfl rfl b rfl
  ·exact fun s x e f d u => gT rfl rfl rfl rfl (d 30 rfl) rfl fun b t => lt t rfl rfl (X_max ((d 33 rfl).1 b) rfl) <| sg rfl rfl b rfl
  ·exact fun s x e f d u => gT rfl rfl rfl rfl (d 30 rfl) rfl fun b t => vF t rfl (ltb rfl) rfl Tryz.underlying35 Tryz.sizeOf52 ((d 31 rfl).1 b) (Rd.ext f_a0 (Ext.trans (Ext.trans (Ext.trans (Below.trans e8 (Wr.below h11 (Nat.le_of_eq z6))) e15) e30) e)) ((d 34 rfl).1 b) (yY b c40) <| fun p83 h84 => sg rfl rfl b ⟨_, rfl, h84⟩
  ·intro s x e f d u
   refine gT rfl rfl rfl rfl (d 30 rfl) rfl fun b t => ?_
   obtain ⟨p85, h86, h87⟩ := ((d 35 rfl).1 b)
   exact lt t rfl rfl (qc Tryz.underlying52 rfl Tryz.sizeOf9 rfl h86) <| sg rfl rfl b ⟨_, rfl, h87⟩
  ·intro s x e f d u
   refine gT rfl rfl rfl rfl (d 30 rfl) rfl fun b t => ?_
   obtain ⟨p88, h89, h90⟩ := ((d 36 rfl).1 b)
   exact lt t rfl rfl (yZ Tryz.isAgg9 (j := 1) h90 h89 rfl) <| sg rfl rfl b rfl
  ·exact fun s x e f d u => gT rfl rfl rfl rfl (d 30 rfl) rfl fun b t => lt t rfl rfl (qc Tryz.underlying52 rfl Tryz.sizeOf9 rfl ((f 5 rfl).trans (K29 5 rfl))) <| sg rfl rfl b rfl
  ·exact fun s x e f d u => gT rfl rfl rfl rfl (d 30 rfl) rfl fun b t => lt t rfl rfl (qA Tryz.isAgg9 (Blk.ext k12 ((e15.t e30).t e)) ((d 38 rfl).1 b) rfl) <| sg rfl rfl b rfl
  ·exact fun s x e f d u => gT rfl rfl rfl rfl (d 30 rfl) rfl fun b t => jf t rfl (ltb rfl) rfl Tryz.call37 (js.calls (w := x) (a0 := (gt a0 (qn.e2 a1)).path) (a1 := (gt a0 a1).path) (GV.ext gv (Ext.trans (Ext.trans (Ext.trans (Below.trans e8 (Wr.below h11 (Nat.le_of_eq z6))) e15) e30) e))) (vu ((d 37 rfl).1 b) (vu ((d 39 rfl).1 b) rfl)) <| fun w91 e92 => sgx rfl rfl b e92 rfl
  ·exact fun s x e f d u => gT rfl rfl rfl rfl (d 30 rfl) rfl fun b t => lt t rfl rfl (jh ((d 40 rfl).1 b)) <| sg rfl rfl b rfl
  ·exact fun s x e f d u => lp rfl (j4 (d 30 rfl) rfl fun h => ((d 41 rfl).1 h)) <| se rfl rfl
  ·exact fun s x e f d u => lp rfl (vh Tryz.underlying4 rfl (d 42 rfl)) <| se rfl rfl
  ·exact fun s x e f d u => lp rfl (vh Tryz.underlying3 rfl rfl) <| se rfl rfl
  ·exact fun s x e f d u => lp rfl (xm (.int .i64 x6_19) ((f 6 rfl).trans h32)) <| se rfl rfl
  ·exact fun s x e f d u => lp rfl (vI (d 45 rfl) rfl) <| se rfl rfl
  ·exact fun s x e f d u => lp rfl (vh Tryz.underlying4 rfl (d 46 rfl)) <| se rfl rfl
  ·exact fun s x e f d u => lp rfl (vh Tryz.underlying3 rfl rfl) <| se rfl rfl
  ·exact fun s x e f d u => lp rfl (qc Tryz.underlying52 rfl Tryz.sizeOf9 rfl ((f 5 rfl).trans (K29 5 rfl))) <| se rfl rfl
  ·exact fun s x e f d u => lp rfl (qA Tryz.isAgg9 (Blk.ext k12 ((e15.t e30).t e)) (d 49 rfl) rfl) <| se rfl rfl
  ·exact fun s x e f d u => lc rfl rfl Tryz.call92 (ja.calls (w := x) (a0 := (gt a0 a1).path) (od c45)) (vu (d 50 rfl) rfl) <| fun w94 e95 => sx rfl e95 rfl
  ·exact fun s x e f d u => lp rfl (Qo (d 51 rfl) rfl) <| se rfl rfl
  ·exact fun s x e f d u => lp rfl (qg (d 52 rfl)) <| se rfl rfl
  ·exact fun s x e f d u => gT rfl rfl rfl rfl (d 53 rfl) rfl fun b t => lt t rfl rfl (xm v_a0 ((f 0 rfl).trans (K29 0 rfl))) <| sg rfl rfl b rfl
  ·exact fun s x e f d u => gT rfl rfl rfl rfl (d 53 rfl) rfl fun b t => lt t rfl rfl (xm (.int .i64 x6_19) ((f 6 rfl).trans h32)) <| sg rfl rfl b rfl
  ·exact fun s x e f d u => gT rfl rfl rfl rfl (d 53 rfl) rfl fun b t => lt t rfl rfl (X_max ((d 55 rfl).1 b) rfl) <| sg rfl rfl b rfl
  ·exact fun s x e f d u => gT rfl rfl rfl rfl (d 53 rfl) rfl fun b t => vF t rfl (ltb rfl) rfl Tryz.underlying35 Tryz.sizeOf52 ((d 54 rfl).1 b) (Rd.ext f_a0 (Ext.trans (Ext.trans (Ext.trans (Below.trans e8 (Wr.below h11 (Nat.le_of_eq z6))) e15) e30) e)) ((d 56 rfl).1 b) (yY b c48) <| fun p97 h98 => sg rfl rfl b ⟨_, rfl, h98⟩
  ·intro s x e f d u
   refine gT rfl rfl rfl rfl (d 53 rfl) rfl fun b t => ?_
   obtain ⟨p99, h100, h101⟩ := ((d 57 rfl).1 b)
   exact lt t rfl rfl (qc Tryz.underlying52 rfl Tryz.sizeOf3 rfl h100) <| sg rfl rfl b ⟨_, rfl, h101⟩
  ·intro s x e f d u
   refine gT rfl rfl rfl rfl (d 53 rfl) rfl fun b t => ?_
   obtain ⟨p102, h103, h104⟩ := ((d 58 rfl).1 b)
   exact lt t rfl rfl (yZ Tryz.isAgg3 (j := 0) h104 h103 rfl) <| sg rfl rfl b rfl
  ·exact fun s x e f d u => gT rfl rfl rfl rfl (d 53 rfl) rfl fun b t => lt t rfl rfl (jJ ((d 59 rfl).1 b) rfl) <| sg rfl rfl b rfl
  ·exact fun s x e f d u => lp rfl (j4 (d 53 rfl) rfl fun h => ((d 60 rfl).1 h)) <| se rfl rfl
  ·exact fun s x e f d u => lp rfl (vh Tryz.underlying4 rfl (d 61 rfl)) <| se rfl rfl
  ·exact fun s x e f d u => lp rfl (vh Tryz.underlying3 rfl rfl) <| se rfl rfl
  ·exact fun s x e f d u => jg (.plain rfl) rfl (ltb rfl) rfl Tryz.underlying142 Tryz.sizeOf20 Tryz.zeroValue20 rfl rfl rfl (vs := [(.iface 4 (.bool (!(decide (qB (gt a0 a1) = 0))))), (.iface 3 (.int .i64 (qB (gt a0 a1)))), (.iface 4 (.bool ((decide (0 < a1)) && (decide (((gt a0 (qn.e2 a1)).path) = ((gt a0 a1).path)))))), (.iface 3 (.int .i64 18)), (.iface 4 (.bool ((decide (0 < a1)) && (!(yj ((gt a0 (qn.e2 a1)).path) ((gt a0 a1).path)))))), (.iface 3 (.int .i64 11)), (.iface 4 (.bool (decide (x6_19 < 0)))), (.iface 3 (.int .i64 12)), (.iface 4 (.bool ((qn.e3 a0 a1) && (!decide (((gt a0 (if (x6_19 < 0 : Prop) then 0 else x6_19)).kind) = 3))))), (.iface 3 (.int .i64 13))]) (vu (d 8 rfl) (vu (d 11 rfl) (vu (d 26 rfl) (vu (d 27 rfl) (vu (d 43 rfl) (vu (d 44 rfl) (vu (d 47 rfl) (vu (d 48 rfl) (vu (d 62 rfl) (vu (d 63 rfl) rfl)))))))))) (vM rfl) <| fun b105 w106 z107 z108 e109 k110 => sx rfl e109 (Ow.rd (Ow.new (xs := [.inl (!(decide (qB (gt a0 a1) = 0))), .inr (qB (gt a0 a1)), .inl ((decide (0 < a1)) && (decide (((gt a0 (qn.e2 a1)).path) = ((gt a0 a1).path)))), .inr 18, .inl ((decide (0 < a1)) && (!(yj ((gt a0 (qn.e2 a1)).path) ((gt a0 a1).path)))), .inr 11, .inl (decide (x6_19 < 0)), .inr 12, .inl ((qn.e3 a0 a1) && (!decide (((gt a0 (if (x6_19 < 0 : Prop) then 0 else x6_19)).kind) = 3))), .inr 13]) (sz := 1) (enc := (Qw 4 3)) (base := x.heap.size) k110 (Nat.le_of_eq z107) rfl (fun _ _ => by first | rfl | exact VL _ _ _) (Nat.le_of_ble_eq_true rfl)))
  ·intro s x e f d u
   have d111 : Rd 1 (Qw 4 3) x (s 86) (qn.e1 a0 a1 x6_19) := (d 64 rfl)
   exact lc rfl rfl Tryz.call77 (yg.calls (w := x) (a0 := (qn.e1 a0 a1 x6_19)) d111 (od c57)) rfl <| fun w113 e114 => sx rfl e114 rfl
  ·exact fun s x e f d u => lp rfl (vh Tryz.underlying3 rfl (d 65 rfl)) <| se rfl rfl
  ·exact fun s x e f d u => jg (.plain rfl) rfl (ltb rfl) rfl Tryz.underlying142 Tryz.sizeOf20 Tryz.zeroValue20 rfl rfl rfl (vs := [(.iface 4 (.bool (decide (16 ≤ a1)))), (.iface 3 (.int .i64 6)), (.iface 4 (.bool true)), (.iface 3 (.int .i64 (vA (qn.e1 a0 a1 x6_19))))]) (vu (d 2 rfl) (vu (d 3 rfl) (vu (d 4 rfl) (vu (d 66 rfl) rfl)))) (vM rfl) <| fun b115 w116 z117 z118 e119 k120 => sx rfl e119 (Ow.rd (Ow.new (xs := [.inl (decide (16 ≤ a1)), .inr 6, .inl true, .inr (vA (qn.e1 a0 a1 x6_19))]) (sz := 1) (enc := (Qw 4 3)) (base := x.heap.size) k120 (Nat.le_of_eq z117) rfl (fun _ _ => by first | rfl | exact VL _ _ _) (Nat.le_of_ble_eq_true rfl)))
  ·intro s x e f d u
   have d121 : Rd 1 (Qw 4 3) x (s 89) (qn.e4 a0 a1 x6_19) := (d 67 rfl)
   exact lc rfl rfl Tryz.call77 (yg.calls (w := x) (a0 := (qn.e4 a0 a1 x6_19)) d121 (od c66)) rfl <| fun w123 e124 => sx rfl e124 rfl
  ·exact fun s x e f d u => lp rfl (qC (d 68 rfl)) <| se rfl rfl
  intro s125 w126 e127 hf128 ha129
  have K130 := Kp.ofD (kp := [(4, 5), (22, 91)]) rfl hf128
  have d131 : s125 4 = (.int .i64 (vA (qn.e4 a0 a1 x6_19))) := ha129 69 rfl
  clear ha129 hf128
  refine qe <| qu <| qy ?_
  obtain rfl := si H
  exact qT d131 (Ext.trans (Ext.trans (Ext.trans (Below.trans e8 (Wr.below h11 (Nat.le_of_eq z6))) e15) e30) e127)
theorem qn.calls {w : World} {a0 : List Rec} {a1 : Int} (gv : GV 0 w) {v_a0 : Value} (f_a0 : Rd 5 ql w v_a0 a0) (h0 : a0.length ≤ 1048576) (h1 : ∀ x ∈ a0, x.path.length ≤ 1048576) (h2 : inR a1 a0.length = true) :
  Calls Tryz.prog 220 #[v_a0, .int .i64 a1] w (Rt (RP w (.int .i64 (faultAt a0 a1)))) := qn.walk gv f_a0 (qn.eq a0 a1 h0 h1 h2)
/-! impl.fault -/
theorem vU.walk {k : Nat} {w : World} {a0 : List Rec} (gv : GV 0 w) {v_a0 : Value} (f_a0 : Rd 5 ql w v_a0 a0) {r : Int × Int} (H : vU.sh k a0 = some r) :
  Calls Tryz.prog 185 #[v_a0] w (Rt (RP w (.tuple #[.int .i64 r.1, .int .i64 r.2]))) := by
 unfold vU.sh at H
 refine qp Tryz.func185 rfl (Nat.le_of_ble_eq_true rfl) Tryz.ntmps185 rfl ?_
 refine wr <| lp rfl (xa (.int .i64 0) rfl) <| lp rfl (xa (.int .i64 0) rfl) <| nx <| qj <| wr <| lp rfl (xm v_a0 rfl) <| lp rfl (vf Tryz.underlying35 rfl f_a0) <| lp rfl (xm (.int .i64 0) rfl) <| nx ?_
 obtain ⟨z2, L3, C4⟩ := bind_some H
 clear H
 refine  vT (fun s0 sQ wQ => Kp [(2, 6), (8, 19)] s0 sQ ∧ Ext w wQ ∧ z2 = .inr ()) ?_ ?_
 ·refine qH <| vy (fun s0 kk sQ wQ => ∃ (x8_1 : Int), Kp [(2, 6), (8, 19)] s0 sQ ∧ sQ 8 = .int .i64 x8_1 ∧ Ext w wQ ∧ qr (vU.b1 a0) kk x8_1 = some z2) k ⟨0, kz, rfl, er, L3⟩ ?_
  rintro k9 s10 w11 ⟨x8_1, K12, h15, e13, L14⟩
  cases k9 with
  | zero => exact absurd L14 (by simp [qr])
  | succ k9 =>
   obtain ⟨t16, H, S17⟩ := qO L14
   clear L14
   unfold vU.b1 at H
   refine wr <| lp rfl (vI h15 (K12 7 rfl)) <| nx <| qj ?_
   rcases qf H with ⟨q18, H⟩ | ⟨q18, H⟩
   ·refine qq (cb q18) <| qv <| qe <| qj <| qH <| wr <| lp rfl (qg h15) <| lp rfl (xa (.int .i64 x8_1) rfl) <| nx <| wr <| lp rfl (xm v_a0 (K12 0 rfl)) <| lp rfl (xm (.int .i64 x8_1) rfl) ?_
    obtain ⟨c19, H⟩ := qa H
    obtain ⟨c20, H⟩ := qa H
    obtain ⟨c21, H⟩ := qa H
    refine lc rfl rfl Tryz.call220 (qn.calls (w := w11) (a0 := a0) (a1 := x8_1) (GV.ext gv e13) (Rd.ext f_a0 e13) (od c19) (od c20) (od c21)) rfl <| fun w22 e23 => lp rfl (xa (.int .i64 (faultAt a0 x8_1)) rfl) <| nx <| wr <| lp rfl (xm (.int .i64 (faultAt a0 x8_1)) rfl) <| lp rfl (jJ rfl rfl) <| nx ?_
    rcases qf H with ⟨q24, H⟩ | ⟨q24, H⟩
    ·refine qq (cb q24) <| wr <| lp rfl (xm (.int .i64 x8_1) rfl) <| lp rfl (xm (.int .i64 (faultAt a0 x8_1)) rfl) <| lp rfl (xa (.int .i64 x8_1) rfl) <| lp rfl (xa (.int .i64 (faultAt a0 x8_1)) rfl) <| nx <| qu <| qU <| qk <| qk <| qU <| qk <| qk <| qy ?_
     obtain rfl := si H
     obtain rfl := si S17
     have H := C4
     obtain rfl := si H
     exact Gd rfl rfl (e13.t e23)
    ·refine qh (cb q24) <| qv <| yq <| qe <| qQ <| lp rfl (vE h15 rfl) <| lp rfl (xm (.int .i64 (IntKind.wrap .i64 (x8_1 + 1))) rfl) <| nx ?_
     obtain rfl := si H
     exact ⟨_, Nat.lt_succ_self _, IntKind.wrap .i64 (x8_1 + 1), (ku3 (ku8 K12 rfl) rfl), rfl, (e13.t e23), S17⟩
   ·refine qh (cb q18) <| vY <| vg <| vg <| yM <| qe ?_
    obtain rfl := si H
    obtain rfl := si S17
    exact ⟨(ku1 K12 rfl), e13, rfl⟩
 ·rintro s6 w5 ⟨K7, e8, y25⟩
  rw [y25] at C4
  have H := C4
  replace H : _ = some _ := H
  refine qe <| wr <| lp rfl (xa (.int .i64 0) rfl) <| lp rfl (xa (.int .i64 0) rfl) <| nx <| qu <| qy ?_
  obtain rfl := si H
  exact Gd rfl rfl e8
theorem vU.calls {w : World} {a0 : List Rec} (gv : GV 0 w) {v_a0 : Value} (f_a0 : Rd 5 ql w v_a0 a0) (h0 : a0.length ≤ 1048576) (h1 : ∀ x ∈ a0, x.path.length ≤ 1048576) :
  Calls Tryz.prog 185 #[v_a0] w (Rt (RP w (.tuple #[.int .i64 ((qo a0).1), .int .i64 ((qo a0).2)]))) := by
 obtain ⟨k, h⟩ := vU.eq a0 h0 h1
 exact vU.walk gv f_a0 h
/-! impl.LayerFault -/
theorem yb.walk {w : World} {a0 : List Rec} (gv : GV 0 w) {v_a0 : Value} (f_a0 : Rd 5 ql w v_a0 a0) {r : Int × Int} (H : yb.sh a0 = some r) :
  Calls Tryz.prog 126 #[v_a0] w (Rt (RP w (.tuple #[.int .i64 r.1, .int .i64 r.2]))) := by
 unfold yb.sh at H
 refine qp Tryz.func126 rfl (Nat.le_of_ble_eq_true rfl) Tryz.ntmps126 rfl ?_
 refine wr <| lp rfl (xa (.int .i64 0) rfl) <| lp rfl (xa (.int .i64 0) rfl) <| nx <| qj <| wr <| lp rfl (xm v_a0 rfl) <| lc rfl rfl Tryz.call78 (yd.calls (w := w) (a0 := a0) f_a0) rfl <| fun w1 e2 => nx ?_
 rcases qf H with ⟨q3, H⟩ | ⟨q3, H⟩
 ·refine qq (cb q3) <| wr <| lp rfl (xa (.int .i64 0) rfl) <| lp rfl (xa (.int .i64 2) rfl) <| nx <| qu <| qk <| qy ?_
  obtain rfl := si H
  exact Gd rfl rfl e2
 ·refine qh (cb q3) <| qv <| qe <| wr <| lp rfl (xm v_a0 rfl) ?_
  obtain ⟨c4, H⟩ := qa H
  obtain ⟨c5, H⟩ := qa H
  refine lc rfl rfl Tryz.call185 (vU.calls (w := w1) (a0 := a0) (GV.ext gv e2) (Rd.ext f_a0 e2) (od c4) (od c5)) rfl <| fun w6 e7 => lp rfl (vR (v := (.int .i64 ((qo a0).1))) rfl rfl) <| lp rfl (vR (v := (.int .i64 ((qo a0).2))) rfl rfl) <| lp rfl (xa (.int .i64 ((qo a0).1)) rfl) <| lp rfl (xa (.int .i64 ((qo a0).2)) rfl) <| nx <| qu <| qy ?_
  obtain rfl := si H
  exact Gd rfl rfl (e2.t e7)
theorem yb.calls {w : World} {a0 : List Rec} (gv : GV 0 w) {v_a0 : Value} (f_a0 : Rd 5 ql w v_a0 a0) (h0 : a0.length ≤ 1048576) (h1 : ∀ x ∈ a0, x.path.length ≤ 1048576) :
  Calls Tryz.prog 126 #[v_a0] w (Rt (RP w (.tuple #[.int .i64 ((vn a0).1), .int .i64 ((vn a0).2)]))) := yb.walk gv f_a0 (yb.eq a0 h0 h1)
/-! laws.eqRecordS -/
theorem vj.calls {w : World} {a0 : List Rec} {a1 : List Rec} {v_a0 : Value} (f_a0 : Rd 5 ql w v_a0 a0) {v_a1 : Value} (f_a1 : Rd 5 ql w v_a1 a1) (h0 : a0.length ≤ 4611686018427387904) :
  Calls Tryz.prog 43 #[v_a0, v_a1] w (Rt (RP w (.bool (decide (a0 = a1))))) := by
 obtain ⟨k, H⟩ := vj.eq a0 a1 h0
 generalize (decide (a0 = a1)) = r at H ⊢
 unfold vj.sh at H
 refine qp Tryz.func43 rfl (Nat.le_of_ble_eq_true rfl) Tryz.ntmps43 rfl ?_
 refine wr <| lp rfl (xa (.bool false) rfl) <| nx <| qj <| wr <| lp rfl (xm v_a0 rfl) <| lp rfl (vf Tryz.underlying35 rfl f_a0) <| lp rfl (xm v_a1 rfl) <| lp rfl (vf Tryz.underlying35 rfl f_a1) <| lp rfl (jJ rfl rfl) <| nx ?_
 rcases qf H with ⟨q1, H⟩ | ⟨q1, H⟩
 ·refine qq (cb q1) <| wr <| lp rfl (xa (.bool false) rfl) <| nx <| qu <| qk <| qy ?_
  obtain rfl := si H
  exact qT rfl er
 ·refine qh (cb q1) <| qv <| qe <| qj <| wr <| lp rfl (xa (.int .i64 0) rfl) <| nx ?_
  obtain ⟨z3, L4, C5⟩ := bind_some H
  clear H
  refine  vT (fun s0 sQ wQ => Kp [(4, 6), (11, 27)] s0 sQ ∧ Ext w wQ ∧ z3 = .inr ()) ?_ ?_
  ·refine qH <| vy (fun s0 kk sQ wQ => ∃ (x5_2 : Int), Kp [(4, 6), (11, 27)] s0 sQ ∧ sQ 5 = .int .i64 x5_2 ∧ Ext w wQ ∧ qr (vj.b1 a0 a1) kk x5_2 = some z3) k ⟨0, kz, rfl, er, L4⟩ ?_
   rintro k10 s11 w12 ⟨x5_2, K13, h16, e14, L15⟩
   cases k10 with
   | zero => exact absurd L15 (by simp [qr])
   | succ k10 =>
    obtain ⟨t17, H, S18⟩ := qO L15
    clear L15
    unfold vj.b1 at H
    refine qj <| wr <| lp rfl (qg h16) <| lp rfl (xm v_a0 (K13 0 rfl)) <| lp rfl (vf Tryz.underlying35 rfl (Rd.ext f_a0 e14)) <| lp rfl (vI rfl rfl) <| nx ?_
    rcases qf H with ⟨q19, H⟩ | ⟨q19, H⟩
    ·refine qq (cb q19) <| qv <| qe <| qj <| qH <| qj ?_
     obtain ⟨c20, H⟩ := qa H
     obtain ⟨c23, H⟩ := qa H
     refine Yv [LEq v_a0, LEq (.int .i64 x5_2), yD (ql (gt a0 x5_2)), LEq (.agg (ql (gt a0 x5_2)).toArray), LEq v_a1, LEq (.int .i64 x5_2), yD (ql (gt a1 x5_2)), LEq (.agg (ql (gt a1 x5_2)).toArray), LEq (.bool (decide ((gt a0 x5_2) = (gt a1 x5_2)))), LEq (.bool (!(decide ((gt a0 x5_2) = (gt a1 x5_2)))))] (by kernel_rfl) (by kernel_rfl) ⟨qm, qm, yD.mono, qm, qm, qm, yD.mono, qm, qm, qm, trivial⟩ ⟨?_, ?_, ?_, ?_, ?_, ?_, ?_, ?_, ?_, ?_, trivial⟩ ?_
     ·exact fun s x e f d u => lp rfl (xm v_a0 ((f 0 rfl).trans (K13 0 rfl))) <| se rfl rfl
     ·exact fun s x e f d u => lp rfl (xm (.int .i64 x5_2) ((f 5 rfl).trans h16)) <| se rfl rfl
     ·exact fun s x e f d u => vF (.plain rfl) rfl (ltb rfl) rfl Tryz.underlying35 Tryz.sizeOf52 (d 0 rfl) (Rd.ext f_a0 (e14.t e)) (d 1 rfl) c20 <| fun p29 h30 => se rfl ⟨_, rfl, h30⟩
     ·intro s x e f d u
      obtain ⟨p31, h32, h33⟩ := (d 2 rfl)
      exact lp rfl (vN Tryz.isAgg52 Tryz.sizeOf52 rfl h32 h33) <| se rfl rfl
     ·exact fun s x e f d u => lp rfl (xm v_a1 ((f 1 rfl).trans (K13 1 rfl))) <| se rfl rfl
     ·exact fun s x e f d u => lp rfl (xm (.int .i64 x5_2) ((f 5 rfl).trans h16)) <| se rfl rfl
     ·exact fun s x e f d u => vF (.plain rfl) rfl (ltb rfl) rfl Tryz.underlying35 Tryz.sizeOf52 (d 4 rfl) (Rd.ext f_a1 (e14.t e)) (d 5 rfl) c23 <| fun p35 h36 => se rfl ⟨_, rfl, h36⟩
     ·intro s x e f d u
      obtain ⟨p37, h38, h39⟩ := (d 6 rfl)
      exact lp rfl (vN Tryz.isAgg52 Tryz.sizeOf52 rfl h38 h39) <| se rfl rfl
     ·exact fun s x e f d u => lc rfl rfl Tryz.call110 (jw.calls (w := x) (a0 := gt a0 x5_2) (a1 := gt a1 x5_2)) (vu (d 3 rfl) (vu (d 7 rfl) rfl)) <| fun w40 e41 => sx rfl e41 rfl
     ·exact fun s x e f d u => lp rfl (jh (d 8 rfl)) <| se rfl rfl
     intro s42 w43 e44 hf45 ha46
     have K47 := Kp.ofD (kp := [(17, 27)]) rfl hf45
     have d48 : s42 26 = (.bool (!(decide ((gt a0 x5_2) = (gt a1 x5_2))))) := ha46 9 rfl
     clear ha46 hf45
     refine qe ?_
     rcases qf H with ⟨q49, H⟩ | ⟨q49, H⟩
     ·refine qq (d48.trans (cb q49)) <| wr <| lp rfl (xa (.bool false) rfl) <| nx <| qu <| qU <| qk <| qk <| qU <| qk <| qk <| qy ?_
      obtain rfl := si H
      obtain rfl := si S18
      have H := C5
      obtain rfl := si H
      exact qT rfl (e14.t e44)
     ·refine qh (d48.trans (cb q49)) <| qv <| yq <| qe <| qQ <| lp rfl (xm (.int .i64 x5_2) ((K47 5 rfl).trans h16)) <| lp rfl (vE rfl rfl) <| lp rfl (xa (.int .i64 (IntKind.wrap .i64 (x5_2 + 1))) rfl) <| nx ?_
      obtain rfl := si H
      exact ⟨_, Nat.lt_succ_self _, IntKind.wrap .i64 (x5_2 + 1), (ku3 (Kp.cut (ku4 K13 rfl) K47 rfl) rfl), rfl, (e14.t e44), S18⟩
    ·refine qh (cb q19) <| vY <| vg <| vg <| yM <| qe ?_
     obtain rfl := si H
     obtain rfl := si S18
     exact ⟨(ku4 K13 rfl), e14, rfl⟩
  ·rintro s7 w6 ⟨K8, e9, y50⟩
   rw [y50] at C5
   have H := C5
   replace H : _ = some _ := H
   refine qe <| wr <| lp rfl (xa (.bool true) rfl) <| nx <| qu <| qy ?_
   obtain rfl := si H
   exact qT rfl e9
/-! spec.l03OK -/
theorem jS.calls {w : World} {a0 : List Rec} {v_a0 : Value} (f_a0 : Rd 5 ql w v_a0 a0) (h0 : a0.length ≤ 1048576) (h1 : ∀ x ∈ a0, x.path.length ≤ 1048576) :
  Calls Tryz.prog 74 #[v_a0] w (Rt (RP w (.bool (decide ((qo a0).2 = 0))))) := by
 have H := jS.eq a0 h0 h1
 generalize (decide ((qo a0).2 = 0)) = r at H ⊢
 unfold jS.sh at H
 refine qp Tryz.func74 rfl (Nat.le_of_ble_eq_true rfl) Tryz.ntmps74 rfl ?_
 refine wr <| lp rfl (xa (.bool false) rfl) <| nx <| wr <| lp rfl (xm v_a0 rfl) ?_
 obtain ⟨c1, H⟩ := qa H
 obtain ⟨c2, H⟩ := qa H
 refine lc rfl rfl Tryz.call133 (ve.calls (w := w) (a0 := a0) f_a0 (od c1) (od c2)) rfl <| fun w3 e4 => lp rfl (qg rfl) <| lp rfl (vR (v := (.int .i64 ((qo a0).1))) rfl rfl) <| lp rfl (vR (v := (.int .i64 ((qo a0).2))) rfl rfl) <| lp rfl (xa (.int .i64 ((qo a0).1)) rfl) <| lp rfl (xa (.int .i64 ((qo a0).2)) rfl) <| nx <| wr <| lp rfl (xm (.int .i64 ((qo a0).2)) rfl) <| lp rfl (yp rfl rfl) <| lp rfl (xa (.bool (decide (((qo a0).2) = 0))) rfl) <| nx <| qu <| qy ?_
 obtain rfl := si H
 exact qT rfl e4
/-! impl.LayerOK -/
theorem jk.calls {w : World} {a0 : List Rec} (gv : GV 0 w) {v_a0 : Value} (f_a0 : Rd 5 ql w v_a0 a0) (h0 : a0.length ≤ 1048576) (h1 : ∀ x ∈ a0, x.path.length ≤ 1048576) :
  Calls Tryz.prog 68 #[v_a0] w (Rt (RP w (.bool (decide ((vn a0).2 = 0))))) := by
 have H := jk.eq a0 h0 h1
 generalize (decide ((vn a0).2 = 0)) = r at H ⊢
 unfold jk.sh at H
 refine qp Tryz.func68 rfl (Nat.le_of_ble_eq_true rfl) Tryz.ntmps68 rfl ?_
 refine wr <| lp rfl (xa (.bool false) rfl) <| nx <| wr <| lp rfl (xm v_a0 rfl) ?_
 obtain ⟨c1, H⟩ := qa H
 obtain ⟨c2, H⟩ := qa H
 refine lc rfl rfl Tryz.call126 (yb.calls (w := w) (a0 := a0) gv f_a0 (od c1) (od c2)) rfl <| fun w3 e4 => lp rfl (qg rfl) <| lp rfl (vR (v := (.int .i64 ((vn a0).1))) rfl rfl) <| lp rfl (vR (v := (.int .i64 ((vn a0).2))) rfl rfl) <| lp rfl (xa (.int .i64 ((vn a0).1)) rfl) <| lp rfl (xa (.int .i64 ((vn a0).2)) rfl) <| nx <| wr <| lp rfl (xm (.int .i64 ((vn a0).2)) rfl) <| lp rfl (yp rfl rfl) <| lp rfl (xa (.bool (decide (((vn a0).2) = 0))) rfl) <| nx <| qu <| qy ?_
 obtain rfl := si H
 exact qT rfl e4
/-! laws.eqNodeS -/
theorem vH.calls {w : World} {a0 : List Nd} {a1 : List Nd} {v_a0 : Value} (f_a0 : Rd 4 yv w v_a0 a0) {v_a1 : Value} (f_a1 : Rd 4 yv w v_a1 a1) (h0 : a0.length ≤ 4611686018427387904) :
  Calls Tryz.prog 44 #[v_a0, v_a1] w (Rt (RP w (.bool (decide (a0 = a1))))) := by
 obtain ⟨k, H⟩ := vH.eq a0 a1 h0
 generalize (decide (a0 = a1)) = r at H ⊢
 unfold vH.sh at H
 refine qp Tryz.func44 rfl (Nat.le_of_ble_eq_true rfl) Tryz.ntmps44 rfl ?_
 refine wr <| lp rfl (xa (.bool false) rfl) <| nx <| qj <| wr <| lp rfl (xm v_a0 rfl) <| lp rfl (vf Tryz.underlying29 rfl f_a0) <| lp rfl (xm v_a1 rfl) <| lp rfl (vf Tryz.underlying29 rfl f_a1) <| lp rfl (jJ rfl rfl) <| nx ?_
 rcases qf H with ⟨q1, H⟩ | ⟨q1, H⟩
 ·refine qq (cb q1) <| wr <| lp rfl (xa (.bool false) rfl) <| nx <| qu <| qk <| qy ?_
  obtain rfl := si H
  exact qT rfl er
 ·refine qh (cb q1) <| qv <| qe <| qj <| wr <| lp rfl (xa (.int .i64 0) rfl) <| nx ?_
  obtain ⟨z3, L4, C5⟩ := bind_some H
  clear H
  refine  vT (fun s0 sQ wQ => Kp [(4, 6), (11, 27)] s0 sQ ∧ Ext w wQ ∧ z3 = .inr ()) ?_ ?_
  ·refine qH <| vy (fun s0 kk sQ wQ => ∃ (x5_2 : Int), Kp [(4, 6), (11, 27)] s0 sQ ∧ sQ 5 = .int .i64 x5_2 ∧ Ext w wQ ∧ qr (vH.b1 a0 a1) kk x5_2 = some z3) k ⟨0, kz, rfl, er, L4⟩ ?_
   rintro k10 s11 w12 ⟨x5_2, K13, h16, e14, L15⟩
   cases k10 with
   | zero => exact absurd L15 (by simp [qr])
   | succ k10 =>
    obtain ⟨t17, H, S18⟩ := qO L15
    clear L15
    unfold vH.b1 at H
    refine qj <| wr <| lp rfl (qg h16) <| lp rfl (xm v_a0 (K13 0 rfl)) <| lp rfl (vf Tryz.underlying29 rfl (Rd.ext f_a0 e14)) <| lp rfl (vI rfl rfl) <| nx ?_
    rcases qf H with ⟨q19, H⟩ | ⟨q19, H⟩
    ·refine qq (cb q19) <| qv <| qe <| qj <| qH <| qj ?_
     obtain ⟨c20, H⟩ := qa H
     obtain ⟨c23, H⟩ := qa H
     refine Yv [LEq v_a0, LEq (.int .i64 x5_2), yD (yv (gt a0 x5_2)), LEq (.agg (yv (gt a0 x5_2)).toArray), LEq v_a1, LEq (.int .i64 x5_2), yD (yv (gt a1 x5_2)), LEq (.agg (yv (gt a1 x5_2)).toArray), LEq (.bool (decide ((gt a0 x5_2) = (gt a1 x5_2)))), LEq (.bool (!(decide ((gt a0 x5_2) = (gt a1 x5_2)))))] (by kernel_rfl) (by kernel_rfl) ⟨qm, qm, yD.mono, qm, qm, qm, yD.mono, qm, qm, qm, trivial⟩ ⟨?_, ?_, ?_, ?_, ?_, ?_, ?_, ?_, ?_, ?_, trivial⟩ ?_
     ·exact fun s x e f d u => lp rfl (xm v_a0 ((f 0 rfl).trans (K13 0 rfl))) <| se rfl rfl
     ·exact fun s x e f d u => lp rfl (xm (.int .i64 x5_2) ((f 5 rfl).trans h16)) <| se rfl rfl
     ·exact fun s x e f d u => vF (.plain rfl) rfl (ltb rfl) rfl Tryz.underlying29 Tryz.sizeOf91 (d 0 rfl) (Rd.ext f_a0 (e14.t e)) (d 1 rfl) c20 <| fun p29 h30 => se rfl ⟨_, rfl, h30⟩
     ·intro s x e f d u
      obtain ⟨p31, h32, h33⟩ := (d 2 rfl)
      exact lp rfl (vN Tryz.isAgg91 Tryz.sizeOf91 rfl h32 h33) <| se rfl rfl
     ·exact fun s x e f d u => lp rfl (xm v_a1 ((f 1 rfl).trans (K13 1 rfl))) <| se rfl rfl
     ·exact fun s x e f d u => lp rfl (xm (.int .i64 x5_2) ((f 5 rfl).trans h16)) <| se rfl rfl
     ·exact fun s x e f d u => vF (.plain rfl) rfl (ltb rfl) rfl Tryz.underlying29 Tryz.sizeOf91 (d 4 rfl) (Rd.ext f_a1 (e14.t e)) (d 5 rfl) c23 <| fun p35 h36 => se rfl ⟨_, rfl, h36⟩
     ·intro s x e f d u
      obtain ⟨p37, h38, h39⟩ := (d 6 rfl)
      exact lp rfl (vN Tryz.isAgg91 Tryz.sizeOf91 rfl h38 h39) <| se rfl rfl
     ·exact fun s x e f d u => lc rfl rfl Tryz.call111 (jV.calls (w := x) (a0 := gt a0 x5_2) (a1 := gt a1 x5_2)) (vu (d 3 rfl) (vu (d 7 rfl) rfl)) <| fun w40 e41 => sx rfl e41 rfl
     ·exact fun s x e f d u => lp rfl (jh (d 8 rfl)) <| se rfl rfl
     intro s42 w43 e44 hf45 ha46
     have K47 := Kp.ofD (kp := [(17, 27)]) rfl hf45
     have d48 : s42 26 = (.bool (!(decide ((gt a0 x5_2) = (gt a1 x5_2))))) := ha46 9 rfl
     clear ha46 hf45
     refine qe ?_
     rcases qf H with ⟨q49, H⟩ | ⟨q49, H⟩
     ·refine qq (d48.trans (cb q49)) <| wr <| lp rfl (xa (.bool false) rfl) <| nx <| qu <| qU <| qk <| qk <| qU <| qk <| qk <| qy ?_
      obtain rfl := si H
      obtain rfl := si S18
      have H := C5
      obtain rfl := si H
      exact qT rfl (e14.t e44)
     ·refine qh (d48.trans (cb q49)) <| qv <| yq <| qe <| qQ <| lp rfl (xm (.int .i64 x5_2) ((K47 5 rfl).trans h16)) <| lp rfl (vE rfl rfl) <| lp rfl (xa (.int .i64 (IntKind.wrap .i64 (x5_2 + 1))) rfl) <| nx ?_
      obtain rfl := si H
      exact ⟨_, Nat.lt_succ_self _, IntKind.wrap .i64 (x5_2 + 1), (ku3 (Kp.cut (ku4 K13 rfl) K47 rfl) rfl), rfl, (e14.t e44), S18⟩
    ·refine qh (cb q19) <| vY <| vg <| vg <| yM <| qe ?_
     obtain rfl := si H
     obtain rfl := si S18
     exact ⟨(ku4 K13 rfl), e14, rfl⟩
  ·rintro s7 w6 ⟨K8, e9, y50⟩
   rw [y50] at C5
   have H := C5
   replace H : _ = some _ := H
   refine qe <| wr <| lp rfl (xa (.bool true) rfl) <| nx <| qu <| qy ?_
   obtain rfl := si H
   exact qT rfl e9
/-! spec.l03Under -/
theorem vK.calls {w : World} {a0 : List Rec} {a1 : List UInt8} {v_a0 : Value} (f_a0 : Rd 5 ql w v_a0 a0) (h0 : a0.length ≤ 1048576) (h1 : a1.length ≤ 1048576) :
  Calls Tryz.prog 134 #[v_a0, S a1] w (Rt (RP w (.bool (vq a0 a1)))) := by
 obtain ⟨k, H⟩ := vK.eq a0 a1 h0 h1
 generalize (vq a0 a1) = r at H ⊢
 unfold vK.sh at H
 refine qp Tryz.func134 rfl (Nat.le_of_ble_eq_true rfl) Tryz.ntmps134 rfl ?_
 refine wr <| lp rfl (xa (.bool false) rfl) <| nx <| qj <| wr <| lp rfl (xm (S a1) rfl) ?_
 obtain ⟨c1, H⟩ := qa H
 refine lc rfl rfl Tryz.call154 (qY.calls (w := w) (a0 := a1) (od c1)) rfl <| fun w2 e3 => lp rfl (xa (S (qd a1)) rfl) <| nx ?_
 obtain ⟨z5, L6, C7⟩ := bind_some H
 clear H
 refine  vT (fun s0 sQ wQ => Kp [(4, 7), (9, 25)] s0 sQ ∧ Ext w2 wQ ∧ z5 = .inr ()) ?_ ?_
 ·refine qH <| vy (fun s0 kk sQ wQ => ∃ (x5_4 : List UInt8), Kp [(4, 7), (9, 25)] s0 sQ ∧ sQ 5 = S x5_4 ∧ Ext w2 wQ ∧ qr (vK.b1 a0) kk x5_4 = some z5) k ⟨(qd a1), kz, rfl, er, L6⟩ ?_
  rintro k12 s13 w14 ⟨x5_4, K15, h18, e16, L17⟩
  cases k12 with
  | zero => exact absurd L17 (by simp [qr])
  | succ k12 =>
   obtain ⟨t19, H, S20⟩ := qO L17
   clear L17
   unfold vK.b1 at H
   refine qj <| wr <| lp rfl (qg h18) <| lp rfl (Qo rfl rfl) <| nx ?_
   rcases qf H with ⟨q21, H⟩ | ⟨q21, H⟩
   ·refine qq (cb q21) <| qv <| qe <| qj <| qH <| wr <| lp rfl (xm v_a0 (K15 0 rfl)) <| lp rfl (qg h18) ?_
    obtain ⟨c22, H⟩ := qa H
    refine lc rfl rfl Tryz.call162 (vZ.calls (w := w14) (a0 := a0) (a1 := x5_4) (Rd.ext f_a0 (e3.t e16)) (od c22)) rfl <| fun w23 e24 => lp rfl (xa (.int .i64 (qJ a0 x5_4)) rfl) <| nx <| wr <| lp rfl (xm (.int .i64 (qJ a0 x5_4)) rfl) <| lp rfl (VZ rfl rfl) <| lp rfl (xm (.bool (decide (0 ≤ (qJ a0 x5_4)))) rfl) ?_
    obtain ⟨z26, x27, H⟩ := bind_some H
    refine Ql 6 [(19, 25)] 24 (fun q => q = z26) ?_ ?_
    ·rcases qf x27 with ⟨b24_, H⟩ | ⟨b24_, H⟩
     ·refine lg rfl rfl rfl rfl (cb b24_) (xm v_a0 (K15 0 rfl)) <| lg rfl rfl rfl rfl (cb b24_) (xm (.int .i64 (qJ a0 x5_4)) rfl) ?_
      obtain ⟨c26, H⟩ := qa H
      refine vF (tg rfl rfl rfl (cb b24_)) rfl (ltb rfl) rfl Tryz.underlying35 Tryz.sizeOf52 rfl (Rd.ext f_a0 ((e3.t e16).t e24)) rfl c26 <| fun p27 h28 => lg rfl rfl rfl rfl (cb b24_) (qc Tryz.underlying52 rfl Tryz.sizeOf4 rfl rfl) <| lg rfl rfl rfl rfl (cb b24_) (yZ Tryz.isAgg4 (j := 4) h28 rfl rfl) <| lp rfl (qE (b := true) (v := (.bool ((gt a0 (qJ a0 x5_4)).opq))) (cb b24_) rfl) ?_
      obtain rfl := si H
      exact nx ⟨(ku2 (ku4 kz rfl) rfl), ⟨_, rfl, rfl⟩, er⟩
     ·refine ls rfl rfl rfl (cb b24_) rfl <| ls rfl rfl rfl (cb b24_) rfl <| ls rfl rfl rfl (cb b24_) rfl <| ls rfl rfl rfl (cb b24_) rfl <| ls rfl rfl rfl (cb b24_) rfl <| lp rfl (qE (b := false) (v := (.bool false)) (cb b24_) rfl) ?_
      obtain rfl := si H
      exact nx ⟨(ku2 (ku4 kz rfl) rfl), ⟨_, rfl, rfl⟩, er⟩
    intro s32 w28 z33 K29 hq h30 e31
    rw [hq] at h30; clear hq
    refine nx ?_
    rcases qf H with ⟨q34, H⟩ | ⟨q34, H⟩
    ·refine qq (h30.trans (cb q34)) <| wr <| lp rfl (xa (.bool true) rfl) <| nx <| qu <| qU <| qk <| qk <| qU <| qk <| qk <| qy ?_
     obtain rfl := si H
     obtain rfl := si S20
     have H := C7
     obtain rfl := si H
     exact qT rfl (((e3.t e16).t e24).t e31)
    ·refine qh (h30.trans (cb q34)) <| qv <| yq <| qe <| qQ <| lp rfl (xm (S x5_4) ((K29 5 rfl).trans h18)) ?_
     obtain ⟨c35, H⟩ := qa H
     refine lc rfl rfl Tryz.call154 (qY.calls (w := w28) (a0 := x5_4) (od c35)) rfl <| fun w36 e37 => lp rfl (xa (S (qd x5_4)) rfl) <| nx ?_
     obtain rfl := si H
     exact ⟨_, Nat.lt_succ_self _, (qd x5_4), (ku3 (Kp.cut (ku1 (ku8 K15 rfl) rfl) K29 rfl) rfl), rfl, (((e16.t e24).t e31).t e37), S20⟩
   ·refine qh (cb q21) <| vY <| vg <| vg <| yM <| qe ?_
    obtain rfl := si H
    obtain rfl := si S20
    exact ⟨(ku2 K15 rfl), e16, rfl⟩
 ·rintro s9 w8 ⟨K10, e11, y38⟩
  rw [y38] at C7
  have H := C7
  replace H : _ = some _ := H
  refine qe <| wr <| lp rfl (xa (.bool false) rfl) <| nx <| qu <| qy ?_
  obtain rfl := si H
  exact qT rfl (e3.t e11)
/-! impl.ancestors -/
theorem vd.calls {w : World} {a0 : List UInt8} (h0 : a0.length ≤ 1048576) :
  Calls Tryz.prog 141 #[S a0] w (Rt (RO 9 1 yu w (vx a0))) := by
 obtain ⟨k, H⟩ := vd.eq a0 h0
 generalize (vx a0) = r at H ⊢
 unfold vd.sh at H
 refine qp Tryz.func141 rfl (Nat.le_of_ble_eq_true rfl) Tryz.ntmps141 rfl ?_
 refine wr <| lp rfl (xa (.slice none 0 0) rfl) <| nx <| wr <| jg (.plain rfl) rfl (ltb rfl) rfl Tryz.underlying44 Tryz.sizeOf9 Tryz.zeroValue9 rfl rfl rfl (vs := []) rfl (vM rfl) <| fun b1 w2 z3 z4 e5 k6 => lp rfl (xa (.slice (some ⟨b1, 0, none⟩) 0 0) rfl) <| nx <| qj <| wr <| lp rfl (xm (S a0) rfl) ?_
 obtain ⟨c7, H⟩ := qa H
 refine lc rfl rfl Tryz.call92 (ja.calls (w := w2) (a0 := a0) (od c7)) rfl <| fun w8 e9 => lp rfl (xa (S (qd a0)) rfl) <| nx ?_
 obtain ⟨z13, L14, C15⟩ := bind_some H
 clear H
 refine  vT (fun s0 sQ wQ => ∃ (x3_16 : List (List UInt8)) (v17 : Value), Kp [(0, 1), (3, 4), (7, 15)] s0 sQ ∧ sQ 3 = v17 ∧ Ow 9 1 yu w8.heap.size wQ v17 x3_16 ∧ Ext w8 wQ ∧ z13 = .inr x3_16) ?_ ?_
 ·refine qH <| vy (fun s0 kk sQ wQ => ∃ (x0_10 : List UInt8) (x3_11 : List (List UInt8)) (v12 : Value), Kp [(0, 1), (3, 4), (7, 15)] s0 sQ ∧ sQ 0 = S x0_10 ∧ sQ 3 = v12 ∧ Ow 9 1 yu w8.heap.size wQ v12 x3_11 ∧ Ext w8 wQ ∧ qr (vd.b1) kk (x0_10, x3_11) = some z13) k ⟨(qd a0), ([] : List (List UInt8)), (.slice (some ⟨b1, 0, none⟩) 0 0), kz, rfl, rfl, (Ow.zero), er, L14⟩ ?_
  rintro k22 s23 w24 ⟨x0_10, x3_11, v12, K25, h28, h29, h30, e26, L27⟩
  cases k22 with
  | zero => exact absurd L27 (by simp [qr])
  | succ k22 =>
   obtain ⟨t31, H, S32⟩ := qO L27
   clear L27
   unfold vd.b1 at H
   refine qj <| wr <| lp rfl (qg h28) <| lp rfl (Qo rfl rfl) <| nx ?_
   rcases qf H with ⟨q33, H⟩ | ⟨q33, H⟩
   ·refine qq (cb q33) <| qv <| qe <| qj <| qH <| qQ <| lp rfl (qg h29) <| lp rfl (qg h28) <| jg (.plain rfl) rfl (ltb rfl) rfl Tryz.underlying44 Tryz.sizeOf9 Tryz.zeroValue9 rfl rfl rfl (vs := [(S x0_10)]) rfl (vM rfl) <| fun b34 w35 z36 z37 e38 k39 => ?_
    obtain ⟨c40, H⟩ := qa H
    refine Qm (enc := yu) (.plain rfl) rfl (ltb rfl) rfl El.t44 rfl rfl (Ow.ext h30 e38) (Ow.rd (Ow.new (xs := [x0_10]) (sz := 1) (enc := yu) (base := w24.heap.size) k39 (Nat.le_of_eq z36) rfl (fun _ _ => by rfl) (Nat.le_of_ble_eq_true rfl))) (XG _) (od c40) ((e26.t e38)).size <| fun v41 w42 o43 z44 g45 => lp rfl (xa v41 rfl) <| vL <| yq <| qe <| qQ <| lp rfl (qg h28) ?_
    obtain ⟨c46, H⟩ := qa H
    refine lc rfl rfl Tryz.call92 (ja.calls (w := w42) (a0 := x0_10) (od c46)) rfl <| fun w47 e48 => lp rfl (xa (S (qd x0_10)) rfl) <| nx ?_
    obtain rfl := si H
    exact ⟨_, Nat.lt_succ_self _, (qd x0_10), x3_11 ++ ([x0_10] : List (List UInt8)), v41, (ku2 (ku8 K25 rfl) rfl), rfl, rfl, (Ow.ext o43 e48), (Ext.trans (g45 _ (e26.t e38)) e48), S32⟩
   ·refine qh (cb q33) <| vY <| vg <| vg <| yM <| qe ?_
    obtain rfl := si H
    obtain rfl := si S32
    exact ⟨x3_11, v12, (ku2 K25 rfl), h29, h30, e26, rfl⟩
 ·rintro s19 w18 ⟨x3_16, v17, K20, h49, h50, e21, y51⟩
  rw [y51] at C15
  have H := C15
  replace H : _ = some _ := H
  refine qe <| wr <| lp rfl (qg h49) <| lp rfl (xa v17 rfl) <| nx <| qu <| qy ?_
  obtain rfl := si H
  exact YB rfl ((e5.t e9).t e21) h50 ((e5.t e9)).size
/-! impl.above$1 -/
theorem yO.walk {w : World} {a0 : List UInt8} {a1 : List Rec} {a2 : Rec → Option Bool} {v_a1 : Value} (f_a1 : Rd 5 ql w v_a1 a1) (g_a1 : v_a1.cells = #[v_a1]) {b_a1 : Nat} (k_a1 : Blk w b_a1 #[v_a1] 35) {v_a2 : Value} (f_a2 : ∀ (x0 : Rec) (r : Bool), a2 x0 = some r → jH Tryz.prog w v_a2 [(.agg (ql x0).toArray)] (.bool r)) (g_a2 : v_a2.cells = #[v_a2]) {b_a2 : Nat} (k_a2 : Blk w b_a2 #[v_a2] 148) {r : Bool} (H : yO.sh a0 a1 a2 = some r) :
  Calls Tryz.prog 221 #[S a0, .pointer (some ⟨b_a1, 0, none⟩), .pointer (some ⟨b_a2, 0, none⟩)] w (Rt (RP w (.bool r))) := by
 unfold yO.sh at H
 refine qp Tryz.func221 rfl (Nat.le_of_ble_eq_true rfl) Tryz.ntmps221 rfl ?_
 refine wr <| lp rfl (xa (.bool false) rfl) <| nx <| wr <| lp rfl (qA Tryz.isAgg35 k_a1 rfl rfl) <| lp rfl (xm (S a0) rfl) ?_
 obtain ⟨c1, H⟩ := qa H
 refine lc rfl rfl Tryz.call80 (ji.calls (w := w) (a0 := a1) (a1 := a0) f_a1 (od c1)) rfl <| fun w2 e3 => lp rfl (xa (.int .i64 (qJ a1 a0)) rfl) <| nx <| qj ?_
 obtain ⟨c4, H⟩ := qa H
 obtain ⟨z7, x8, H⟩ := bind_some H
 refine Yv [LEq (.int .i64 (qJ a1 a0)), LEq (.bool (decide (0 ≤ (qJ a1 a0)))), LEq (.bool (decide (0 ≤ (qJ a1 a0)))), LIf (decide (0 ≤ (qJ a1 a0))) (LEq v_a2), LIf (decide (0 ≤ (qJ a1 a0))) (LEq v_a1), LIf (decide (0 ≤ (qJ a1 a0))) (LEq (.int .i64 (qJ a1 a0))), LIf (decide (0 ≤ (qJ a1 a0))) (yD (ql (gt a1 (qJ a1 a0)))), LIf (decide (0 ≤ (qJ a1 a0))) (LEq (.agg (ql (gt a1 (qJ a1 a0))).toArray)), LIf (decide (0 ≤ (qJ a1 a0))) (LEq (.bool z7)), LEq (.bool ((decide (0 ≤ (qJ a1 a0))) && z7)), LEq (.bool ((decide (0 ≤ (qJ a1 a0))) && z7))] (by kernel_rfl) (by kernel_rfl) ⟨qm, qm, qm, lm, lm, lm, (LIf.mono yD.mono), lm, lm, qm, qm, trivial⟩ ⟨?_, ?_, ?_, ?_, ?_, ?_, ?_, ?_, ?_, ?_, ?_, trivial⟩ ?_
 ·exact fun s x e f d u => lp rfl (xm (.int .i64 (qJ a1 a0)) (f 5 rfl)) <| se rfl rfl
 ·exact fun s x e f d u => lp rfl (VZ (d 0 rfl) rfl) <| se rfl rfl
 ·exact fun s x e f d u => lp rfl (qg (d 1 rfl)) <| se rfl rfl
 ·exact fun s x e f d u => gT rfl rfl rfl rfl (d 2 rfl) rfl fun b t => lt t rfl rfl (qA Tryz.isAgg148 (Blk.ext k_a2 (e3.t e)) (f 2 rfl) rfl) <| sg rfl rfl b rfl
 ·exact fun s x e f d u => gT rfl rfl rfl rfl (d 2 rfl) rfl fun b t => lt t rfl rfl (qA Tryz.isAgg35 (Blk.ext k_a1 (e3.t e)) (f 1 rfl) rfl) <| sg rfl rfl b rfl
 ·exact fun s x e f d u => gT rfl rfl rfl rfl (d 2 rfl) rfl fun b t => lt t rfl rfl (xm (.int .i64 (qJ a1 a0)) (f 5 rfl)) <| sg rfl rfl b rfl
 ·exact fun s x e f d u => gT rfl rfl rfl rfl (d 2 rfl) rfl fun b t => vF t rfl (ltb rfl) rfl Tryz.underlying35 Tryz.sizeOf52 ((d 4 rfl).1 b) (Rd.ext f_a1 (e3.t e)) ((d 5 rfl).1 b) (yY b c4) <| fun p12 h13 => sg rfl rfl b ⟨_, rfl, h13⟩
 ·intro s x e f d u
  refine gT rfl rfl rfl rfl (d 2 rfl) rfl fun b t => ?_
  obtain ⟨p14, h15, h16⟩ := ((d 6 rfl).1 b)
  exact lt t rfl rfl (vN Tryz.isAgg52 Tryz.sizeOf52 rfl h15 h16) <| sg rfl rfl b rfl
 ·exact fun s x e f d u => gT rfl rfl rfl rfl (d 2 rfl) rfl fun b t => JX t rfl (ltb rfl) rfl ((d 3 rfl).1 b) (jH.ext (f_a2 _ _ x8) (e3.t e)) (vu ((d 7 rfl).1 b) rfl) <| fun w19 e20 => sgx rfl rfl b e20 rfl
 ·exact fun s x e f d u => lp rfl (j4 (d 2 rfl) rfl fun h => ((d 8 rfl).1 h)) <| se rfl rfl
 ·exact fun s x e f d u => lp rfl (qC (d 9 rfl)) <| se rfl rfl
 intro s21 w22 e23 hf24 ha25
 have K26 := Kp.ofD (kp := [(4, 5), (9, 19)]) rfl hf24
 have d27 : s21 4 = (.bool ((decide (0 ≤ (qJ a1 a0))) && z7)) := ha25 10 rfl
 clear ha25 hf24
 refine qe <| qu <| qy ?_
 obtain rfl := si H
 exact qT d27 (e3.t e23)
theorem yO.calls {w : World} {a0 : List UInt8} {a1 : List Rec} {a2 : Rec → Option Bool} {r : Bool} {v_a1 : Value} (f_a1 : Rd 5 ql w v_a1 a1) (g_a1 : v_a1.cells = #[v_a1]) {b_a1 : Nat} (k_a1 : Blk w b_a1 #[v_a1] 35) {v_a2 : Value} (f_a2 : ∀ (x0 : Rec) (r : Bool), a2 x0 = some r → jH Tryz.prog w v_a2 [(.agg (ql x0).toArray)] (.bool r)) (g_a2 : v_a2.cells = #[v_a2]) {b_a2 : Nat} (k_a2 : Blk w b_a2 #[v_a2] 148) (h0 : a1.length ≤ 1048576) (H : (VK a1 a2 a0) = some r) :
  Calls Tryz.prog 221 #[S a0, .pointer (some ⟨b_a1, 0, none⟩), .pointer (some ⟨b_a2, 0, none⟩)] w (Rt (RP w (.bool r))) := yO.walk f_a1 g_a1 k_a1 f_a2 g_a2 k_a2 (yO.eq a0 a1 a2 h0 H)
/-! impl.above -/
theorem jv.walk {w : World} {a0 : List Rec} {a1 : List UInt8} {a2 : Rec → Option Bool} {v_a0 : Value} (f_a0 : Rd 5 ql w v_a0 a0) {v_a2 : Value} (f_a2 : ∀ (x0 : Rec) (r : Bool), a2 x0 = some r → jH Tryz.prog w v_a2 [(.agg (ql x0).toArray)] (.bool r)) (g_a2 : v_a2.cells = #[v_a2]) {r : Bool} (H : jv.sh a0 a1 a2 = some r) :
  Calls Tryz.prog 191 #[v_a0, S a1, v_a2] w (Rt (RP w (.bool r))) := by
 unfold jv.sh at H
 refine qp Tryz.func191 rfl (Nat.le_of_ble_eq_true rfl) Tryz.ntmps191 rfl ?_
 refine wr <| QS (.plain rfl) rfl (ltb rfl) rfl rfl <| fun b1 w2 z3 z4 e5 k6 => QS (.plain rfl) rfl (ltb rfl) rfl rfl <| fun b7 w8 z9 z10 e11 k12 => lp rfl (xa (.bool false) rfl) <| nx <| wr <| lp rfl (xm (S a1) rfl) ?_
 obtain ⟨c13, H⟩ := qa H
 refine vG (.plain rfl) rfl (ltb rfl) rfl Tryz.call141 (vd.calls (w := w8) (a0 := a1) (od c13)) rfl <| fun v16 w14 e15 o17 => lp rfl (VV (vs := #[]) (us := #[.pointer (some ⟨b1, 0, none⟩), .pointer (some ⟨b7, 0, none⟩)]) rfl rfl) ?_
 obtain ⟨c22, H⟩ := qa H
 obtain ⟨z23, x24, H⟩ := bind_some H
 refine lc rfl rfl Tryz.call215 (vb.calls (w := w14) (a0 := (vx a1)) (a1 := (fun (x0_ : List UInt8) => bif decide (a0.length ≤ 1048576) then (VK a0 a2 x0_) else none)) (Ow.rd o17) (fun x0_ r h => by obtain ⟨q0, h⟩ := qa h; exact jH.mk Tryz.call221 (by rfl) fun w20 k21 => yO.calls (w := w20) (a0 := x0_) (a1 := a0) (a2 := a2) (Rd.ext f_a0 (((e5.t e11).t e15).t k21)) (Rd.cs (Rd.ext f_a0 e5)) (Blk.ext (Blk.cs k6 (Rd.cs (Rd.ext f_a0 e5))) ((e11.t e15).t k21)) (fun x0 r h => jH.ext (f_a2 x0 r h) (((e5.t e11).t e15).t k21)) g_a2 (Blk.ext (Blk.cs k12 g_a2) (e15.t k21)) (od q0) h) rfl (od c22) x24) rfl <| fun w25 e26 => lp rfl (xa (.bool z23) rfl) <| nx <| qu <| qy ?_
 obtain rfl := si H
 exact qT rfl (((e5.t e11).t e15).t e26)
theorem jv.calls {w : World} {a0 : List Rec} {a1 : List UInt8} {a2 : Rec → Option Bool} {r : Bool} {v_a0 : Value} (f_a0 : Rd 5 ql w v_a0 a0) {v_a2 : Value} (f_a2 : ∀ (x0 : Rec) (r : Bool), a2 x0 = some r → jH Tryz.prog w v_a2 [(.agg (ql x0).toArray)] (.bool r)) (g_a2 : v_a2.cells = #[v_a2]) (h0 : a0.length ≤ 1048576) (h1 : a1.length ≤ 1048576) (H : (Vz (VK a0 a2) (vx a1)) = some r) :
  Calls Tryz.prog 191 #[v_a0, S a1, v_a2] w (Rt (RP w (.bool r))) := jv.walk f_a0 f_a2 g_a2 (jv.eq a0 a1 a2 h0 h1 H)
/-! impl.underOpaque$1 -/
theorem vO.walk {w : World} {a0 : Rec} {r : Bool} (H : vO.sh a0 = some r) :
  Calls Tryz.prog 192 #[.agg (ql a0).toArray] w (Rt (RP w (.bool r))) := by
 unfold vO.sh at H
 refine qp Tryz.func192 rfl (Nat.le_of_ble_eq_true rfl) Tryz.ntmps192 rfl ?_
 refine wr <| QS (.plain rfl) rfl (ltb rfl) rfl rfl <| fun b1 w2 z3 z4 e5 k6 => lp rfl (xa (.bool false) rfl) <| nx <| wr <| lp rfl (qc Tryz.underlying52 rfl Tryz.sizeOf4 rfl rfl) <| lp rfl (qA Tryz.isAgg4 k6 rfl rfl) <| lp rfl (xa (.bool a0.opq) rfl) <| nx <| qu <| qy ?_
 obtain rfl := si H
 exact qT rfl e5
theorem vO.calls {w : World} {a0 : Rec} :
  Calls Tryz.prog 192 #[.agg (ql a0).toArray] w (Rt (RP w (.bool a0.opq))) := vO.walk (vO.eq a0)
/-! impl.underOpaque -/
theorem yL.calls {w : World} {a0 : List Rec} {a1 : List UInt8} {v_a0 : Value} (f_a0 : Rd 5 ql w v_a0 a0) (h0 : a0.length ≤ 1048576) (h1 : a1.length ≤ 1048576) :
  Calls Tryz.prog 131 #[v_a0, S a1] w (Rt (RP w (.bool (vq a0 a1)))) := by
 have H := yL.eq a0 a1 h0 h1
 generalize (vq a0 a1) = r at H ⊢
 unfold yL.sh at H
 refine qp Tryz.func131 rfl (Nat.le_of_ble_eq_true rfl) Tryz.ntmps131 rfl ?_
 refine wr <| lp rfl (xa (.bool false) rfl) <| nx <| wr <| lp rfl (xm v_a0 rfl) <| lp rfl (xm (S a1) rfl) ?_
 obtain ⟨c5, H⟩ := qa H
 obtain ⟨c6, H⟩ := qa H
 obtain ⟨z7, x8, H⟩ := bind_some H
 refine lc rfl rfl Tryz.call191 (jv.calls (w := w) (a0 := a0) (a1 := a1) (a2 := (fun (x0_ : Rec) => some x0_.opq)) f_a0 (fun x0_ r h => by have h := si h; subst h; exact jH.mk Tryz.call192 (by rfl) fun w3 k4 => vO.calls (w := w3) (a0 := x0_)) rfl (od c5) (od c6) x8) rfl <| fun w9 e10 => lp rfl (xa (.bool z7) rfl) <| nx <| qu <| qy ?_
 obtain rfl := si H
 exact qT rfl e10
/-! slices.Backward(()string,string), by text -/
theorem Yu.stops {w0 : World} {v : Value} {b0 : Nat} {vs : List Value} (hlen : vs.length ≤ 4611686018427387904) {Kp : World → World → Prop} {H : World → Prop}
    (hH : ∀ W, Below w0.heap.size w0 W → H W) (hK : ∀ W W', H W → Kp W W' → H W') (hHB : ∀ W, H W → Blk W b0 #[v] 44) (hHR : ∀ W, H W → Rd 1 QU W v vs) {n : Nat} :
    SeqStopsK Fence.wide n Tryz.prog 197 #[.pointer (some ⟨b0, 0, none⟩)] (fun i : Fin vs.length => #[.int .i64 (i.val : Int), vs.getD i.val undef]) Kp (fun l => l = jt vs.length) (fun l => l <+: jt vs.length) vs.length w0 := by
  letI : Inhabited Value := ⟨undef⟩
  intro l J Jx W hW hJ hJx hY h0
  have hH1 := hH W hW
  have hB1 := hHB W hH1
  have hR1 := hHR W hH1
  refine YC Tryz.func197 rfl (Nat.le_of_ble_eq_true rfl) Tryz.ntmps197 ?_
  refine Vu <| Vy <| jn vp rfl rfl rfl (ltb rfl) (qA (v := v) Tryz.isAgg44 hB1 rfl rfl) <| jn vp rfl rfl rfl (ltb rfl) (vf Tryz.underlying44 rfl hR1) <| jn vp rfl rfl rfl (ltb rfl) (V8 rfl rfl) <|
    jn vp rfl rfl rfl (ltb rfl) (qC (v := .int .i64 ((vs.length : Int) - 1)) (congrArg (Value.int .i64) (Go.UL.wrap_small (by omega) (by omega)))) <| Vx ?_
  refine Y6 <| WI_loop (fun m σ W' => σ 3 = .int .i64 ((m : Int) - 1) ∧ σ 0 = .func (.yield l) #[] #[] ∧ σ 1 = .pointer (some ⟨b0, 0, none⟩) ∧ m ≤ vs.length ∧ J ((jt vs.length).take (vs.length - m)) W' ∧ H W') vs.length ⟨rfl, rfl, rfl, Nat.le_refl _, by simpa using h0, hH1⟩ ?_
  rintro m σ W' ⟨h3, h00, h1, hm, hj, hH2⟩
  have hB2 := hHB _ hH2
  have hR2 := hHR _ hH2
  refine Vu <| Vu <| Vy <| jn vp rfl rfl rfl (ltb rfl) (qg h3) <| jn vp rfl rfl rfl (ltb rfl) (VZ rfl rfl) <| Vx ?_
  refine XE (decide ((0 : Int) ≤ (m : Int) - 1)) rfl (fun hm1 => WI_skip ?_) (fun hm1 => WI_exit ?_)
  · have hm2 : (0 : Int) ≤ (m : Int) - 1 := od hm1
    obtain ⟨m, rfl⟩ : ∃ j, m = j + 1 := ⟨m - 1, by omega⟩
    have e1 : ((m + 1 : Nat) : Int) - 1 = (m : Int) := by omega
    have hlt : m < vs.length := by omega
    have hin : inR (((m + 1 : Nat) : Int) - 1) vs.length = true := by rw [e1]; exact qX hlt
    have hg : gt vs (((m + 1 : Nat) : Int) - 1) = vs.getD m undef := by rw [e1]; rfl
    refine Vu <| Y6 <| Vu <| Vy <| jn vp rfl rfl rfl (ltb rfl) (qg h00) <| jn vp rfl rfl rfl (ltb rfl) (qg h3) <| jn vp rfl rfl rfl (ltb rfl) (qA (v := v) Tryz.isAgg44 hB2 h1 rfl) <| jn vp rfl rfl rfl (ltb rfl) (qg h3) <|
      LI_idx vp rfl rfl rfl (ltb rfl) rfl Tryz.underlying44 Tryz.sizeOf9 rfl hR2 rfl hin <| fun p hA => jn vp rfl rfl rfl (ltb rfl) (yW (v := vs.getD m undef) Tryz.isAgg9 rfl hA (by rw [hg]; rfl)) <| ?_
    have hpre : ((jt vs.length).take (vs.length - (m + 1))).length < vs.length := by simp [jt]; omega
    refine LI_yield vp (vs := #[.int .i64 (((m + 1 : Nat) : Int) - 1), vs.getD m undef]) (A := fun b w1 => (b = true ∧ J ((jt vs.length).take (vs.length - m)) w1 ∧ Kp W' w1) ∨ (b = false ∧ Jx ((jt vs.length).take (vs.length - m)) w1)) rfl rfl (ltb rfl) rfl rfl rfl rfl ?_ ?_
    · obtain ⟨fn, tmps, assign, body, hy, hRd⟩ := hY _ ⟨m, hlt⟩ W' hj hpre
      rw [e1]
      refine ⟨fn, tmps, assign, body, hy, RoundIn.mono hRd fun e w1 hr => ?_⟩
      rw [downTo_take vs.length m hlt] at hr
      rcases hr with ⟨rfl, hj', hk⟩ | ⟨rfl, hj'⟩
      · exact ⟨true, rfl, .inl ⟨rfl, hj', hk⟩⟩
      · exact ⟨false, rfl, .inr ⟨rfl, hj'⟩⟩
    · intro b w1 hb
      refine jn vp rfl rfl rfl (ltb rfl) (jh rfl) <| Vx ?_
      rcases hb with ⟨rfl, hj', hk⟩ | ⟨rfl, hj'⟩
      · have hH3 := hK _ _ hH2 hk
        refine XE false rfl (fun h => by cases h) (fun _ => WI_skip ?_)
        refine Vy <| jn vp rfl rfl rfl (ltb rfl) (qg h3) <| jn vp rfl rfl rfl (ltb rfl) (V8 rfl rfl) <| jn vp rfl rfl rfl (ltb rfl) (qC (v := .int .i64 ((m : Int) - 1)) (congrArg (Value.int .i64) (by rw [e1]; exact Go.UL.wrap_small (by omega) (by omega)))) <| Vx ?_
        exact ⟨rfl, m, by omega, rfl, h00, h1, by omega, hj', hH3⟩
      · refine XE true rfl (fun _ => WI_ret ?_) (fun h => by cases h)
        exact ⟨.inr rfl, .inl ⟨rfl, .tuple #[], fun tmps _ => results_none (fn := Tryz.f197) rfl tmps _ _, ⟨_, rfl⟩, .inr ⟨_, downTo_pre _ _, hj'⟩⟩⟩
  · have hm2 : ¬ (0 : Int) ≤ (m : Int) - 1 := of_decide_eq_false hm1
    have hm0 : m = 0 := by omega
    subst hm0
    have hf : (jt vs.length).take (vs.length - 0) = jt vs.length := by rw [Nat.sub_zero]; exact List.take_of_length_le (by simp [jt])
    rw [hf] at hj
    exact ⟨.inl rfl, .inl ⟨rfl, .tuple #[], fun tmps _ => results_none (fn := Tryz.f197) rfl tmps _ _, ⟨_, rfl⟩, .inl ⟨_, rfl, hj⟩⟩⟩
theorem JC.calls {w : World} {v : Value} {A : Option Addr} {len cap : Nat} (hv : v = .slice A len cap) :
    Calls Tryz.prog 140 #[v] w (Rt (fun u w' => Ext w w' ∧ ∃ b, w.heap.size ≤ b ∧ Blk w' b #[v] 44 ∧ u = .func (.func 197) #[] #[.pointer (some ⟨b, 0, none⟩)])) := by
  refine qp Tryz.func140 rfl (Nat.le_of_ble_eq_true rfl) Tryz.ntmps140 rfl ?_
  refine wr <| QS (.plain rfl) rfl (ltb rfl) rfl rfl <| fun b w1 hb hb1 he hB => lp rfl (qC rfl) <| nx <| wr <| lp rfl (VV (vs := #[]) (us := #[.pointer (some ⟨b, 0, none⟩)]) rfl rfl) <|
    lp rfl (qC rfl) <| nx <| qu <| qy ?_
  refine ⟨_, rfl, he, b, by omega, ?_, rfl⟩
  subst hv
  exact hB

/-! spec.l03Canon -/
theorem vv.calls {w : World} {a0 : List Rec} {v_a0 : Value} (f_a0 : Rd 5 ql w v_a0 a0) (h0 : a0.length ≤ 1048576) (h1 : ∀ x ∈ a0, qz x.path = true) :
  Calls Tryz.prog 76 #[v_a0] w (Rt (RO 52 5 ql w (qb a0))) := by
 obtain ⟨k, H⟩ := vv.eq a0 h0 h1
 generalize (qb a0) = r at H ⊢
 unfold vv.sh at H
 refine qp Tryz.func76 rfl (Nat.le_of_ble_eq_true rfl) Tryz.ntmps76 rfl ?_
 refine wr <| lp rfl (xa (.slice none 0 0) rfl) <| nx <| wr <| jg (.plain rfl) rfl (ltb rfl) rfl Tryz.underlying35 Tryz.sizeOf52 Tryz.zeroValue52 rfl rfl rfl (vs := []) rfl (vM rfl) <| fun b1 w2 z3 z4 e5 k6 => lp rfl (xa (.slice (some ⟨b1, 0, none⟩) 0 0) rfl) <| nx <| qj <| wr <| lp rfl (xa (.int .i64 0) rfl) <| nx ?_
 obtain ⟨z10, L11, C12⟩ := bind_some H
 clear H
 refine  vT (fun s0 sQ wQ => ∃ (x3_13 : List Rec) (v14 : Value), Kp [(3, 6), (7, 44)] s0 sQ ∧ sQ 3 = v14 ∧ Ow 52 5 ql w2.heap.size wQ v14 x3_13 ∧ Ext w2 wQ ∧ z10 = .inr x3_13) ?_ ?_
 ·refine qH <| vy (fun s0 kk sQ wQ => ∃ (x3_7 : List Rec) (v8 : Value) (x4_9 : Int), Kp [(3, 6), (7, 44)] s0 sQ ∧ sQ 3 = v8 ∧ Ow 52 5 ql w2.heap.size wQ v8 x3_7 ∧ sQ 4 = .int .i64 x4_9 ∧ Ext w2 wQ ∧ qr (vv.b1 a0) kk (x3_7, x4_9) = some z10) k ⟨([] : List Rec), (.slice (some ⟨b1, 0, none⟩) 0 0), 0, kz, rfl, (Ow.zero), rfl, er, L11⟩ ?_
  rintro k19 s20 w21 ⟨x3_7, v8, x4_9, K22, h25, h26, h27, e23, L24⟩
  cases k19 with
  | zero => exact absurd L24 (by simp [qr])
  | succ k19 =>
   obtain ⟨t28, H, S29⟩ := qO L24
   clear L24
   unfold vv.b1 at H
   refine qj <| wr <| lp rfl (qg h27) <| lp rfl (xm v_a0 (K22 0 rfl)) <| lp rfl (vf Tryz.underlying35 rfl (Rd.ext f_a0 (e5.t e23))) <| lp rfl (vI rfl rfl) <| nx ?_
   rcases qf H with ⟨q30, H⟩ | ⟨q30, H⟩
   ·refine qq (cb q30) <| qv <| qe <| qj <| qH <| wr <| lp rfl (xm v_a0 (K22 0 rfl)) <| lp rfl (qg h27) ?_
    obtain ⟨c31, H⟩ := qa H
    refine vF (.plain rfl) rfl (ltb rfl) rfl Tryz.underlying35 Tryz.sizeOf52 rfl (Rd.ext f_a0 (e5.t e23)) rfl c31 <| fun p32 h33 => lp rfl (vN Tryz.isAgg52 Tryz.sizeOf52 rfl rfl h33) <| j7 (.plain rfl) rfl (ltb rfl) rfl Tryz.zeroValue52 <| fun b34 w35 z36 z37 e38 k39 => yk (.plain rfl) rfl rfl Tryz.sizeOf52 rfl rfl rfl rfl rfl k39 <| fun w40 h41 k42 => nx <| qj <| wr <| lp rfl (xm v_a0 (K22 0 rfl)) <| lp rfl (qc Tryz.underlying52 rfl Tryz.sizeOf9 rfl rfl) <| lp rfl (qA Tryz.isAgg9 k42 rfl rfl) ?_
    obtain ⟨c43, H⟩ := qa H
    obtain ⟨c44, H⟩ := qa H
    refine lc rfl rfl Tryz.call134 (vK.calls (w := w40) (a0 := a0) (a1 := (gt a0 x4_9).path) (Rd.ext f_a0 ((e5.t e23).t (Below.trans e38 (Wr.below h41 (Nat.le_of_eq z36))))) (od c43) (od c44)) rfl <| fun w45 e46 => lp rfl (jh rfl) <| nx ?_
    rcases qf H with ⟨q47, H⟩ | ⟨q47, H⟩
    ·refine qq (cb q47) <| wr <| lp rfl (qc Tryz.underlying52 rfl Tryz.sizeOf4 rfl rfl) <| lp rfl (qA Tryz.isAgg4 (Blk.ext k42 e46) rfl rfl) <| lp rfl (xm (.bool ((gt a0 x4_9).opq)) rfl) ?_
     obtain ⟨z49, x50, H⟩ := bind_some H
     refine Ql 6 [(25, 31)] 30 (fun q => q = z49) ?_ ?_
     ·rcases qf x50 with ⟨b47_, H⟩ | ⟨b47_, H⟩
      ·refine lg rfl rfl rfl rfl (cb b47_) (qc Tryz.underlying52 rfl Tryz.sizeOf9 rfl rfl) <| lg rfl rfl rfl rfl (cb b47_) (qA Tryz.isAgg9 (Blk.ext k42 e46) rfl rfl) ?_
       obtain ⟨c49, H⟩ := qa H
       refine vG (tg rfl rfl rfl (cb b47_)) rfl (ltb rfl) rfl Tryz.call135 (vS.calls (w := w45) (a0 := (gt a0 x4_9).path) (a1 := 47) (od c49)) rfl <| fun v52 w50 e51 o53 => lg rfl rfl rfl rfl (cb b47_) (vf Tryz.underlying44 rfl (Ow.rd o53)) <| lg rfl rfl rfl rfl (cb b47_) (vI rfl rfl) <| lp rfl (qE (b := true) (v := (.bool (decide (((cut 47 ((gt a0 x4_9).path)).length : Int) < 4)))) (cb b47_) rfl) ?_
       obtain rfl := si H
       exact nx ⟨(ku2 (ku4 kz rfl) rfl), ⟨_, rfl, rfl⟩, e51⟩
      ·refine ls rfl rfl rfl (cb b47_) rfl <| ls rfl rfl rfl (cb b47_) rfl <| ls rfl rfl rfl (cb b47_) rfl <| ls rfl rfl rfl (cb b47_) rfl <| ls rfl rfl rfl (cb b47_) rfl <| lp rfl (qE (b := false) (v := (.bool false)) (cb b47_) rfl) ?_
       obtain rfl := si H
       exact nx ⟨(ku2 (ku4 kz rfl) rfl), ⟨_, rfl, rfl⟩, er⟩
     intro s55 w51 z56 K52 hq h53 e54
     rw [hq] at h53; clear hq
     refine lp rfl (qc Tryz.underlying52 rfl Tryz.sizeOf4 rfl (K52 5 rfl)) <| QK (.plain rfl) rfl rfl Tryz.sizeOf4 rfl h53 rfl (Blk.ext k42 (e46.t e54)) (ltb rfl) <| fun w57 h58 k59 => nx <| wr <| lp rfl (xm v8 ((K52 3 rfl).trans h25)) <| lp rfl (vN Tryz.isAgg52 Tryz.sizeOf52 rfl (K52 5 rfl) (Blk.at0 k59)) <| jg (.plain rfl) rfl (ltb rfl) rfl Tryz.underlying35 Tryz.sizeOf52 Tryz.zeroValue52 rfl rfl rfl (vs := [(.agg #[(.int .i64 ((gt a0 x4_9).kind)), (S ((gt a0 x4_9).path)), (S ((gt a0 x4_9).body)), (.int .i64 ((gt a0 x4_9).mode)), (.bool z49)])]) rfl (vM rfl) <| fun b60 w61 z62 z63 e64 k65 => ?_
     obtain ⟨c66, H⟩ := qa H
     refine Qm (enc := ql) (.plain rfl) rfl (ltb rfl) rfl El.t35 rfl rfl (Ow.ext h26 (Ext.trans (Below.trans (Ext.trans (Ext.trans (Below.trans e38 (Wr.below h41 (Nat.le_of_eq z36))) e46) e54) (Wr.below h58 (Nat.le_of_eq z36))) e64)) (Ow.rd (Ow.new (xs := [(⟨(gt a0 x4_9).kind, (gt a0 x4_9).path, (gt a0 x4_9).body, (gt a0 x4_9).mode, z49⟩ : Rec)]) (sz := 5) (enc := ql) (base := w57.heap.size) k65 (Nat.le_of_eq z62) rfl (fun _ _ => by rfl) (Nat.le_of_ble_eq_true rfl))) (Jb _) (od c66) (((e23.t (Below.trans (Ext.trans (Ext.trans (Below.trans e38 (Wr.below h41 (Nat.le_of_eq z36))) e46) e54) (Wr.below h58 (Nat.le_of_eq z36)))).t e64)).size <| fun v67 w68 o69 z70 g71 => lp rfl (xa v67 rfl) <| nx <| vY <| vg <| yM <| qe <| qQ <| lp rfl (xm (.int .i64 x4_9) ((K52 4 rfl).trans h27)) <| lp rfl (vE rfl rfl) <| lp rfl (xa (.int .i64 (IntKind.wrap .i64 (x4_9 + 1))) rfl) <| nx ?_
     obtain rfl := si H
     exact ⟨_, Nat.lt_succ_self _, x3_7 ++ ([(⟨(gt a0 x4_9).kind, (gt a0 x4_9).path, (gt a0 x4_9).body, (gt a0 x4_9).mode, z49⟩ : Rec)] : List Rec), v67, IntKind.wrap .i64 (x4_9 + 1), (ku1 (ku8 (Kp.cut (ku1 (ku8 (ku8 K22 rfl) rfl) rfl) K52 rfl) rfl) rfl), rfl, o69, rfl, (g71 _ ((e23.t (Below.trans (Ext.trans (Ext.trans (Below.trans e38 (Wr.below h41 (Nat.le_of_eq z36))) e46) e54) (Wr.below h58 (Nat.le_of_eq z36)))).t e64)), S29⟩
    ·refine qh (cb q47) <| qv <| qe <| wr <| lp rfl (qc Tryz.underlying52 rfl Tryz.sizeOf4 rfl rfl) <| QK (.plain rfl) rfl rfl Tryz.sizeOf4 rfl rfl rfl (Blk.ext k42 e46) (ltb rfl) <| fun w72 h73 k74 => nx <| wr <| lp rfl (qc Tryz.underlying52 rfl Tryz.sizeOf3 rfl rfl) <| lp rfl (qA Tryz.isAgg3 k74 rfl rfl) <| lp rfl (jJ rfl rfl) <| nx ?_
     rcases qf H with ⟨q75, H⟩ | ⟨q75, H⟩
     ·refine qq (cb q75) <| qQ <| lp rfl (qg h25) <| lp rfl (vN Tryz.isAgg52 Tryz.sizeOf52 rfl rfl (Blk.at0 k74)) <| jg (.plain rfl) rfl (ltb rfl) rfl Tryz.underlying35 Tryz.sizeOf52 Tryz.zeroValue52 rfl rfl rfl (vs := [(.agg #[(.int .i64 ((gt a0 x4_9).kind)), (S ((gt a0 x4_9).path)), (S ((gt a0 x4_9).body)), (.int .i64 ((gt a0 x4_9).mode)), (.bool false)])]) rfl (vM rfl) <| fun b76 w77 z78 z79 e80 k81 => ?_
      obtain ⟨c82, H⟩ := qa H
      refine Qm (enc := ql) (.plain rfl) rfl (ltb rfl) rfl El.t35 rfl rfl (Ow.ext h26 (Ext.trans (Below.trans (Ext.trans (Below.trans e38 (Wr.below h41 (Nat.le_of_eq z36))) e46) (Wr.below h73 (Nat.le_of_eq z36))) e80)) (Ow.rd (Ow.new (xs := [(⟨(gt a0 x4_9).kind, (gt a0 x4_9).path, (gt a0 x4_9).body, (gt a0 x4_9).mode, false⟩ : Rec)]) (sz := 5) (enc := ql) (base := w72.heap.size) k81 (Nat.le_of_eq z78) rfl (fun _ _ => by rfl) (Nat.le_of_ble_eq_true rfl))) (Jb _) (od c82) (((e23.t (Below.trans (Ext.trans (Below.trans e38 (Wr.below h41 (Nat.le_of_eq z36))) e46) (Wr.below h73 (Nat.le_of_eq z36)))).t e80)).size <| fun v83 w84 o85 z86 g87 => lp rfl (xa v83 rfl) <| vL <| yq <| qe <| qQ <| lp rfl (qg h27) <| lp rfl (vE rfl rfl) <| lp rfl (xa (.int .i64 (IntKind.wrap .i64 (x4_9 + 1))) rfl) <| nx ?_
      obtain rfl := si H
      exact ⟨_, Nat.lt_succ_self _, x3_7 ++ ([(⟨(gt a0 x4_9).kind, (gt a0 x4_9).path, (gt a0 x4_9).body, (gt a0 x4_9).mode, false⟩ : Rec)] : List Rec), v83, IntKind.wrap .i64 (x4_9 + 1), (ku2 (ku8 (ku8 (ku8 K22 rfl) rfl) rfl) rfl), rfl, o85, rfl, (g87 _ ((e23.t (Below.trans (Ext.trans (Below.trans e38 (Wr.below h41 (Nat.le_of_eq z36))) e46) (Wr.below h73 (Nat.le_of_eq z36)))).t e80)), S29⟩
     ·refine qh (cb q75) <| qv <| yq <| qe <| qQ <| lp rfl (qg h27) <| lp rfl (vE rfl rfl) <| lp rfl (xa (.int .i64 (IntKind.wrap .i64 (x4_9 + 1))) rfl) <| nx ?_
      obtain rfl := si H
      exact ⟨_, Nat.lt_succ_self _, x3_7, v8, IntKind.wrap .i64 (x4_9 + 1), (ku1 (ku4 (ku8 (ku8 K22 rfl) rfl) rfl) rfl), h25, (Ow.ext h26 (Below.trans (Ext.trans (Below.trans e38 (Wr.below h41 (Nat.le_of_eq z36))) e46) (Wr.below h73 (Nat.le_of_eq z36)))), rfl, (e23.t (Below.trans (Ext.trans (Below.trans e38 (Wr.below h41 (Nat.le_of_eq z36))) e46) (Wr.below h73 (Nat.le_of_eq z36)))), S29⟩
   ·refine qh (cb q30) <| vY <| vg <| vg <| yM <| qe ?_
    obtain rfl := si H
    obtain rfl := si S29
    exact ⟨x3_7, v8, (ku4 K22 rfl), h25, h26, e23, rfl⟩
 ·rintro s16 w15 ⟨x3_13, v14, K17, h88, h89, e18, y90⟩
  rw [y90] at C12
  have H := C12
  replace H : _ = some _ := H
  refine qe <| wr <| lp rfl (qg h88) <| lp rfl (xa v14 rfl) <| nx <| qu <| qy ?_
  obtain rfl := si H
  exact YB rfl (e5.t e18) h89 (e5).size
/-! impl.canonical -/
theorem vl.calls {w : World} {a0 : List Rec} (gv : GV 0 w) {v_a0 : Value} (f_a0 : Rd 5 ql w v_a0 a0) (h0 : a0.length ≤ 1048576) (h1 : ∀ x ∈ a0, qz x.path = true) :
  Calls Tryz.prog 73 #[v_a0] w (Rt (RO 52 5 ql w (qb a0))) := by
 obtain ⟨k, H⟩ := vl.eq a0 h0 h1
 generalize (qb a0) = r at H ⊢
 unfold vl.sh at H
 refine qp Tryz.func73 rfl (Nat.le_of_ble_eq_true rfl) Tryz.ntmps73 rfl ?_
 refine wr <| lp rfl (xa (.slice none 0 0) rfl) <| nx <| wr <| jg (.plain rfl) rfl (ltb rfl) rfl Tryz.underlying35 Tryz.sizeOf52 Tryz.zeroValue52 rfl rfl rfl (vs := []) rfl (vM rfl) <| fun b1 w2 z3 z4 e5 k6 => lp rfl (xa (.slice (some ⟨b1, 0, none⟩) 0 0) rfl) <| nx <| qj <| wr <| lp rfl (xm v_a0 rfl) <| lp rfl (vf Tryz.underlying35 rfl (Rd.ext f_a0 e5)) <| lp rfl (xm (.int .i64 0) rfl) <| nx ?_
 obtain ⟨z10, L11, C12⟩ := bind_some H
 clear H
 refine  vT (fun s0 sQ wQ => ∃ (x3_13 : List Rec) (v14 : Value), Kp [(3, 4), (5, 7), (10, 38)] s0 sQ ∧ sQ 3 = v14 ∧ Ow 52 5 ql w2.heap.size wQ v14 x3_13 ∧ Ext w2 wQ ∧ z10 = .inr x3_13) ?_ ?_
 ·refine qH <| vy (fun s0 kk sQ wQ => ∃ (x3_7 : List Rec) (v8 : Value) (x10_9 : Int), Kp [(3, 4), (5, 7), (10, 38)] s0 sQ ∧ sQ 3 = v8 ∧ Ow 52 5 ql w2.heap.size wQ v8 x3_7 ∧ sQ 10 = .int .i64 x10_9 ∧ Ext w2 wQ ∧ qr (vl.b1 a0) kk (x3_7, x10_9) = some z10) k ⟨([] : List Rec), (.slice (some ⟨b1, 0, none⟩) 0 0), 0, kz, rfl, (Ow.zero), rfl, er, L11⟩ ?_
  rintro k19 s20 w21 ⟨x3_7, v8, x10_9, K22, h25, h26, h27, e23, L24⟩
  cases k19 with
  | zero => exact absurd L24 (by simp [qr])
  | succ k19 =>
   obtain ⟨t28, H, S29⟩ := qO L24
   clear L24
   unfold vl.b1 at H
   refine wr <| lp rfl (vI h27 (K22 9 rfl)) <| nx <| qj ?_
   rcases qf H with ⟨q30, H⟩ | ⟨q30, H⟩
   ·refine qq (cb q30) <| qv <| qe <| qj <| qH <| wr ?_
    obtain ⟨c31, H⟩ := qa H
    refine vF (.plain rfl) rfl (ltb rfl) rfl Tryz.underlying35 Tryz.sizeOf52 (K22 8 rfl) (Rd.ext f_a0 (e5.t e23)) h27 c31 <| fun p32 h33 => lp rfl (vN Tryz.isAgg52 Tryz.sizeOf52 rfl rfl h33) <| j7 (.plain rfl) rfl (ltb rfl) rfl Tryz.zeroValue52 <| fun b34 w35 z36 z37 e38 k39 => yk (.plain rfl) rfl rfl Tryz.sizeOf52 rfl rfl rfl rfl rfl k39 <| fun w40 h41 k42 => nx <| wr <| lp rfl (xm v_a0 (K22 0 rfl)) <| lp rfl (qc Tryz.underlying52 rfl Tryz.sizeOf9 rfl rfl) <| lp rfl (qA Tryz.isAgg9 k42 rfl rfl) ?_
    obtain ⟨c43, H⟩ := qa H
    obtain ⟨c44, H⟩ := qa H
    refine lc rfl rfl Tryz.call131 (yL.calls (w := w40) (a0 := a0) (a1 := (gt a0 x10_9).path) (Rd.ext f_a0 ((e5.t e23).t (Below.trans e38 (Wr.below h41 (Nat.le_of_eq z36))))) (od c43) (od c44)) rfl <| fun w45 e46 => lp rfl (xa (.bool (vq a0 ((gt a0 x10_9).path))) rfl) <| nx <| qj <| wr <| lp rfl (xm (.bool (vq a0 ((gt a0 x10_9).path))) rfl) <| lp rfl (xm (.bool (vq a0 ((gt a0 x10_9).path))) rfl) <| yR 4 [(20, 24)] 23 (.bool ((vq a0 ((gt a0 x10_9).path)) && (decide (((gt a0 x10_9).kind) = 4)))) ?_ ?_
    ·rcases qw (vq a0 ((gt a0 x10_9).path)) with b46_ | b46_
     ·exact lg rfl rfl rfl rfl (cb b46_) (qc Tryz.underlying52 rfl Tryz.sizeOf3 rfl rfl) <| lg rfl rfl rfl rfl (cb b46_) (qA Tryz.isAgg3 (Blk.ext k42 e46) rfl rfl) <| lg rfl rfl rfl rfl (cb b46_) (yp rfl rfl) <| lp rfl (qE (b := true) (v := (.bool (decide (((gt a0 x10_9).kind) = 4)))) (cb b46_) rfl) <| nx ⟨(ku4 kz rfl), (Qg b46_), er⟩
     ·exact ls rfl rfl rfl (cb b46_) rfl <| ls rfl rfl rfl (cb b46_) rfl <| ls rfl rfl rfl (cb b46_) rfl <| lp rfl (qE (b := false) (v := (.bool false)) (cb b46_) rfl) <| nx ⟨(ku4 kz rfl), (Qd b46_), er⟩
    intro s52 w48 K49 h50 e51
    refine nx ?_
    rcases qf H with ⟨q53, H⟩ | ⟨q53, H⟩
    ·refine qq (h50.trans (cb q53)) <| vY <| vg <| yM <| qe <| qQ <| lp rfl (vE ((K49 10 rfl).trans h27) rfl) <| lp rfl (xm (.int .i64 (IntKind.wrap .i64 (x10_9 + 1))) rfl) <| nx ?_
     obtain rfl := si H
     exact ⟨_, Nat.lt_succ_self _, x3_7, v8, IntKind.wrap .i64 (x10_9 + 1), (ku2 (Kp.cut (ku3 (ku8 K22 rfl) rfl) K49 rfl) rfl), ((K49 3 rfl).trans h25), (Ow.ext h26 (Ext.trans (Ext.trans (Below.trans e38 (Wr.below h41 (Nat.le_of_eq z36))) e46) e51)), rfl, (((e23.t (Below.trans e38 (Wr.below h41 (Nat.le_of_eq z36)))).t e46).t e51), S29⟩
    ·refine qh (h50.trans (cb q53)) <| qv <| qe <| qj <| wr <| lp rfl (xm (.bool (vq a0 ((gt a0 x10_9).path))) (K49 6 rfl)) <| lp rfl (xm (.bool (vq a0 ((gt a0 x10_9).path))) rfl) ?_
     obtain ⟨z55, x56, H⟩ := bind_some H
     refine Ql 6 [(26, 32)] 31 (fun q => q = z55) ?_ ?_
     ·rcases qf x56 with ⟨b53_, H⟩ | ⟨b53_, H⟩
      ·refine ls rfl rfl rfl (cb b53_) rfl <| ls rfl rfl rfl (cb b53_) rfl <| ls rfl rfl rfl (cb b53_) rfl <| ls rfl rfl rfl (cb b53_) rfl <| ls rfl rfl rfl (cb b53_) rfl <| lp rfl (qE (b := true) (v := (.bool true)) (cb b53_) rfl) ?_
       obtain rfl := si H
       exact nx ⟨(ku2 (ku4 kz rfl) rfl), ⟨_, rfl, rfl⟩, er⟩
      ·refine lg rfl rfl rfl rfl (cb b53_) (qc Tryz.underlying52 rfl Tryz.sizeOf9 rfl (K49 5 rfl)) <| lg rfl rfl rfl rfl (cb b53_) (qA Tryz.isAgg9 (Blk.ext k42 (e46.t e51)) rfl rfl) ?_
       obtain ⟨c55, H⟩ := qa H
       refine vG (tg rfl rfl rfl (cb b53_)) rfl (ltb rfl) rfl Tryz.call132 (vJ.calls (w := w48) (a0 := (gt a0 x10_9).path) (GV.ext gv ((((e5.t e23).t (Below.trans e38 (Wr.below h41 (Nat.le_of_eq z36)))).t e46).t e51)) (od c55)) rfl <| fun v58 w56 e57 o59 => lg rfl rfl rfl rfl (cb b53_) (vf Tryz.underlying44 rfl (Ow.rd o59)) <| lg rfl rfl rfl rfl (cb b53_) (yp rfl rfl) <| lp rfl (qE (b := false) (v := (.bool (decide (((cut 47 ((gt a0 x10_9).path)).length : Int) = 4)))) (cb b53_) rfl) ?_
       obtain rfl := si H
       exact nx ⟨(ku2 (ku4 kz rfl) rfl), ⟨_, rfl, rfl⟩, e57⟩
     intro s61 w57 z62 K58 hq h59 e60
     rw [hq] at h59; clear hq
     refine nx ?_
     rcases qf H with ⟨q63, H⟩ | ⟨q63, H⟩
     ·refine qq (h59.trans (cb q63)) <| qQ <| lp rfl (qc Tryz.underlying52 rfl Tryz.sizeOf4 rfl ((K58 5 rfl).trans (K49 5 rfl))) <| QK (.plain rfl) rfl rfl Tryz.sizeOf4 rfl rfl rfl (Blk.ext k42 ((e46.t e51).t e60)) (ltb rfl) <| fun w64 h65 k66 => nx <| qQ <| lp rfl (xm v8 ((K58 3 rfl).trans ((K49 3 rfl).trans h25))) <| lp rfl (vN Tryz.isAgg52 Tryz.sizeOf52 rfl ((K58 5 rfl).trans (K49 5 rfl)) (Blk.at0 k66)) <| jg (.plain rfl) rfl (ltb rfl) rfl Tryz.underlying35 Tryz.sizeOf52 Tryz.zeroValue52 rfl rfl rfl (vs := [(.agg #[(.int .i64 ((gt a0 x10_9).kind)), (S ((gt a0 x10_9).path)), (S ((gt a0 x10_9).body)), (.int .i64 ((gt a0 x10_9).mode)), (.bool false)])]) rfl (vM rfl) <| fun b67 w68 z69 z70 e71 k72 => ?_
      obtain ⟨c73, H⟩ := qa H
      refine Qm (enc := ql) (.plain rfl) rfl (ltb rfl) rfl El.t35 rfl rfl (Ow.ext h26 (Ext.trans (Below.trans (Ext.trans (Ext.trans (Ext.trans (Below.trans e38 (Wr.below h41 (Nat.le_of_eq z36))) e46) e51) e60) (Wr.below h65 (Nat.le_of_eq z36))) e71)) (Ow.rd (Ow.new (xs := [(⟨(gt a0 x10_9).kind, (gt a0 x10_9).path, (gt a0 x10_9).body, (gt a0 x10_9).mode, false⟩ : Rec)]) (sz := 5) (enc := ql) (base := w64.heap.size) k72 (Nat.le_of_eq z69) rfl (fun _ _ => by rfl) (Nat.le_of_ble_eq_true rfl))) (Jb _) (od c73) (((e23.t (Below.trans (Ext.trans (Ext.trans (Ext.trans (Below.trans e38 (Wr.below h41 (Nat.le_of_eq z36))) e46) e51) e60) (Wr.below h65 (Nat.le_of_eq z36)))).t e71)).size <| fun v74 w75 o76 z77 g78 => lp rfl (xa v74 rfl) <| vL <| yq <| qe <| qQ <| lp rfl (vE ((K58 10 rfl).trans ((K49 10 rfl).trans h27)) rfl) <| lp rfl (xm (.int .i64 (IntKind.wrap .i64 (x10_9 + 1))) rfl) <| nx ?_
      obtain rfl := si H
      exact ⟨_, Nat.lt_succ_self _, x3_7 ++ ([(⟨(gt a0 x10_9).kind, (gt a0 x10_9).path, (gt a0 x10_9).body, (gt a0 x10_9).mode, false⟩ : Rec)] : List Rec), v74, IntKind.wrap .i64 (x10_9 + 1), (ku8 (Kp.cut (ku2 (Kp.cut (ku3 (ku8 K22 rfl) rfl) K49 rfl) rfl) K58 rfl) rfl), rfl, o76, rfl, (g78 _ ((e23.t (Below.trans (Ext.trans (Ext.trans (Ext.trans (Below.trans e38 (Wr.below h41 (Nat.le_of_eq z36))) e46) e51) e60) (Wr.below h65 (Nat.le_of_eq z36)))).t e71)), S29⟩
     ·refine qh (h59.trans (cb q63)) <| qv <| qe <| qQ <| lp rfl (xm v8 ((K58 3 rfl).trans ((K49 3 rfl).trans h25))) <| lp rfl (vN Tryz.isAgg52 Tryz.sizeOf52 rfl ((K58 5 rfl).trans (K49 5 rfl)) (Blk.at0 (Blk.ext k42 ((e46.t e51).t e60)))) <| jg (.plain rfl) rfl (ltb rfl) rfl Tryz.underlying35 Tryz.sizeOf52 Tryz.zeroValue52 rfl rfl rfl (vs := [(.agg #[(.int .i64 ((gt a0 x10_9).kind)), (S ((gt a0 x10_9).path)), (S ((gt a0 x10_9).body)), (.int .i64 ((gt a0 x10_9).mode)), (.bool ((gt a0 x10_9).opq))])]) rfl (vM rfl) <| fun b79 w80 z81 z82 e83 k84 => ?_
      obtain ⟨c85, H⟩ := qa H
      refine Qm (enc := ql) (.plain rfl) rfl (ltb rfl) rfl El.t35 rfl rfl (Ow.ext h26 (Ext.trans (Ext.trans (Ext.trans (Ext.trans (Below.trans e38 (Wr.below h41 (Nat.le_of_eq z36))) e46) e51) e60) e83)) (Ow.rd (Ow.new (xs := [(gt a0 x10_9)]) (sz := 5) (enc := ql) (base := w57.heap.size) k84 (Nat.le_of_eq z81) rfl (fun _ _ => by rfl) (Nat.le_of_ble_eq_true rfl))) (Jb _) (od c85) ((((((e23.t (Below.trans e38 (Wr.below h41 (Nat.le_of_eq z36)))).t e46).t e51).t e60).t e83)).size <| fun v86 w87 o88 z89 g90 => lp rfl (xa v86 rfl) <| vL <| yq <| qe <| qQ <| lp rfl (vE ((K58 10 rfl).trans ((K49 10 rfl).trans h27)) rfl) <| lp rfl (xm (.int .i64 (IntKind.wrap .i64 (x10_9 + 1))) rfl) <| nx ?_
      obtain rfl := si H
      exact ⟨_, Nat.lt_succ_self _, x3_7 ++ ([(gt a0 x10_9)] : List Rec), v86, IntKind.wrap .i64 (x10_9 + 1), (ku3 (ku4 (Kp.cut (ku2 (Kp.cut (ku3 (ku8 K22 rfl) rfl) K49 rfl) rfl) K58 rfl) rfl) rfl), rfl, o88, rfl, (g90 _ (((((e23.t (Below.trans e38 (Wr.below h41 (Nat.le_of_eq z36)))).t e46).t e51).t e60).t e83)), S29⟩
   ·refine qh (cb q30) <| vY <| vg <| vg <| yM <| qe ?_
    obtain rfl := si H
    obtain rfl := si S29
    exact ⟨x3_7, v8, (ku1 K22 rfl), h25, h26, e23, rfl⟩
 ·rintro s16 w15 ⟨x3_13, v14, K17, h91, h92, e18, y93⟩
  rw [y93] at C12
  have H := C12
  replace H : _ = some _ := H
  refine qe <| wr <| lp rfl (qg h91) <| lp rfl (xa v14 rfl) <| nx <| qu <| qy ?_
  obtain rfl := si H
  exact YB rfl (e5.t e18) h92 (e5).size
/-! laws.markNodeS -/
abbrev qI.e1 (x1_1 : Int) := (IntKind.wrap .i64 ((IntKind.wrap .i64 (x1_1 + 1)) + 1))
theorem qI.walk {k : Nat} {w : World} {a0 : List Nd} {a1 : Int} {v_a0 : Value} {B_a0 : Nat} {T_a0 : Nat} (o_a0 : Ow 91 4 yv B_a0 w v_a0 a0) (l_a0 : HB v_a0 T_a0) {r : Int × List Nd} (H : qI.sh k a0 a1 = some r) :
  Calls Tryz.prog 45 #[v_a0, .int .i64 a1] w (Rt (RM 91 4 yv B_a0 T_a0 w (.int .i64 r.1) v_a0 r.2)) := by
 unfold qI.sh at H
 refine qp Tryz.func45 rfl (Nat.le_of_ble_eq_true rfl) Tryz.ntmps45 rfl ?_
 refine wr <| lp rfl (xa (.int .i64 0) rfl) <| nx <| qj <| wr <| lp rfl (xa (.int .i64 0) rfl) <| nx ?_
 obtain ⟨z4, L5, C6⟩ := bind_some H
 clear H
 refine  vT (fun s0 sQ wQ => ∃ (x1_7 : Int) (y8 : List Nd), Kp [(1, 2), (5, 42)] s0 sQ ∧ sQ 1 = .int .i64 x1_7 ∧ Ow 91 4 yv B_a0 wQ v_a0 y8 ∧ Gr B_a0 T_a0 w wQ ∧ z4 = .inr (x1_7, y8)) ?_ ?_
 ·refine qH <| vy (fun s0 kk sQ wQ => ∃ (x1_1 : Int) (x5_2 : Int) (y3 : List Nd), Kp [(1, 2), (5, 42)] s0 sQ ∧ sQ 1 = .int .i64 x1_1 ∧ sQ 5 = .int .i64 x5_2 ∧ Ow 91 4 yv B_a0 wQ v_a0 y3 ∧ Gr B_a0 T_a0 w wQ ∧ qr (qI.b1) kk (x1_1, x5_2, y3) = some z4) k ⟨a1, 0, a0, kz, rfl, rfl, o_a0, (Gr.refl _ _ _), L5⟩ ?_
  rintro k13 s14 w15 ⟨x1_1, x5_2, y3, K16, h19, h20, h21, e17, L18⟩
  cases k13 with
  | zero => exact absurd L18 (by simp [qr])
  | succ k13 =>
   obtain ⟨t22, H, S23⟩ := qO L18
   clear L18
   unfold qI.b1 at H
   refine qj <| wr <| lp rfl (qg h20) <| lp rfl (xm v_a0 (K16 0 rfl)) <| lp rfl (vf Tryz.underlying29 rfl (Ow.rd h21)) <| lp rfl (vI rfl rfl) <| nx ?_
   rcases qf H with ⟨q24, H⟩ | ⟨q24, H⟩
   ·refine qq (cb q24) <| qv <| qe <| qj <| qH <| wr <| lp rfl (xm v_a0 (K16 0 rfl)) <| lp rfl (qg h20) <| lp rfl (qg h19) ?_
    obtain ⟨c27, H⟩ := qa H
    refine Vw (.plain rfl) rfl (ltb rfl) rfl Tryz.underlying29 Tryz.sizeOf91 rfl h21 rfl c27 <| fun p25 h26 => lp rfl (qc Tryz.underlying91 rfl Tryz.sizeOf3 rfl rfl) <| Jl (a := (⟨x1_1, (gt y3 x5_2).path, (gt y3 x5_2).body, (gt y3 x5_2).mode⟩ : Nd)) (vs := [(.int .i64 x1_1)]) (off := 0) (.plain rfl) rfl rfl Tryz.sizeOf3 rfl h26 rfl rfl rfl rfl rfl rfl <| fun b28 w29 h30 h31 h32 o33 => nx <| wr <| lp rfl (qg h19) <| lp rfl (vE rfl rfl) <| lp rfl (xa (.int .i64 (IntKind.wrap .i64 (x1_1 + 1))) rfl) <| nx <| wr <| lp rfl (xm v_a0 (K16 0 rfl)) <| lp rfl (qg h20) <| lp rfl (xm (.int .i64 (IntKind.wrap .i64 (x1_1 + 1))) rfl) ?_
    obtain ⟨c34, H⟩ := qa H
    refine lc rfl rfl Tryz.call112 (qV.calls (w := w29) (a0 := IntKind.wrap .i64 (x1_1 + 1)) (od c34)) rfl <| fun w35 e36 => Vw (.plain rfl) rfl (ltb rfl) rfl Tryz.underlying29 Tryz.sizeOf91 rfl (Ow.ext o33 e36) rfl (jo c27) <| fun p37 h38 => lp rfl (qc Tryz.underlying91 rfl Tryz.sizeOf9 rfl rfl) <| QC (a := (⟨x1_1, (yn (IntKind.wrap .i64 (x1_1 + 1))), (gt y3 x5_2).body, (gt y3 x5_2).mode⟩ : Nd)) (vs := [(S (yn (IntKind.wrap .i64 (x1_1 + 1))))]) (off := 1) (.plain rfl) rfl rfl Tryz.sizeOf9 rfl c27 h38 rfl rfl rfl rfl rfl rfl <| fun b39 w40 h41 h42 h43 o44 => nx <| wr <| lp rfl (xm (.int .i64 (IntKind.wrap .i64 (x1_1 + 1))) rfl) <| lp rfl (vE rfl rfl) <| lp rfl (xa (.int .i64 (qI.e1 x1_1)) rfl) <| nx <| wr <| lp rfl (xm v_a0 (K16 0 rfl)) <| lp rfl (qg h20) <| lp rfl (xm (.int .i64 (qI.e1 x1_1)) rfl) ?_
    obtain ⟨c45, H⟩ := qa H
    refine lc rfl rfl Tryz.call112 (qV.calls (w := w40) (a0 := IntKind.wrap .i64 ((IntKind.wrap .i64 (x1_1 + 1)) + 1)) (od c45)) rfl <| fun w46 e47 => Vw (.plain rfl) rfl (ltb rfl) rfl Tryz.underlying29 Tryz.sizeOf91 rfl (Ow.ext o44 e47) rfl (jo c27) <| fun p48 h49 => lp rfl (qc Tryz.underlying91 rfl Tryz.sizeOf9 rfl rfl) <| QC (a := (⟨x1_1, (yn (IntKind.wrap .i64 (x1_1 + 1))), (yn (qI.e1 x1_1)), (gt y3 x5_2).mode⟩ : Nd)) (vs := [(S (yn (qI.e1 x1_1)))]) (off := 2) (.plain rfl) rfl rfl Tryz.sizeOf9 rfl c27 h49 rfl rfl rfl rfl rfl rfl <| fun b50 w51 h52 h53 h54 o55 => nx <| wr <| lp rfl (xm (.int .i64 (qI.e1 x1_1)) rfl) <| lp rfl (vE rfl rfl) <| lp rfl (qC rfl) <| nx <| wr <| lp rfl (xm v_a0 (K16 0 rfl)) <| lp rfl (qg h20) <| lp rfl (qg rfl) <| Vw (.plain rfl) rfl (ltb rfl) rfl Tryz.underlying29 Tryz.sizeOf91 rfl o55 rfl (jo c27) <| fun p56 h57 => lp rfl (qc Tryz.underlying91 rfl Tryz.sizeOf3 rfl rfl) <| QC (a := (⟨x1_1, (yn (IntKind.wrap .i64 (x1_1 + 1))), (yn (qI.e1 x1_1)), IntKind.wrap .i64 ((qI.e1 x1_1) + 1)⟩ : Nd)) (vs := [(.int .i64 (IntKind.wrap .i64 ((qI.e1 x1_1) + 1)))]) (off := 3) (.plain rfl) rfl rfl Tryz.sizeOf3 rfl c27 h57 rfl rfl rfl rfl rfl rfl <| fun b58 w59 h60 h61 h62 o63 => nx <| qQ <| lp rfl (qg rfl) <| lp rfl (vE rfl rfl) <| lp rfl (qC rfl) <| vL <| yq <| qe <| qQ <| lp rfl (qg h20) <| lp rfl (vE rfl rfl) <| lp rfl (xa (.int .i64 (IntKind.wrap .i64 (x5_2 + 1))) rfl) <| nx ?_
    obtain rfl := si H
    exact ⟨_, Nat.lt_succ_self _, IntKind.wrap .i64 ((IntKind.wrap .i64 ((qI.e1 x1_1) + 1)) + 1), IntKind.wrap .i64 (x5_2 + 1), QB y3 x5_2 (⟨x1_1, (yn (IntKind.wrap .i64 (x1_1 + 1))), (yn (qI.e1 x1_1)), IntKind.wrap .i64 ((qI.e1 x1_1) + 1)⟩ : Nd), (ku1 (ku8 (ku8 (ku8 (ku8 (ku8 K16 rfl) rfl) rfl) rfl) rfl) rfl), rfl, rfl, o63, (Gr.trans (Gr.trans (Gr.trans (Gr.trans (Gr.trans (Gr.trans e17 (Gr.wr h32 h31 (HB.own l_a0 h30 (OP.own0 h26) (QV c27)))) (Gr.ext e36)) (Gr.wr h43 h42 (HB.own l_a0 h41 (OP.own0 h38) (QV (jo c27))))) (Gr.ext e47)) (Gr.wr h54 h53 (HB.own l_a0 h52 (OP.own0 h49) (QV (jo c27))))) (Gr.wr h62 h61 (HB.own l_a0 h60 (OP.own0 h57) (QV (jo c27))))), S23⟩
   ·refine qh (cb q24) <| vY <| vg <| vg <| yM <| qe ?_
    obtain rfl := si H
    obtain rfl := si S23
    exact ⟨x1_1, y3, (ku4 K16 rfl), h19, h21, e17, rfl⟩
 ·rintro s10 w9 ⟨x1_7, y8, K11, h64, h65, e12, y66⟩
  rw [y66] at C6
  have H := C6
  replace H : _ = some _ := H
  refine qe <| wr <| lp rfl (qg h64) <| lp rfl (xa (.int .i64 x1_7) rfl) <| nx <| qu <| qy ?_
  obtain rfl := si H
  exact fin1m rfl e12 h65
theorem qI.calls {w : World} {a0 : List Nd} {a1 : Int} {v_a0 : Value} {B_a0 : Nat} {T_a0 : Nat} (o_a0 : Ow 91 4 yv B_a0 w v_a0 a0) (l_a0 : HB v_a0 T_a0) (h0 : a0.length ≤ 1152921504606846976) (h1 : (0 : Int) ≤ a1) (h2 : (a1 : Int) ≤ 4611686018427387904 - 4 * (a0.length : Int)) :
  Calls Tryz.prog 45 #[v_a0, .int .i64 a1] w (Rt (RM 91 4 yv B_a0 T_a0 w (.int .i64 (a1 + 4 * (a0.length : Int))) v_a0 (y5 a0.length a1))) := by
 obtain ⟨k, h⟩ := qI.eq a0 a1 h0 h1 h2
 exact qI.walk o_a0 l_a0 h
/-! laws.markRecordS -/
abbrev qx.e1 (x1_1 : Int) := (IntKind.wrap .i64 ((IntKind.wrap .i64 (x1_1 + 1)) + 1))
theorem qx.walk {k : Nat} {w : World} {a0 : List Rec} {a1 : Int} {v_a0 : Value} {B_a0 : Nat} {T_a0 : Nat} (o_a0 : Ow 52 5 ql B_a0 w v_a0 a0) (l_a0 : HB v_a0 T_a0) {r : Int × List Rec} (H : qx.sh k a0 a1 = some r) :
  Calls Tryz.prog 46 #[v_a0, .int .i64 a1] w (Rt (RM 52 5 ql B_a0 T_a0 w (.int .i64 r.1) v_a0 r.2)) := by
 unfold qx.sh at H
 refine qp Tryz.func46 rfl (Nat.le_of_ble_eq_true rfl) Tryz.ntmps46 rfl ?_
 refine wr <| lp rfl (xa (.int .i64 0) rfl) <| nx <| qj <| wr <| lp rfl (xa (.int .i64 0) rfl) <| nx ?_
 obtain ⟨z4, L5, C6⟩ := bind_some H
 clear H
 refine  vT (fun s0 sQ wQ => ∃ (x1_7 : Int) (y8 : List Rec), Kp [(1, 2), (5, 51)] s0 sQ ∧ sQ 1 = .int .i64 x1_7 ∧ Ow 52 5 ql B_a0 wQ v_a0 y8 ∧ Gr B_a0 T_a0 w wQ ∧ z4 = .inr (x1_7, y8)) ?_ ?_
 ·refine qH <| vy (fun s0 kk sQ wQ => ∃ (x1_1 : Int) (x5_2 : Int) (y3 : List Rec), Kp [(1, 2), (5, 51)] s0 sQ ∧ sQ 1 = .int .i64 x1_1 ∧ sQ 5 = .int .i64 x5_2 ∧ Ow 52 5 ql B_a0 wQ v_a0 y3 ∧ Gr B_a0 T_a0 w wQ ∧ qr (qx.b1) kk (x1_1, x5_2, y3) = some z4) k ⟨a1, 0, a0, kz, rfl, rfl, o_a0, (Gr.refl _ _ _), L5⟩ ?_
  rintro k13 s14 w15 ⟨x1_1, x5_2, y3, K16, h19, h20, h21, e17, L18⟩
  cases k13 with
  | zero => exact absurd L18 (by simp [qr])
  | succ k13 =>
   obtain ⟨t22, H, S23⟩ := qO L18
   clear L18
   unfold qx.b1 at H
   refine qj <| wr <| lp rfl (qg h20) <| lp rfl (xm v_a0 (K16 0 rfl)) <| lp rfl (vf Tryz.underlying35 rfl (Ow.rd h21)) <| lp rfl (vI rfl rfl) <| nx ?_
   rcases qf H with ⟨q24, H⟩ | ⟨q24, H⟩
   ·refine qq (cb q24) <| qv <| qe <| qj <| qH <| wr <| lp rfl (xm v_a0 (K16 0 rfl)) <| lp rfl (qg h20) <| lp rfl (qg h19) ?_
    obtain ⟨c27, H⟩ := qa H
    refine Vw (.plain rfl) rfl (ltb rfl) rfl Tryz.underlying35 Tryz.sizeOf52 rfl h21 rfl c27 <| fun p25 h26 => lp rfl (qc Tryz.underlying52 rfl Tryz.sizeOf3 rfl rfl) <| Jl (a := (⟨x1_1, (gt y3 x5_2).path, (gt y3 x5_2).body, (gt y3 x5_2).mode, (gt y3 x5_2).opq⟩ : Rec)) (vs := [(.int .i64 x1_1)]) (off := 0) (.plain rfl) rfl rfl Tryz.sizeOf3 rfl h26 rfl rfl rfl rfl rfl rfl <| fun b28 w29 h30 h31 h32 o33 => nx <| wr <| lp rfl (qg h19) <| lp rfl (vE rfl rfl) <| lp rfl (xa (.int .i64 (IntKind.wrap .i64 (x1_1 + 1))) rfl) <| nx <| wr <| lp rfl (xm v_a0 (K16 0 rfl)) <| lp rfl (qg h20) <| lp rfl (xm (.int .i64 (IntKind.wrap .i64 (x1_1 + 1))) rfl) ?_
    obtain ⟨c34, H⟩ := qa H
    refine lc rfl rfl Tryz.call112 (qV.calls (w := w29) (a0 := IntKind.wrap .i64 (x1_1 + 1)) (od c34)) rfl <| fun w35 e36 => Vw (.plain rfl) rfl (ltb rfl) rfl Tryz.underlying35 Tryz.sizeOf52 rfl (Ow.ext o33 e36) rfl (jo c27) <| fun p37 h38 => lp rfl (qc Tryz.underlying52 rfl Tryz.sizeOf9 rfl rfl) <| QC (a := (⟨x1_1, (yn (IntKind.wrap .i64 (x1_1 + 1))), (gt y3 x5_2).body, (gt y3 x5_2).mode, (gt y3 x5_2).opq⟩ : Rec)) (vs := [(S (yn (IntKind.wrap .i64 (x1_1 + 1))))]) (off := 1) (.plain rfl) rfl rfl Tryz.sizeOf9 rfl c27 h38 rfl rfl rfl rfl rfl rfl <| fun b39 w40 h41 h42 h43 o44 => nx <| wr <| lp rfl (xm (.int .i64 (IntKind.wrap .i64 (x1_1 + 1))) rfl) <| lp rfl (vE rfl rfl) <| lp rfl (xa (.int .i64 (qx.e1 x1_1)) rfl) <| nx <| wr <| lp rfl (xm v_a0 (K16 0 rfl)) <| lp rfl (qg h20) <| lp rfl (xm (.int .i64 (qx.e1 x1_1)) rfl) ?_
    obtain ⟨c45, H⟩ := qa H
    refine lc rfl rfl Tryz.call112 (qV.calls (w := w40) (a0 := IntKind.wrap .i64 ((IntKind.wrap .i64 (x1_1 + 1)) + 1)) (od c45)) rfl <| fun w46 e47 => Vw (.plain rfl) rfl (ltb rfl) rfl Tryz.underlying35 Tryz.sizeOf52 rfl (Ow.ext o44 e47) rfl (jo c27) <| fun p48 h49 => lp rfl (qc Tryz.underlying52 rfl Tryz.sizeOf9 rfl rfl) <| QC (a := (⟨x1_1, (yn (IntKind.wrap .i64 (x1_1 + 1))), (yn (qx.e1 x1_1)), (gt y3 x5_2).mode, (gt y3 x5_2).opq⟩ : Rec)) (vs := [(S (yn (qx.e1 x1_1)))]) (off := 2) (.plain rfl) rfl rfl Tryz.sizeOf9 rfl c27 h49 rfl rfl rfl rfl rfl rfl <| fun b50 w51 h52 h53 h54 o55 => nx <| wr <| lp rfl (xm (.int .i64 (qx.e1 x1_1)) rfl) <| lp rfl (vE rfl rfl) <| lp rfl (qC rfl) <| nx <| wr <| lp rfl (xm v_a0 (K16 0 rfl)) <| lp rfl (qg h20) <| lp rfl (qg rfl) <| Vw (.plain rfl) rfl (ltb rfl) rfl Tryz.underlying35 Tryz.sizeOf52 rfl o55 rfl (jo c27) <| fun p56 h57 => lp rfl (qc Tryz.underlying52 rfl Tryz.sizeOf3 rfl rfl) <| QC (a := (⟨x1_1, (yn (IntKind.wrap .i64 (x1_1 + 1))), (yn (qx.e1 x1_1)), IntKind.wrap .i64 ((qx.e1 x1_1) + 1), (gt y3 x5_2).opq⟩ : Rec)) (vs := [(.int .i64 (IntKind.wrap .i64 ((qx.e1 x1_1) + 1)))]) (off := 3) (.plain rfl) rfl rfl Tryz.sizeOf3 rfl c27 h57 rfl rfl rfl rfl rfl rfl <| fun b58 w59 h60 h61 h62 o63 => nx <| wr <| lp rfl (qg rfl) <| lp rfl (vE rfl rfl) <| lp rfl (qC rfl) <| nx <| wr <| lp rfl (xm v_a0 (K16 0 rfl)) <| lp rfl (qg h20) <| lp rfl (qg rfl) <| lp rfl (X_rem rfl rfl (by decide)) <| lp rfl (yp rfl rfl) <| Vw (.plain rfl) rfl (ltb rfl) rfl Tryz.underlying35 Tryz.sizeOf52 rfl o63 rfl (jo c27) <| fun p64 h65 => lp rfl (qc Tryz.underlying52 rfl Tryz.sizeOf4 rfl rfl) <| QC (a := (⟨x1_1, (yn (IntKind.wrap .i64 (x1_1 + 1))), (yn (qx.e1 x1_1)), IntKind.wrap .i64 ((qx.e1 x1_1) + 1), (decide (((IntKind.wrap .i64 ((IntKind.wrap .i64 ((qx.e1 x1_1) + 1)) + 1)).tmod 3) = 0))⟩ : Rec)) (vs := [(.bool (decide (((IntKind.wrap .i64 ((IntKind.wrap .i64 ((qx.e1 x1_1) + 1)) + 1)).tmod 3) = 0)))]) (off := 4) (.plain rfl) rfl rfl Tryz.sizeOf4 rfl c27 h65 rfl rfl rfl rfl rfl rfl <| fun b66 w67 h68 h69 h70 o71 => nx <| qQ <| lp rfl (qg rfl) <| lp rfl (vE rfl rfl) <| lp rfl (qC rfl) <| vL <| yq <| qe <| qQ <| lp rfl (qg h20) <| lp rfl (vE rfl rfl) <| lp rfl (xa (.int .i64 (IntKind.wrap .i64 (x5_2 + 1))) rfl) <| nx ?_
    obtain rfl := si H
    exact ⟨_, Nat.lt_succ_self _, IntKind.wrap .i64 ((IntKind.wrap .i64 ((IntKind.wrap .i64 ((qx.e1 x1_1) + 1)) + 1)) + 1), IntKind.wrap .i64 (x5_2 + 1), QB y3 x5_2 (⟨x1_1, (yn (IntKind.wrap .i64 (x1_1 + 1))), (yn (qx.e1 x1_1)), IntKind.wrap .i64 ((qx.e1 x1_1) + 1), (decide (((IntKind.wrap .i64 ((IntKind.wrap .i64 ((qx.e1 x1_1) + 1)) + 1)).tmod 3) = 0))⟩ : Rec), (ku3 (ku8 (ku8 (ku8 (ku8 (ku8 (ku8 K16 rfl) rfl) rfl) rfl) rfl) rfl) rfl), rfl, rfl, o71, (Gr.trans (Gr.trans (Gr.trans (Gr.trans (Gr.trans (Gr.trans (Gr.trans e17 (Gr.wr h32 h31 (HB.own l_a0 h30 (OP.own0 h26) (QV c27)))) (Gr.ext e36)) (Gr.wr h43 h42 (HB.own l_a0 h41 (OP.own0 h38) (QV (jo c27))))) (Gr.ext e47)) (Gr.wr h54 h53 (HB.own l_a0 h52 (OP.own0 h49) (QV (jo c27))))) (Gr.wr h62 h61 (HB.own l_a0 h60 (OP.own0 h57) (QV (jo c27))))) (Gr.wr h70 h69 (HB.own l_a0 h68 (OP.own0 h65) (QV (jo c27))))), S23⟩
   ·refine qh (cb q24) <| vY <| vg <| vg <| yM <| qe ?_
    obtain rfl := si H
    obtain rfl := si S23
    exact ⟨x1_1, y3, (ku4 K16 rfl), h19, h21, e17, rfl⟩
 ·rintro s10 w9 ⟨x1_7, y8, K11, h72, h73, e12, y74⟩
  rw [y74] at C6
  have H := C6
  replace H : _ = some _ := H
  refine qe <| wr <| lp rfl (qg h72) <| lp rfl (xa (.int .i64 x1_7) rfl) <| nx <| qu <| qy ?_
  obtain rfl := si H
  exact fin1m rfl e12 h73
theorem qx.calls {w : World} {a0 : List Rec} {a1 : Int} {v_a0 : Value} {B_a0 : Nat} {T_a0 : Nat} (o_a0 : Ow 52 5 ql B_a0 w v_a0 a0) (l_a0 : HB v_a0 T_a0) (h0 : a0.length ≤ 576460752303423488) (h1 : (0 : Int) ≤ a1) (h2 : (a1 : Int) ≤ 4611686018427387904 - 5 * (a0.length : Int)) :
  Calls Tryz.prog 46 #[v_a0, .int .i64 a1] w (Rt (RM 52 5 ql B_a0 T_a0 w (.int .i64 (a1 + 5 * (a0.length : Int))) v_a0 (marksR a0.length a1))) := by
 obtain ⟨k, h⟩ := qx.eq a0 a1 h0 h1 h2
 exact qx.walk o_a0 l_a0 h
end Go.Proofs.YtdhmlillkbjjjaaGreatDoor
