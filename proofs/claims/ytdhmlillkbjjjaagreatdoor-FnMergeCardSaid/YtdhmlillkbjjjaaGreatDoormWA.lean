/- The walks, by program (wip/tools). -/
import Derived.Test.YtdhmlillkbjjjaaGreatDoorProg
import Derived.Test.YtdhmlillkbjjjaaGreatDoorKI
import Derived.Test.YtdhmlillkbjjjaaGreatDoormSrt
import Derived.Test.YtdhmlillkbjjjaaGreatDoormH
set_option linter.unusedVariables false
set_option linter.unusedSimpArgs false
set_option maxRecDepth 10000
namespace Go.Proofs.YtdhmlillkbjjjaaGreatDoor
open Go.UL Go.RowKit
theorem El.t23 : ElemI Tryz.prog 23 35 1 24 (.slice none 0 0) := ElemI.mk' Tryz.underlying23 (by kernel_rfl) rfl rfl rfl
theorem El.t35 : ElemI Tryz.prog 35 52 5 56 (.agg #[.int .i64 0, .string ⟨#[]⟩, .string ⟨#[]⟩, .int .i64 0, .bool false]) := ElemI.mk' Tryz.underlying35 (by kernel_rfl) rfl rfl rfl
theorem El.t44 : ElemI Tryz.prog 44 9 1 16 (.string ⟨#[]⟩) := ElemI.mk' Tryz.underlying44 (by kernel_rfl) rfl rfl rfl
theorem El.t47 : ElemI Tryz.prog 47 59 2 24 (.agg #[.string ⟨#[]⟩, .int .i64 0]) := ElemI.mk' Tryz.underlying47 (by kernel_rfl) rfl rfl rfl
theorem Eqg.t52 : Tryz.prog.eqGuardType Tryz.prog.depth 52 = false := by kernel_rfl
theorem Eqs.t52 (a b : Rec) (w : World) : (Op.equal 52 (.agg (qg a).toArray) (.agg (qg b).toArray)).run Tryz.prog w = .ok (decide (a = b)) w := run_eqRec (d := 9998) (ti := 3) (ts := 9) (tb := 4) Tryz.underlying52 rfl Tryz.underlying3 Tryz.underlying9 Tryz.underlying4 Tryz.isAgg3 Tryz.isAgg9 Tryz.isAgg4 (by kernel_rfl)
theorem Eqg.t59 : Tryz.prog.eqGuardType Tryz.prog.depth 59 = false := by kernel_rfl
theorem Eqs.t59 (a b : Pick) (w : World) : (Op.equal 59 (.agg (yt a).toArray) (.agg (yt b).toArray)).run Tryz.prog w = .ok (decide (a = b)) w := run_eqPick (d := 9998) (ti := 3) (ts := 9) Tryz.underlying59 rfl Tryz.underlying3 Tryz.underlying9 Tryz.isAgg3 Tryz.isAgg9 (by kernel_rfl)
/-! impl.within -/
theorem jn.calls {w : World} {a0 : Int} {a1 : Int} {a2 : Int} :
  Calls Tryz.prog 117 #[.int .i64 a0, .int .i64 a1, .int .i64 a2] w (Rt (RP w (.bool (within a0 a1 a2)))) := by
 have H := jn.eq a0 a1 a2
 generalize (within a0 a1 a2) = r at H ⊢
 unfold jn.sh at H
 refine qh Tryz.func117 rfl (Nat.le_of_ble_eq_true rfl) Tryz.ntmps117 rfl ?_
 refine wr <| lp rfl (xa (.bool false) rfl) <| nx <| wr <| lp rfl (xm (.int .i64 a1) rfl) <| lp rfl (xm (.int .i64 a0) rfl) <| lp rfl (VX rfl rfl) <| lp rfl (xm (.bool (decide (a1 ≤ a0))) rfl) <| jN 4 [(11, 15)] 14 (.bool ((decide (a1 ≤ a0)) && (decide (a0 ≤ a2)))) ?_ ?_
 ·rcases qw (decide (a1 ≤ a0)) with b0_ | b0_
  ·exact lg rfl rfl rfl rfl (cb b0_) (xm (.int .i64 a0) rfl) <| lg rfl rfl rfl rfl (cb b0_) (xm (.int .i64 a2) rfl) <| lg rfl rfl rfl rfl (cb b0_) (VX rfl rfl) <| lp rfl (qD (b := true) (v := (.bool (decide (a0 ≤ a2)))) (cb b0_) rfl) <| nx ⟨(ku4 kz rfl), (VY b0_), er⟩
  ·exact ls rfl rfl rfl (cb b0_) rfl <| ls rfl rfl rfl (cb b0_) rfl <| ls rfl rfl rfl (cb b0_) rfl <| lp rfl (qD (b := false) (v := (.bool false)) (cb b0_) rfl) <| nx ⟨(ku4 kz rfl), (V6 b0_), er⟩
 intro s6 w2 K3 h4 e5
 refine lp rfl (qG h4) <| nx <| qr <| qv ?_
 obtain rfl := si H
 exact vo rfl e5
/-! spec.l01In -/
theorem jU.calls {w : World} {a0 : Int} {a1 : Int} {a2 : Int} :
  Calls Tryz.prog 61 #[.int .i64 a0, .int .i64 a1, .int .i64 a2] w (Rt (RP w (.bool (within a0 a1 a2)))) := by
 have H := jU.eq a0 a1 a2
 generalize (within a0 a1 a2) = r at H ⊢
 unfold jU.sh at H
 refine qh Tryz.func61 rfl (Nat.le_of_ble_eq_true rfl) Tryz.ntmps61 rfl ?_
 refine wr <| lp rfl (xa (.bool false) rfl) <| nx <| wr <| lp rfl (xm (.int .i64 a0) rfl) <| lp rfl (xm (.int .i64 a1) rfl) <| lp rfl (QY rfl rfl) <| lp rfl (xm (.bool (decide (a1 ≤ a0))) rfl) <| jN 4 [(11, 15)] 14 (.bool ((decide (a1 ≤ a0)) && (decide (a0 ≤ a2)))) ?_ ?_
 ·rcases qw (decide (a1 ≤ a0)) with b0_ | b0_
  ·exact lg rfl rfl rfl rfl (cb b0_) (xm (.int .i64 a0) rfl) <| lg rfl rfl rfl rfl (cb b0_) (xm (.int .i64 a2) rfl) <| lg rfl rfl rfl rfl (cb b0_) (VX rfl rfl) <| lp rfl (qD (b := true) (v := (.bool (decide (a0 ≤ a2)))) (cb b0_) rfl) <| nx ⟨(ku4 kz rfl), (VY b0_), er⟩
  ·exact ls rfl rfl rfl (cb b0_) rfl <| ls rfl rfl rfl (cb b0_) rfl <| ls rfl rfl rfl (cb b0_) rfl <| lp rfl (qD (b := false) (v := (.bool false)) (cb b0_) rfl) <| nx ⟨(ku4 kz rfl), (V6 b0_), er⟩
 intro s6 w2 K3 h4 e5
 refine lp rfl (qG h4) <| nx <| qr <| qv ?_
 obtain rfl := si H
 exact vo rfl e5
/-! spec.l01Part -/
theorem yg.calls {w : World} {a0 : List UInt8} :
  Calls Tryz.prog 161 #[S a0] w (Rt (RP w (.bool (yP a0)))) := by
 obtain ⟨k, H⟩ := yg.eq a0
 generalize (yP a0) = r at H ⊢
 unfold yg.sh at H
 refine qh Tryz.func161 rfl (Nat.le_of_ble_eq_true rfl) Tryz.ntmps161 rfl ?_
 refine wr <| lp rfl (xa (.bool false) rfl) <| nx <| qk <| wr <| lp rfl (xm (S a0) rfl) <| lp rfl (j9 Tryz.underlying9 rfl) <| lc rfl rfl Tryz.call61 (jU.calls (w := w) (a0 := (a0.length : Int)) (a1 := 1) (a2 := 8)) rfl <| fun w1 e2 => lp rfl (yS rfl) <| lp rfl (xm (.bool (!(within (a0.length : Int) 1 8))) rfl) <| jN 3 [(9, 12)] 11 (.bool ((!(within (a0.length : Int) 1 8)) || (decide (a0 = ([46] : List UInt8))))) ?_ ?_
 ·rcases qw (!(within (a0.length : Int) 1 8)) with b2_ | b2_
  ·exact ls rfl rfl rfl (cb b2_) rfl <| ls rfl rfl rfl (cb b2_) rfl <| lp rfl (qD (b := true) (v := (.bool true)) (cb b2_) rfl) <| nx ⟨(ku3 kz rfl), (YJ b2_), er⟩
  ·exact lg rfl rfl rfl rfl (cb b2_) (xm (S a0) rfl) <| lg rfl rfl rfl rfl (cb b2_) (VT rfl rfl) <| lp rfl (qD (b := false) (v := (.bool (decide (a0 = ([46] : List UInt8))))) (cb b2_) rfl) <| nx ⟨(ku3 kz rfl), (YG b2_), er⟩
 intro s8 w4 K5 h6 e7
 refine lp rfl (qc h6) <| jN 3 [(13, 16)] 15 (.bool (((!(within (a0.length : Int) 1 8)) || (decide (a0 = ([46] : List UInt8)))) || (decide (a0 = ([46, 46] : List UInt8))))) ?_ ?_
 ·rcases qw ((!(within (a0.length : Int) 1 8)) || (decide (a0 = ([46] : List UInt8)))) with b8_ | b8_
  ·exact ls rfl rfl rfl (cb b8_) rfl <| ls rfl rfl rfl (cb b8_) rfl <| lp rfl (qD (b := true) (v := (.bool true)) (cb b8_) rfl) <| nx ⟨(ku3 kz rfl), (YJ b8_), er⟩
  ·exact lg rfl rfl rfl rfl (cb b8_) (xm (S a0) (K5 0 rfl)) <| lg rfl rfl rfl rfl (cb b8_) (VT rfl rfl) <| lp rfl (qD (b := false) (v := (.bool (decide (a0 = ([46, 46] : List UInt8))))) (cb b8_) rfl) <| nx ⟨(ku3 kz rfl), (YG b8_), er⟩
 intro s14 w10 K11 h12 e13
 refine nx ?_
 rcases qf H with ⟨q15, H⟩ | ⟨q15, H⟩
 ·refine qp (h12.trans (cb q15)) <| wr <| lp rfl (xa (.bool false) rfl) <| nx <| qr <| qo <| qv ?_
  obtain rfl := si H
  exact vo rfl ((e2.t e7).t e13)
 ·refine qi (h12.trans (cb q15)) <| qq <| qd <| qk <| wr <| lp rfl (xa (.int .i64 0) rfl) <| nx ?_
  obtain ⟨z17, L18, C19⟩ := bind_some H
  clear H
  refine  vH (fun s0 sQ wQ => Kp [(2, 4), (16, 38)] s0 sQ ∧ Ext w10 wQ ∧ z17 = .inr ()) ?_ ?_
  ·refine qF <| vB (fun s0 kk sQ wQ => ∃ (x3_16 : Int), Kp [(2, 4), (16, 38)] s0 sQ ∧ sQ 3 = .int .i64 x3_16 ∧ Ext w10 wQ ∧ qn (yg.b1 a0) kk x3_16 = some z17) k ⟨0, kz, rfl, er, L18⟩ ?_
   rintro k24 s25 w26 ⟨x3_16, K27, h30, e28, L29⟩
   cases k24 with
   | zero => exact absurd L29 (by simp [qn])
   | succ k24 =>
    obtain ⟨t31, H, S32⟩ := qN L29
    clear L29
    unfold yg.b1 at H
    refine qk <| wr <| lp rfl (qc h30) <| lp rfl (xm (S a0) ((K27 0 rfl).trans ((K11 0 rfl).trans (K5 0 rfl)))) <| lp rfl (j9 Tryz.underlying9 rfl) <| lp rfl (yH rfl rfl) <| nx ?_
    rcases qf H with ⟨q33, H⟩ | ⟨q33, H⟩
    ·refine qp (cb q33) <| qq <| qd <| qk <| qF <| wr <| lp rfl (xm (S a0) ((K27 0 rfl).trans ((K11 0 rfl).trans (K5 0 rfl)))) <| lp rfl (qc h30) ?_
     obtain ⟨c34, H⟩ := qa H
     refine lp rfl (QP Tryz.underlying9 rfl rfl (jG c34) (jI c34)) <| lp rfl (yH rfl rfl) <| lp rfl (xm (.bool (decide ((byt a0 x3_16) < 33))) rfl) ?_
     obtain ⟨z36, x37, H⟩ := bind_some H
     refine jp 5 [(27, 32)] 31 (fun q => q = z36) ?_ ?_
     ·rcases qf x37 with ⟨b34_, H⟩ | ⟨b34_, H⟩
      ·refine ls rfl rfl rfl (cb b34_) rfl <| ls rfl rfl rfl (cb b34_) rfl <| ls rfl rfl rfl (cb b34_) rfl <| ls rfl rfl rfl (cb b34_) rfl <| lp rfl (qD (b := true) (v := (.bool true)) (cb b34_) rfl) ?_
       obtain rfl := si H
       exact nx ⟨(ku1 (ku4 kz rfl) rfl), ⟨_, rfl, rfl⟩, er⟩
      ·refine lg rfl rfl rfl rfl (cb b34_) (xm (S a0) ((K27 0 rfl).trans ((K11 0 rfl).trans (K5 0 rfl)))) <| lg rfl rfl rfl rfl (cb b34_) (qc h30) ?_
       obtain ⟨c36, H⟩ := qa H
       refine lg rfl rfl rfl rfl (cb b34_) (QP Tryz.underlying9 rfl rfl (jG c36) (jI c36)) <| lg rfl rfl rfl rfl (cb b34_) (jj rfl rfl) <| lp rfl (qD (b := false) (v := (.bool (decide (126 < (byt a0 x3_16))))) (cb b34_) rfl) ?_
       obtain rfl := si H
       exact nx ⟨(ku1 (ku4 kz rfl) rfl), ⟨_, rfl, rfl⟩, er⟩
     intro s42 w38 z43 K39 hq h40 e41
     rw [hq] at h40; clear hq
     refine lp rfl (qc h40) ?_
     obtain ⟨z45, x46, H⟩ := bind_some H
     refine jp 5 [(33, 38)] 37 (fun q => q = z45) ?_ ?_
     ·rcases qf x46 with ⟨b43_, H⟩ | ⟨b43_, H⟩
      ·refine ls rfl rfl rfl (cb b43_) rfl <| ls rfl rfl rfl (cb b43_) rfl <| ls rfl rfl rfl (cb b43_) rfl <| ls rfl rfl rfl (cb b43_) rfl <| lp rfl (qD (b := true) (v := (.bool true)) (cb b43_) rfl) ?_
       obtain rfl := si H
       exact nx ⟨(ku1 (ku4 kz rfl) rfl), ⟨_, rfl, rfl⟩, er⟩
      ·refine lg rfl rfl rfl rfl (cb b43_) (xm (S a0) ((K39 0 rfl).trans ((K27 0 rfl).trans ((K11 0 rfl).trans (K5 0 rfl))))) <| lg rfl rfl rfl rfl (cb b43_) (xm (.int .i64 x3_16) ((K39 3 rfl).trans h30)) ?_
       obtain ⟨c45, H⟩ := qa H
       refine lg rfl rfl rfl rfl (cb b43_) (QP Tryz.underlying9 rfl rfl (jG c45) (jI c45)) <| lg rfl rfl rfl rfl (cb b43_) (yZ rfl rfl) <| lp rfl (qD (b := false) (v := (.bool (decide ((byt a0 x3_16) = 47)))) (cb b43_) rfl) ?_
       obtain rfl := si H
       exact nx ⟨(ku1 (ku4 kz rfl) rfl), ⟨_, rfl, rfl⟩, er⟩
     intro s51 w47 z52 K48 hq h49 e50
     rw [hq] at h49; clear hq
     refine nx ?_
     rcases qf H with ⟨q53, H⟩ | ⟨q53, H⟩
     ·refine qp (h49.trans (cb q53)) <| wr <| lp rfl (xa (.bool false) rfl) <| nx <| qr <| vi <| qo <| qo <| vi <| qo <| qo <| qv ?_
      obtain rfl := si H
      obtain rfl := si S32
      have H := C19
      obtain rfl := si H
      exact vo rfl (((((e2.t e7).t e13).t e28).t e41).t e50)
     ·refine qi (h49.trans (cb q53)) <| qq <| ye <| qd <| qJ <| lp rfl (xm (.int .i64 x3_16) ((K48 3 rfl).trans ((K39 3 rfl).trans h30))) <| lp rfl (vW rfl rfl) <| lp rfl (xa (.int .i64 (IntKind.wrap .i64 (x3_16 + 1))) rfl) <| nx ?_
      obtain rfl := si H
      exact ⟨_, Nat.lt_succ_self _, IntKind.wrap .i64 (x3_16 + 1), (ku3 (Kp.cut (ku1 (Kp.cut (ku1 (ku8 K27 rfl) rfl) K39 rfl) rfl) K48 rfl) rfl), rfl, ((e28.t e41).t e50), S32⟩
    ·refine qi (cb q33) <| vL <| vd <| vd <| yE <| qd ?_
     obtain rfl := si H
     obtain rfl := si S32
     exact ⟨(ku4 K27 rfl), e28, rfl⟩
  ·rintro s21 w20 ⟨K22, e23, y54⟩
   rw [y54] at C19
   have H := C19
   replace H : _ = some _ := H
   refine qd <| wr <| lp rfl (xa (.bool true) rfl) <| nx <| qr <| qv ?_
   obtain rfl := si H
   exact vo rfl (((e2.t e7).t e13).t e23)
/-! impl.PartOK -/
theorem yv.calls {w : World} {a0 : List UInt8} (h0 : a0.length ≤ 4611686018427387904) :
  Calls Tryz.prog 168 #[S a0] w (Rt (RP w (.bool (yP a0)))) := by
 obtain ⟨k, H⟩ := yv.eq a0 h0
 generalize (yP a0) = r at H ⊢
 unfold yv.sh at H
 refine qh Tryz.func168 rfl (Nat.le_of_ble_eq_true rfl) Tryz.ntmps168 rfl ?_
 refine wr <| lp rfl (xa (.bool false) rfl) <| nx <| qk <| wr <| lp rfl (xm (S a0) rfl) <| lp rfl (j9 Tryz.underlying9 rfl) <| lp rfl (xm (.int .i64 0) rfl) <| nx ?_
 obtain ⟨z2, L3, C4⟩ := bind_some H
 clear H
 refine  vH (fun s0 sQ wQ => Kp [(2, 4), (6, 22)] s0 sQ ∧ Ext w wQ ∧ z2 = .inr ()) ?_ ?_
 ·refine qF <| vB (fun s0 kk sQ wQ => ∃ (x6_1 : Int), Kp [(2, 4), (6, 22)] s0 sQ ∧ sQ 6 = .int .i64 x6_1 ∧ Ext w wQ ∧ qn (yv.b1 a0) kk x6_1 = some z2) k ⟨0, kz, rfl, er, L3⟩ ?_
  rintro k9 s10 w11 ⟨x6_1, K12, h15, e13, L14⟩
  cases k9 with
  | zero => exact absurd L14 (by simp [qn])
  | succ k9 =>
   obtain ⟨t16, H, S17⟩ := qN L14
   clear L14
   unfold yv.b1 at H
   refine wr <| lp rfl (yH h15 (K12 5 rfl)) <| nx <| qk ?_
   rcases qf H with ⟨q18, H⟩ | ⟨q18, H⟩
   ·refine qp (cb q18) <| qq <| qd <| qk <| qF <| wr <| lp rfl (qc h15) <| lp rfl (xa (.int .i64 x6_1) rfl) <| nx <| wr <| lp rfl (xm (S a0) (K12 0 rfl)) <| lp rfl (xm (.int .i64 x6_1) rfl) ?_
    obtain ⟨c19, H⟩ := qa H
    refine lp rfl (QP Tryz.underlying9 rfl rfl (jG c19) (jI c19)) <| lp rfl (Y0 Tryz.underlying5 Tryz.underlying3 rfl) <| lc rfl rfl Tryz.call117 (jn.calls (w := w11) (a0 := IntKind.wrap .i64 (byt a0 x6_1)) (a1 := 33) (a2 := 126)) rfl <| fun w20 e21 => lp rfl (yS rfl) <| lp rfl (xm (.bool (!(within (IntKind.wrap .i64 (byt a0 x6_1)) 33 126))) rfl) ?_
    obtain ⟨z23, x24, H⟩ := bind_some H
    refine jp 5 [(16, 21)] 20 (fun q => q = z23) ?_ ?_
    ·rcases qf x24 with ⟨b21_, H⟩ | ⟨b21_, H⟩
     ·refine ls rfl rfl rfl (cb b21_) rfl <| ls rfl rfl rfl (cb b21_) rfl <| ls rfl rfl rfl (cb b21_) rfl <| ls rfl rfl rfl (cb b21_) rfl <| lp rfl (qD (b := true) (v := (.bool true)) (cb b21_) rfl) ?_
      obtain rfl := si H
      exact nx ⟨(ku1 (ku4 kz rfl) rfl), ⟨_, rfl, rfl⟩, er⟩
     ·refine lg rfl rfl rfl rfl (cb b21_) (xm (S a0) (K12 0 rfl)) <| lg rfl rfl rfl rfl (cb b21_) (xm (.int .i64 x6_1) rfl) ?_
      obtain ⟨c23, H⟩ := qa H
      refine lg rfl rfl rfl rfl (cb b21_) (QP Tryz.underlying9 rfl rfl (jG c23) (jI c23)) <| lg rfl rfl rfl rfl (cb b21_) (yZ rfl rfl) <| lp rfl (qD (b := false) (v := (.bool (decide ((byt a0 x6_1) = 47)))) (cb b21_) rfl) ?_
      obtain rfl := si H
      exact nx ⟨(ku1 (ku4 kz rfl) rfl), ⟨_, rfl, rfl⟩, er⟩
    intro s29 w25 z30 K26 hq h27 e28
    rw [hq] at h27; clear hq
    refine nx ?_
    rcases qf H with ⟨q31, H⟩ | ⟨q31, H⟩
    ·refine qp (h27.trans (cb q31)) <| wr <| lp rfl (xa (.bool false) rfl) <| nx <| qr <| vi <| qo <| qo <| vi <| qo <| qo <| qv ?_
     obtain rfl := si H
     obtain rfl := si S17
     have H := C4
     obtain rfl := si H
     exact vo rfl ((e13.t e21).t e28)
    ·refine qi (h27.trans (cb q31)) <| qq <| ye <| qd <| qJ <| lp rfl (vW ((K26 6 rfl).trans h15) rfl) <| lp rfl (xm (.int .i64 (IntKind.wrap .i64 (x6_1 + 1))) rfl) <| nx ?_
     obtain rfl := si H
     exact ⟨_, Nat.lt_succ_self _, IntKind.wrap .i64 (x6_1 + 1), (ku2 (Kp.cut (ku2 (ku8 K12 rfl) rfl) K26 rfl) rfl), rfl, ((e13.t e21).t e28), S17⟩
   ·refine qi (cb q18) <| vL <| vd <| vd <| yE <| qd ?_
    obtain rfl := si H
    obtain rfl := si S17
    exact ⟨(ku1 K12 rfl), e13, rfl⟩
 ·rintro s6 w5 ⟨K7, e8, y32⟩
  rw [y32] at C4
  have H := C4
  replace H : _ = some _ := H
  refine qd <| wr <| lp rfl (xm (S a0) (K7 0 rfl)) <| lp rfl (j9 Tryz.underlying9 rfl) <| lc rfl rfl Tryz.call117 (jn.calls (w := w5) (a0 := (a0.length : Int)) (a1 := 1) (a2 := 8)) rfl <| fun w33 e34 => lp rfl (xm (.bool (within (a0.length : Int) 1 8)) rfl) <| jN 3 [(26, 29)] 28 (.bool ((within (a0.length : Int) 1 8) && (!decide (a0 = ([46] : List UInt8))))) ?_ ?_
  ·rcases qw (within (a0.length : Int) 1 8) with b34_ | b34_
   ·exact lg rfl rfl rfl rfl (cb b34_) (xm (S a0) (K7 0 rfl)) <| lg rfl rfl rfl rfl (cb b34_) (Qv rfl rfl) <| lp rfl (qD (b := true) (v := (.bool (!decide (a0 = ([46] : List UInt8))))) (cb b34_) rfl) <| nx ⟨(ku3 kz rfl), (VY b34_), er⟩
   ·exact ls rfl rfl rfl (cb b34_) rfl <| ls rfl rfl rfl (cb b34_) rfl <| lp rfl (qD (b := false) (v := (.bool false)) (cb b34_) rfl) <| nx ⟨(ku3 kz rfl), (V6 b34_), er⟩
  intro s40 w36 K37 h38 e39
  refine lp rfl (qc h38) <| jN 3 [(30, 33)] 32 (.bool (((within (a0.length : Int) 1 8) && (!decide (a0 = ([46] : List UInt8)))) && (!decide (a0 = ([46, 46] : List UInt8))))) ?_ ?_
  ·rcases qw ((within (a0.length : Int) 1 8) && (!decide (a0 = ([46] : List UInt8)))) with b40_ | b40_
   ·exact lg rfl rfl rfl rfl (cb b40_) (xm (S a0) ((K37 0 rfl).trans (K7 0 rfl))) <| lg rfl rfl rfl rfl (cb b40_) (Qv rfl rfl) <| lp rfl (qD (b := true) (v := (.bool (!decide (a0 = ([46, 46] : List UInt8))))) (cb b40_) rfl) <| nx ⟨(ku3 kz rfl), (VY b40_), er⟩
   ·exact ls rfl rfl rfl (cb b40_) rfl <| ls rfl rfl rfl (cb b40_) rfl <| lp rfl (qD (b := false) (v := (.bool false)) (cb b40_) rfl) <| nx ⟨(ku3 kz rfl), (V6 b40_), er⟩
  intro s46 w42 K43 h44 e45
  refine lp rfl (qG h44) <| nx <| qr <| qv ?_
  obtain rfl := si H
  exact vo rfl (((e8.t e34).t e39).t e45)
/-! spec.l00Cut -/
theorem yb.calls {w : World} {a0 : List UInt8} {a1 : Int} (h0 : a0.length ≤ 1048576) :
  Calls Tryz.prog 135 #[S a0, .int .u8 a1] w (Rt (RO 9 1 vr w (cut a1 a0))) := by
 obtain ⟨k, H⟩ := yb.eq a0 a1 h0
 generalize (cut a1 a0) = r at H ⊢
 unfold yb.sh at H
 refine qh Tryz.func135 rfl (Nat.le_of_ble_eq_true rfl) Tryz.ntmps135 rfl ?_
 refine wr <| lp rfl (xa (.slice none 0 0) rfl) <| nx <| wr <| yw (.plain rfl) rfl (ltb rfl) rfl Tryz.underlying44 Tryz.sizeOf9 Tryz.zeroValue9 rfl rfl rfl (vs := []) rfl (vh rfl) <| fun b1 w2 z3 z4 e5 k6 => lp rfl (xa (.slice (some ⟨b1, 0, none⟩) 0 0) rfl) <| nx <| wr <| lp rfl (xa (.int .i64 0) rfl) <| nx <| qk <| wr <| lp rfl (xa (.int .i64 0) rfl) <| nx ?_
 obtain ⟨z11, L12, C13⟩ := bind_some H
 clear H
 refine  vH (fun s0 sQ wQ => ∃ (x5_14 : List (List UInt8)) (v15 : Value) (x6_16 : Int), Kp [(5, 8), (9, 29)] s0 sQ ∧ sQ 5 = v15 ∧ Ow 9 1 vr w2.heap.size wQ v15 x5_14 ∧ sQ 6 = .int .i64 x6_16 ∧ Ext w2 wQ ∧ z11 = .inr (x5_14, x6_16)) ?_ ?_
 ·refine qF <| vB (fun s0 kk sQ wQ => ∃ (x5_7 : List (List UInt8)) (v8 : Value) (x6_9 : Int) (x7_10 : Int), Kp [(5, 8), (9, 29)] s0 sQ ∧ sQ 5 = v8 ∧ Ow 9 1 vr w2.heap.size wQ v8 x5_7 ∧ sQ 6 = .int .i64 x6_9 ∧ sQ 7 = .int .i64 x7_10 ∧ Ext w2 wQ ∧ qn (yb.b1 a0 a1) kk (x5_7, x6_9, x7_10) = some z11) k ⟨([] : List (List UInt8)), (.slice (some ⟨b1, 0, none⟩) 0 0), 0, 0, kz, rfl, (Ow.zero), rfl, rfl, er, L12⟩ ?_
  rintro k21 s22 w23 ⟨x5_7, v8, x6_9, x7_10, K24, h27, h28, h29, h30, e25, L26⟩
  cases k21 with
  | zero => exact absurd L26 (by simp [qn])
  | succ k21 =>
   obtain ⟨t31, H, S32⟩ := qN L26
   clear L26
   unfold yb.b1 at H
   refine qk <| wr <| lp rfl (qc h30) <| lp rfl (xm (S a0) (K24 0 rfl)) <| lp rfl (j9 Tryz.underlying9 rfl) <| lp rfl (yH rfl rfl) <| nx ?_
   rcases qf H with ⟨q33, H⟩ | ⟨q33, H⟩
   ·refine qp (cb q33) <| qq <| qd <| qk <| qF <| wr <| lp rfl (xm (S a0) (K24 0 rfl)) <| lp rfl (qc h30) ?_
    obtain ⟨c34, H⟩ := qa H
    refine lp rfl (QP Tryz.underlying9 rfl rfl (jG c34) (jI c34)) <| lp rfl (xm (.int .u8 a1) (K24 1 rfl)) <| lp rfl (yZ rfl rfl) <| nx ?_
    rcases qf H with ⟨q35, H⟩ | ⟨q35, H⟩
    ·refine qp (cb q35) <| wr <| lp rfl (qc h27) <| lp rfl (xm (S a0) (K24 0 rfl)) <| lp rfl (qc h29) <| lp rfl (qc h30) ?_
     obtain ⟨c36, H⟩ := qa H
     refine lp rfl (V1 Tryz.underlying9 rfl (l := x6_9) (h := x7_10) ⟨_, rfl⟩ ⟨_, rfl⟩ (JQ c36) (Gn c36) (Gh c36)) <| yw (.plain rfl) rfl (ltb rfl) rfl Tryz.underlying44 Tryz.sizeOf9 Tryz.zeroValue9 rfl rfl rfl (vs := [(S (sub a0 x6_9 x7_10))]) rfl (vh rfl) <| fun b37 w38 z39 z40 e41 k42 => ?_
     obtain ⟨c43, H⟩ := qa H
     refine jC (enc := vr) (.plain rfl) rfl (ltb rfl) rfl El.t44 rfl rfl (Ow.ext h28 e41) (Ow.rd (Ow.new (xs := [sub a0 x6_9 x7_10]) (sz := 1) (enc := vr) (base := w23.heap.size) k42 (Nat.le_of_eq z39) rfl (fun _ _ => by rfl) (Nat.le_of_ble_eq_true rfl))) (Yr _) (od c43) ((e25.t e41)).size <| fun v44 w45 o46 z47 g48 => lp rfl (xa v44 rfl) <| nx <| qJ <| lp rfl (qc h30) <| lp rfl (vW rfl rfl) <| lp rfl (xa (.int .i64 (IntKind.wrap .i64 (x7_10 + 1))) rfl) <| vb <| ye <| qd <| qJ <| lp rfl (qc h30) <| lp rfl (vW rfl rfl) <| lp rfl (xa (.int .i64 (IntKind.wrap .i64 (x7_10 + 1))) rfl) <| nx ?_
     obtain rfl := si H
     exact ⟨_, Nat.lt_succ_self _, x5_7 ++ ([sub a0 x6_9 x7_10] : List (List UInt8)), v44, IntKind.wrap .i64 (x7_10 + 1), IntKind.wrap .i64 (x7_10 + 1), (ku3 (ku4 (ku8 (ku8 K24 rfl) rfl) rfl) rfl), rfl, o46, rfl, rfl, (g48 _ (e25.t e41)), S32⟩
    ·refine qi (cb q35) <| qq <| ye <| qd <| qJ <| lp rfl (qc h30) <| lp rfl (vW rfl rfl) <| lp rfl (xa (.int .i64 (IntKind.wrap .i64 (x7_10 + 1))) rfl) <| nx ?_
     obtain rfl := si H
     exact ⟨_, Nat.lt_succ_self _, x5_7, v8, x6_9, IntKind.wrap .i64 (x7_10 + 1), (ku4 (ku8 K24 rfl) rfl), h27, h28, h29, rfl, e25, S32⟩
   ·refine qi (cb q33) <| vL <| vd <| vd <| yE <| qd ?_
    obtain rfl := si H
    obtain rfl := si S32
    exact ⟨x5_7, v8, x6_9, (ku4 K24 rfl), h27, h28, h29, e25, rfl⟩
 ·rintro s18 w17 ⟨x5_14, v15, x6_16, K19, h49, h50, h51, e20, y52⟩
  rw [y52] at C13
  have H := C13
  replace H : _ = some _ := H
  refine qd <| wr <| lp rfl (qc h49) <| lp rfl (xm (S a0) (K19 0 rfl)) <| lp rfl (qc h51) ?_
  obtain ⟨c53, H⟩ := qa H
  refine lp rfl (V1 Tryz.underlying9 rfl (l := x6_16) (h := (a0.length : Int)) ⟨_, rfl⟩ rfl (JQ c53) (Gn c53) (Gh c53)) <| yw (.plain rfl) rfl (ltb rfl) rfl Tryz.underlying44 Tryz.sizeOf9 Tryz.zeroValue9 rfl rfl rfl (vs := [(S (sub a0 x6_16 (a0.length : Int)))]) rfl (vh rfl) <| fun b54 w55 z56 z57 e58 k59 => ?_
  obtain ⟨c60, H⟩ := qa H
  refine jC (enc := vr) (.plain rfl) rfl (ltb rfl) rfl El.t44 rfl rfl (Ow.ext h50 e58) (Ow.rd (Ow.new (xs := [sub a0 x6_16 (a0.length : Int)]) (sz := 1) (enc := vr) (base := w17.heap.size) k59 (Nat.le_of_eq z56) rfl (fun _ _ => by rfl) (Nat.le_of_ble_eq_true rfl))) (Yr _) (od c60) ((e20.t e58)).size <| fun v61 w62 o63 z64 g65 => lp rfl (xa v61 rfl) <| nx <| qr <| qv ?_
  obtain rfl := si H
  exact Yf rfl (e5.t (g65 _ (e20.t e58))) o63 (e5).size
/-! impl.parts -/
theorem vS.calls {w : World} {a0 : List UInt8} (gv : GV 0 w) (h0 : a0.length ≤ 1048576) :
  Calls Tryz.prog 132 #[S a0] w (Rt (RO 9 1 vr w (cut 47 a0))) := by
 have H := vS.eq a0 h0
 generalize (cut 47 a0) = r at H ⊢
 unfold vS.sh at H
 refine qh Tryz.func132 rfl (Nat.le_of_ble_eq_true rfl) Tryz.ntmps132 rfl ?_
 refine wr <| lp rfl (xa (.slice none 0 0) rfl) <| nx <| wr <| lp rfl (xm (S a0) rfl) ?_
 obtain ⟨c1, H⟩ := qa H
 obtain ⟨c2, H⟩ := qa H
 refine yX (.plain rfl) rfl (ltb rfl) rfl Tryz.call193 (strings_Split.calls (w := w) (a0 := a0) (a1 := ([47] : List UInt8)) gv (od c1) (od c2)) rfl <| fun v5 w3 e4 o6 => lp rfl (xa v5 rfl) <| nx <| qr <| qv ?_
 obtain rfl := si H
 exact Yf rfl e4 o6 (er).size
/-! impl.all(string)$1 -/
theorem jb.walk {w : World} {a0 : List UInt8} {a1 : List UInt8 → Option Bool} {v_a1 : Value} (f_a1 : ∀ (x0 : List UInt8) (r : Bool), a1 x0 = some r → y4 Tryz.prog w v_a1 [(S x0)] (.bool r)) (g_a1 : v_a1.cells = #[v_a1]) {b_a1 : Nat} (k_a1 : Blk w b_a1 #[v_a1] 113) {r : Bool} (H : jb.sh a0 a1 = some r) :
  Calls Tryz.prog 216 #[S a0, .pointer (some ⟨b_a1, 0, none⟩)] w (Rt (RP w (.bool r))) := by
 unfold jb.sh at H
 refine qh Tryz.func216 rfl (Nat.le_of_ble_eq_true rfl) Tryz.ntmps216 rfl ?_
 refine wr <| lp rfl (xa (.bool false) rfl) <| nx <| wr <| lp rfl (qH Tryz.isAgg113 k_a1 rfl rfl) <| lp rfl (xm (S a0) rfl) ?_
 obtain ⟨z1, x2, H⟩ := bind_some H
 refine Ya (.plain rfl) rfl (ltb rfl) rfl rfl (y4.ext (f_a1 _ _ x2) er) rfl <| fun w3 e4 => lp rfl (yS rfl) <| lp rfl (xa (.bool (!z1)) rfl) <| nx <| qr <| qv ?_
 obtain rfl := si H
 exact vo rfl e4
theorem jb.calls {w : World} {a0 : List UInt8} {a1 : List UInt8 → Option Bool} {r : Bool} {v_a1 : Value} (f_a1 : ∀ (x0 : List UInt8) (r : Bool), a1 x0 = some r → y4 Tryz.prog w v_a1 [(S x0)] (.bool r)) (g_a1 : v_a1.cells = #[v_a1]) {b_a1 : Nat} (k_a1 : Blk w b_a1 #[v_a1] 113) (H : ((a1 a0).map (!·)) = some r) :
  Calls Tryz.prog 216 #[S a0, .pointer (some ⟨b_a1, 0, none⟩)] w (Rt (RP w (.bool r))) := jb.walk f_a1 g_a1 k_a1 (jb.eq a0 a1 H)
/-! slices.IndexFunc(()string,string) -/
theorem qR.walk {k : Nat} {w : World} {a0 : List (List UInt8)} {a1 : List UInt8 → Option Bool} {v_a0 : Value} (f_a0 : Rd 1 vr w v_a0 a0) {v_a1 : Value} (f_a1 : ∀ (x0 : List UInt8) (r : Bool), a1 x0 = some r → y4 Tryz.prog w v_a1 [(S x0)] (.bool r)) (g_a1 : v_a1.cells = #[v_a1]) {r : Int} (H : qR.sh k a0 a1 = some r) :
  Calls Tryz.prog 241 #[v_a0, v_a1] w (Rt (RP w (.int .i64 r))) := by
 unfold qR.sh at H
 refine qh Tryz.func241 rfl (Nat.le_of_ble_eq_true rfl) Tryz.ntmps241 rfl ?_
 refine wr <| lp rfl (xa (.int .i64 0) rfl) <| nx <| qk <| wr <| lp rfl (xm v_a0 rfl) <| lp rfl (vy Tryz.underlying44 rfl f_a0) <| lp rfl (xm (.int .i64 0) rfl) <| nx ?_
 obtain ⟨z2, L3, C4⟩ := bind_some H
 clear H
 refine  vH (fun s0 sQ wQ => Kp [(4, 6), (8, 19)] s0 sQ ∧ Ext w wQ ∧ z2 = .inr ()) ?_ ?_
 ·refine qF <| vB (fun s0 kk sQ wQ => ∃ (x8_1 : Int), Kp [(4, 6), (8, 19)] s0 sQ ∧ sQ 8 = .int .i64 x8_1 ∧ Ext w wQ ∧ qn (qR.b1 a0 a1) kk x8_1 = some z2) k ⟨0, kz, rfl, er, L3⟩ ?_
  rintro k9 s10 w11 ⟨x8_1, K12, h15, e13, L14⟩
  cases k9 with
  | zero => exact absurd L14 (by simp [qn])
  | succ k9 =>
   obtain ⟨t16, H, S17⟩ := qN L14
   clear L14
   unfold qR.b1 at H
   refine wr <| lp rfl (yH h15 (K12 7 rfl)) <| nx <| qk ?_
   rcases qf H with ⟨q18, H⟩ | ⟨q18, H⟩
   ·refine qp (cb q18) <| qq <| qd <| qk <| qF <| wr <| lp rfl (qc h15) <| lp rfl (xa (.int .i64 x8_1) rfl) <| nx <| wr <| lp rfl (xm v_a1 (K12 1 rfl)) <| lp rfl (xm v_a0 (K12 0 rfl)) <| lp rfl (xm (.int .i64 x8_1) rfl) ?_
    obtain ⟨c19, H⟩ := qa H
    refine vw (.plain rfl) rfl (ltb rfl) rfl Tryz.underlying44 Tryz.sizeOf9 rfl (Rd.ext f_a0 e13) rfl c19 <| fun p20 h21 => lp rfl (qQ Tryz.isAgg9 rfl h21 rfl) ?_
    obtain ⟨z22, x23, H⟩ := bind_some H
    refine Ya (.plain rfl) rfl (ltb rfl) rfl rfl (y4.ext (f_a1 _ _ x23) e13) rfl <| fun w24 e25 => nx ?_
    rcases qf H with ⟨q26, H⟩ | ⟨q26, H⟩
    ·refine qp (cb q26) <| wr <| lp rfl (xm (.int .i64 x8_1) rfl) <| lp rfl (xa (.int .i64 x8_1) rfl) <| nx <| qr <| vi <| qo <| qo <| vi <| qo <| qo <| qv ?_
     obtain rfl := si H
     obtain rfl := si S17
     have H := C4
     obtain rfl := si H
     exact vo rfl (e13.t e25)
    ·refine qi (cb q26) <| qq <| ye <| qd <| qJ <| lp rfl (vW h15 rfl) <| lp rfl (xm (.int .i64 (IntKind.wrap .i64 (x8_1 + 1))) rfl) <| nx ?_
     obtain rfl := si H
     exact ⟨_, Nat.lt_succ_self _, IntKind.wrap .i64 (x8_1 + 1), (ku3 (ku8 K12 rfl) rfl), rfl, (e13.t e25), S17⟩
   ·refine qi (cb q18) <| vL <| vd <| vd <| yE <| qd ?_
    obtain rfl := si H
    obtain rfl := si S17
    exact ⟨(ku1 K12 rfl), e13, rfl⟩
 ·rintro s6 w5 ⟨K7, e8, y27⟩
  rw [y27] at C4
  have H := C4
  replace H : _ = some _ := H
  refine qd <| wr <| lp rfl (xa (.int .i64 (-1)) rfl) <| nx <| qr <| qv ?_
  obtain rfl := si H
  exact vo rfl e8
theorem qR.calls {w : World} {a0 : List (List UInt8)} {a1 : List UInt8 → Option Bool} {r : Int} {v_a0 : Value} (f_a0 : Rd 1 vr w v_a0 a0) {v_a1 : Value} (f_a1 : ∀ (x0 : List UInt8) (r : Bool), a1 x0 = some r → y4 Tryz.prog w v_a1 [(S x0)] (.bool r)) (g_a1 : v_a1.cells = #[v_a1]) (h0 : a0.length ≤ 4611686018427387904) (H : (Vj a1 a0) = some r) :
  Calls Tryz.prog 241 #[v_a0, v_a1] w (Rt (RP w (.int .i64 r))) := by
 obtain ⟨k, h⟩ := qR.eq a0 a1 h0 H
 exact qR.walk f_a0 f_a1 g_a1 h
/-! slices.ContainsFunc(()string,string) -/
theorem vl.walk {w : World} {a0 : List (List UInt8)} {a1 : List UInt8 → Option Bool} {v_a0 : Value} (f_a0 : Rd 1 vr w v_a0 a0) {v_a1 : Value} (f_a1 : ∀ (x0 : List UInt8) (r : Bool), a1 x0 = some r → y4 Tryz.prog w v_a1 [(S x0)] (.bool r)) (g_a1 : v_a1.cells = #[v_a1]) {r : Bool} (H : vl.sh a0 a1 = some r) :
  Calls Tryz.prog 215 #[v_a0, v_a1] w (Rt (RP w (.bool r))) := by
 unfold vl.sh at H
 refine qh Tryz.func215 rfl (Nat.le_of_ble_eq_true rfl) Tryz.ntmps215 rfl ?_
 refine wr <| lp rfl (xa (.bool false) rfl) <| nx <| wr <| lp rfl (xm v_a0 rfl) <| lp rfl (xm v_a1 rfl) ?_
 obtain ⟨c1, H⟩ := qa H
 obtain ⟨z2, x3, H⟩ := bind_some H
 refine lc rfl rfl Tryz.call241 (qR.calls (w := w) (a0 := a0) (a1 := a1) f_a0 (fun x0 r h => y4.ext (f_a1 x0 r h) er) g_a1 (od c1) x3) rfl <| fun w4 e5 => lp rfl (QY rfl rfl) <| lp rfl (xa (.bool (decide (0 ≤ z2))) rfl) <| nx <| qr <| qv ?_
 obtain rfl := si H
 exact vo rfl e5
theorem vl.calls {w : World} {a0 : List (List UInt8)} {a1 : List UInt8 → Option Bool} {r : Bool} {v_a0 : Value} (f_a0 : Rd 1 vr w v_a0 a0) {v_a1 : Value} (f_a1 : ∀ (x0 : List UInt8) (r : Bool), a1 x0 = some r → y4 Tryz.prog w v_a1 [(S x0)] (.bool r)) (g_a1 : v_a1.cells = #[v_a1]) (h0 : a0.length ≤ 4611686018427387904) (H : (QX a1 a0) = some r) :
  Calls Tryz.prog 215 #[v_a0, v_a1] w (Rt (RP w (.bool r))) := vl.walk f_a0 f_a1 g_a1 (vl.eq a0 a1 h0 H)
/-! impl.all(string) -/
theorem jB.walk {w : World} {a0 : List (List UInt8)} {a1 : List UInt8 → Option Bool} {v_a0 : Value} (f_a0 : Rd 1 vr w v_a0 a0) {v_a1 : Value} (f_a1 : ∀ (x0 : List UInt8) (r : Bool), a1 x0 = some r → y4 Tryz.prog w v_a1 [(S x0)] (.bool r)) (g_a1 : v_a1.cells = #[v_a1]) {r : Bool} (H : jB.sh a0 a1 = some r) :
  Calls Tryz.prog 167 #[v_a0, v_a1] w (Rt (RP w (.bool r))) := by
 unfold jB.sh at H
 refine qh Tryz.func167 rfl (Nat.le_of_ble_eq_true rfl) Tryz.ntmps167 rfl ?_
 refine wr <| Ve (.plain rfl) rfl (ltb rfl) rfl rfl <| fun b1 w2 z3 z4 e5 k6 => lp rfl (xa (.bool false) rfl) <| nx <| wr <| lp rfl (xm v_a0 rfl) <| lp rfl (Q6 (vs := #[]) (us := #[.pointer (some ⟨b1, 0, none⟩)]) rfl rfl) ?_
 obtain ⟨c11, H⟩ := qa H
 obtain ⟨z12, x13, H⟩ := bind_some H
 refine lc rfl rfl Tryz.call215 (vl.calls (w := w2) (a0 := a0) (a1 := (fun (x0_ : List UInt8) => ((a1 x0_).map (!·)))) (Rd.ext f_a0 e5) (fun x0_ r h => by exact y4.mk Tryz.call216 (by rfl) fun w9 k10 => jb.calls (w := w9) (a0 := x0_) (a1 := a1) (fun x0 r h => y4.ext (f_a1 x0 r h) (e5.t k10)) g_a1 (Blk.ext (Blk.cs k6 g_a1) k10) h) rfl (od c11) x13) rfl <| fun w14 e15 => lp rfl (yS rfl) <| lp rfl (xa (.bool (!z12)) rfl) <| nx <| qr <| qv ?_
 obtain rfl := si H
 exact vo rfl (e5.t e15)
theorem jB.calls {w : World} {a0 : List (List UInt8)} {a1 : List UInt8 → Option Bool} {r : Bool} {v_a0 : Value} (f_a0 : Rd 1 vr w v_a0 a0) {v_a1 : Value} (f_a1 : ∀ (x0 : List UInt8) (r : Bool), a1 x0 = some r → y4 Tryz.prog w v_a1 [(S x0)] (.bool r)) (g_a1 : v_a1.cells = #[v_a1]) (h0 : a0.length ≤ 4611686018427387904) (H : (Jc a1 a0) = some r) :
  Calls Tryz.prog 167 #[v_a0, v_a1] w (Rt (RP w (.bool r))) := jB.walk f_a0 f_a1 g_a1 (jB.eq a0 a1 h0 H)
/-! impl.PathOK -/
theorem y8.calls {w : World} {a0 : List UInt8} (gv : GV 0 w) :
  Calls Tryz.prog 101 #[S a0] w (Rt (RP w (.bool (qy a0)))) := by
 have H := y8.eq a0
 generalize (qy a0) = r at H ⊢
 unfold y8.sh at H
 refine qh Tryz.func101 rfl (Nat.le_of_ble_eq_true rfl) Tryz.ntmps101 rfl ?_
 refine wr <| lp rfl (xa (.bool false) rfl) <| nx <| wr <| lp rfl (xm (S a0) rfl) <| lp rfl (j9 Tryz.underlying9 rfl) <| lp rfl (yH rfl rfl) <| lp rfl (xm (.bool (decide ((a0.length : Int) < 36))) rfl) ?_
 obtain ⟨z2, x3, H⟩ := bind_some H
 refine jp 5 [(7, 12)] 11 (fun q => q = z2) ?_ ?_
 ·rcases qf x3 with ⟨b0_, H⟩ | ⟨b0_, H⟩
  ·refine lg rfl rfl rfl rfl (cb b0_) (xm (S a0) rfl) ?_
   obtain ⟨c2, H⟩ := qa H
   refine yX (tg rfl rfl rfl (cb b0_)) rfl (ltb rfl) rfl Tryz.call132 (vS.calls (w := w) (a0 := a0) gv (od c2)) rfl <| fun v5 w3 e4 o6 => lg rfl rfl rfl rfl (cb b0_) (vy Tryz.underlying44 rfl (Ow.rd o6)) <| lg rfl rfl rfl rfl (cb b0_) (VX rfl rfl) <| lp rfl (qD (b := true) (v := (.bool (decide (((cut 47 a0).length : Int) ≤ 4)))) (cb b0_) rfl) ?_
   obtain rfl := si H
   exact nx ⟨(ku1 (ku4 kz rfl) rfl), ⟨_, rfl, rfl⟩, e4⟩
  ·refine ls rfl rfl rfl (cb b0_) rfl <| ls rfl rfl rfl (cb b0_) rfl <| ls rfl rfl rfl (cb b0_) rfl <| ls rfl rfl rfl (cb b0_) rfl <| lp rfl (qD (b := false) (v := (.bool false)) (cb b0_) rfl) ?_
   obtain rfl := si H
   exact nx ⟨(ku1 (ku4 kz rfl) rfl), ⟨_, rfl, rfl⟩, er⟩
 intro s8 w4 z9 K5 hq h6 e7
 rw [hq] at h6; clear hq
 refine lp rfl (qc h6) ?_
 obtain ⟨z11, x12, H⟩ := bind_some H
 refine jp 4 [(13, 17)] 16 (fun q => q = z11) ?_ ?_
 ·rcases qf x12 with ⟨b9_, H⟩ | ⟨b9_, H⟩
  ·refine lg rfl rfl rfl rfl (cb b9_) (xm (S a0) (K5 0 rfl)) ?_
   obtain ⟨c11, H⟩ := qa H
   refine yX (tg rfl rfl rfl (cb b9_)) rfl (ltb rfl) rfl Tryz.call132 (vS.calls (w := w4) (a0 := a0) (GV.ext gv e7) (od c11)) rfl <| fun v14 w12 e13 o15 => ?_
   obtain ⟨c20, H⟩ := qa H
   obtain ⟨z21, x22, H⟩ := bind_some H
   refine y1 (tg rfl rfl rfl (cb b9_)) rfl (ltb rfl) rfl Tryz.call167 (jB.calls (w := w12) (a0 := (cut 47 a0)) (a1 := (fun (x0_ : List UInt8) => bif decide (x0_.length ≤ 4611686018427387904) then (some (yP x0_)) else none)) (Ow.rd o15) (fun x0_ r h => by obtain ⟨q0, h⟩ := qa h; have h := si h; subst h; exact y4.mk Tryz.call168 (by rfl) fun w18 k19 => yv.calls (w := w18) (a0 := x0_) (od q0)) rfl (od c20) x22) rfl <| fun w23 e24 => lp rfl (qD (b := true) (v := (.bool z21)) (cb b9_) rfl) ?_
   obtain rfl := si H
   exact nx ⟨(ku4 kz rfl), ⟨_, rfl, rfl⟩, (e13.t e24)⟩
  ·refine ls rfl rfl rfl (cb b9_) rfl <| ls rfl rfl rfl (cb b9_) rfl <| ls rfl rfl rfl (cb b9_) rfl <| lp rfl (qD (b := false) (v := (.bool false)) (cb b9_) rfl) ?_
   obtain rfl := si H
   exact nx ⟨(ku4 kz rfl), ⟨_, rfl, rfl⟩, er⟩
 intro s25 w13 z26 K14 hq h15 e16
 rw [hq] at h15; clear hq
 refine lp rfl (qG h15) <| nx <| qr <| qv ?_
 obtain rfl := si H
 exact vo rfl (e7.t e16)
/-! impl.isLong$1 -/
theorem jt.calls {w : World} {a0 : List UInt8} :
  Calls Tryz.prog 170 #[S a0] w (Rt (RP w (.bool (decide (a0.length ≤ 65536))))) := by
 have H := jt.eq a0
 generalize (decide (a0.length ≤ 65536)) = r at H ⊢
 unfold jt.sh at H
 refine qh Tryz.func170 rfl (Nat.le_of_ble_eq_true rfl) Tryz.ntmps170 rfl ?_
 refine wr <| lp rfl (xa (.bool false) rfl) <| nx <| wr <| lp rfl (xm (S a0) rfl) <| lp rfl (j9 Tryz.underlying9 rfl) <| lp rfl (VX rfl rfl) <| lp rfl (xa (.bool (decide ((a0.length : Int) ≤ 65536))) rfl) <| nx <| qr <| qv ?_
 obtain rfl := si H
 exact vo rfl er
/-! impl.isLong -/
theorem jE.calls {w : World} {a0 : List (List UInt8)} {v_a0 : Value} (f_a0 : Rd 1 vr w v_a0 a0) (h0 : a0.length ≤ 4611686018427387904) :
  Calls Tryz.prog 103 #[v_a0] w (Rt (RP w (.bool (a0.any fun t => decide (65536 < t.length))))) := by
 have H := jE.eq a0 h0
 generalize (a0.any fun t => decide (65536 < t.length)) = r at H ⊢
 unfold jE.sh at H
 refine qh Tryz.func103 rfl (Nat.le_of_ble_eq_true rfl) Tryz.ntmps103 rfl ?_
 refine wr <| lp rfl (xa (.bool false) rfl) <| nx <| wr <| lp rfl (xm v_a0 rfl) ?_
 obtain ⟨c5, H⟩ := qa H
 obtain ⟨z6, x7, H⟩ := bind_some H
 refine lc rfl rfl Tryz.call167 (jB.calls (w := w) (a0 := a0) (a1 := (fun (x0_ : List UInt8) => some (decide (x0_.length ≤ 65536)))) f_a0 (fun x0_ r h => by have h := si h; subst h; exact y4.mk Tryz.call170 (by rfl) fun w3 k4 => jt.calls (w := w3) (a0 := x0_)) rfl (od c5) x7) rfl <| fun w8 e9 => lp rfl (yS rfl) <| lp rfl (xa (.bool (!z6)) rfl) <| nx <| qr <| qv ?_
 obtain rfl := si H
 exact vo rfl e9
/-! impl.first -/
theorem vT.calls {w : World} {a0 : List (Bool ⊕ Int)} {v_a0 : Value} (f_a0 : Rd 1 (j3 4 3) w v_a0 a0) (h0 : a0.length ≤ 4611686018427387904) :
  Calls Tryz.prog 77 #[v_a0] w (Rt (RP w (.int .i64 (vu a0)))) := by
 obtain ⟨k, H⟩ := vT.eq a0 h0
 generalize (vu a0) = r at H ⊢
 unfold vT.sh at H
 refine qh Tryz.func77 rfl (Nat.le_of_ble_eq_true rfl) Tryz.ntmps77 rfl ?_
 refine wr <| lp rfl (xa (.int .i64 0) rfl) <| nx <| qk <| wr <| lp rfl (xa (.int .i64 0) rfl) <| nx ?_
 obtain ⟨z2, L3, C4⟩ := bind_some H
 clear H
 refine  vH (fun s0 sQ wQ => Kp [(2, 34)] s0 sQ ∧ Ext w wQ ∧ z2 = .inr ()) ?_ ?_
 ·refine qF <| vB (fun s0 kk sQ wQ => ∃ (x3_1 : Int), Kp [(2, 34)] s0 sQ ∧ sQ 3 = .int .i64 x3_1 ∧ Ext w wQ ∧ qn (vT.b1 a0) kk x3_1 = some z2) k ⟨0, kz, rfl, er, L3⟩ ?_
  rintro k9 s10 w11 ⟨x3_1, K12, h15, e13, L14⟩
  cases k9 with
  | zero => exact absurd L14 (by simp [qn])
  | succ k9 =>
   obtain ⟨t16, H, S17⟩ := qN L14
   clear L14
   unfold vT.b1 at H
   refine qk <| wr <| lp rfl (qc h15) <| lp rfl (vW rfl rfl) <| lp rfl (xm v_a0 (K12 0 rfl)) <| lp rfl (vy Tryz.underlying142 rfl (Rd.ext f_a0 e13)) <| lp rfl (yH rfl rfl) <| nx ?_
   rcases qf H with ⟨q18, H⟩ | ⟨q18, H⟩
   ·refine qp (cb q18) <| qq <| qd <| qk <| qF <| wr <| lp rfl (xm v_a0 (K12 0 rfl)) <| lp rfl (qc h15) ?_
    obtain ⟨c19, H⟩ := qa H
    refine vw (.plain rfl) rfl (ltb rfl) rfl Tryz.underlying142 Tryz.sizeOf20 rfl (Rd.ext f_a0 e13) rfl c19 <| fun p20 h21 => lp rfl (qQ Tryz.isAgg20 rfl h21 rfl) <| lp rfl (X_taB Tryz.underlying4 Tryz.zeroValue4 (by decide) rfl) <| lp rfl (xm (.tuple #[(.bool (Jv (gt a0 x3_1))), (.bool (isB (gt a0 x3_1)))]) rfl) <| lp rfl (qM (v := (.bool (Jv (gt a0 x3_1)))) rfl rfl) <| lp rfl (qM (v := (.bool (isB (gt a0 x3_1)))) rfl rfl) <| lp rfl (xa (.bool (Jv (gt a0 x3_1))) rfl) <| lp rfl (xa (.bool (isB (gt a0 x3_1))) rfl) <| nx <| wr <| lp rfl (xm (.bool (Jv (gt a0 x3_1))) rfl) <| nx ?_
    rcases qf H with ⟨q22, H⟩ | ⟨q22, H⟩
    ·refine qp (cb q22) <| wr <| lp rfl (xm v_a0 (K12 0 rfl)) <| lp rfl (qc h15) <| lp rfl (vW rfl rfl) ?_
     obtain ⟨c23, H⟩ := qa H
     refine vw (.plain rfl) rfl (ltb rfl) rfl Tryz.underlying142 Tryz.sizeOf20 rfl (Rd.ext f_a0 e13) rfl c23 <| fun p24 h25 => lp rfl (qQ Tryz.isAgg20 rfl h25 rfl) <| lp rfl (X_taI Tryz.underlying3 Tryz.zeroValue3 (by decide) rfl) <| lp rfl (qc rfl) <| lp rfl (qM (v := (.int .i64 (JJ (gt a0 (IntKind.wrap .i64 (x3_1 + 1)))))) rfl rfl) <| lp rfl (qM (v := (.bool (!isB (gt a0 (IntKind.wrap .i64 (x3_1 + 1)))))) rfl rfl) <| lp rfl (xa (.int .i64 (JJ (gt a0 (IntKind.wrap .i64 (x3_1 + 1))))) rfl) <| lp rfl (xa (.bool (!isB (gt a0 (IntKind.wrap .i64 (x3_1 + 1))))) rfl) <| nx <| wr <| lp rfl (xm (.int .i64 (JJ (gt a0 (IntKind.wrap .i64 (x3_1 + 1))))) rfl) <| lp rfl (xa (.int .i64 (JJ (gt a0 (IntKind.wrap .i64 (x3_1 + 1))))) rfl) <| nx <| qr <| vi <| qo <| qo <| vi <| qo <| qo <| qv ?_
     obtain rfl := si H
     obtain rfl := si S17
     have H := C4
     obtain rfl := si H
     exact vo rfl e13
    ·refine qi (cb q22) <| qq <| ye <| qd <| qJ <| lp rfl (qc h15) <| lp rfl (vW rfl rfl) <| lp rfl (xa (.int .i64 (IntKind.wrap .i64 (x3_1 + 2))) rfl) <| nx ?_
     obtain rfl := si H
     exact ⟨_, Nat.lt_succ_self _, IntKind.wrap .i64 (x3_1 + 2), (ku3 (ku8 (ku8 K12 rfl) rfl) rfl), rfl, e13, S17⟩
   ·refine qi (cb q18) <| vL <| vd <| vd <| yE <| qd ?_
    obtain rfl := si H
    obtain rfl := si S17
    exact ⟨(ku1 (ku4 K12 rfl) rfl), e13, rfl⟩
 ·rintro s6 w5 ⟨K7, e8, y26⟩
  rw [y26] at C4
  have H := C4
  replace H : _ = some _ := H
  refine qd <| wr <| lp rfl (xa (.int .i64 0) rfl) <| nx <| qr <| qv ?_
  obtain rfl := si H
  exact vo rfl e8
/-! spec.l01OK -/
theorem yl.calls {w : World} {a0 : List UInt8} :
  Calls Tryz.prog 97 #[S a0] w (Rt (RP w (.bool (qy a0)))) := by
 obtain ⟨k, H⟩ := yl.eq a0
 generalize (qy a0) = r at H ⊢
 unfold yl.sh at H
 refine qh Tryz.func97 rfl (Nat.le_of_ble_eq_true rfl) Tryz.ntmps97 rfl ?_
 refine wr <| lp rfl (xa (.bool false) rfl) <| nx <| qk <| wr <| lp rfl (xm (S a0) rfl) <| lp rfl (j9 Tryz.underlying9 rfl) <| lp rfl (jj rfl rfl) <| nx ?_
 rcases qf H with ⟨q1, H⟩ | ⟨q1, H⟩
 ·refine qp (cb q1) <| wr <| lp rfl (xa (.bool false) rfl) <| nx <| qr <| qo <| qv ?_
  obtain rfl := si H
  exact vo rfl er
 ·refine qi (cb q1) <| qq <| qd <| wr <| lp rfl (xm (S a0) rfl) ?_
  obtain ⟨c2, H⟩ := qa H
  refine yX (.plain rfl) rfl (ltb rfl) rfl Tryz.call135 (yb.calls (w := w) (a0 := a0) (a1 := 47) (od c2)) rfl <| fun v5 w3 e4 o6 => lp rfl (xa v5 rfl) <| nx <| qk <| wr <| lp rfl (xm v5 rfl) <| lp rfl (vy Tryz.underlying44 rfl (Ow.rd o6)) <| lp rfl (jj rfl rfl) <| nx ?_
  rcases qf H with ⟨q7, H⟩ | ⟨q7, H⟩
  ·refine qp (cb q7) <| wr <| lp rfl (xa (.bool false) rfl) <| nx <| qr <| qo <| qv ?_
   obtain rfl := si H
   exact vo rfl e4
  ·refine qi (cb q7) <| qq <| qd <| qk <| wr <| lp rfl (xa (.int .i64 0) rfl) <| nx ?_
   obtain ⟨z9, L10, C11⟩ := bind_some H
   clear H
   refine  vH (fun s0 sQ wQ => Kp [(2, 3), (4, 5), (13, 25)] s0 sQ ∧ Ext w3 wQ ∧ z9 = .inr ()) ?_ ?_
   ·refine qF <| vB (fun s0 kk sQ wQ => ∃ (x4_8 : Int), Kp [(2, 3), (4, 5), (13, 25)] s0 sQ ∧ sQ 4 = .int .i64 x4_8 ∧ Ext w3 wQ ∧ qn (yl.b1 a0) kk x4_8 = some z9) k ⟨0, kz, rfl, er, L10⟩ ?_
    rintro k16 s17 w18 ⟨x4_8, K19, h22, e20, L21⟩
    cases k16 with
    | zero => exact absurd L21 (by simp [qn])
    | succ k16 =>
     obtain ⟨t23, H, S24⟩ := qN L21
     clear L21
     unfold yl.b1 at H
     refine qk <| wr <| lp rfl (qc h22) <| lp rfl (xm v5 (K19 3 rfl)) <| lp rfl (vy Tryz.underlying44 rfl (Ow.rd (Ow.ext o6 e20))) <| lp rfl (yH rfl rfl) <| nx ?_
     rcases qf H with ⟨q25, H⟩ | ⟨q25, H⟩
     ·refine qp (cb q25) <| qq <| qd <| qk <| qF <| wr <| lp rfl (xm v5 (K19 3 rfl)) <| lp rfl (qc h22) ?_
      obtain ⟨c26, H⟩ := qa H
      refine vw (.plain rfl) rfl (ltb rfl) rfl Tryz.underlying44 Tryz.sizeOf9 rfl (Ow.rd (Ow.ext o6 e20)) rfl c26 <| fun p27 h28 => lp rfl (qQ Tryz.isAgg9 rfl h28 rfl) <| lc rfl rfl Tryz.call161 (yg.calls (w := w18) (a0 := gt (cut 47 a0) x4_8)) rfl <| fun w29 e30 => lp rfl (yS rfl) <| nx ?_
      rcases qf H with ⟨q31, H⟩ | ⟨q31, H⟩
      ·refine qp (cb q31) <| wr <| lp rfl (xa (.bool false) rfl) <| nx <| qr <| vi <| qo <| qo <| vi <| qo <| qo <| qv ?_
       obtain rfl := si H
       obtain rfl := si S24
       have H := C11
       obtain rfl := si H
       exact vo rfl ((e4.t e20).t e30)
      ·refine qi (cb q31) <| qq <| ye <| qd <| qJ <| lp rfl (qc h22) <| lp rfl (vW rfl rfl) <| lp rfl (xa (.int .i64 (IntKind.wrap .i64 (x4_8 + 1))) rfl) <| nx ?_
       obtain rfl := si H
       exact ⟨_, Nat.lt_succ_self _, IntKind.wrap .i64 (x4_8 + 1), (ku1 (ku4 (ku8 K19 rfl) rfl) rfl), rfl, (e20.t e30), S24⟩
     ·refine qi (cb q25) <| vL <| vd <| vd <| yE <| qd ?_
      obtain rfl := si H
      obtain rfl := si S24
      exact ⟨(ku4 K19 rfl), e20, rfl⟩
   ·rintro s13 w12 ⟨K14, e15, y32⟩
    rw [y32] at C11
    have H := C11
    replace H : _ = some _ := H
    refine qd <| wr <| lp rfl (xa (.bool true) rfl) <| nx <| qr <| qv ?_
    obtain rfl := si H
    exact vo rfl (e4.t e15)
/-! spec.l02Fault -/
theorem ju.calls {w : World} {a0 : Rec} :
  Calls Tryz.prog 194 #[.agg (qg a0).toArray] w (Rt (RP w (.int .i64 (qz a0)))) := by
 have H := ju.eq a0
 generalize (qz a0) = r at H ⊢
 unfold ju.sh at H
 refine qh Tryz.func194 rfl (Nat.le_of_ble_eq_true rfl) Tryz.ntmps194 rfl ?_
 refine wr <| Ve (.plain rfl) rfl (ltb rfl) rfl rfl <| fun b1 w2 z3 z4 e5 k6 => lp rfl (xa (.int .i64 0) rfl) <| nx <| wr <| lp rfl (qe Tryz.underlying52 rfl Tryz.sizeOf3 rfl rfl) <| lp rfl (qH Tryz.isAgg3 k6 rfl rfl) <| lp rfl (yZ rfl rfl) <| lp rfl (xa (.bool (decide (a0.kind = 3))) rfl) <| nx <| qk <| qF <| wr <| lp rfl (qe Tryz.underlying52 rfl Tryz.sizeOf3 rfl rfl) <| lp rfl (qH Tryz.isAgg3 k6 rfl rfl) <| lc rfl rfl Tryz.call61 (jU.calls (w := w2) (a0 := a0.kind) (a1 := 1) (a2 := 4)) rfl <| fun w7 e8 => lp rfl (yS rfl) <| lp rfl (xa (.bool (!(within a0.kind 1 4))) rfl) <| nx ?_
 rcases qf H with ⟨q9, H⟩ | ⟨q9, H⟩
 ·refine qp (cb q9) <| wr <| lp rfl (xa (.int .i64 9) rfl) <| nx <| qr <| vi <| qo <| qv ?_
  obtain rfl := si H
  exact vo rfl (e5.t e8)
 ·refine qi (cb q9) <| wr <| lp rfl (qe Tryz.underlying52 rfl Tryz.sizeOf9 rfl rfl) <| lp rfl (qH Tryz.isAgg9 (Blk.ext k6 e8) rfl rfl) <| lc rfl rfl Tryz.call97 (yl.calls (w := w7) (a0 := a0.path)) rfl <| fun w10 e11 => lp rfl (yS rfl) <| lp rfl (xa (.bool (!(qy a0.path))) rfl) <| nx ?_
  rcases qf H with ⟨q12, H⟩ | ⟨q12, H⟩
  ·refine qp (cb q12) <| wr <| lp rfl (xa (.int .i64 10) rfl) <| nx <| qr <| vi <| qo <| qv ?_
   obtain rfl := si H
   exact vo rfl ((e5.t e8).t e11)
  ·refine qi (cb q12) <| wr <| lp rfl (qe Tryz.underlying52 rfl Tryz.sizeOf9 rfl rfl) <| lp rfl (qH Tryz.isAgg9 (Blk.ext k6 (e8.t e11)) rfl rfl) <| lp rfl (j9 Tryz.underlying9 rfl) <| lp rfl (jj rfl rfl) <| lp rfl (xm (.bool (decide (20 < (a0.body.length : Int)))) rfl) <| jN 9 [(23, 32)] 31 (.bool ((decide (20 < (a0.body.length : Int))) || ((decide (a0.kind = 2)) && (decide (a0.body = ([] : List UInt8)))))) ?_ ?_
   ·rcases qw (decide (20 < (a0.body.length : Int))) with b12_ | b12_
    ·exact ls rfl rfl rfl (cb b12_) rfl <| ls rfl rfl rfl (cb b12_) rfl <| ls rfl rfl rfl (cb b12_) rfl <| ls rfl rfl rfl (cb b12_) rfl <| lu rfl rfl rfl rfl rfl <| lu rfl rfl rfl rfl rfl <| lu rfl rfl rfl rfl rfl <| ls rfl rfl rfl (cb b12_) rfl <| lp rfl (qD (b := true) (v := (.bool true)) (cb b12_) rfl) <| nx ⟨(ku1 (ku8 kz rfl) rfl), (YJ b12_), er⟩
    ·refine lg rfl rfl rfl rfl (cb b12_) (qe Tryz.underlying52 rfl Tryz.sizeOf3 rfl rfl) <| lg rfl rfl rfl rfl (cb b12_) (qH Tryz.isAgg3 (Blk.ext k6 (e8.t e11)) rfl rfl) <| lg rfl rfl rfl rfl (cb b12_) (yZ rfl rfl) <| lg rfl rfl rfl rfl (cb b12_) (xm (.bool (decide (a0.kind = 2))) rfl) <| jN 4 [(27, 31)] 30 (.bool ((decide (a0.kind = 2)) && (decide (a0.body = ([] : List UInt8))))) ?_ ?_
     ·rcases qw (decide (a0.kind = 2)) with b13_ | b13_
      ·exact lg rfl rfl rfl rfl (cb b13_) (qe Tryz.underlying52 rfl Tryz.sizeOf9 rfl rfl) <| lg rfl rfl rfl rfl (cb b13_) (qH Tryz.isAgg9 (Blk.ext k6 (e8.t e11)) rfl rfl) <| lg rfl rfl rfl rfl (cb b13_) (VT rfl rfl) <| lg rfl rfl rfl rfl (cb b12_) (qD (b := true) (v := (.bool (decide (a0.body = ([] : List UInt8))))) (cb b13_) rfl) <| nx ⟨(ku4 kz rfl), (VY b13_), er⟩
      ·exact ls rfl rfl rfl (cb b13_) rfl <| ls rfl rfl rfl (cb b13_) rfl <| ls rfl rfl rfl (cb b13_) rfl <| lg rfl rfl rfl rfl (cb b12_) (qD (b := false) (v := (.bool false)) (cb b13_) rfl) <| nx ⟨(ku4 kz rfl), (V6 b13_), er⟩
     intro s19 w15 K16 h17 e18
     exact lp rfl (qD (b := false) (v := (.bool ((decide (a0.kind = 2)) && (decide (a0.body = ([] : List UInt8)))))) ((K16 22 rfl).trans (cb b12_)) h17) <| nx ⟨(ku1 (Kp.cut (ku4 kz rfl) K16 rfl) rfl), (YG b12_), e18⟩
   intro s20 w14 K15 h16 e17
   refine lp rfl (qG h16) <| nx ?_
   rcases qf H with ⟨q21, H⟩ | ⟨q21, H⟩
   ·refine qp (cb q21) <| wr <| lp rfl (xa (.int .i64 8) rfl) <| nx <| qr <| vi <| qo <| qv ?_
    obtain rfl := si H
    exact vo rfl (((e5.t e8).t e11).t e17)
   ·refine qi (cb q21) <| wr <| lp rfl (qe Tryz.underlying52 rfl Tryz.sizeOf9 rfl (K15 1 rfl)) <| lp rfl (qH Tryz.isAgg9 (Blk.ext k6 ((e8.t e11).t e17)) rfl rfl) <| lp rfl (Qv rfl rfl) <| lp rfl (xm (.bool (!decide (a0.body = ([] : List UInt8)))) rfl) <| jN 7 [(37, 44)] 43 (.bool ((!decide (a0.body = ([] : List UInt8))) && ((decide (a0.kind = 3)) || (decide (a0.kind = 4))))) ?_ ?_
    ·rcases qw (!decide (a0.body = ([] : List UInt8))) with b21_ | b21_
     ·refine lg rfl rfl rfl rfl (cb b21_) (xm (.bool (decide (a0.kind = 3))) (K15 3 rfl)) <| lg rfl rfl rfl rfl (cb b21_) (xm (.bool (decide (a0.kind = 3))) rfl) <| jN 4 [(39, 43)] 42 (.bool ((decide (a0.kind = 3)) || (decide (a0.kind = 4)))) ?_ ?_
      ·rcases qw (decide (a0.kind = 3)) with b22_ | b22_
       ·exact ls rfl rfl rfl (cb b22_) rfl <| ls rfl rfl rfl (cb b22_) rfl <| ls rfl rfl rfl (cb b22_) rfl <| lg rfl rfl rfl rfl (cb b21_) (qD (b := true) (v := (.bool true)) (cb b22_) rfl) <| nx ⟨(ku4 kz rfl), (YJ b22_), er⟩
       ·exact lg rfl rfl rfl rfl (cb b22_) (qe Tryz.underlying52 rfl Tryz.sizeOf3 rfl (K15 1 rfl)) <| lg rfl rfl rfl rfl (cb b22_) (qH Tryz.isAgg3 (Blk.ext k6 ((e8.t e11).t e17)) rfl rfl) <| lg rfl rfl rfl rfl (cb b22_) (yZ rfl rfl) <| lg rfl rfl rfl rfl (cb b21_) (qD (b := false) (v := (.bool (decide (a0.kind = 4)))) (cb b22_) rfl) <| nx ⟨(ku4 kz rfl), (YG b22_), er⟩
      intro s28 w24 K25 h26 e27
      exact lp rfl (qD (b := true) (v := (.bool ((decide (a0.kind = 3)) || (decide (a0.kind = 4))))) ((K25 36 rfl).trans (cb b21_)) h26) <| nx ⟨(ku1 (Kp.cut (ku2 kz rfl) K25 rfl) rfl), (VY b21_), e27⟩
     ·exact ls rfl rfl rfl (cb b21_) rfl <| ls rfl rfl rfl (cb b21_) rfl <| lu rfl rfl rfl rfl rfl <| lu rfl rfl rfl rfl rfl <| lu rfl rfl rfl rfl rfl <| ls rfl rfl rfl (cb b21_) rfl <| lp rfl (qD (b := false) (v := (.bool false)) (cb b21_) rfl) <| nx ⟨(ku3 (ku4 kz rfl) rfl), (V6 b21_), er⟩
    intro s29 w23 K24 h25 e26
    refine lp rfl (qc h25) <| jN 7 [(45, 52)] 51 (.bool (((!decide (a0.body = ([] : List UInt8))) && ((decide (a0.kind = 3)) || (decide (a0.kind = 4)))) || (a0.opq && (!(decide (a0.kind = 3)))))) ?_ ?_
    ·rcases qw ((!decide (a0.body = ([] : List UInt8))) && ((decide (a0.kind = 3)) || (decide (a0.kind = 4)))) with b29_ | b29_
     ·exact ls rfl rfl rfl (cb b29_) rfl <| ls rfl rfl rfl (cb b29_) rfl <| ls rfl rfl rfl (cb b29_) rfl <| lu rfl rfl rfl rfl rfl <| lu rfl rfl rfl rfl rfl <| ls rfl rfl rfl (cb b29_) rfl <| lp rfl (qD (b := true) (v := (.bool true)) (cb b29_) rfl) <| nx ⟨(ku3 (ku4 kz rfl) rfl), (YJ b29_), er⟩
     ·refine lg rfl rfl rfl rfl (cb b29_) (qe Tryz.underlying52 rfl Tryz.sizeOf4 rfl ((K24 1 rfl).trans (K15 1 rfl))) <| lg rfl rfl rfl rfl (cb b29_) (qH Tryz.isAgg4 (Blk.ext k6 (((e8.t e11).t e17).t e26)) rfl rfl) <| lg rfl rfl rfl rfl (cb b29_) (xm (.bool a0.opq) rfl) <| jN 3 [(48, 51)] 50 (.bool (a0.opq && (!(decide (a0.kind = 3))))) ?_ ?_
      ·rcases qw a0.opq with b30_ | b30_
       ·exact lg rfl rfl rfl rfl (cb b30_) (xm (.bool (decide (a0.kind = 3))) ((K24 3 rfl).trans (K15 3 rfl))) <| lg rfl rfl rfl rfl (cb b30_) (yS rfl) <| lg rfl rfl rfl rfl (cb b29_) (qD (b := true) (v := (.bool (!(decide (a0.kind = 3))))) (cb b30_) rfl) <| nx ⟨(ku3 kz rfl), (VY b30_), er⟩
       ·exact ls rfl rfl rfl (cb b30_) rfl <| ls rfl rfl rfl (cb b30_) rfl <| lg rfl rfl rfl rfl (cb b29_) (qD (b := false) (v := (.bool false)) (cb b30_) rfl) <| nx ⟨(ku3 kz rfl), (V6 b30_), er⟩
      intro s36 w32 K33 h34 e35
      exact lp rfl (qD (b := false) (v := (.bool (a0.opq && (!(decide (a0.kind = 3)))))) ((K33 44 rfl).trans (cb b29_)) h34) <| nx ⟨(ku1 (Kp.cut (ku3 kz rfl) K33 rfl) rfl), (YG b29_), e35⟩
    intro s37 w31 K32 h33 e34
    refine lp rfl (qG h33) <| nx ?_
    rcases qf H with ⟨q38, H⟩ | ⟨q38, H⟩
    ·refine qp (cb q38) <| wr <| lp rfl (xa (.int .i64 3) rfl) <| nx <| qr <| vi <| qo <| qv ?_
     obtain rfl := si H
     exact vo rfl (((((e5.t e8).t e11).t e17).t e26).t e34)
    ·refine qi (cb q38) <| wr <| lp rfl (qe Tryz.underlying52 rfl Tryz.sizeOf3 rfl ((K32 1 rfl).trans ((K24 1 rfl).trans (K15 1 rfl)))) <| lp rfl (qH Tryz.isAgg3 (Blk.ext k6 ((((e8.t e11).t e17).t e26).t e34)) rfl rfl) <| lc rfl rfl Tryz.call61 (jU.calls (w := w31) (a0 := a0.mode) (a1 := 0) (a2 := 511)) rfl <| fun w39 e40 => lp rfl (yS rfl) <| lp rfl (xm (.bool (!(within a0.mode 0 511))) rfl) <| jN 14 [(58, 72)] 71 (.bool ((!(within a0.mode 0 511)) || ((!decide (a0.mode = 0)) && ((decide (a0.kind = 4)) || (decide (a0.kind = 2)))))) ?_ ?_
     ·rcases qw (!(within a0.mode 0 511)) with b40_ | b40_
      ·exact ls rfl rfl rfl (cb b40_) rfl <| ls rfl rfl rfl (cb b40_) rfl <| ls rfl rfl rfl (cb b40_) rfl <| ls rfl rfl rfl (cb b40_) rfl <| lu rfl rfl rfl rfl rfl <| lu rfl rfl rfl rfl rfl <| lu rfl rfl rfl rfl rfl <| lu rfl rfl rfl rfl rfl <| lu rfl rfl rfl rfl rfl <| lu rfl rfl rfl rfl rfl <| lu rfl rfl rfl rfl rfl <| lu rfl rfl rfl rfl rfl <| ls rfl rfl rfl (cb b40_) rfl <| lp rfl (qD (b := true) (v := (.bool true)) (cb b40_) rfl) <| nx ⟨(ku2 (ku4 (ku8 kz rfl) rfl) rfl), (YJ b40_), er⟩
      ·refine lg rfl rfl rfl rfl (cb b40_) (qe Tryz.underlying52 rfl Tryz.sizeOf3 rfl ((K32 1 rfl).trans ((K24 1 rfl).trans (K15 1 rfl)))) <| lg rfl rfl rfl rfl (cb b40_) (qH Tryz.isAgg3 (Blk.ext k6 (((((e8.t e11).t e17).t e26).t e34).t e40)) rfl rfl) <| lg rfl rfl rfl rfl (cb b40_) (je rfl rfl) <| lg rfl rfl rfl rfl (cb b40_) (xm (.bool (!decide (a0.mode = 0))) rfl) <| jN 9 [(62, 71)] 70 (.bool ((!decide (a0.mode = 0)) && ((decide (a0.kind = 4)) || (decide (a0.kind = 2))))) ?_ ?_
       ·rcases qw (!decide (a0.mode = 0)) with b41_ | b41_
        ·refine lg rfl rfl rfl rfl (cb b41_) (qe Tryz.underlying52 rfl Tryz.sizeOf3 rfl ((K32 1 rfl).trans ((K24 1 rfl).trans (K15 1 rfl)))) <| lg rfl rfl rfl rfl (cb b41_) (qH Tryz.isAgg3 (Blk.ext k6 (((((e8.t e11).t e17).t e26).t e34).t e40)) rfl rfl) <| lg rfl rfl rfl rfl (cb b41_) (yZ rfl rfl) <| lg rfl rfl rfl rfl (cb b41_) (xm (.bool (decide (a0.kind = 4))) rfl) <| jN 4 [(66, 70)] 69 (.bool ((decide (a0.kind = 4)) || (decide (a0.kind = 2)))) ?_ ?_
         ·rcases qw (decide (a0.kind = 4)) with b42_ | b42_
          ·exact ls rfl rfl rfl (cb b42_) rfl <| ls rfl rfl rfl (cb b42_) rfl <| ls rfl rfl rfl (cb b42_) rfl <| lg rfl rfl rfl rfl (cb b41_) (qD (b := true) (v := (.bool true)) (cb b42_) rfl) <| nx ⟨(ku4 kz rfl), (YJ b42_), er⟩
          ·exact lg rfl rfl rfl rfl (cb b42_) (qe Tryz.underlying52 rfl Tryz.sizeOf3 rfl ((K32 1 rfl).trans ((K24 1 rfl).trans (K15 1 rfl)))) <| lg rfl rfl rfl rfl (cb b42_) (qH Tryz.isAgg3 (Blk.ext k6 (((((e8.t e11).t e17).t e26).t e34).t e40)) rfl rfl) <| lg rfl rfl rfl rfl (cb b42_) (yZ rfl rfl) <| lg rfl rfl rfl rfl (cb b41_) (qD (b := false) (v := (.bool (decide (a0.kind = 2)))) (cb b42_) rfl) <| nx ⟨(ku4 kz rfl), (YG b42_), er⟩
         intro s48 w44 K45 h46 e47
         exact lg rfl rfl rfl rfl ((K45 57 rfl).trans (cb b40_)) (qD (b := true) (v := (.bool ((decide (a0.kind = 4)) || (decide (a0.kind = 2))))) ((K45 61 rfl).trans (cb b41_)) h46) <| nx ⟨(ku1 (Kp.cut (ku4 kz rfl) K45 rfl) rfl), (VY b41_), e47⟩
        ·exact ls rfl rfl rfl (cb b41_) rfl <| ls rfl rfl rfl (cb b41_) rfl <| ls rfl rfl rfl (cb b41_) rfl <| ls rfl rfl rfl (cb b41_) rfl <| lu rfl rfl rfl rfl rfl <| lu rfl rfl rfl rfl rfl <| lu rfl rfl rfl rfl rfl <| ls rfl rfl rfl (cb b41_) rfl <| lg rfl rfl rfl rfl (cb b40_) (qD (b := false) (v := (.bool false)) (cb b41_) rfl) <| nx ⟨(ku1 (ku8 kz rfl) rfl), (V6 b41_), er⟩
       intro s49 w43 K44 h45 e46
       exact lp rfl (qD (b := false) (v := (.bool ((!decide (a0.mode = 0)) && ((decide (a0.kind = 4)) || (decide (a0.kind = 2)))))) ((K44 57 rfl).trans (cb b40_)) h45) <| nx ⟨(ku1 (Kp.cut (ku4 kz rfl) K44 rfl) rfl), (YG b40_), e46⟩
     intro s50 w42 K43 h44 e45
     refine lp rfl (qG h44) <| nx ?_
     rcases qf H with ⟨q51, H⟩ | ⟨q51, H⟩
     ·refine qp (cb q51) <| wr <| lp rfl (xa (.int .i64 4) rfl) <| nx <| qr <| vi <| qo <| qv ?_
      obtain rfl := si H
      exact vo rfl (((((((e5.t e8).t e11).t e17).t e26).t e34).t e40).t e45)
     ·refine qi (cb q51) <| qq <| ye <| qd <| wr <| lp rfl (xa (.int .i64 0) rfl) <| nx <| qr <| qv ?_
      obtain rfl := si H
      exact vo rfl (((((((e5.t e8).t e11).t e17).t e26).t e34).t e40).t e45)
/-! impl.RecordFault -/
abbrev qj.e1 (a0 : Rec) := ([.inl (!(within a0.kind 1 4)), .inr 9, .inl (!(qy a0.path)), .inr 10, .inl ((decide (20 < (a0.body.length : Int))) || ((decide (a0.kind = 2)) && (decide (a0.body = ([] : List UInt8))))), .inr 8, .inl ((((decide (a0.kind = 3)) || (decide (a0.kind = 4))) && (!decide (a0.body = ([] : List UInt8)))) || ((!decide (a0.kind = 3)) && a0.opq)), .inr 3, .inl ((!(within a0.mode 0 511)) || (((decide (a0.kind = 2)) || (decide (a0.kind = 4))) && (!decide (a0.mode = 0)))), .inr 4] : List (Bool ⊕ Int))
abbrev qj.e2 (a0 : Rec) := (((decide (a0.kind = 3)) || (decide (a0.kind = 4))) && (!decide (a0.body = ([] : List UInt8))))
abbrev qj.e3 (a0 : Rec) := ((decide (a0.kind = 2)) || (decide (a0.kind = 4)))
abbrev qj.e4 (a0 : Rec) := ((decide (20 < (a0.body.length : Int))) || ((decide (a0.kind = 2)) && (decide (a0.body = ([] : List UInt8)))))
theorem qj.walk {w : World} {a0 : Rec} (gv : GV 0 w) {r : Int} (H : qj.sh a0 = some r) :
  Calls Tryz.prog 211 #[.agg (qg a0).toArray] w (Rt (RP w (.int .i64 r))) := by
 unfold qj.sh at H
 refine qh Tryz.func211 rfl (Nat.le_of_ble_eq_true rfl) Tryz.ntmps211 rfl ?_
 refine wr <| Ve (.plain rfl) rfl (ltb rfl) rfl rfl <| fun b1 w2 z3 z4 e5 k6 => lp rfl (xa (.int .i64 0) rfl) <| nx <| wr <| lp rfl (qe Tryz.underlying52 rfl Tryz.sizeOf3 rfl rfl) <| lp rfl (qH Tryz.isAgg3 k6 rfl rfl) <| lp rfl (yZ rfl rfl) <| lp rfl (xm (.bool (decide (a0.kind = 3))) rfl) <| jN 4 [(8, 12)] 11 (.bool ((decide (a0.kind = 3)) || (decide (a0.kind = 4)))) ?_ ?_
 ·rcases qw (decide (a0.kind = 3)) with b6_ | b6_
  ·exact ls rfl rfl rfl (cb b6_) rfl <| ls rfl rfl rfl (cb b6_) rfl <| ls rfl rfl rfl (cb b6_) rfl <| lp rfl (qD (b := true) (v := (.bool true)) (cb b6_) rfl) <| nx ⟨(ku4 kz rfl), (YJ b6_), er⟩
  ·exact lg rfl rfl rfl rfl (cb b6_) (qe Tryz.underlying52 rfl Tryz.sizeOf3 rfl rfl) <| lg rfl rfl rfl rfl (cb b6_) (qH Tryz.isAgg3 k6 rfl rfl) <| lg rfl rfl rfl rfl (cb b6_) (yZ rfl rfl) <| lp rfl (qD (b := false) (v := (.bool (decide (a0.kind = 4)))) (cb b6_) rfl) <| nx ⟨(ku4 kz rfl), (YG b6_), er⟩
 intro s12 w8 K9 h10 e11
 refine lp rfl (qG h10) <| nx <| qk ?_
 obtain ⟨c25, H⟩ := qa H
 refine YK [LEq (.pointer (some ⟨b1, 0, none⟩)), LEq (.int .i64 a0.kind), LEq (.bool (within a0.kind 1 4)), LEq (.bool (!(within a0.kind 1 4))), LEq (.iface 4 (.bool (!(within a0.kind 1 4)))), LEq (.iface 3 (.int .i64 9)), LEq (.pointer (some ⟨b1, 1, none⟩)), LEq (S a0.path), LEq (.bool (qy a0.path)), LEq (.bool (!(qy a0.path))), LEq (.iface 4 (.bool (!(qy a0.path)))), LEq (.iface 3 (.int .i64 10)), LEq (.pointer (some ⟨b1, 2, none⟩)), LEq (S a0.body), LEq (.int .i64 (a0.body.length : Int)), LEq (.bool (decide (20 < (a0.body.length : Int)))), LEq (.bool (decide (20 < (a0.body.length : Int)))), LIf (!(decide (20 < (a0.body.length : Int)))) (LEq (.pointer (some ⟨b1, 0, none⟩))), LIf (!(decide (20 < (a0.body.length : Int)))) (LEq (.int .i64 a0.kind)), LIf (!(decide (20 < (a0.body.length : Int)))) (LEq (.bool (decide (a0.kind = 2)))), LIf (!(decide (20 < (a0.body.length : Int)))) (LEq (.bool (decide (a0.kind = 2)))), LIf ((!(decide (20 < (a0.body.length : Int)))) && (decide (a0.kind = 2))) (LEq (.pointer (some ⟨b1, 2, none⟩))), LIf ((!(decide (20 < (a0.body.length : Int)))) && (decide (a0.kind = 2))) (LEq (S a0.body)), LIf ((!(decide (20 < (a0.body.length : Int)))) && (decide (a0.kind = 2))) (LEq (.bool (decide (a0.body = ([] : List UInt8))))), LIf (!(decide (20 < (a0.body.length : Int)))) (LEq (.bool ((decide (a0.kind = 2)) && (decide (a0.body = ([] : List UInt8)))))), LEq (.bool (qj.e4 a0)), LEq (.iface 4 (.bool (qj.e4 a0))), LEq (.iface 3 (.int .i64 8)), LEq (.bool ((decide (a0.kind = 3)) || (decide (a0.kind = 4)))), LEq (.bool ((decide (a0.kind = 3)) || (decide (a0.kind = 4)))), LIf ((decide (a0.kind = 3)) || (decide (a0.kind = 4))) (LEq (.pointer (some ⟨b1, 2, none⟩))), LIf ((decide (a0.kind = 3)) || (decide (a0.kind = 4))) (LEq (S a0.body)), LIf ((decide (a0.kind = 3)) || (decide (a0.kind = 4))) (LEq (.bool (!decide (a0.body = ([] : List UInt8))))), LEq (.bool (qj.e2 a0)), LEq (.bool (qj.e2 a0)), LIf (!(qj.e2 a0)) (LEq (.pointer (some ⟨b1, 0, none⟩))), LIf (!(qj.e2 a0)) (LEq (.int .i64 a0.kind)), LIf (!(qj.e2 a0)) (LEq (.bool (!decide (a0.kind = 3)))), LIf (!(qj.e2 a0)) (LEq (.bool (!decide (a0.kind = 3)))), LIf ((!(qj.e2 a0)) && (!decide (a0.kind = 3))) (LEq (.pointer (some ⟨b1, 4, none⟩))), LIf ((!(qj.e2 a0)) && (!decide (a0.kind = 3))) (LEq (.bool a0.opq)), LIf (!(qj.e2 a0)) (LEq (.bool ((!decide (a0.kind = 3)) && a0.opq))), LEq (.bool ((qj.e2 a0) || ((!decide (a0.kind = 3)) && a0.opq))), LEq (.iface 4 (.bool ((qj.e2 a0) || ((!decide (a0.kind = 3)) && a0.opq)))), LEq (.iface 3 (.int .i64 3)), LEq (.pointer (some ⟨b1, 3, none⟩)), LEq (.int .i64 a0.mode), LEq (.bool (within a0.mode 0 511)), LEq (.bool (!(within a0.mode 0 511))), LEq (.bool (!(within a0.mode 0 511))), LIf (!(!(within a0.mode 0 511))) (LEq (.pointer (some ⟨b1, 0, none⟩))), LIf (!(!(within a0.mode 0 511))) (LEq (.int .i64 a0.kind)), LIf (!(!(within a0.mode 0 511))) (LEq (.bool (decide (a0.kind = 2)))), LIf (!(!(within a0.mode 0 511))) (LEq (.bool (decide (a0.kind = 2)))), LIf ((!(!(within a0.mode 0 511))) && (!(decide (a0.kind = 2)))) (LEq (.pointer (some ⟨b1, 0, none⟩))), LIf ((!(!(within a0.mode 0 511))) && (!(decide (a0.kind = 2)))) (LEq (.int .i64 a0.kind)), LIf ((!(!(within a0.mode 0 511))) && (!(decide (a0.kind = 2)))) (LEq (.bool (decide (a0.kind = 4)))), LIf (!(!(within a0.mode 0 511))) (LEq (.bool (qj.e3 a0))), LIf (!(!(within a0.mode 0 511))) (LEq (.bool (qj.e3 a0))), LIf ((!(!(within a0.mode 0 511))) && (qj.e3 a0)) (LEq (.pointer (some ⟨b1, 3, none⟩))), LIf ((!(!(within a0.mode 0 511))) && (qj.e3 a0)) (LEq (.int .i64 a0.mode)), LIf ((!(!(within a0.mode 0 511))) && (qj.e3 a0)) (LEq (.bool (!decide (a0.mode = 0)))), LIf (!(!(within a0.mode 0 511))) (LEq (.bool ((qj.e3 a0) && (!decide (a0.mode = 0))))), LEq (.bool ((!(within a0.mode 0 511)) || ((qj.e3 a0) && (!decide (a0.mode = 0))))), LEq (.iface 4 (.bool ((!(within a0.mode 0 511)) || ((qj.e3 a0) && (!decide (a0.mode = 0)))))), LEq (.iface 3 (.int .i64 4)), LRd 1 (j3 4 3) (qj.e1 a0), LEq (.int .i64 (vu (qj.e1 a0))), LEq (.int .i64 (vu (qj.e1 a0)))] (by kernel_rfl) (by kernel_rfl) ⟨qm, qm, qm, qm, qm, qm, qm, qm, qm, qm, qm, qm, qm, qm, qm, qm, qm, lm, lm, lm, lm, lm, lm, lm, lm, qm, qm, qm, qm, qm, lm, lm, lm, qm, qm, lm, lm, lm, lm, lm, lm, lm, qm, qm, qm, qm, qm, qm, qm, qm, lm, lm, lm, lm, lm, lm, lm, lm, lm, lm, lm, lm, lm, qm, qm, qm, LRd.mono, qm, qm, trivial⟩ ⟨?_, ?_, ?_, ?_, ?_, ?_, ?_, ?_, ?_, ?_, ?_, ?_, ?_, ?_, ?_, ?_, ?_, ?_, ?_, ?_, ?_, ?_, ?_, ?_, ?_, ?_, ?_, ?_, ?_, ?_, ?_, ?_, ?_, ?_, ?_, ?_, ?_, ?_, ?_, ?_, ?_, ?_, ?_, ?_, ?_, ?_, ?_, ?_, ?_, ?_, ?_, ?_, ?_, ?_, ?_, ?_, ?_, ?_, ?_, ?_, ?_, ?_, ?_, ?_, ?_, ?_, ?_, ?_, ?_, trivial⟩ ?_
 ·exact fun s x e f d u => lp rfl (qe Tryz.underlying52 rfl Tryz.sizeOf3 rfl ((f 1 rfl).trans (K9 1 rfl))) <| se rfl rfl
 ·exact fun s x e f d u => lp rfl (qH Tryz.isAgg3 (Blk.ext k6 (e11.t e)) (d 0 rfl) rfl) <| se rfl rfl
 ·exact fun s x e f d u => lc rfl rfl Tryz.call117 (jn.calls (w := x) (a0 := a0.kind) (a1 := 1) (a2 := 4)) (vI (d 1 rfl) (vI rfl (vI rfl rfl))) <| fun w28 e29 => sx rfl e29 rfl
 ·exact fun s x e f d u => lp rfl (yS (d 2 rfl)) <| se rfl rfl
 ·exact fun s x e f d u => lp rfl (qL Tryz.underlying4 rfl (d 3 rfl)) <| se rfl rfl
 ·exact fun s x e f d u => lp rfl (qL Tryz.underlying3 rfl rfl) <| se rfl rfl
 ·exact fun s x e f d u => lp rfl (qe Tryz.underlying52 rfl Tryz.sizeOf9 rfl ((f 1 rfl).trans (K9 1 rfl))) <| se rfl rfl
 ·exact fun s x e f d u => lp rfl (qH Tryz.isAgg9 (Blk.ext k6 (e11.t e)) (d 6 rfl) rfl) <| se rfl rfl
 ·exact fun s x e f d u => lc rfl rfl Tryz.call101 (y8.calls (w := x) (a0 := a0.path) (GV.ext gv ((e5.t e11).t e))) (vI (d 7 rfl) rfl) <| fun w30 e31 => sx rfl e31 rfl
 ·exact fun s x e f d u => lp rfl (yS (d 8 rfl)) <| se rfl rfl
 ·exact fun s x e f d u => lp rfl (qL Tryz.underlying4 rfl (d 9 rfl)) <| se rfl rfl
 ·exact fun s x e f d u => lp rfl (qL Tryz.underlying3 rfl rfl) <| se rfl rfl
 ·exact fun s x e f d u => lp rfl (qe Tryz.underlying52 rfl Tryz.sizeOf9 rfl ((f 1 rfl).trans (K9 1 rfl))) <| se rfl rfl
 ·exact fun s x e f d u => lp rfl (qH Tryz.isAgg9 (Blk.ext k6 (e11.t e)) (d 12 rfl) rfl) <| se rfl rfl
 ·exact fun s x e f d u => lp rfl (j9 Tryz.underlying9 (d 13 rfl)) <| se rfl rfl
 ·exact fun s x e f d u => lp rfl (jj (d 14 rfl) rfl) <| se rfl rfl
 ·exact fun s x e f d u => lp rfl (qc (d 15 rfl)) <| se rfl rfl
 ·exact fun s x e f d u => gF rfl rfl rfl rfl (d 16 rfl) rfl fun b t => lt t rfl rfl (qe Tryz.underlying52 rfl Tryz.sizeOf3 rfl ((f 1 rfl).trans (K9 1 rfl))) <| sg rfl rfl b rfl
 ·exact fun s x e f d u => gF rfl rfl rfl rfl (d 16 rfl) rfl fun b t => lt t rfl rfl (qH Tryz.isAgg3 (Blk.ext k6 (e11.t e)) ((d 17 rfl).1 (qE (qX b))) rfl) <| sg rfl rfl b rfl
 ·exact fun s x e f d u => gF rfl rfl rfl rfl (d 16 rfl) rfl fun b t => lt t rfl rfl (yZ ((d 18 rfl).1 (qE (qX b))) rfl) <| sg rfl rfl b rfl
 ·exact fun s x e f d u => gF rfl rfl rfl rfl (d 16 rfl) rfl fun b t => lt t rfl rfl (xm (.bool (decide (a0.kind = 2))) ((d 19 rfl).1 (qE (qX b)))) <| sg rfl rfl b rfl
 ·exact fun s x e f d u => hT rfl rfl rfl rfl (d 20 rfl) rfl fun b t => lt t rfl rfl (qe Tryz.underlying52 rfl Tryz.sizeOf9 rfl ((f 1 rfl).trans (K9 1 rfl))) <| sg rfl rfl b rfl
 ·exact fun s x e f d u => hT rfl rfl rfl rfl (d 20 rfl) rfl fun b t => lt t rfl rfl (qH Tryz.isAgg9 (Blk.ext k6 (e11.t e)) ((d 21 rfl).1 (qW (qE (qX (jM b))) (jL b))) rfl) <| sg rfl rfl b rfl
 ·exact fun s x e f d u => hT rfl rfl rfl rfl (d 20 rfl) rfl fun b t => lt t rfl rfl (VT ((d 22 rfl).1 (qW (qE (qX (jM b))) (jL b))) rfl) <| sg rfl rfl b rfl
 ·exact fun s x e f d u => gF rfl rfl rfl rfl (d 16 rfl) rfl fun b t => lt t rfl rfl (jX ((d 20 rfl).1 (qE (qX b))) rfl fun h => ((d 23 rfl).1 (qW (qE (qX b)) h))) <| sg rfl rfl b rfl
 ·exact fun s x e f d u => lp rfl (jQ (d 16 rfl) rfl fun h => ((d 24 rfl).1 (qE h))) <| se rfl rfl
 ·exact fun s x e f d u => lp rfl (qL Tryz.underlying4 rfl (d 25 rfl)) <| se rfl rfl
 ·exact fun s x e f d u => lp rfl (qL Tryz.underlying3 rfl rfl) <| se rfl rfl
 ·exact fun s x e f d u => lp rfl (xm (.bool ((decide (a0.kind = 3)) || (decide (a0.kind = 4)))) (f 3 rfl)) <| se rfl rfl
 ·exact fun s x e f d u => lp rfl (qc (d 28 rfl)) <| se rfl rfl
 ·exact fun s x e f d u => gT rfl rfl rfl rfl (d 29 rfl) rfl fun b t => lt t rfl rfl (qe Tryz.underlying52 rfl Tryz.sizeOf9 rfl ((f 1 rfl).trans (K9 1 rfl))) <| sg rfl rfl b rfl
 ·exact fun s x e f d u => gT rfl rfl rfl rfl (d 29 rfl) rfl fun b t => lt t rfl rfl (qH Tryz.isAgg9 (Blk.ext k6 (e11.t e)) ((d 30 rfl).1 b) rfl) <| sg rfl rfl b rfl
 ·exact fun s x e f d u => gT rfl rfl rfl rfl (d 29 rfl) rfl fun b t => lt t rfl rfl (Qv ((d 31 rfl).1 b) rfl) <| sg rfl rfl b rfl
 ·exact fun s x e f d u => lp rfl (jX (d 29 rfl) rfl fun h => ((d 32 rfl).1 h)) <| se rfl rfl
 ·exact fun s x e f d u => lp rfl (qc (d 33 rfl)) <| se rfl rfl
 ·exact fun s x e f d u => gF rfl rfl rfl rfl (d 34 rfl) rfl fun b t => lt t rfl rfl (qe Tryz.underlying52 rfl Tryz.sizeOf3 rfl ((f 1 rfl).trans (K9 1 rfl))) <| sg rfl rfl b rfl
 ·exact fun s x e f d u => gF rfl rfl rfl rfl (d 34 rfl) rfl fun b t => lt t rfl rfl (qH Tryz.isAgg3 (Blk.ext k6 (e11.t e)) ((d 35 rfl).1 (qE (qX b))) rfl) <| sg rfl rfl b rfl
 ·exact fun s x e f d u => gF rfl rfl rfl rfl (d 34 rfl) rfl fun b t => lt t rfl rfl (je ((d 36 rfl).1 (qE (qX b))) rfl) <| sg rfl rfl b rfl
 ·exact fun s x e f d u => gF rfl rfl rfl rfl (d 34 rfl) rfl fun b t => lt t rfl rfl (xm (.bool (!decide (a0.kind = 3))) ((d 37 rfl).1 (qE (qX b)))) <| sg rfl rfl b rfl
 ·exact fun s x e f d u => hT rfl rfl rfl rfl (d 38 rfl) rfl fun b t => lt t rfl rfl (qe Tryz.underlying52 rfl Tryz.sizeOf4 rfl ((f 1 rfl).trans (K9 1 rfl))) <| sg rfl rfl b rfl
 ·exact fun s x e f d u => hT rfl rfl rfl rfl (d 38 rfl) rfl fun b t => lt t rfl rfl (qH Tryz.isAgg4 (Blk.ext k6 (e11.t e)) ((d 39 rfl).1 (qW (qE (qX (jM b))) (jL b))) rfl) <| sg rfl rfl b rfl
 ·exact fun s x e f d u => gF rfl rfl rfl rfl (d 34 rfl) rfl fun b t => lt t rfl rfl (jX ((d 38 rfl).1 (qE (qX b))) rfl fun h => ((d 40 rfl).1 (qW (qE (qX b)) h))) <| sg rfl rfl b rfl
 ·exact fun s x e f d u => lp rfl (jQ (d 34 rfl) rfl fun h => ((d 41 rfl).1 (qE h))) <| se rfl rfl
 ·exact fun s x e f d u => lp rfl (qL Tryz.underlying4 rfl (d 42 rfl)) <| se rfl rfl
 ·exact fun s x e f d u => lp rfl (qL Tryz.underlying3 rfl rfl) <| se rfl rfl
 ·exact fun s x e f d u => lp rfl (qe Tryz.underlying52 rfl Tryz.sizeOf3 rfl ((f 1 rfl).trans (K9 1 rfl))) <| se rfl rfl
 ·exact fun s x e f d u => lp rfl (qH Tryz.isAgg3 (Blk.ext k6 (e11.t e)) (d 45 rfl) rfl) <| se rfl rfl
 ·exact fun s x e f d u => lc rfl rfl Tryz.call117 (jn.calls (w := x) (a0 := a0.mode) (a1 := 0) (a2 := 511)) (vI (d 46 rfl) (vI rfl (vI rfl rfl))) <| fun w32 e33 => sx rfl e33 rfl
 ·exact fun s x e f d u => lp rfl (yS (d 47 rfl)) <| se rfl rfl
 ·exact fun s x e f d u => lp rfl (qc (d 48 rfl)) <| se rfl rfl
 ·exact fun s x e f d u => gF rfl rfl rfl rfl (d 49 rfl) rfl fun b t => lt t rfl rfl (qe Tryz.underlying52 rfl Tryz.sizeOf3 rfl ((f 1 rfl).trans (K9 1 rfl))) <| sg rfl rfl b rfl
 ·exact fun s x e f d u => gF rfl rfl rfl rfl (d 49 rfl) rfl fun b t => lt t rfl rfl (qH Tryz.isAgg3 (Blk.ext k6 (e11.t e)) ((d 50 rfl).1 (qE (qX b))) rfl) <| sg rfl rfl b rfl
 ·exact fun s x e f d u => gF rfl rfl rfl rfl (d 49 rfl) rfl fun b t => lt t rfl rfl (yZ ((d 51 rfl).1 (qE (qX b))) rfl) <| sg rfl rfl b rfl
 ·exact fun s x e f d u => gF rfl rfl rfl rfl (d 49 rfl) rfl fun b t => lt t rfl rfl (xm (.bool (decide (a0.kind = 2))) ((d 52 rfl).1 (qE (qX b)))) <| sg rfl rfl b rfl
 ·exact fun s x e f d u => hF rfl rfl rfl rfl (d 53 rfl) rfl fun b t => lt t rfl rfl (qe Tryz.underlying52 rfl Tryz.sizeOf3 rfl ((f 1 rfl).trans (K9 1 rfl))) <| sg rfl rfl b rfl
 ·exact fun s x e f d u => hF rfl rfl rfl rfl (d 53 rfl) rfl fun b t => lt t rfl rfl (qH Tryz.isAgg3 (Blk.ext k6 (e11.t e)) ((d 54 rfl).1 (qW (qE (qX (jM b))) (qE (qX (jL b))))) rfl) <| sg rfl rfl b rfl
 ·exact fun s x e f d u => hF rfl rfl rfl rfl (d 53 rfl) rfl fun b t => lt t rfl rfl (yZ ((d 55 rfl).1 (qW (qE (qX (jM b))) (qE (qX (jL b))))) rfl) <| sg rfl rfl b rfl
 ·exact fun s x e f d u => gF rfl rfl rfl rfl (d 49 rfl) rfl fun b t => lt t rfl rfl (jQ ((d 53 rfl).1 (qE (qX b))) rfl fun h => ((d 56 rfl).1 (qW (qE (qX b)) (qE h)))) <| sg rfl rfl b rfl
 ·exact fun s x e f d u => gF rfl rfl rfl rfl (d 49 rfl) rfl fun b t => lt t rfl rfl (xm (.bool (qj.e3 a0)) ((d 57 rfl).1 (qE (qX b)))) <| sg rfl rfl b rfl
 ·exact fun s x e f d u => hT rfl rfl rfl rfl (d 58 rfl) rfl fun b t => lt t rfl rfl (qe Tryz.underlying52 rfl Tryz.sizeOf3 rfl ((f 1 rfl).trans (K9 1 rfl))) <| sg rfl rfl b rfl
 ·exact fun s x e f d u => hT rfl rfl rfl rfl (d 58 rfl) rfl fun b t => lt t rfl rfl (qH Tryz.isAgg3 (Blk.ext k6 (e11.t e)) ((d 59 rfl).1 (qW (qE (qX (jM b))) (jL b))) rfl) <| sg rfl rfl b rfl
 ·exact fun s x e f d u => hT rfl rfl rfl rfl (d 58 rfl) rfl fun b t => lt t rfl rfl (je ((d 60 rfl).1 (qW (qE (qX (jM b))) (jL b))) rfl) <| sg rfl rfl b rfl
 ·exact fun s x e f d u => gF rfl rfl rfl rfl (d 49 rfl) rfl fun b t => lt t rfl rfl (jX ((d 58 rfl).1 (qE (qX b))) rfl fun h => ((d 61 rfl).1 (qW (qE (qX b)) h))) <| sg rfl rfl b rfl
 ·exact fun s x e f d u => lp rfl (jQ (d 49 rfl) rfl fun h => ((d 62 rfl).1 (qE h))) <| se rfl rfl
 ·exact fun s x e f d u => lp rfl (qL Tryz.underlying4 rfl (d 63 rfl)) <| se rfl rfl
 ·exact fun s x e f d u => lp rfl (qL Tryz.underlying3 rfl rfl) <| se rfl rfl
 ·exact fun s x e f d u => yw (.plain rfl) rfl (ltb rfl) rfl Tryz.underlying142 Tryz.sizeOf20 Tryz.zeroValue20 rfl rfl rfl (vs := [(.iface 4 (.bool (!(within a0.kind 1 4)))), (.iface 3 (.int .i64 9)), (.iface 4 (.bool (!(qy a0.path)))), (.iface 3 (.int .i64 10)), (.iface 4 (.bool (qj.e4 a0))), (.iface 3 (.int .i64 8)), (.iface 4 (.bool ((qj.e2 a0) || ((!decide (a0.kind = 3)) && a0.opq)))), (.iface 3 (.int .i64 3)), (.iface 4 (.bool ((!(within a0.mode 0 511)) || ((qj.e3 a0) && (!decide (a0.mode = 0)))))), (.iface 3 (.int .i64 4))]) (vI (d 4 rfl) (vI (d 5 rfl) (vI (d 10 rfl) (vI (d 11 rfl) (vI (d 26 rfl) (vI (d 27 rfl) (vI (d 43 rfl) (vI (d 44 rfl) (vI (d 64 rfl) (vI (d 65 rfl) rfl)))))))))) (vh rfl) <| fun b34 w35 z36 z37 e38 k39 => sx rfl e38 (Ow.rd (Ow.new (xs := [.inl (!(within a0.kind 1 4)), .inr 9, .inl (!(qy a0.path)), .inr 10, .inl (qj.e4 a0), .inr 8, .inl ((qj.e2 a0) || ((!decide (a0.kind = 3)) && a0.opq)), .inr 3, .inl ((!(within a0.mode 0 511)) || ((qj.e3 a0) && (!decide (a0.mode = 0)))), .inr 4]) (sz := 1) (enc := (j3 4 3)) (base := x.heap.size) k39 (Nat.le_of_eq z36) rfl (fun _ _ => by first | rfl | exact Qc _ _ _) (Nat.le_of_ble_eq_true rfl)))
 ·intro s x e f d u
  have d40 : Rd 1 (j3 4 3) x (s 78) (qj.e1 a0) := (d 66 rfl)
  exact lc rfl rfl Tryz.call77 (vT.calls (w := x) (a0 := (qj.e1 a0)) d40 (od c25)) rfl <| fun w42 e43 => sx rfl e43 rfl
 ·exact fun s x e f d u => lp rfl (qG (d 67 rfl)) <| se rfl rfl
 intro s44 w45 e46 hf47 ha48
 have K49 := Kp.ofD (kp := [(2, 3), (12, 80)]) rfl hf47
 have d50 : s44 2 = (.int .i64 (vu (qj.e1 a0))) := ha48 68 rfl
 clear ha48 hf47
 refine qd <| qr <| qv ?_
 obtain rfl := si H
 exact vo d50 ((e5.t e11).t e46)
theorem qj.calls {w : World} {a0 : Rec} (gv : GV 0 w) :
  Calls Tryz.prog 211 #[.agg (qg a0).toArray] w (Rt (RP w (.int .i64 (qz a0)))) := qj.walk gv (qj.eq a0)
/-! impl.RecordOK -/
theorem jP.calls {w : World} {a0 : Rec} (gv : GV 0 w) :
  Calls Tryz.prog 157 #[.agg (qg a0).toArray] w (Rt (RP w (.bool (decide (qz a0 = 0))))) := by
 have H := jP.eq a0
 generalize (decide (qz a0 = 0)) = r at H ⊢
 unfold jP.sh at H
 refine qh Tryz.func157 rfl (Nat.le_of_ble_eq_true rfl) Tryz.ntmps157 rfl ?_
 refine wr <| Ve (.plain rfl) rfl (ltb rfl) rfl rfl <| fun b1 w2 z3 z4 e5 k6 => lp rfl (xa (.bool false) rfl) <| nx <| wr <| lp rfl (vC Tryz.isAgg52 Tryz.sizeOf52 rfl rfl (Blk.at0 k6)) <| lc rfl rfl Tryz.call211 (qj.calls (w := w2) (a0 := a0) (GV.ext gv e5)) rfl <| fun w7 e8 => lp rfl (yZ rfl rfl) <| lp rfl (xa (.bool (decide ((qz a0) = 0))) rfl) <| nx <| qr <| qv ?_
 obtain rfl := si H
 exact vo rfl (e5.t e8)
/-! spec.l01Below -/
theorem jv.calls {w : World} {a0 : List UInt8} {a1 : List UInt8} :
  Calls Tryz.prog 186 #[S a0, S a1] w (Rt (RP w (.bool ((decide (a1 = []) && !decide (a0 = [])) || yj a0 a1)))) := by
 have H := jv.eq a0 a1
 generalize ((decide (a1 = []) && !decide (a0 = [])) || yj a0 a1) = r at H ⊢
 unfold jv.sh at H
 refine qh Tryz.func186 rfl (Nat.le_of_ble_eq_true rfl) Tryz.ntmps186 rfl ?_
 refine wr <| lp rfl (xa (.bool false) rfl) <| nx <| wr <| lp rfl (xm (S a1) rfl) <| lp rfl (j9 Tryz.underlying9 rfl) <| lp rfl (xa (.int .i64 (a1.length : Int)) rfl) <| nx <| wr <| lp rfl (xm (S a1) rfl) <| lp rfl (VT rfl rfl) <| lp rfl (xm (.bool (decide (a1 = ([] : List UInt8)))) rfl) <| jN 3 [(11, 14)] 13 (.bool ((decide (a1 = ([] : List UInt8))) && (!decide (a0 = ([] : List UInt8))))) ?_ ?_
 ·rcases qw (decide (a1 = ([] : List UInt8))) with b0_ | b0_
  ·exact lg rfl rfl rfl rfl (cb b0_) (xm (S a0) rfl) <| lg rfl rfl rfl rfl (cb b0_) (Qv rfl rfl) <| lp rfl (qD (b := true) (v := (.bool (!decide (a0 = ([] : List UInt8))))) (cb b0_) rfl) <| nx ⟨(ku3 kz rfl), (VY b0_), er⟩
  ·exact ls rfl rfl rfl (cb b0_) rfl <| ls rfl rfl rfl (cb b0_) rfl <| lp rfl (qD (b := false) (v := (.bool false)) (cb b0_) rfl) <| nx ⟨(ku3 kz rfl), (V6 b0_), er⟩
 intro s6 w2 K3 h4 e5
 refine lp rfl (qc h4) ?_
 obtain ⟨z8, x9, H⟩ := bind_some H
 refine jp 18 [(15, 33)] 32 (fun q => q = z8) ?_ ?_
 ·rcases qf x9 with ⟨b6_, H⟩ | ⟨b6_, H⟩
  ·refine ls rfl rfl rfl (cb b6_) rfl <| ls rfl rfl rfl (cb b6_) rfl <| ls rfl rfl rfl (cb b6_) rfl <| ls rfl rfl rfl (cb b6_) rfl <| ls rfl rfl rfl (cb b6_) rfl <| lu rfl rfl rfl rfl rfl <| lu rfl rfl rfl rfl rfl <| lu rfl rfl rfl rfl rfl <| lu rfl rfl rfl rfl rfl <| lu rfl rfl rfl rfl rfl <| ls rfl rfl rfl (cb b6_) rfl <| ls rfl rfl rfl (cb b6_) rfl <| lu rfl rfl rfl rfl rfl <| lu rfl rfl rfl rfl rfl <| lu rfl rfl rfl rfl rfl <| lu rfl rfl rfl rfl rfl <| ls rfl rfl rfl (cb b6_) rfl <| lp rfl (qD (b := true) (v := (.bool true)) (cb b6_) rfl) ?_
   obtain rfl := si H
   exact nx ⟨(ku2 (ku8 (ku8 kz rfl) rfl) rfl), ⟨_, rfl, rfl⟩, er⟩
  ·refine lg rfl rfl rfl rfl (cb b6_) (xm (S a0) (K3 0 rfl)) <| lg rfl rfl rfl rfl (cb b6_) (j9 Tryz.underlying9 rfl) <| lg rfl rfl rfl rfl (cb b6_) (xm (.int .i64 (a1.length : Int)) (K3 5 rfl)) <| lg rfl rfl rfl rfl (cb b6_) (jj rfl rfl) <| lg rfl rfl rfl rfl (cb b6_) (xm (.bool (decide ((a1.length : Int) < (a0.length : Int)))) rfl) ?_
   obtain ⟨z9, x10, H⟩ := bind_some H
   refine jp 6 [(20, 26)] 25 (fun q => q = z9) ?_ ?_
   ·rcases qf x10 with ⟨b7_, H⟩ | ⟨b7_, H⟩
    ·refine lg rfl rfl rfl rfl (cb b7_) (xm (S a0) (K3 0 rfl)) <| lg rfl rfl rfl rfl (cb b7_) (xm (.int .i64 (a1.length : Int)) (K3 5 rfl)) ?_
     obtain ⟨c9, H⟩ := qa H
     refine lg rfl rfl rfl rfl (cb b7_) (V1 Tryz.underlying9 rfl (l := 0) (h := (a1.length : Int)) rfl ⟨_, rfl⟩ (JQ c9) (Gn c9) (Gh c9)) <| lg rfl rfl rfl rfl (cb b7_) (xm (S a1) (K3 1 rfl)) <| lg rfl rfl rfl rfl (cb b7_) (VT rfl rfl) <| lg rfl rfl rfl rfl (cb b6_) (qD (b := true) (v := (.bool (decide ((sub a0 0 (a1.length : Int)) = a1)))) (cb b7_) rfl) ?_
     obtain rfl := si H
     exact nx ⟨(ku2 (ku4 kz rfl) rfl), ⟨_, rfl, rfl⟩, er⟩
    ·refine ls rfl rfl rfl (cb b7_) rfl <| ls rfl rfl rfl (cb b7_) rfl <| ls rfl rfl rfl (cb b7_) rfl <| ls rfl rfl rfl (cb b7_) rfl <| ls rfl rfl rfl (cb b7_) rfl <| lg rfl rfl rfl rfl (cb b6_) (qD (b := false) (v := (.bool false)) (cb b7_) rfl) ?_
     obtain rfl := si H
     exact nx ⟨(ku2 (ku4 kz rfl) rfl), ⟨_, rfl, rfl⟩, er⟩
   intro s15 w11 z16 K12 hq h13 e14
   rw [hq] at h13; clear hq
   refine lg rfl rfl rfl rfl ((K12 14 rfl).trans (cb b6_)) (qc h13) ?_
   obtain ⟨z18, x19, H⟩ := bind_some H
   refine jp 5 [(27, 32)] 31 (fun q => q = z18) ?_ ?_
   ·rcases qf x19 with ⟨b16_, H⟩ | ⟨b16_, H⟩
    ·refine lg rfl rfl rfl rfl (cb b16_) (xm (S a0) ((K12 0 rfl).trans (K3 0 rfl))) <| lg rfl rfl rfl rfl (cb b16_) (xm (.int .i64 (a1.length : Int)) ((K12 5 rfl).trans (K3 5 rfl))) ?_
     obtain ⟨c18, H⟩ := qa H
     refine lg rfl rfl rfl rfl (cb b16_) (QP Tryz.underlying9 rfl rfl (jG c18) (jI c18)) <| lg rfl rfl rfl rfl (cb b16_) (yZ rfl rfl) <| lg rfl rfl rfl rfl ((K12 14 rfl).trans (cb b6_)) (qD (b := true) (v := (.bool (decide ((byt a0 (a1.length : Int)) = 47)))) (cb b16_) rfl) ?_
     obtain rfl := si H
     exact nx ⟨(ku1 (ku4 kz rfl) rfl), ⟨_, rfl, rfl⟩, er⟩
    ·refine ls rfl rfl rfl (cb b16_) rfl <| ls rfl rfl rfl (cb b16_) rfl <| ls rfl rfl rfl (cb b16_) rfl <| ls rfl rfl rfl (cb b16_) rfl <| lg rfl rfl rfl rfl ((K12 14 rfl).trans (cb b6_)) (qD (b := false) (v := (.bool false)) (cb b16_) rfl) ?_
     obtain rfl := si H
     exact nx ⟨(ku1 (ku4 kz rfl) rfl), ⟨_, rfl, rfl⟩, er⟩
   intro s24 w20 z25 K21 hq h22 e23
   rw [hq] at h22; clear hq
   refine lp rfl (qD (b := false) (v := (.bool z18)) (((K21 14 rfl).trans (K12 14 rfl)).trans (cb b6_)) h22) ?_
   obtain rfl := si H
   exact nx ⟨(ku1 (Kp.cut (ku1 (Kp.cut (ku1 (ku4 kz rfl) rfl) K12 rfl) rfl) K21 rfl) rfl), ⟨_, rfl, rfl⟩, (e14.t e23)⟩
 intro s26 w10 z27 K11 hq h12 e13
 rw [hq] at h12; clear hq
 refine lp rfl (qG h12) <| nx <| qr <| qv ?_
 obtain rfl := si H
 exact vo rfl (e5.t e13)
/-! spec.l01Less -/
theorem vD.calls {w : World} {a0 : List UInt8} {a1 : List UInt8} (h0 : a0.length ≤ 1048576) (h1 : a1.length ≤ 1048576) :
  Calls Tryz.prog 153 #[S a0, S a1] w (Rt (RP w (.bool (vP (cut 47 a0) (cut 47 a1))))) := by
 obtain ⟨k, H⟩ := vD.eq a0 a1 h0 h1
 generalize (vP (cut 47 a0) (cut 47 a1)) = r at H ⊢
 unfold vD.sh at H
 refine qh Tryz.func153 rfl (Nat.le_of_ble_eq_true rfl) Tryz.ntmps153 rfl ?_
 refine wr <| lp rfl (xa (.bool false) rfl) <| nx <| wr <| lp rfl (xm (S a0) rfl) ?_
 obtain ⟨c1, H⟩ := qa H
 refine yX (.plain rfl) rfl (ltb rfl) rfl Tryz.call135 (yb.calls (w := w) (a0 := a0) (a1 := 47) (od c1)) rfl <| fun v4 w2 e3 o5 => lp rfl (xa v4 rfl) <| nx <| wr <| lp rfl (xm (S a1) rfl) ?_
 obtain ⟨c6, H⟩ := qa H
 refine yX (.plain rfl) rfl (ltb rfl) rfl Tryz.call135 (yb.calls (w := w2) (a0 := a1) (a1 := 47) (od c6)) rfl <| fun v9 w7 e8 o10 => lp rfl (xa v9 rfl) <| nx <| qk <| wr <| lp rfl (xa (.int .i64 0) rfl) <| nx ?_
 obtain ⟨z12, L13, C14⟩ := bind_some H
 clear H
 refine  vH (fun s0 sQ wQ => Kp [(4, 5), (7, 8), (12, 42)] s0 sQ ∧ Ext w7 wQ ∧ z12 = .inr ()) ?_ ?_
 ·refine qF <| vB (fun s0 kk sQ wQ => ∃ (x7_11 : Int), Kp [(4, 5), (7, 8), (12, 42)] s0 sQ ∧ sQ 7 = .int .i64 x7_11 ∧ Ext w7 wQ ∧ qn (vD.b1 a0 a1) kk x7_11 = some z12) k ⟨0, kz, rfl, er, L13⟩ ?_
  rintro k19 s20 w21 ⟨x7_11, K22, h25, e23, L24⟩
  cases k19 with
  | zero => exact absurd L24 (by simp [qn])
  | succ k19 =>
   obtain ⟨t26, H, S27⟩ := qN L24
   clear L24
   unfold vD.b1 at H
   refine qk <| wr <| lp rfl (qc h25) <| lp rfl (xm v4 (K22 5 rfl)) <| lp rfl (vy Tryz.underlying44 rfl (Ow.rd (Ow.ext o5 (e8.t e23)))) <| lp rfl (yH rfl rfl) <| lp rfl (xm (.bool (decide (x7_11 < ((cut 47 a0).length : Int)))) rfl) <| jN 5 [(17, 22)] 21 (.bool ((decide (x7_11 < ((cut 47 a0).length : Int))) && (decide (x7_11 < ((cut 47 a1).length : Int))))) ?_ ?_
   ·rcases qw (decide (x7_11 < ((cut 47 a0).length : Int))) with b27_ | b27_
    ·exact lg rfl rfl rfl rfl (cb b27_) (qc h25) <| lg rfl rfl rfl rfl (cb b27_) (xm v9 (K22 6 rfl)) <| lg rfl rfl rfl rfl (cb b27_) (vy Tryz.underlying44 rfl (Ow.rd (Ow.ext o10 e23))) <| lg rfl rfl rfl rfl (cb b27_) (yH rfl rfl) <| lp rfl (qD (b := true) (v := (.bool (decide (x7_11 < ((cut 47 a1).length : Int))))) (cb b27_) rfl) <| nx ⟨(ku1 (ku4 kz rfl) rfl), (VY b27_), er⟩
    ·exact ls rfl rfl rfl (cb b27_) rfl <| ls rfl rfl rfl (cb b27_) rfl <| ls rfl rfl rfl (cb b27_) rfl <| ls rfl rfl rfl (cb b27_) rfl <| lp rfl (qD (b := false) (v := (.bool false)) (cb b27_) rfl) <| nx ⟨(ku1 (ku4 kz rfl) rfl), (V6 b27_), er⟩
   intro s33 w29 K30 h31 e32
   refine nx ?_
   rcases qf H with ⟨q34, H⟩ | ⟨q34, H⟩
   ·refine qp (h31.trans (cb q34)) <| qq <| qd <| qk <| qF <| qk ?_
    obtain ⟨c35, H⟩ := qa H
    obtain ⟨c38, H⟩ := qa H
    refine YK [LEq v4, LEq (.int .i64 x7_11), yO (vr (gt (cut 47 a0) x7_11)), LEq (S (gt (cut 47 a0) x7_11)), LEq v9, LEq (.int .i64 x7_11), yO (vr (gt (cut 47 a1) x7_11)), LEq (S (gt (cut 47 a1) x7_11)), LEq (.bool (!decide ((gt (cut 47 a0) x7_11) = (gt (cut 47 a1) x7_11))))] (by kernel_rfl) (by kernel_rfl) ⟨qm, qm, yO.mono, qm, qm, qm, yO.mono, qm, qm, trivial⟩ ⟨?_, ?_, ?_, ?_, ?_, ?_, ?_, ?_, ?_, trivial⟩ ?_
    ·exact fun s x e f d u => lp rfl (xm v4 ((f 5 rfl).trans ((K30 5 rfl).trans (K22 5 rfl)))) <| se rfl rfl
    ·exact fun s x e f d u => lp rfl (xm (.int .i64 x7_11) ((f 7 rfl).trans ((K30 7 rfl).trans h25))) <| se rfl rfl
    ·exact fun s x e f d u => vw (.plain rfl) rfl (ltb rfl) rfl Tryz.underlying44 Tryz.sizeOf9 (d 0 rfl) (Ow.rd (Ow.ext o5 (((e8.t e23).t e32).t e))) (d 1 rfl) c35 <| fun p42 h43 => se rfl ⟨_, rfl, h43⟩
    ·intro s x e f d u
     obtain ⟨p44, h45, h46⟩ := (d 2 rfl)
     exact lp rfl (qQ Tryz.isAgg9 h45 h46 rfl) <| se rfl rfl
    ·exact fun s x e f d u => lp rfl (xm v9 ((f 6 rfl).trans ((K30 6 rfl).trans (K22 6 rfl)))) <| se rfl rfl
    ·exact fun s x e f d u => lp rfl (xm (.int .i64 x7_11) ((f 7 rfl).trans ((K30 7 rfl).trans h25))) <| se rfl rfl
    ·exact fun s x e f d u => vw (.plain rfl) rfl (ltb rfl) rfl Tryz.underlying44 Tryz.sizeOf9 (d 4 rfl) (Ow.rd (Ow.ext o10 ((e23.t e32).t e))) (d 5 rfl) c38 <| fun p48 h49 => se rfl ⟨_, rfl, h49⟩
    ·intro s x e f d u
     obtain ⟨p50, h51, h52⟩ := (d 6 rfl)
     exact lp rfl (qQ Tryz.isAgg9 h51 h52 rfl) <| se rfl rfl
    ·exact fun s x e f d u => lp rfl (Qv (d 3 rfl) (d 7 rfl)) <| se rfl rfl
    intro s53 w54 e55 hf56 ha57
    have K58 := Kp.ofD (kp := [(24, 33)]) rfl hf56
    have d59 : s53 32 = (.bool (!decide ((gt (cut 47 a0) x7_11) = (gt (cut 47 a1) x7_11)))) := ha57 8 rfl
    clear ha57 hf56
    refine qd ?_
    rcases qf H with ⟨q60, H⟩ | ⟨q60, H⟩
    ·refine qp (d59.trans (cb q60)) <| qk ?_
     obtain ⟨c61, H⟩ := qa H
     obtain ⟨c64, H⟩ := qa H
     refine YK [LEq v4, LEq (.int .i64 x7_11), yO (vr (gt (cut 47 a0) x7_11)), LEq (S (gt (cut 47 a0) x7_11)), LEq v9, LEq (.int .i64 x7_11), yO (vr (gt (cut 47 a1) x7_11)), LEq (S (gt (cut 47 a1) x7_11)), LEq (.bool (lt8 (gt (cut 47 a0) x7_11) (gt (cut 47 a1) x7_11))), LEq (.bool (lt8 (gt (cut 47 a0) x7_11) (gt (cut 47 a1) x7_11)))] (by kernel_rfl) (by kernel_rfl) ⟨qm, qm, yO.mono, qm, qm, qm, yO.mono, qm, qm, qm, trivial⟩ ⟨?_, ?_, ?_, ?_, ?_, ?_, ?_, ?_, ?_, ?_, trivial⟩ ?_
     ·exact fun s x e f d u => lp rfl (xm v4 ((f 5 rfl).trans ((K58 5 rfl).trans ((K30 5 rfl).trans (K22 5 rfl))))) <| se rfl rfl
     ·exact fun s x e f d u => lp rfl (xm (.int .i64 x7_11) ((f 7 rfl).trans ((K58 7 rfl).trans ((K30 7 rfl).trans h25)))) <| se rfl rfl
     ·exact fun s x e f d u => vw (.plain rfl) rfl (ltb rfl) rfl Tryz.underlying44 Tryz.sizeOf9 (d 0 rfl) (Ow.rd (Ow.ext o5 ((((e8.t e23).t e32).t e55).t e))) (d 1 rfl) c61 <| fun p68 h69 => se rfl ⟨_, rfl, h69⟩
     ·intro s x e f d u
      obtain ⟨p70, h71, h72⟩ := (d 2 rfl)
      exact lp rfl (qQ Tryz.isAgg9 h71 h72 rfl) <| se rfl rfl
     ·exact fun s x e f d u => lp rfl (xm v9 ((f 6 rfl).trans ((K58 6 rfl).trans ((K30 6 rfl).trans (K22 6 rfl))))) <| se rfl rfl
     ·exact fun s x e f d u => lp rfl (xm (.int .i64 x7_11) ((f 7 rfl).trans ((K58 7 rfl).trans ((K30 7 rfl).trans h25)))) <| se rfl rfl
     ·exact fun s x e f d u => vw (.plain rfl) rfl (ltb rfl) rfl Tryz.underlying44 Tryz.sizeOf9 (d 4 rfl) (Ow.rd (Ow.ext o10 (((e23.t e32).t e55).t e))) (d 5 rfl) c64 <| fun p74 h75 => se rfl ⟨_, rfl, h75⟩
     ·intro s x e f d u
      obtain ⟨p76, h77, h78⟩ := (d 6 rfl)
      exact lp rfl (qQ Tryz.isAgg9 h77 h78 rfl) <| se rfl rfl
     ·exact fun s x e f d u => lp rfl (X_slt (d 3 rfl) (d 7 rfl)) <| se rfl rfl
     ·exact fun s x e f d u => lp rfl (qG (d 8 rfl)) <| se rfl rfl
     intro s79 w80 e81 hf82 ha83
     have K84 := Kp.ofD (kp := [(4, 5), (33, 42)]) rfl hf82
     have d85 : s79 4 = (.bool (lt8 (gt (cut 47 a0) x7_11) (gt (cut 47 a1) x7_11))) := ha83 9 rfl
     clear ha83 hf82
     refine qd <| qr <| vi <| qo <| qo <| vi <| qo <| qo <| qv ?_
     obtain rfl := si H
     obtain rfl := si S27
     have H := C14
     obtain rfl := si H
     exact vo d85 (((((e3.t e8).t e23).t e32).t e55).t e81)
    ·refine qi (d59.trans (cb q60)) <| qq <| ye <| qd <| qJ <| lp rfl (xm (.int .i64 x7_11) ((K58 7 rfl).trans ((K30 7 rfl).trans h25))) <| lp rfl (vW rfl rfl) <| lp rfl (xa (.int .i64 (IntKind.wrap .i64 (x7_11 + 1))) rfl) <| nx ?_
     obtain rfl := si H
     exact ⟨_, Nat.lt_succ_self _, IntKind.wrap .i64 (x7_11 + 1), (ku3 (Kp.cut (Kp.cut (ku1 (ku4 K22 rfl) rfl) K30 rfl) K58 rfl) rfl), rfl, ((e23.t e32).t e55), S27⟩
   ·refine qi (h31.trans (cb q34)) <| vL <| vd <| vd <| yE <| qd ?_
    obtain rfl := si H
    obtain rfl := si S27
    exact ⟨(Kp.cut (ku1 (ku4 K22 rfl) rfl) K30 rfl), (e23.t e32), rfl⟩
 ·rintro s16 w15 ⟨K17, e18, y86⟩
  rw [y86] at C14
  have H := C14
  replace H : _ = some _ := H
  refine qd <| wr <| lp rfl (xm v4 (K17 5 rfl)) <| lp rfl (vy Tryz.underlying44 rfl (Ow.rd (Ow.ext o5 (e8.t e18)))) <| lp rfl (xm v9 (K17 6 rfl)) <| lp rfl (vy Tryz.underlying44 rfl (Ow.rd (Ow.ext o10 e18))) <| lp rfl (yH rfl rfl) <| lp rfl (qG rfl) <| nx <| qr <| qv ?_
  obtain rfl := si H
  exact vo rfl ((e3.t e8).t e18)
/-! cmp.isNaN(string) -/
theorem vA.walk {w : World} {a0 : List UInt8} {r : Bool} (H : vA.sh a0 = some r) :
  Calls Tryz.prog 242 #[S a0] w (Rt (RP w (.bool r))) := by
 unfold vA.sh at H
 refine qh Tryz.func242 rfl (Nat.le_of_ble_eq_true rfl) Tryz.ntmps242 rfl ?_
 refine wr <| lp rfl (xa (.bool false) rfl) <| nx <| wr <| lp rfl (xm (S a0) rfl) <| lp rfl (xm (S a0) rfl) <| lp rfl (Qv rfl rfl) <| lp rfl (xa (.bool (!decide (a0 = a0))) rfl) <| nx <| qr <| qv ?_
 obtain rfl := si H
 exact vo rfl er
theorem vA.calls {w : World} {a0 : List UInt8} :
  Calls Tryz.prog 242 #[S a0] w (Rt (RP w (.bool false))) := vA.walk (vA.eq a0)
/-! cmp.Compare(string) -/
theorem vV.calls {w : World} {a0 : List UInt8} {a1 : List UInt8} :
  Calls Tryz.prog 217 #[S a0, S a1] w (Rt (RP w (.int .i64 (cmpS a0 a1)))) := by
 have H := vV.eq a0 a1
 generalize (cmpS a0 a1) = r at H ⊢
 unfold vV.sh at H
 refine qh Tryz.func217 rfl (Nat.le_of_ble_eq_true rfl) Tryz.ntmps217 rfl ?_
 refine wr <| lp rfl (xa (.int .i64 0) rfl) <| nx <| wr <| lp rfl (xm (S a0) rfl) <| lc rfl rfl Tryz.call242 (vA.calls (w := w) (a0 := a0)) rfl <| fun w1 e2 => lp rfl (xa (.bool false) rfl) <| nx <| wr <| lp rfl (xm (S a1) rfl) <| lc rfl rfl Tryz.call242 (vA.calls (w := w1) (a0 := a1)) rfl <| fun w3 e4 => lp rfl (xa (.bool false) rfl) <| nx <| qk <| wr <| lp rfl (xm (.bool false) rfl) <| nx ?_
 rcases qf H with ⟨q5, H⟩ | ⟨q5, H⟩
 ·refine qp (cb q5) <| qk <| wr <| lp rfl (xm (.bool false) rfl) <| nx ?_
  rcases qf H with ⟨q6, H⟩ | ⟨q6, H⟩
  ·refine qp (cb q6) <| wr <| lp rfl (xa (.int .i64 0) rfl) <| nx <| qr <| qo <| qo <| qv ?_
   obtain rfl := si H
   exact vo rfl (e2.t e4)
  ·refine qi (cb q6) <| qq <| qd <| wr <| lp rfl (xa (.int .i64 (-1)) rfl) <| nx <| qr <| qo <| qv ?_
   obtain rfl := si H
   exact vo rfl (e2.t e4)
 ·refine qi (cb q5) <| qq <| qd <| qk <| wr <| lp rfl (xm (.bool false) rfl) <| nx ?_
  rcases qf H with ⟨q7, H⟩ | ⟨q7, H⟩
  ·refine qp (cb q7) <| wr <| lp rfl (xa (.int .i64 1) rfl) <| nx <| qr <| qo <| qv ?_
   obtain rfl := si H
   exact vo rfl (e2.t e4)
  ·refine qi (cb q7) <| qq <| qd <| qk <| wr <| lp rfl (xm (S a0) rfl) <| lp rfl (xm (S a1) rfl) <| lp rfl (X_slt rfl rfl) <| nx ?_
   rcases qf H with ⟨q8, H⟩ | ⟨q8, H⟩
   ·refine qp (cb q8) <| wr <| lp rfl (xa (.int .i64 (-1)) rfl) <| nx <| qr <| qo <| qv ?_
    obtain rfl := si H
    exact vo rfl (e2.t e4)
   ·refine qi (cb q8) <| qq <| qd <| qk <| wr <| lp rfl (xm (S a0) rfl) <| lp rfl (xm (S a1) rfl) <| lp rfl (X_sgt rfl rfl) <| nx ?_
    rcases qf H with ⟨q9, H⟩ | ⟨q9, H⟩
    ·refine qp (cb q9) <| wr <| lp rfl (xa (.int .i64 1) rfl) <| nx <| qr <| qo <| qv ?_
     obtain rfl := si H
     exact vo rfl (e2.t e4)
    ·refine qi (cb q9) <| qq <| qd <| wr <| lp rfl (xa (.int .i64 0) rfl) <| nx <| qr <| qv ?_
     obtain rfl := si H
     exact vo rfl (e2.t e4)
/-! slices.Compare(()string,string) -/
theorem qB.calls {w : World} {a0 : List (List UInt8)} {a1 : List (List UInt8)} {v_a0 : Value} (f_a0 : Rd 1 vr w v_a0 a0) {v_a1 : Value} (f_a1 : Rd 1 vr w v_a1 a1) (h0 : a0.length ≤ 4611686018427387904) (h1 : a1.length ≤ 4611686018427387904) :
  Calls Tryz.prog 169 #[v_a0, v_a1] w (Rt (RP w (.int .i64 (cmpL a0 a1)))) := by
 obtain ⟨k, H⟩ := qB.eq a0 a1 h0 h1
 generalize (cmpL a0 a1) = r at H ⊢
 unfold qB.sh at H
 refine qh Tryz.func169 rfl (Nat.le_of_ble_eq_true rfl) Tryz.ntmps169 rfl ?_
 refine wr <| lp rfl (xa (.int .i64 0) rfl) <| nx <| qk <| wr <| lp rfl (xm v_a0 rfl) <| lp rfl (vy Tryz.underlying44 rfl f_a0) <| lp rfl (xm (.int .i64 0) rfl) <| nx ?_
 obtain ⟨z2, L3, C4⟩ := bind_some H
 clear H
 refine  vH (fun s0 sQ wQ => Kp [(4, 9), (11, 31)] s0 sQ ∧ Ext w wQ ∧ z2 = .inr ()) ?_ ?_
 ·refine qF <| vB (fun s0 kk sQ wQ => ∃ (x11_1 : Int), Kp [(4, 9), (11, 31)] s0 sQ ∧ sQ 11 = .int .i64 x11_1 ∧ Ext w wQ ∧ qn (qB.b1 a0 a1) kk x11_1 = some z2) k ⟨0, kz, rfl, er, L3⟩ ?_
  rintro k9 s10 w11 ⟨x11_1, K12, h15, e13, L14⟩
  cases k9 with
  | zero => exact absurd L14 (by simp [qn])
  | succ k9 =>
   obtain ⟨t16, H, S17⟩ := qN L14
   clear L14
   unfold qB.b1 at H
   refine wr <| lp rfl (yH h15 (K12 10 rfl)) <| nx <| qk ?_
   rcases qf H with ⟨q18, H⟩ | ⟨q18, H⟩
   ·refine qp (cb q18) <| qq <| qd <| qk <| qF <| wr <| lp rfl (qc h15) ?_
    obtain ⟨c19, H⟩ := qa H
    refine vw (.plain rfl) rfl (ltb rfl) rfl Tryz.underlying44 Tryz.sizeOf9 (K12 9 rfl) (Rd.ext f_a0 e13) h15 c19 <| fun p20 h21 => lp rfl (qQ Tryz.isAgg9 rfl h21 rfl) <| lp rfl (xa (.int .i64 x11_1) rfl) <| lp rfl (xa (S (gt a0 x11_1)) rfl) <| nx <| qk <| wr <| lp rfl (xm (.int .i64 x11_1) rfl) <| lp rfl (xm v_a1 (K12 1 rfl)) <| lp rfl (vy Tryz.underlying44 rfl (Rd.ext f_a1 e13)) <| lp rfl (QY rfl rfl) <| nx ?_
    rcases qf H with ⟨q22, H⟩ | ⟨q22, H⟩
    ·refine qp (cb q22) <| wr <| lp rfl (xa (.int .i64 1) rfl) <| nx <| qr <| qo <| vi <| qo <| qo <| vi <| qo <| qo <| qv ?_
     obtain rfl := si H
     obtain rfl := si S17
     have H := C4
     obtain rfl := si H
     exact vo rfl e13
    ·refine qi (cb q22) <| qq <| qd <| wr <| lp rfl (xm v_a1 (K12 1 rfl)) <| lp rfl (xm (.int .i64 x11_1) rfl) ?_
     obtain ⟨c23, H⟩ := qa H
     refine vw (.plain rfl) rfl (ltb rfl) rfl Tryz.underlying44 Tryz.sizeOf9 rfl (Rd.ext f_a1 e13) rfl c23 <| fun p24 h25 => lp rfl (qQ Tryz.isAgg9 rfl h25 rfl) <| lp rfl (xa (S (gt a1 x11_1)) rfl) <| nx <| wr <| lp rfl (xm (S (gt a0 x11_1)) rfl) <| lp rfl (xm (S (gt a1 x11_1)) rfl) <| lc rfl rfl Tryz.call217 (vV.calls (w := w11) (a0 := gt a0 x11_1) (a1 := gt a1 x11_1)) rfl <| fun w26 e27 => lp rfl (xa (.int .i64 (cmpS (gt a0 x11_1) (gt a1 x11_1))) rfl) <| nx <| wr <| lp rfl (xm (.int .i64 (cmpS (gt a0 x11_1) (gt a1 x11_1))) rfl) <| lp rfl (je rfl rfl) <| nx ?_
     rcases qf H with ⟨q28, H⟩ | ⟨q28, H⟩
     ·refine qp (cb q28) <| wr <| lp rfl (xm (.int .i64 (cmpS (gt a0 x11_1) (gt a1 x11_1))) rfl) <| lp rfl (xa (.int .i64 (cmpS (gt a0 x11_1) (gt a1 x11_1))) rfl) <| nx <| qr <| vi <| qo <| qo <| vi <| qo <| qo <| qv ?_
      obtain rfl := si H
      obtain rfl := si S17
      have H := C4
      obtain rfl := si H
      exact vo rfl (e13.t e27)
     ·refine qi (cb q28) <| qq <| ye <| qd <| qJ <| lp rfl (vW h15 rfl) <| lp rfl (xm (.int .i64 (IntKind.wrap .i64 (x11_1 + 1))) rfl) <| nx ?_
      obtain rfl := si H
      exact ⟨_, Nat.lt_succ_self _, IntKind.wrap .i64 (x11_1 + 1), (ku3 (ku4 (ku8 (ku8 K12 rfl) rfl) rfl) rfl), rfl, (e13.t e27), S17⟩
   ·refine qi (cb q18) <| vL <| vd <| vd <| yE <| qd ?_
    obtain rfl := si H
    obtain rfl := si S17
    exact ⟨(ku1 K12 rfl), e13, rfl⟩
 ·rintro s6 w5 ⟨K7, e8, y29⟩
  rw [y29] at C4
  have H := C4
  replace H : _ = some _ := H
  refine qd <| qk <| wr <| lp rfl (xm v_a0 (K7 0 rfl)) <| lp rfl (vy Tryz.underlying44 rfl (Rd.ext f_a0 e8)) <| lp rfl (xm v_a1 (K7 1 rfl)) <| lp rfl (vy Tryz.underlying44 rfl (Rd.ext f_a1 e8)) <| lp rfl (yH rfl rfl) <| nx ?_
  rcases qf H with ⟨q30, H⟩ | ⟨q30, H⟩
  ·refine qp (cb q30) <| wr <| lp rfl (xa (.int .i64 (-1)) rfl) <| nx <| qr <| qo <| qv ?_
   obtain rfl := si H
   exact vo rfl e8
  ·refine qi (cb q30) <| qq <| qd <| wr <| lp rfl (xa (.int .i64 0) rfl) <| nx <| qr <| qv ?_
   obtain rfl := si H
   exact vo rfl e8
/-! impl.compare -/
theorem impl_compare.calls {w : World} {a0 : List UInt8} {a1 : List UInt8} (gv : GV 0 w) (h0 : a0.length ≤ 1048576) (h1 : a1.length ≤ 1048576) :
  Calls Tryz.prog 102 #[S a0, S a1] w (Rt (RP w (.int .i64 (cmpL (cut 47 a0) (cut 47 a1))))) := by
 have H := impl_compare.eq a0 a1 h0 h1
 generalize (cmpL (cut 47 a0) (cut 47 a1)) = r at H ⊢
 unfold impl_compare.sh at H
 refine qh Tryz.func102 rfl (Nat.le_of_ble_eq_true rfl) Tryz.ntmps102 rfl ?_
 refine wr <| lp rfl (xa (.int .i64 0) rfl) <| nx <| wr <| lp rfl (xm (S a0) rfl) ?_
 obtain ⟨c1, H⟩ := qa H
 refine yX (.plain rfl) rfl (ltb rfl) rfl Tryz.call132 (vS.calls (w := w) (a0 := a0) gv (od c1)) rfl <| fun v4 w2 e3 o5 => lp rfl (xm (S a1) rfl) ?_
 obtain ⟨c6, H⟩ := qa H
 refine yX (.plain rfl) rfl (ltb rfl) rfl Tryz.call132 (vS.calls (w := w2) (a0 := a1) (GV.ext gv e3) (od c6)) rfl <| fun v9 w7 e8 o10 => ?_
 obtain ⟨c11, H⟩ := qa H
 obtain ⟨c12, H⟩ := qa H
 refine lc rfl rfl Tryz.call169 (qB.calls (w := w7) (a0 := (cut 47 a0)) (a1 := (cut 47 a1)) (Ow.rd (Ow.ext o5 e8)) (Ow.rd o10) (od c11) (od c12)) rfl <| fun w13 e14 => lp rfl (xa (.int .i64 (cmpL (cut 47 a0) (cut 47 a1))) rfl) <| nx <| qr <| qv ?_
 obtain rfl := si H
 exact vo rfl ((e3.t e8).t e14)
/-! impl.PathLess -/
theorem jc.calls {w : World} {a0 : List UInt8} {a1 : List UInt8} (gv : GV 0 w) :
  Calls Tryz.prog 37 #[S a0, S a1] w (Rt (RP w (.bool (vQ a0 a1)))) := by
 have H := jc.eq a0 a1
 generalize (vQ a0 a1) = r at H ⊢
 unfold jc.sh at H
 refine qh Tryz.func37 rfl (Nat.le_of_ble_eq_true rfl) Tryz.ntmps37 rfl ?_
 refine wr <| lp rfl (xa (.bool false) rfl) <| nx <| wr <| lp rfl (xm (S a0) rfl) <| lc rfl rfl Tryz.call101 (y8.calls (w := w) (a0 := a0) gv) rfl <| fun w1 e2 => lp rfl (xm (.bool (qy a0)) rfl) <| jN 3 [(8, 11)] 10 (.bool ((qy a0) && (qy a1))) ?_ ?_
 ·rcases qw (qy a0) with b2_ | b2_
  ·exact lg rfl rfl rfl rfl (cb b2_) (xm (S a1) rfl) <| y1 (tg rfl rfl rfl (cb b2_)) rfl (ltb rfl) rfl Tryz.call101 (y8.calls (w := w1) (a0 := a1) (GV.ext gv e2)) rfl <| fun w4 e5 => lp rfl (qD (b := true) (v := (.bool (qy a1))) (cb b2_) rfl) <| nx ⟨(ku3 kz rfl), (VY b2_), e5⟩
  ·exact ls rfl rfl rfl (cb b2_) rfl <| ls rfl rfl rfl (cb b2_) rfl <| lp rfl (qD (b := false) (v := (.bool false)) (cb b2_) rfl) <| nx ⟨(ku3 kz rfl), (V6 b2_), er⟩
 intro s8 w4 K5 h6 e7
 refine lp rfl (qc h6) ?_
 obtain ⟨z10, x11, H⟩ := bind_some H
 refine jp 5 [(12, 17)] 16 (fun q => q = z10) ?_ ?_
 ·rcases qf x11 with ⟨b8_, H⟩ | ⟨b8_, H⟩
  ·refine lg rfl rfl rfl rfl (cb b8_) (xm (S a0) (K5 0 rfl)) <| lg rfl rfl rfl rfl (cb b8_) (xm (S a1) (K5 1 rfl)) ?_
   obtain ⟨c10, H⟩ := qa H
   obtain ⟨c11, H⟩ := qa H
   refine y1 (tg rfl rfl rfl (cb b8_)) rfl (ltb rfl) rfl Tryz.call102 (impl_compare.calls (w := w4) (a0 := a0) (a1 := a1) (GV.ext gv (e2.t e7)) (od c10) (od c11)) rfl <| fun w12 e13 => lg rfl rfl rfl rfl (cb b8_) (yH rfl rfl) <| lp rfl (qD (b := true) (v := (.bool (decide ((cmpL (cut 47 a0) (cut 47 a1)) < 0)))) (cb b8_) rfl) ?_
   obtain rfl := si H
   exact nx ⟨(ku1 (ku4 kz rfl) rfl), ⟨_, rfl, rfl⟩, e13⟩
  ·refine ls rfl rfl rfl (cb b8_) rfl <| ls rfl rfl rfl (cb b8_) rfl <| ls rfl rfl rfl (cb b8_) rfl <| ls rfl rfl rfl (cb b8_) rfl <| lp rfl (qD (b := false) (v := (.bool false)) (cb b8_) rfl) ?_
   obtain rfl := si H
   exact nx ⟨(ku1 (ku4 kz rfl) rfl), ⟨_, rfl, rfl⟩, er⟩
 intro s16 w12 z17 K13 hq h14 e15
 rw [hq] at h14; clear hq
 refine lp rfl (qG h14) <| nx <| qr <| qv ?_
 obtain rfl := si H
 exact vo rfl ((e2.t e7).t e15)
/-! spec.l01Parent -/
theorem qZ.calls {w : World} {a0 : List UInt8} (h0 : a0.length ≤ 4611686018427387904) :
  Calls Tryz.prog 154 #[S a0] w (Rt (RP w (S (qb a0)))) := by
 obtain ⟨k, H⟩ := qZ.eq a0 h0
 generalize (qb a0) = r at H ⊢
 unfold qZ.sh at H
 refine qh Tryz.func154 rfl (Nat.le_of_ble_eq_true rfl) Tryz.ntmps154 rfl ?_
 refine wr <| lp rfl (xa (S ([] : List UInt8)) rfl) <| nx <| qk <| wr <| lp rfl (xm (S a0) rfl) <| lp rfl (j9 Tryz.underlying9 rfl) <| lp rfl (jl rfl rfl) <| lp rfl (xa (.int .i64 (IntKind.wrap .i64 ((a0.length : Int) - 1))) rfl) <| nx ?_
 obtain ⟨z2, L3, C4⟩ := bind_some H
 clear H
 refine  vH (fun s0 sQ wQ => Kp [(2, 4), (7, 18)] s0 sQ ∧ Ext w wQ ∧ z2 = .inr ()) ?_ ?_
 ·refine qF <| vB (fun s0 kk sQ wQ => ∃ (x3_1 : Int), Kp [(2, 4), (7, 18)] s0 sQ ∧ sQ 3 = .int .i64 x3_1 ∧ Ext w wQ ∧ qn (qZ.b1 a0) kk x3_1 = some z2) k ⟨IntKind.wrap .i64 ((a0.length : Int) - 1), kz, rfl, er, L3⟩ ?_
  rintro k9 s10 w11 ⟨x3_1, K12, h15, e13, L14⟩
  cases k9 with
  | zero => exact absurd L14 (by simp [qn])
  | succ k9 =>
   obtain ⟨t16, H, S17⟩ := qN L14
   clear L14
   unfold qZ.b1 at H
   refine qk <| wr <| lp rfl (qc h15) <| lp rfl (QY rfl rfl) <| nx ?_
   rcases qf H with ⟨q18, H⟩ | ⟨q18, H⟩
   ·refine qp (cb q18) <| qq <| qd <| qk <| qF <| wr <| lp rfl (xm (S a0) (K12 0 rfl)) <| lp rfl (qc h15) ?_
    obtain ⟨c19, H⟩ := qa H
    refine lp rfl (QP Tryz.underlying9 rfl rfl (jG c19) (jI c19)) <| lp rfl (yZ rfl rfl) <| nx ?_
    rcases qf H with ⟨q20, H⟩ | ⟨q20, H⟩
    ·refine qp (cb q20) <| wr <| lp rfl (xm (S a0) (K12 0 rfl)) <| lp rfl (qc h15) ?_
     obtain ⟨c21, H⟩ := qa H
     refine lp rfl (V1 Tryz.underlying9 rfl (l := 0) (h := x3_1) rfl ⟨_, rfl⟩ (JQ c21) (Gn c21) (Gh c21)) <| lp rfl (xa (S (sub a0 0 x3_1)) rfl) <| nx <| qr <| vi <| qo <| qo <| vi <| qo <| qo <| qv ?_
     obtain rfl := si H
     obtain rfl := si S17
     have H := C4
     obtain rfl := si H
     exact vo rfl e13
    ·refine qi (cb q20) <| qq <| ye <| qd <| qJ <| lp rfl (qc h15) <| lp rfl (jl rfl rfl) <| lp rfl (xa (.int .i64 (IntKind.wrap .i64 (x3_1 - 1))) rfl) <| nx ?_
     obtain rfl := si H
     exact ⟨_, Nat.lt_succ_self _, IntKind.wrap .i64 (x3_1 - 1), (ku1 (ku8 K12 rfl) rfl), rfl, e13, S17⟩
   ·refine qi (cb q18) <| vL <| vd <| vd <| yE <| qd ?_
    obtain rfl := si H
    obtain rfl := si S17
    exact ⟨(ku2 K12 rfl), e13, rfl⟩
 ·rintro s6 w5 ⟨K7, e8, y22⟩
  rw [y22] at C4
  have H := C4
  replace H : _ = some _ := H
  refine qd <| wr <| lp rfl (xa (S ([] : List UInt8)) rfl) <| nx <| qr <| qv ?_
  obtain rfl := si H
  exact vo rfl e8
/-! impl.parent -/
theorem y6.calls {w : World} {a0 : List UInt8} (h0 : a0.length ≤ 1048576) :
  Calls Tryz.prog 92 #[S a0] w (Rt (RP w (S (qb a0)))) := by
 have H := y6.eq a0 h0
 generalize (qb a0) = r at H ⊢
 unfold y6.sh at H
 refine qh Tryz.func92 rfl (Nat.le_of_ble_eq_true rfl) Tryz.ntmps92 rfl ?_
 refine wr <| lp rfl (xa (S ([] : List UInt8)) rfl) <| nx <| wr <| lp rfl (xm (S a0) rfl) <| lp rfl (xm (S a0) rfl) ?_
 obtain ⟨c1, H⟩ := qa H
 obtain ⟨c2, H⟩ := qa H
 refine lc rfl rfl Tryz.call159 (YH.calls (w := w) (a0 := a0) (a1 := ([47] : List UInt8)) (od c1) (od c2)) rfl <| fun w3 e4 => lp rfl (GW rfl rfl) ?_
 obtain ⟨c5, H⟩ := qa H
 refine lp rfl (V1 Tryz.underlying9 rfl (l := 0) (h := (if ((vg a0) < 0 : Prop) then 0 else (vg a0))) rfl ⟨_, rfl⟩ (JQ c5) (Gn c5) (Gh c5)) <| lp rfl (qG rfl) <| nx <| qr <| qv ?_
 obtain rfl := si H
 exact vo rfl e4
/-! spec.l03At -/
theorem yc.calls {w : World} {a0 : List Rec} {a1 : List UInt8} {v_a0 : Value} (f_a0 : Rd 5 qg w v_a0 a0) (h0 : a0.length ≤ 1048576) :
  Calls Tryz.prog 162 #[v_a0, S a1] w (Rt (RP w (.int .i64 (qt a0 a1)))) := by
 obtain ⟨k, H⟩ := yc.eq a0 a1 h0
 generalize (qt a0 a1) = r at H ⊢
 unfold yc.sh at H
 refine qh Tryz.func162 rfl (Nat.le_of_ble_eq_true rfl) Tryz.ntmps162 rfl ?_
 refine wr <| lp rfl (xa (.int .i64 0) rfl) <| nx <| qk <| wr <| lp rfl (xa (.int .i64 0) rfl) <| nx ?_
 obtain ⟨z2, L3, C4⟩ := bind_some H
 clear H
 refine  vH (fun s0 sQ wQ => Kp [(4, 20)] s0 sQ ∧ Ext w wQ ∧ z2 = .inr ()) ?_ ?_
 ·refine qF <| vB (fun s0 kk sQ wQ => ∃ (x5_1 : Int), Kp [(4, 20)] s0 sQ ∧ sQ 5 = .int .i64 x5_1 ∧ Ext w wQ ∧ qn (yc.b1 a0 a1) kk x5_1 = some z2) k ⟨0, kz, rfl, er, L3⟩ ?_
  rintro k9 s10 w11 ⟨x5_1, K12, h15, e13, L14⟩
  cases k9 with
  | zero => exact absurd L14 (by simp [qn])
  | succ k9 =>
   obtain ⟨t16, H, S17⟩ := qN L14
   clear L14
   unfold yc.b1 at H
   refine qk <| wr <| lp rfl (qc h15) <| lp rfl (xm v_a0 (K12 0 rfl)) <| lp rfl (vy Tryz.underlying35 rfl (Rd.ext f_a0 e13)) <| lp rfl (yH rfl rfl) <| nx ?_
   rcases qf H with ⟨q18, H⟩ | ⟨q18, H⟩
   ·refine qp (cb q18) <| qq <| qd <| qk <| qF <| wr <| lp rfl (xm v_a0 (K12 0 rfl)) <| lp rfl (qc h15) ?_
    obtain ⟨c19, H⟩ := qa H
    refine vw (.plain rfl) rfl (ltb rfl) rfl Tryz.underlying35 Tryz.sizeOf52 rfl (Rd.ext f_a0 e13) rfl c19 <| fun p20 h21 => lp rfl (qe Tryz.underlying52 rfl Tryz.sizeOf9 rfl rfl) <| lp rfl (jh Tryz.isAgg9 (j := 1) h21 rfl rfl) <| lp rfl (xm (S a1) (K12 1 rfl)) <| lp rfl (VT rfl rfl) <| nx ?_
    rcases qf H with ⟨q22, H⟩ | ⟨q22, H⟩
    ·refine qp (cb q22) <| wr <| lp rfl (qc h15) <| lp rfl (xa (.int .i64 x5_1) rfl) <| nx <| qr <| vi <| qo <| qo <| vi <| qo <| qo <| qv ?_
     obtain rfl := si H
     obtain rfl := si S17
     have H := C4
     obtain rfl := si H
     exact vo rfl e13
    ·refine qi (cb q22) <| qq <| ye <| qd <| qJ <| lp rfl (qc h15) <| lp rfl (vW rfl rfl) <| lp rfl (xa (.int .i64 (IntKind.wrap .i64 (x5_1 + 1))) rfl) <| nx ?_
     obtain rfl := si H
     exact ⟨_, Nat.lt_succ_self _, IntKind.wrap .i64 (x5_1 + 1), (ku2 (ku4 (ku8 K12 rfl) rfl) rfl), rfl, e13, S17⟩
   ·refine qi (cb q18) <| vL <| vd <| vd <| yE <| qd ?_
    obtain rfl := si H
    obtain rfl := si S17
    exact ⟨(ku4 K12 rfl), e13, rfl⟩
 ·rintro s6 w5 ⟨K7, e8, y23⟩
  rw [y23] at C4
  have H := C4
  replace H : _ = some _ := H
  refine qd <| wr <| lp rfl (xa (.int .i64 (-1)) rfl) <| nx <| qr <| qv ?_
  obtain rfl := si H
  exact vo rfl e8
/-! spec.l03Fault -/
theorem vm.walk {k : Nat} {w : World} {a0 : List Rec} {v_a0 : Value} (f_a0 : Rd 5 qg w v_a0 a0) {r : Int × Int} (H : vm.sh k a0 = some r) :
  Calls Tryz.prog 133 #[v_a0] w (Rt (RP w (.tuple #[.int .i64 r.1, .int .i64 r.2]))) := by
 unfold vm.sh at H
 refine qh Tryz.func133 rfl (Nat.le_of_ble_eq_true rfl) Tryz.ntmps133 rfl ?_
 refine wr <| lp rfl (xa (.int .i64 0) rfl) <| lp rfl (xa (.int .i64 0) rfl) <| nx <| qk <| wr <| lp rfl (xa (.int .i64 0) rfl) <| nx ?_
 obtain ⟨z2, L3, C4⟩ := bind_some H
 clear H
 refine  vH (fun s0 sQ wQ => Kp [(2, 84)] s0 sQ ∧ Ext w wQ ∧ z2 = .inr ()) ?_ ?_
 ·refine qF <| vB (fun s0 kk sQ wQ => ∃ (x4_1 : Int), Kp [(2, 84)] s0 sQ ∧ sQ 4 = .int .i64 x4_1 ∧ Ext w wQ ∧ qn (vm.b1 a0) kk x4_1 = some z2) k ⟨0, kz, rfl, er, L3⟩ ?_
  rintro k9 s10 w11 ⟨x4_1, K12, h15, e13, L14⟩
  cases k9 with
  | zero => exact absurd L14 (by simp [qn])
  | succ k9 =>
   obtain ⟨t16, H, S17⟩ := qN L14
   clear L14
   unfold vm.b1 at H
   refine qk <| wr <| lp rfl (qc h15) <| lp rfl (xm v_a0 (K12 0 rfl)) <| lp rfl (vy Tryz.underlying35 rfl (Rd.ext f_a0 e13)) <| lp rfl (yH rfl rfl) <| nx ?_
   rcases qf H with ⟨q18, H⟩ | ⟨q18, H⟩
   ·refine qp (cb q18) <| qq <| qd <| qk <| qF <| qk <| wr <| lp rfl (qc h15) <| lp rfl (yZ rfl rfl) <| nx ?_
    rcases qf H with ⟨q19, H⟩ | ⟨q19, H⟩
    ·refine qp (cb q19) <| wr <| lp rfl (qc h15) <| lp rfl (xa (.int .i64 x4_1) rfl) <| lp rfl (xa (.int .i64 6) rfl) <| nx <| qr <| qo <| vi <| qo <| qo <| vi <| qo <| qo <| qv ?_
     obtain rfl := si H
     obtain rfl := si S17
     have H := C4
     obtain rfl := si H
     exact VN rfl rfl e13
    ·refine qi (cb q19) <| qq <| qd <| qk <| wr <| lp rfl (xm v_a0 (K12 0 rfl)) <| lp rfl (qc h15) ?_
     obtain ⟨c20, H⟩ := qa H
     refine vw (.plain rfl) rfl (ltb rfl) rfl Tryz.underlying35 Tryz.sizeOf52 rfl (Rd.ext f_a0 e13) rfl c20 <| fun p21 h22 => lp rfl (vC Tryz.isAgg52 Tryz.sizeOf52 rfl rfl h22) <| lc rfl rfl Tryz.call194 (ju.calls (w := w11) (a0 := gt a0 x4_1)) rfl <| fun w23 e24 => lp rfl (xa (.int .i64 (qz (gt a0 x4_1))) rfl) <| nx <| wr <| lp rfl (xm (.int .i64 (qz (gt a0 x4_1))) rfl) <| lp rfl (je rfl rfl) <| nx ?_
     rcases qf H with ⟨q25, H⟩ | ⟨q25, H⟩
     ·refine qp (cb q25) <| wr <| lp rfl (qc h15) <| lp rfl (xm (.int .i64 (qz (gt a0 x4_1))) rfl) <| lp rfl (xa (.int .i64 x4_1) rfl) <| lp rfl (xa (.int .i64 (qz (gt a0 x4_1))) rfl) <| nx <| qr <| qo <| vi <| qo <| qo <| vi <| qo <| qo <| qv ?_
      obtain rfl := si H
      obtain rfl := si S17
      have H := C4
      obtain rfl := si H
      exact VN rfl rfl (e13.t e24)
     ·refine qi (cb q25) <| qq <| qd <| qk <| qk ?_
      obtain ⟨c26, H⟩ := qa H
      obtain ⟨c29, H⟩ := qa H
      refine YK [LEq (.int .i64 x4_1), LEq (.bool (decide (0 < x4_1))), LEq (.bool (decide (0 < x4_1))), LIf (decide (0 < x4_1)) (LEq v_a0), LIf (decide (0 < x4_1)) (LEq (.int .i64 x4_1)), LIf (decide (0 < x4_1)) (yO (qg (gt a0 x4_1))), LIf (decide (0 < x4_1)) (LAt 1 (qg (gt a0 x4_1))), LIf (decide (0 < x4_1)) (LEq (S ((gt a0 x4_1).path))), LIf (decide (0 < x4_1)) (LEq v_a0), LIf (decide (0 < x4_1)) (LEq (.int .i64 x4_1)), LIf (decide (0 < x4_1)) (LEq (.int .i64 (IntKind.wrap .i64 (x4_1 - 1)))), LIf (decide (0 < x4_1)) (yO (qg (gt a0 (IntKind.wrap .i64 (x4_1 - 1))))), LIf (decide (0 < x4_1)) (LAt 1 (qg (gt a0 (IntKind.wrap .i64 (x4_1 - 1))))), LIf (decide (0 < x4_1)) (LEq (S ((gt a0 (IntKind.wrap .i64 (x4_1 - 1))).path))), LIf (decide (0 < x4_1)) (LEq (.bool (decide (((gt a0 x4_1).path) = ((gt a0 (IntKind.wrap .i64 (x4_1 - 1))).path))))), LEq (.bool ((decide (0 < x4_1)) && (decide (((gt a0 x4_1).path) = ((gt a0 (IntKind.wrap .i64 (x4_1 - 1))).path)))))] (by kernel_rfl) (by kernel_rfl) ⟨qm, qm, qm, lm, lm, (LIf.mono yO.mono), (LIf.mono LAt.mono), lm, lm, lm, lm, (LIf.mono yO.mono), (LIf.mono LAt.mono), lm, lm, qm, trivial⟩ ⟨?_, ?_, ?_, ?_, ?_, ?_, ?_, ?_, ?_, ?_, ?_, ?_, ?_, ?_, ?_, ?_, trivial⟩ ?_
      ·exact fun s x e f d u => lp rfl (xm (.int .i64 x4_1) ((f 4 rfl).trans h15)) <| se rfl rfl
      ·exact fun s x e f d u => lp rfl (jj (d 0 rfl) rfl) <| se rfl rfl
      ·exact fun s x e f d u => lp rfl (qc (d 1 rfl)) <| se rfl rfl
      ·exact fun s x e f d u => gT rfl rfl rfl rfl (d 2 rfl) rfl fun b t => lt t rfl rfl (xm v_a0 ((f 0 rfl).trans (K12 0 rfl))) <| sg rfl rfl b rfl
      ·exact fun s x e f d u => gT rfl rfl rfl rfl (d 2 rfl) rfl fun b t => lt t rfl rfl (xm (.int .i64 x4_1) ((f 4 rfl).trans h15)) <| sg rfl rfl b rfl
      ·exact fun s x e f d u => gT rfl rfl rfl rfl (d 2 rfl) rfl fun b t => vw t rfl (ltb rfl) rfl Tryz.underlying35 Tryz.sizeOf52 ((d 3 rfl).1 b) (Rd.ext f_a0 ((e13.t e24).t e)) ((d 4 rfl).1 b) (yB b c26) <| fun p33 h34 => sg rfl rfl b ⟨_, rfl, h34⟩
      ·intro s x e f d u
       refine gT rfl rfl rfl rfl (d 2 rfl) rfl fun b t => ?_
       obtain ⟨p35, h36, h37⟩ := ((d 5 rfl).1 b)
       exact lt t rfl rfl (qe Tryz.underlying52 rfl Tryz.sizeOf9 rfl h36) <| sg rfl rfl b ⟨_, rfl, h37⟩
      ·intro s x e f d u
       refine gT rfl rfl rfl rfl (d 2 rfl) rfl fun b t => ?_
       obtain ⟨p38, h39, h40⟩ := ((d 6 rfl).1 b)
       exact lt t rfl rfl (jh Tryz.isAgg9 (j := 1) h40 h39 rfl) <| sg rfl rfl b rfl
      ·exact fun s x e f d u => gT rfl rfl rfl rfl (d 2 rfl) rfl fun b t => lt t rfl rfl (xm v_a0 ((f 0 rfl).trans (K12 0 rfl))) <| sg rfl rfl b rfl
      ·exact fun s x e f d u => gT rfl rfl rfl rfl (d 2 rfl) rfl fun b t => lt t rfl rfl (xm (.int .i64 x4_1) ((f 4 rfl).trans h15)) <| sg rfl rfl b rfl
      ·exact fun s x e f d u => gT rfl rfl rfl rfl (d 2 rfl) rfl fun b t => lt t rfl rfl (jl ((d 9 rfl).1 b) rfl) <| sg rfl rfl b rfl
      ·exact fun s x e f d u => gT rfl rfl rfl rfl (d 2 rfl) rfl fun b t => vw t rfl (ltb rfl) rfl Tryz.underlying35 Tryz.sizeOf52 ((d 8 rfl).1 b) (Rd.ext f_a0 ((e13.t e24).t e)) ((d 10 rfl).1 b) (yB b c29) <| fun p42 h43 => sg rfl rfl b ⟨_, rfl, h43⟩
      ·intro s x e f d u
       refine gT rfl rfl rfl rfl (d 2 rfl) rfl fun b t => ?_
       obtain ⟨p44, h45, h46⟩ := ((d 11 rfl).1 b)
       exact lt t rfl rfl (qe Tryz.underlying52 rfl Tryz.sizeOf9 rfl h45) <| sg rfl rfl b ⟨_, rfl, h46⟩
      ·intro s x e f d u
       refine gT rfl rfl rfl rfl (d 2 rfl) rfl fun b t => ?_
       obtain ⟨p47, h48, h49⟩ := ((d 12 rfl).1 b)
       exact lt t rfl rfl (jh Tryz.isAgg9 (j := 1) h49 h48 rfl) <| sg rfl rfl b rfl
      ·exact fun s x e f d u => gT rfl rfl rfl rfl (d 2 rfl) rfl fun b t => lt t rfl rfl (VT ((d 7 rfl).1 b) ((d 13 rfl).1 b)) <| sg rfl rfl b rfl
      ·exact fun s x e f d u => lp rfl (jX (d 2 rfl) rfl fun h => ((d 14 rfl).1 h)) <| se rfl rfl
      intro s50 w51 e52 hf53 ha54
      have K55 := Kp.ofD (kp := [(26, 42)]) rfl hf53
      have d56 : s50 41 = (.bool ((decide (0 < x4_1)) && (decide (((gt a0 x4_1).path) = ((gt a0 (IntKind.wrap .i64 (x4_1 - 1))).path))))) := ha54 15 rfl
      clear ha54 hf53
      refine qd ?_
      rcases qf H with ⟨q57, H⟩ | ⟨q57, H⟩
      ·refine qp (d56.trans (cb q57)) <| wr <| lp rfl (xm (.int .i64 x4_1) ((K55 4 rfl).trans h15)) <| lp rfl (xa (.int .i64 x4_1) rfl) <| lp rfl (xa (.int .i64 18) rfl) <| nx <| qr <| qo <| vi <| qo <| qo <| vi <| qo <| qo <| qv ?_
       obtain rfl := si H
       obtain rfl := si S17
       have H := C4
       obtain rfl := si H
       exact VN rfl rfl ((e13.t e24).t e52)
      ·refine qi (d56.trans (cb q57)) <| qq <| qd <| qk <| qk ?_
       obtain ⟨c58, H⟩ := qa H
       obtain ⟨c61, H⟩ := qa H
       obtain ⟨c64, H⟩ := qa H
       obtain ⟨c65, H⟩ := qa H
       refine YK [LEq (.int .i64 x4_1), LEq (.bool (decide (0 < x4_1))), LEq (.bool (decide (0 < x4_1))), LIf (decide (0 < x4_1)) (LEq v_a0), LIf (decide (0 < x4_1)) (LEq (.int .i64 x4_1)), LIf (decide (0 < x4_1)) (LEq (.int .i64 (IntKind.wrap .i64 (x4_1 - 1)))), LIf (decide (0 < x4_1)) (yO (qg (gt a0 (IntKind.wrap .i64 (x4_1 - 1))))), LIf (decide (0 < x4_1)) (LAt 1 (qg (gt a0 (IntKind.wrap .i64 (x4_1 - 1))))), LIf (decide (0 < x4_1)) (LEq (S ((gt a0 (IntKind.wrap .i64 (x4_1 - 1))).path))), LIf (decide (0 < x4_1)) (LEq v_a0), LIf (decide (0 < x4_1)) (LEq (.int .i64 x4_1)), LIf (decide (0 < x4_1)) (yO (qg (gt a0 x4_1))), LIf (decide (0 < x4_1)) (LAt 1 (qg (gt a0 x4_1))), LIf (decide (0 < x4_1)) (LEq (S ((gt a0 x4_1).path))), LIf (decide (0 < x4_1)) (LEq (.bool (vP (cut 47 ((gt a0 (IntKind.wrap .i64 (x4_1 - 1))).path)) (cut 47 ((gt a0 x4_1).path))))), LIf (decide (0 < x4_1)) (LEq (.bool (!(vP (cut 47 ((gt a0 (IntKind.wrap .i64 (x4_1 - 1))).path)) (cut 47 ((gt a0 x4_1).path)))))), LEq (.bool ((decide (0 < x4_1)) && (!(vP (cut 47 ((gt a0 (IntKind.wrap .i64 (x4_1 - 1))).path)) (cut 47 ((gt a0 x4_1).path))))))] (by kernel_rfl) (by kernel_rfl) ⟨qm, qm, qm, lm, lm, lm, (LIf.mono yO.mono), (LIf.mono LAt.mono), lm, lm, lm, (LIf.mono yO.mono), (LIf.mono LAt.mono), lm, lm, lm, qm, trivial⟩ ⟨?_, ?_, ?_, ?_, ?_, ?_, ?_, ?_, ?_, ?_, ?_, ?_, ?_, ?_, ?_, ?_, ?_, trivial⟩ ?_
       ·exact fun s x e f d u => lp rfl (xm (.int .i64 x4_1) ((f 4 rfl).trans ((K55 4 rfl).trans h15))) <| se rfl rfl
       ·exact fun s x e f d u => lp rfl (jj (d 0 rfl) rfl) <| se rfl rfl
       ·exact fun s x e f d u => lp rfl (qc (d 1 rfl)) <| se rfl rfl
       ·exact fun s x e f d u => gT rfl rfl rfl rfl (d 2 rfl) rfl fun b t => lt t rfl rfl (xm v_a0 ((f 0 rfl).trans ((K55 0 rfl).trans (K12 0 rfl)))) <| sg rfl rfl b rfl
       ·exact fun s x e f d u => gT rfl rfl rfl rfl (d 2 rfl) rfl fun b t => lt t rfl rfl (xm (.int .i64 x4_1) ((f 4 rfl).trans ((K55 4 rfl).trans h15))) <| sg rfl rfl b rfl
       ·exact fun s x e f d u => gT rfl rfl rfl rfl (d 2 rfl) rfl fun b t => lt t rfl rfl (jl ((d 4 rfl).1 b) rfl) <| sg rfl rfl b rfl
       ·exact fun s x e f d u => gT rfl rfl rfl rfl (d 2 rfl) rfl fun b t => vw t rfl (ltb rfl) rfl Tryz.underlying35 Tryz.sizeOf52 ((d 3 rfl).1 b) (Rd.ext f_a0 (((e13.t e24).t e52).t e)) ((d 5 rfl).1 b) (yB b c58) <| fun p69 h70 => sg rfl rfl b ⟨_, rfl, h70⟩
       ·intro s x e f d u
        refine gT rfl rfl rfl rfl (d 2 rfl) rfl fun b t => ?_
        obtain ⟨p71, h72, h73⟩ := ((d 6 rfl).1 b)
        exact lt t rfl rfl (qe Tryz.underlying52 rfl Tryz.sizeOf9 rfl h72) <| sg rfl rfl b ⟨_, rfl, h73⟩
       ·intro s x e f d u
        refine gT rfl rfl rfl rfl (d 2 rfl) rfl fun b t => ?_
        obtain ⟨p74, h75, h76⟩ := ((d 7 rfl).1 b)
        exact lt t rfl rfl (jh Tryz.isAgg9 (j := 1) h76 h75 rfl) <| sg rfl rfl b rfl
       ·exact fun s x e f d u => gT rfl rfl rfl rfl (d 2 rfl) rfl fun b t => lt t rfl rfl (xm v_a0 ((f 0 rfl).trans ((K55 0 rfl).trans (K12 0 rfl)))) <| sg rfl rfl b rfl
       ·exact fun s x e f d u => gT rfl rfl rfl rfl (d 2 rfl) rfl fun b t => lt t rfl rfl (xm (.int .i64 x4_1) ((f 4 rfl).trans ((K55 4 rfl).trans h15))) <| sg rfl rfl b rfl
       ·exact fun s x e f d u => gT rfl rfl rfl rfl (d 2 rfl) rfl fun b t => vw t rfl (ltb rfl) rfl Tryz.underlying35 Tryz.sizeOf52 ((d 9 rfl).1 b) (Rd.ext f_a0 (((e13.t e24).t e52).t e)) ((d 10 rfl).1 b) (yB b c61) <| fun p78 h79 => sg rfl rfl b ⟨_, rfl, h79⟩
       ·intro s x e f d u
        refine gT rfl rfl rfl rfl (d 2 rfl) rfl fun b t => ?_
        obtain ⟨p80, h81, h82⟩ := ((d 11 rfl).1 b)
        exact lt t rfl rfl (qe Tryz.underlying52 rfl Tryz.sizeOf9 rfl h81) <| sg rfl rfl b ⟨_, rfl, h82⟩
       ·intro s x e f d u
        refine gT rfl rfl rfl rfl (d 2 rfl) rfl fun b t => ?_
        obtain ⟨p83, h84, h85⟩ := ((d 12 rfl).1 b)
        exact lt t rfl rfl (jh Tryz.isAgg9 (j := 1) h85 h84 rfl) <| sg rfl rfl b rfl
       ·exact fun s x e f d u => gT rfl rfl rfl rfl (d 2 rfl) rfl fun b t => y1 t rfl (ltb rfl) rfl Tryz.call153 (vD.calls (w := x) (a0 := (gt a0 (IntKind.wrap .i64 (x4_1 - 1))).path) (a1 := (gt a0 x4_1).path) (od (yB b c64)) (od (yB b c65))) (vI ((d 8 rfl).1 b) (vI ((d 13 rfl).1 b) rfl)) <| fun w88 e89 => sgx rfl rfl b e89 rfl
       ·exact fun s x e f d u => gT rfl rfl rfl rfl (d 2 rfl) rfl fun b t => lt t rfl rfl (yS ((d 14 rfl).1 b)) <| sg rfl rfl b rfl
       ·exact fun s x e f d u => lp rfl (jX (d 2 rfl) rfl fun h => ((d 15 rfl).1 h)) <| se rfl rfl
       intro s90 w91 e92 hf93 ha94
       have K95 := Kp.ofD (kp := [(43, 60)]) rfl hf93
       have d96 : s90 59 = (.bool ((decide (0 < x4_1)) && (!(vP (cut 47 ((gt a0 (IntKind.wrap .i64 (x4_1 - 1))).path)) (cut 47 ((gt a0 x4_1).path)))))) := ha94 16 rfl
       clear ha94 hf93
       refine qd ?_
       rcases qf H with ⟨q97, H⟩ | ⟨q97, H⟩
       ·refine qp (d96.trans (cb q97)) <| wr <| lp rfl (xm (.int .i64 x4_1) ((K95 4 rfl).trans ((K55 4 rfl).trans h15))) <| lp rfl (xa (.int .i64 x4_1) rfl) <| lp rfl (xa (.int .i64 11) rfl) <| nx <| qr <| qo <| vi <| qo <| qo <| vi <| qo <| qo <| qv ?_
        obtain rfl := si H
        obtain rfl := si S17
        have H := C4
        obtain rfl := si H
        exact VN rfl rfl (((e13.t e24).t e52).t e92)
       ·refine qi (d96.trans (cb q97)) <| qq <| qd <| wr <| lp rfl (xm v_a0 ((K95 0 rfl).trans ((K55 0 rfl).trans (K12 0 rfl)))) <| lp rfl (xm (.int .i64 x4_1) ((K95 4 rfl).trans ((K55 4 rfl).trans h15))) ?_
        obtain ⟨c98, H⟩ := qa H
        refine vw (.plain rfl) rfl (ltb rfl) rfl Tryz.underlying35 Tryz.sizeOf52 rfl (Rd.ext f_a0 (((e13.t e24).t e52).t e92)) rfl c98 <| fun p99 h100 => lp rfl (qe Tryz.underlying52 rfl Tryz.sizeOf9 rfl rfl) <| lp rfl (jh Tryz.isAgg9 (j := 1) h100 rfl rfl) ?_
        obtain ⟨c101, H⟩ := qa H
        refine lc rfl rfl Tryz.call154 (qZ.calls (w := w91) (a0 := (gt a0 x4_1).path) (od c101)) rfl <| fun w102 e103 => lp rfl (xa (S (qb ((gt a0 x4_1).path))) rfl) <| nx <| qk <| wr <| lp rfl (xm (S (qb ((gt a0 x4_1).path))) rfl) <| lp rfl (VT rfl rfl) <| nx ?_
        rcases qf H with ⟨q104, H⟩ | ⟨q104, H⟩
        ·refine qp (cb q104) <| vL <| vd <| yE <| qd <| qJ <| lp rfl (xm (.int .i64 x4_1) ((K95 4 rfl).trans ((K55 4 rfl).trans h15))) <| lp rfl (vW rfl rfl) <| lp rfl (xa (.int .i64 (IntKind.wrap .i64 (x4_1 + 1))) rfl) <| nx ?_
         obtain rfl := si H
         exact ⟨_, Nat.lt_succ_self _, IntKind.wrap .i64 (x4_1 + 1), (ku4 (ku8 (Kp.cut (Kp.cut (ku2 (ku4 (ku8 K12 rfl) rfl) rfl) K55 rfl) K95 rfl) rfl) rfl), rfl, ((((e13.t e24).t e52).t e92).t e103), S17⟩
        ·refine qi (cb q104) <| qq <| qd <| wr <| lp rfl (xm v_a0 ((K95 0 rfl).trans ((K55 0 rfl).trans (K12 0 rfl)))) <| lp rfl (xm (.int .i64 x4_1) ((K95 4 rfl).trans ((K55 4 rfl).trans h15))) ?_
         obtain ⟨c105, H⟩ := qa H
         refine L_sub (.plain rfl) rfl (ltb rfl) rfl Tryz.underlying35 Tryz.sizeOf52 rfl (Rd.ext f_a0 ((((e13.t e24).t e52).t e92).t e103)) (l := 0) (h := x4_1) rfl ⟨_, rfl⟩ c105 <| fun v106 h107 => lp rfl (xm (S (qb ((gt a0 x4_1).path))) rfl) ?_
         obtain ⟨c108, H⟩ := qa H
         refine lc rfl rfl Tryz.call162 (yc.calls (w := w102) (a0 := sub a0 0 x4_1) (a1 := (qb ((gt a0 x4_1).path))) h107 (od c108)) rfl <| fun w109 e110 => lp rfl (xa (.int .i64 (qt (sub a0 0 x4_1) (qb ((gt a0 x4_1).path)))) rfl) <| nx <| qk <| wr <| lp rfl (xm (.int .i64 (qt (sub a0 0 x4_1) (qb ((gt a0 x4_1).path)))) rfl) <| lp rfl (yH rfl rfl) <| nx ?_
         rcases qf H with ⟨q111, H⟩ | ⟨q111, H⟩
         ·refine qp (cb q111) <| wr <| lp rfl (xm (.int .i64 x4_1) ((K95 4 rfl).trans ((K55 4 rfl).trans h15))) <| lp rfl (xa (.int .i64 x4_1) rfl) <| lp rfl (xa (.int .i64 12) rfl) <| nx <| qr <| qo <| vi <| qo <| qo <| vi <| qo <| qo <| qv ?_
          obtain rfl := si H
          obtain rfl := si S17
          have H := C4
          obtain rfl := si H
          exact VN rfl rfl (((((e13.t e24).t e52).t e92).t e103).t e110)
         ·refine qi (cb q111) <| qq <| qd <| wr <| lp rfl (xm v_a0 ((K95 0 rfl).trans ((K55 0 rfl).trans (K12 0 rfl)))) <| lp rfl (xm (.int .i64 (qt (sub a0 0 x4_1) (qb ((gt a0 x4_1).path)))) rfl) ?_
          obtain ⟨c112, H⟩ := qa H
          refine vw (.plain rfl) rfl (ltb rfl) rfl Tryz.underlying35 Tryz.sizeOf52 rfl (Rd.ext f_a0 (((((e13.t e24).t e52).t e92).t e103).t e110)) rfl c112 <| fun p113 h114 => lp rfl (qe Tryz.underlying52 rfl Tryz.sizeOf3 rfl rfl) <| lp rfl (jh Tryz.isAgg3 (j := 0) h114 rfl rfl) <| lp rfl (je rfl rfl) <| nx ?_
          rcases qf H with ⟨q115, H⟩ | ⟨q115, H⟩
          ·refine qp (cb q115) <| wr <| lp rfl (xm (.int .i64 x4_1) ((K95 4 rfl).trans ((K55 4 rfl).trans h15))) <| lp rfl (xa (.int .i64 x4_1) rfl) <| lp rfl (xa (.int .i64 13) rfl) <| nx <| qr <| vi <| qo <| qo <| vi <| qo <| qo <| qv ?_
           obtain rfl := si H
           obtain rfl := si S17
           have H := C4
           obtain rfl := si H
           exact VN rfl rfl (((((e13.t e24).t e52).t e92).t e103).t e110)
          ·refine qi (cb q115) <| qq <| ye <| qd <| qJ <| lp rfl (xm (.int .i64 x4_1) ((K95 4 rfl).trans ((K55 4 rfl).trans h15))) <| lp rfl (vW rfl rfl) <| lp rfl (xa (.int .i64 (IntKind.wrap .i64 (x4_1 + 1))) rfl) <| nx ?_
           obtain rfl := si H
           exact ⟨_, Nat.lt_succ_self _, IntKind.wrap .i64 (x4_1 + 1), (ku2 (ku8 (ku8 (ku8 (Kp.cut (Kp.cut (ku2 (ku4 (ku8 K12 rfl) rfl) rfl) K55 rfl) K95 rfl) rfl) rfl) rfl) rfl), rfl, (((((e13.t e24).t e52).t e92).t e103).t e110), S17⟩
   ·refine qi (cb q18) <| vL <| vd <| vd <| yE <| qd ?_
    obtain rfl := si H
    obtain rfl := si S17
    exact ⟨(ku4 K12 rfl), e13, rfl⟩
 ·rintro s6 w5 ⟨K7, e8, y116⟩
  rw [y116] at C4
  have H := C4
  replace H : _ = some _ := H
  refine qd <| wr <| lp rfl (xa (.int .i64 0) rfl) <| lp rfl (xa (.int .i64 0) rfl) <| nx <| qr <| qv ?_
  obtain rfl := si H
  exact VN rfl rfl e8
theorem vm.calls {w : World} {a0 : List Rec} {v_a0 : Value} (f_a0 : Rd 5 qg w v_a0 a0) (h0 : a0.length ≤ 1048576) (h1 : ∀ x ∈ a0, x.path.length ≤ 1048576) :
  Calls Tryz.prog 133 #[v_a0] w (Rt (RP w (.tuple #[.int .i64 ((qC a0).1), .int .i64 ((qC a0).2)]))) := by
 obtain ⟨k, h⟩ := vm.eq a0 h0 h1
 exact vm.walk f_a0 h
/-! impl.isLongList(impl.Record) -/
theorem yF.calls {w : World} {a0 : List Rec} {v_a0 : Value} (f_a0 : Rd 5 qg w v_a0 a0) :
  Calls Tryz.prog 78 #[v_a0] w (Rt (RP w (.bool (decide (4096 < a0.length))))) := by
 have H := yF.eq a0
 generalize (decide (4096 < a0.length)) = r at H ⊢
 unfold yF.sh at H
 refine qh Tryz.func78 rfl (Nat.le_of_ble_eq_true rfl) Tryz.ntmps78 rfl ?_
 refine wr <| lp rfl (xa (.bool false) rfl) <| nx <| wr <| lp rfl (xm v_a0 rfl) <| lp rfl (vy Tryz.underlying35 rfl f_a0) <| lp rfl (jj rfl rfl) <| lp rfl (xa (.bool (decide (4096 < (a0.length : Int)))) rfl) <| nx <| qr <| qv ?_
 obtain rfl := si H
 exact vo rfl er
/-! impl.find$1 -/
theorem Qg.calls {w : World} {a0 : Rec} {a1 : List UInt8} {b_a1 : Nat} (k_a1 : Blk w b_a1 #[(S a1)] 9) :
  Calls Tryz.prog 139 #[.agg (qg a0).toArray, .pointer (some ⟨b_a1, 0, none⟩)] w (Rt (RP w (.bool (decide (a0.path = a1))))) := by
 have H := Qg.eq a0 a1
 generalize (decide (a0.path = a1)) = r at H ⊢
 unfold Qg.sh at H
 refine qh Tryz.func139 rfl (Nat.le_of_ble_eq_true rfl) Tryz.ntmps139 rfl ?_
 refine wr <| Ve (.plain rfl) rfl (ltb rfl) rfl rfl <| fun b1 w2 z3 z4 e5 k6 => lp rfl (xa (.bool false) rfl) <| nx <| wr <| lp rfl (qe Tryz.underlying52 rfl Tryz.sizeOf9 rfl rfl) <| lp rfl (qH Tryz.isAgg9 k6 rfl rfl) <| lp rfl (qH Tryz.isAgg9 (Blk.ext k_a1 e5) rfl rfl) <| lp rfl (VT rfl rfl) <| lp rfl (xa (.bool (decide (a0.path = a1))) rfl) <| nx <| qr <| qv ?_
 obtain rfl := si H
 exact vo rfl e5
/-! slices.IndexFunc(()impl.Record,impl.Record) -/
theorem qS.walk {k : Nat} {w : World} {a0 : List Rec} {a1 : Rec → Option Bool} {v_a0 : Value} (f_a0 : Rd 5 qg w v_a0 a0) {v_a1 : Value} (f_a1 : ∀ (x0 : Rec) (r : Bool), a1 x0 = some r → y4 Tryz.prog w v_a1 [(.agg (qg x0).toArray)] (.bool r)) (g_a1 : v_a1.cells = #[v_a1]) {r : Int} (H : qS.sh k a0 a1 = some r) :
  Calls Tryz.prog 138 #[v_a0, v_a1] w (Rt (RP w (.int .i64 r))) := by
 unfold qS.sh at H
 refine qh Tryz.func138 rfl (Nat.le_of_ble_eq_true rfl) Tryz.ntmps138 rfl ?_
 refine wr <| lp rfl (xa (.int .i64 0) rfl) <| nx <| qk <| wr <| lp rfl (xm v_a0 rfl) <| lp rfl (vy Tryz.underlying35 rfl f_a0) <| lp rfl (xm (.int .i64 0) rfl) <| nx ?_
 obtain ⟨z2, L3, C4⟩ := bind_some H
 clear H
 refine  vH (fun s0 sQ wQ => Kp [(4, 6), (8, 19)] s0 sQ ∧ Ext w wQ ∧ z2 = .inr ()) ?_ ?_
 ·refine qF <| vB (fun s0 kk sQ wQ => ∃ (x8_1 : Int), Kp [(4, 6), (8, 19)] s0 sQ ∧ sQ 8 = .int .i64 x8_1 ∧ Ext w wQ ∧ qn (qS.b1 a0 a1) kk x8_1 = some z2) k ⟨0, kz, rfl, er, L3⟩ ?_
  rintro k9 s10 w11 ⟨x8_1, K12, h15, e13, L14⟩
  cases k9 with
  | zero => exact absurd L14 (by simp [qn])
  | succ k9 =>
   obtain ⟨t16, H, S17⟩ := qN L14
   clear L14
   unfold qS.b1 at H
   refine wr <| lp rfl (yH h15 (K12 7 rfl)) <| nx <| qk ?_
   rcases qf H with ⟨q18, H⟩ | ⟨q18, H⟩
   ·refine qp (cb q18) <| qq <| qd <| qk <| qF <| wr <| lp rfl (qc h15) <| lp rfl (xa (.int .i64 x8_1) rfl) <| nx <| wr <| lp rfl (xm v_a1 (K12 1 rfl)) <| lp rfl (xm v_a0 (K12 0 rfl)) <| lp rfl (xm (.int .i64 x8_1) rfl) ?_
    obtain ⟨c19, H⟩ := qa H
    refine vw (.plain rfl) rfl (ltb rfl) rfl Tryz.underlying35 Tryz.sizeOf52 rfl (Rd.ext f_a0 e13) rfl c19 <| fun p20 h21 => lp rfl (vC Tryz.isAgg52 Tryz.sizeOf52 rfl rfl h21) ?_
    obtain ⟨z22, x23, H⟩ := bind_some H
    refine Ya (.plain rfl) rfl (ltb rfl) rfl rfl (y4.ext (f_a1 _ _ x23) e13) rfl <| fun w24 e25 => nx ?_
    rcases qf H with ⟨q26, H⟩ | ⟨q26, H⟩
    ·refine qp (cb q26) <| wr <| lp rfl (xm (.int .i64 x8_1) rfl) <| lp rfl (xa (.int .i64 x8_1) rfl) <| nx <| qr <| vi <| qo <| qo <| vi <| qo <| qo <| qv ?_
     obtain rfl := si H
     obtain rfl := si S17
     have H := C4
     obtain rfl := si H
     exact vo rfl (e13.t e25)
    ·refine qi (cb q26) <| qq <| ye <| qd <| qJ <| lp rfl (vW h15 rfl) <| lp rfl (xm (.int .i64 (IntKind.wrap .i64 (x8_1 + 1))) rfl) <| nx ?_
     obtain rfl := si H
     exact ⟨_, Nat.lt_succ_self _, IntKind.wrap .i64 (x8_1 + 1), (ku3 (ku8 K12 rfl) rfl), rfl, (e13.t e25), S17⟩
   ·refine qi (cb q18) <| vL <| vd <| vd <| yE <| qd ?_
    obtain rfl := si H
    obtain rfl := si S17
    exact ⟨(ku1 K12 rfl), e13, rfl⟩
 ·rintro s6 w5 ⟨K7, e8, y27⟩
  rw [y27] at C4
  have H := C4
  replace H : _ = some _ := H
  refine qd <| wr <| lp rfl (xa (.int .i64 (-1)) rfl) <| nx <| qr <| qv ?_
  obtain rfl := si H
  exact vo rfl e8
theorem qS.calls {w : World} {a0 : List Rec} {a1 : Rec → Option Bool} {r : Int} {v_a0 : Value} (f_a0 : Rd 5 qg w v_a0 a0) {v_a1 : Value} (f_a1 : ∀ (x0 : Rec) (r : Bool), a1 x0 = some r → y4 Tryz.prog w v_a1 [(.agg (qg x0).toArray)] (.bool r)) (g_a1 : v_a1.cells = #[v_a1]) (h0 : a0.length ≤ 4611686018427387904) (H : (Vj a1 a0) = some r) :
  Calls Tryz.prog 138 #[v_a0, v_a1] w (Rt (RP w (.int .i64 r))) := by
 obtain ⟨k, h⟩ := qS.eq a0 a1 h0 H
 exact qS.walk f_a0 f_a1 g_a1 h
/-! impl.find -/
theorem jO.calls {w : World} {a0 : List Rec} {a1 : List UInt8} {v_a0 : Value} (f_a0 : Rd 5 qg w v_a0 a0) (h0 : a0.length ≤ 1048576) :
  Calls Tryz.prog 80 #[v_a0, S a1] w (Rt (RP w (.int .i64 (qt a0 a1)))) := by
 have H := jO.eq a0 a1 h0
 generalize (qt a0 a1) = r at H ⊢
 unfold jO.sh at H
 refine qh Tryz.func80 rfl (Nat.le_of_ble_eq_true rfl) Tryz.ntmps80 rfl ?_
 refine wr <| Ve (.plain rfl) rfl (ltb rfl) rfl rfl <| fun b1 w2 z3 z4 e5 k6 => lp rfl (xa (.int .i64 0) rfl) <| nx <| wr <| lp rfl (xm v_a0 rfl) <| lp rfl (Q6 (vs := #[]) (us := #[.pointer (some ⟨b1, 0, none⟩)]) rfl rfl) ?_
 obtain ⟨c11, H⟩ := qa H
 obtain ⟨z12, x13, H⟩ := bind_some H
 refine lc rfl rfl Tryz.call138 (qS.calls (w := w2) (a0 := a0) (a1 := (fun (x0_ : Rec) => some (decide (x0_.path = a1)))) (Rd.ext f_a0 e5) (fun x0_ r h => by have h := si h; subst h; exact y4.mk Tryz.call139 (by rfl) fun w9 k10 => Qg.calls (w := w9) (a0 := x0_) (a1 := a1) (Blk.ext k6 k10)) rfl (od c11) x13) rfl <| fun w14 e15 => lp rfl (xa (.int .i64 z12) rfl) <| nx <| qr <| qv ?_
 obtain rfl := si H
 exact vo rfl (e5.t e15)
/-! impl.faultAt -/
abbrev ql.e1 (a0 : List Rec) (a1 : Int) (x6_19 : Int) := ([.inl (!(decide (qz (gt a0 a1) = 0))), .inr (qz (gt a0 a1)), .inl ((decide (0 < a1)) && (decide (((gt a0 (if ((IntKind.wrap .i64 (a1 - 1)) < 0 : Prop) then 0 else (IntKind.wrap .i64 (a1 - 1)))).path) = ((gt a0 a1).path)))), .inr 18, .inl ((decide (0 < a1)) && (!(vQ ((gt a0 (if ((IntKind.wrap .i64 (a1 - 1)) < 0 : Prop) then 0 else (IntKind.wrap .i64 (a1 - 1)))).path) ((gt a0 a1).path)))), .inr 11, .inl (decide (x6_19 < 0)), .inr 12, .inl ((!decide ((qb ((gt a0 a1).path)) = ([] : List UInt8))) && (!decide (((gt a0 (if (x6_19 < 0 : Prop) then 0 else x6_19)).kind) = 3))), .inr 13] : List (Bool ⊕ Int))
abbrev ql.e2 (a1 : Int) := (if ((IntKind.wrap .i64 (a1 - 1)) < 0 : Prop) then 0 else (IntKind.wrap .i64 (a1 - 1)))
abbrev ql.e3 (a0 : List Rec) (a1 : Int) := (!decide ((qb ((gt a0 a1).path)) = ([] : List UInt8)))
abbrev ql.e4 (a0 : List Rec) (a1 : Int) (x6_19 : Int) := ([.inl (decide (16 ≤ a1)), .inr 6, .inl true, .inr (vu (ql.e1 a0 a1 x6_19))] : List (Bool ⊕ Int))
theorem ql.walk {w : World} {a0 : List Rec} {a1 : Int} (gv : GV 0 w) {v_a0 : Value} (f_a0 : Rd 5 qg w v_a0 a0) {r : Int} (H : ql.sh a0 a1 = some r) :
  Calls Tryz.prog 220 #[v_a0, .int .i64 a1] w (Rt (RP w (.int .i64 r))) := by
 unfold ql.sh at H
 refine qh Tryz.func220 rfl (Nat.le_of_ble_eq_true rfl) Tryz.ntmps220 rfl ?_
 refine wr <| lp rfl (xa (.int .i64 0) rfl) <| nx <| wr <| lp rfl (xm v_a0 rfl) <| lp rfl (xm (.int .i64 a1) rfl) ?_
 obtain ⟨c1, H⟩ := qa H
 refine vw (.plain rfl) rfl (ltb rfl) rfl Tryz.underlying35 Tryz.sizeOf52 rfl f_a0 rfl c1 <| fun p2 h3 => lp rfl (vC Tryz.isAgg52 Tryz.sizeOf52 rfl rfl h3) <| y5 (.plain rfl) rfl (ltb rfl) rfl Tryz.zeroValue52 <| fun b4 w5 z6 z7 e8 k9 => vk (.plain rfl) rfl rfl Tryz.sizeOf52 rfl rfl rfl rfl rfl k9 <| fun w10 h11 k12 => lp rfl (xa (.int .i64 0) rfl) <| nx <| qk <| wr <| lp rfl (qe Tryz.underlying52 rfl Tryz.sizeOf9 rfl rfl) <| lp rfl (qH Tryz.isAgg9 k12 rfl rfl) ?_
 obtain ⟨c13, H⟩ := qa H
 refine lc rfl rfl Tryz.call92 (y6.calls (w := w10) (a0 := (gt a0 a1).path) (od c13)) rfl <| fun w14 e15 => lp rfl (xa (S (qb ((gt a0 a1).path))) rfl) <| nx <| wr <| lp rfl (xm (S (qb ((gt a0 a1).path))) rfl) <| lp rfl (Qv rfl rfl) <| nx ?_
 obtain ⟨z16, L17, C18⟩ := bind_some H
 clear H
 refine vH (fun s0 sQ wQ => ∃ (x6_19 : Int), Kp [(6, 7), (17, 22)] s0 sQ ∧ sQ 6 = .int .i64 x6_19 ∧ Ext w14 wQ ∧ z16 = .inr x6_19) ?_ ?_
 ·have H := L17
  rcases qf H with ⟨q20, H⟩ | ⟨q20, H⟩
  ·refine qp (cb q20) <| qJ <| lp rfl (xm v_a0 rfl) <| lp rfl (xm (.int .i64 a1) rfl) ?_
   obtain ⟨c21, H⟩ := qa H
   refine L_sub (.plain rfl) rfl (ltb rfl) rfl Tryz.underlying35 Tryz.sizeOf52 rfl (Rd.ext f_a0 (Ext.trans (Below.trans e8 (Wr.below h11 (Nat.le_of_eq z6))) e15)) (l := 0) (h := a1) rfl ⟨_, rfl⟩ c21 <| fun v22 h23 => lp rfl (xm (S (qb ((gt a0 a1).path))) rfl) ?_
   obtain ⟨c24, H⟩ := qa H
   refine lc rfl rfl Tryz.call80 (jO.calls (w := w14) (a0 := sub a0 0 a1) (a1 := (qb ((gt a0 a1).path))) h23 (od c24)) rfl <| fun w25 e26 => lp rfl (xa (.int .i64 (qt (sub a0 0 a1) (qb ((gt a0 a1).path)))) rfl) <| nx ?_
   obtain rfl := si H
   exact ⟨(qt (sub a0 0 a1) (qb ((gt a0 a1).path))), (ku2 (ku4 kz rfl) rfl), rfl, e26, rfl⟩
  ·refine qi (cb q20) <| qq <| qd ?_
   obtain rfl := si H
   exact ⟨0, kz, rfl, er, rfl⟩
 ·rintro s28 w27 ⟨x6_19, K29, h32, e30, y31⟩
  rw [y31] at C18
  have H := C18
  refine qd <| qk ?_
  obtain ⟨c37, H⟩ := qa H
  obtain ⟨c40, H⟩ := qa H
  obtain ⟨c45, H⟩ := qa H
  obtain ⟨c48, H⟩ := qa H
  obtain ⟨c57, H⟩ := qa H
  obtain ⟨c66, H⟩ := qa H
  refine YK [LEq (.int .i64 a1), LEq (.bool (decide (16 ≤ a1))), LEq (.iface 4 (.bool (decide (16 ≤ a1)))), LEq (.iface 3 (.int .i64 6)), LEq (.iface 4 (.bool true)), LEq (.agg #[(.int .i64 ((gt a0 a1).kind)), (S ((gt a0 a1).path)), (S ((gt a0 a1).body)), (.int .i64 ((gt a0 a1).mode)), (.bool ((gt a0 a1).opq))]), LEq (.bool (decide (qz (gt a0 a1) = 0))), LEq (.bool (!(decide (qz (gt a0 a1) = 0)))), LEq (.iface 4 (.bool (!(decide (qz (gt a0 a1) = 0))))), LEq (.agg #[(.int .i64 ((gt a0 a1).kind)), (S ((gt a0 a1).path)), (S ((gt a0 a1).body)), (.int .i64 ((gt a0 a1).mode)), (.bool ((gt a0 a1).opq))]), LEq (.int .i64 (qz (gt a0 a1))), LEq (.iface 3 (.int .i64 (qz (gt a0 a1)))), LEq (.int .i64 a1), LEq (.bool (decide (0 < a1))), LEq (.bool (decide (0 < a1))), LIf (decide (0 < a1)) (LEq v_a0), LIf (decide (0 < a1)) (LEq (.int .i64 a1)), LIf (decide (0 < a1)) (LEq (.int .i64 (IntKind.wrap .i64 (a1 - 1)))), LIf (decide (0 < a1)) (LEq (.int .i64 (ql.e2 a1))), LIf (decide (0 < a1)) (yO (qg (gt a0 (ql.e2 a1)))), LIf (decide (0 < a1)) (LAt 1 (qg (gt a0 (ql.e2 a1)))), LIf (decide (0 < a1)) (LEq (S ((gt a0 (ql.e2 a1)).path))), LIf (decide (0 < a1)) (LEq (.pointer (some ⟨b4, 1, none⟩))), LIf (decide (0 < a1)) (LEq (S ((gt a0 a1).path))), LIf (decide (0 < a1)) (LEq (.bool (decide (((gt a0 (ql.e2 a1)).path) = ((gt a0 a1).path))))), LEq (.bool ((decide (0 < a1)) && (decide (((gt a0 (ql.e2 a1)).path) = ((gt a0 a1).path))))), LEq (.iface 4 (.bool ((decide (0 < a1)) && (decide (((gt a0 (ql.e2 a1)).path) = ((gt a0 a1).path)))))), LEq (.iface 3 (.int .i64 18)), LEq (.int .i64 a1), LEq (.bool (decide (0 < a1))), LEq (.bool (decide (0 < a1))), LIf (decide (0 < a1)) (LEq v_a0), LIf (decide (0 < a1)) (LEq (.int .i64 a1)), LIf (decide (0 < a1)) (LEq (.int .i64 (IntKind.wrap .i64 (a1 - 1)))), LIf (decide (0 < a1)) (LEq (.int .i64 (ql.e2 a1))), LIf (decide (0 < a1)) (yO (qg (gt a0 (ql.e2 a1)))), LIf (decide (0 < a1)) (LAt 1 (qg (gt a0 (ql.e2 a1)))), LIf (decide (0 < a1)) (LEq (S ((gt a0 (ql.e2 a1)).path))), LIf (decide (0 < a1)) (LEq (.pointer (some ⟨b4, 1, none⟩))), LIf (decide (0 < a1)) (LEq (S ((gt a0 a1).path))), LIf (decide (0 < a1)) (LEq (.bool (vQ ((gt a0 (ql.e2 a1)).path) ((gt a0 a1).path)))), LIf (decide (0 < a1)) (LEq (.bool (!(vQ ((gt a0 (ql.e2 a1)).path) ((gt a0 a1).path))))), LEq (.bool ((decide (0 < a1)) && (!(vQ ((gt a0 (ql.e2 a1)).path) ((gt a0 a1).path))))), LEq (.iface 4 (.bool ((decide (0 < a1)) && (!(vQ ((gt a0 (ql.e2 a1)).path) ((gt a0 a1).path)))))), LEq (.iface 3 (.int .i64 11)), LEq (.int .i64 x6_19), LEq (.bool (decide (x6_19 < 0))), LEq (.iface 4 (.bool (decide (x6_19 < 0)))), LEq (.iface 3 (.int .i64 12)), LEq (.pointer (some ⟨b4, 1, none⟩)), LEq (S ((gt a0 a1).path)), LEq (S (qb ((gt a0 a1).path))), LEq (.bool (ql.e3 a0 a1)), LEq (.bool (ql.e3 a0 a1)), LIf (ql.e3 a0 a1) (LEq v_a0), LIf (ql.e3 a0 a1) (LEq (.int .i64 x6_19)), LIf (ql.e3 a0 a1) (LEq (.int .i64 (if (x6_19 < 0 : Prop) then 0 else x6_19))), LIf (ql.e3 a0 a1) (yO (qg (gt a0 (if (x6_19 < 0 : Prop) then 0 else x6_19)))), LIf (ql.e3 a0 a1) (LAt 0 (qg (gt a0 (if (x6_19 < 0 : Prop) then 0 else x6_19)))), LIf (ql.e3 a0 a1) (LEq (.int .i64 ((gt a0 (if (x6_19 < 0 : Prop) then 0 else x6_19)).kind))), LIf (ql.e3 a0 a1) (LEq (.bool (!decide (((gt a0 (if (x6_19 < 0 : Prop) then 0 else x6_19)).kind) = 3)))), LEq (.bool ((ql.e3 a0 a1) && (!decide (((gt a0 (if (x6_19 < 0 : Prop) then 0 else x6_19)).kind) = 3)))), LEq (.iface 4 (.bool ((ql.e3 a0 a1) && (!decide (((gt a0 (if (x6_19 < 0 : Prop) then 0 else x6_19)).kind) = 3))))), LEq (.iface 3 (.int .i64 13)), LRd 1 (j3 4 3) (ql.e1 a0 a1 x6_19), LEq (.int .i64 (vu (ql.e1 a0 a1 x6_19))), LEq (.iface 3 (.int .i64 (vu (ql.e1 a0 a1 x6_19)))), LRd 1 (j3 4 3) (ql.e4 a0 a1 x6_19), LEq (.int .i64 (vu (ql.e4 a0 a1 x6_19))), LEq (.int .i64 (vu (ql.e4 a0 a1 x6_19)))] (by kernel_rfl) (by kernel_rfl) ⟨qm, qm, qm, qm, qm, qm, qm, qm, qm, qm, qm, qm, qm, qm, qm, lm, lm, lm, lm, (LIf.mono yO.mono), (LIf.mono LAt.mono), lm, lm, lm, lm, qm, qm, qm, qm, qm, qm, lm, lm, lm, lm, (LIf.mono yO.mono), (LIf.mono LAt.mono), lm, lm, lm, lm, lm, qm, qm, qm, qm, qm, qm, qm, qm, qm, qm, qm, qm, lm, lm, lm, (LIf.mono yO.mono), (LIf.mono LAt.mono), lm, lm, qm, qm, qm, LRd.mono, qm, qm, LRd.mono, qm, qm, trivial⟩ ⟨?_, ?_, ?_, ?_, ?_, ?_, ?_, ?_, ?_, ?_, ?_, ?_, ?_, ?_, ?_, ?_, ?_, ?_, ?_, ?_, ?_, ?_, ?_, ?_, ?_, ?_, ?_, ?_, ?_, ?_, ?_, ?_, ?_, ?_, ?_, ?_, ?_, ?_, ?_, ?_, ?_, ?_, ?_, ?_, ?_, ?_, ?_, ?_, ?_, ?_, ?_, ?_, ?_, ?_, ?_, ?_, ?_, ?_, ?_, ?_, ?_, ?_, ?_, ?_, ?_, ?_, ?_, ?_, ?_, ?_, trivial⟩ ?_
  ·exact fun s x e f d u => lp rfl (xm (.int .i64 a1) ((f 1 rfl).trans (K29 1 rfl))) <| se rfl rfl
  ·exact fun s x e f d u => lp rfl (QY (d 0 rfl) rfl) <| se rfl rfl
  ·exact fun s x e f d u => lp rfl (qL Tryz.underlying4 rfl (d 1 rfl)) <| se rfl rfl
  ·exact fun s x e f d u => lp rfl (qL Tryz.underlying3 rfl rfl) <| se rfl rfl
  ·exact fun s x e f d u => lp rfl (qL Tryz.underlying4 rfl rfl) <| se rfl rfl
  ·exact fun s x e f d u => lp rfl (vC Tryz.isAgg52 Tryz.sizeOf52 rfl ((f 5 rfl).trans (K29 5 rfl)) (Blk.at0 (Blk.ext k12 ((e15.t e30).t e)))) <| se rfl rfl
  ·exact fun s x e f d u => lc rfl rfl Tryz.call157 (jP.calls (w := x) (a0 := (gt a0 a1)) (GV.ext gv (Ext.trans (Ext.trans (Ext.trans (Below.trans e8 (Wr.below h11 (Nat.le_of_eq z6))) e15) e30) e))) (vI (d 5 rfl) rfl) <| fun w69 e70 => sx rfl e70 rfl
  ·exact fun s x e f d u => lp rfl (yS (d 6 rfl)) <| se rfl rfl
  ·exact fun s x e f d u => lp rfl (qL Tryz.underlying4 rfl (d 7 rfl)) <| se rfl rfl
  ·exact fun s x e f d u => lp rfl (vC Tryz.isAgg52 Tryz.sizeOf52 rfl ((f 5 rfl).trans (K29 5 rfl)) (Blk.at0 (Blk.ext k12 ((e15.t e30).t e)))) <| se rfl rfl
  ·exact fun s x e f d u => lc rfl rfl Tryz.call211 (qj.calls (w := x) (a0 := (gt a0 a1)) (GV.ext gv (Ext.trans (Ext.trans (Ext.trans (Below.trans e8 (Wr.below h11 (Nat.le_of_eq z6))) e15) e30) e))) (vI (d 9 rfl) rfl) <| fun w71 e72 => sx rfl e72 rfl
  ·exact fun s x e f d u => lp rfl (qL Tryz.underlying3 rfl (d 10 rfl)) <| se rfl rfl
  ·exact fun s x e f d u => lp rfl (xm (.int .i64 a1) ((f 1 rfl).trans (K29 1 rfl))) <| se rfl rfl
  ·exact fun s x e f d u => lp rfl (jj (d 12 rfl) rfl) <| se rfl rfl
  ·exact fun s x e f d u => lp rfl (qc (d 13 rfl)) <| se rfl rfl
  ·exact fun s x e f d u => gT rfl rfl rfl rfl (d 14 rfl) rfl fun b t => lt t rfl rfl (xm v_a0 ((f 0 rfl).trans (K29 0 rfl))) <| sg rfl rfl b rfl
  ·exact fun s x e f d u => gT rfl rfl rfl rfl (d 14 rfl) rfl fun b t => lt t rfl rfl (xm (.int .i64 a1) ((f 1 rfl).trans (K29 1 rfl))) <| sg rfl rfl b rfl
  ·exact fun s x e f d u => gT rfl rfl rfl rfl (d 14 rfl) rfl fun b t => lt t rfl rfl (jl ((d 16 rfl).1 b) rfl) <| sg rfl rfl b rfl
  ·exact fun s x e f d u => gT rfl rfl rfl rfl (d 14 rfl) rfl fun b t => lt t rfl rfl (GW ((d 17 rfl).1 b) rfl) <| sg rfl rfl b rfl
  ·exact fun s x e f d u => gT rfl rfl rfl rfl (d 14 rfl) rfl fun b t => vw t rfl (ltb rfl) rfl Tryz.underlying35 Tryz.sizeOf52 ((d 15 rfl).1 b) (Rd.ext f_a0 (Ext.trans (Ext.trans (Ext.trans (Below.trans e8 (Wr.below h11 (Nat.le_of_eq z6))) e15) e30) e)) ((d 18 rfl).1 b) (yB b c40) <| fun p74 h75 => sg rfl rfl b ⟨_, rfl, h75⟩
  ·intro s x e f d u
   refine gT rfl rfl rfl rfl (d 14 rfl) rfl fun b t => ?_
   obtain ⟨p76, h77, h78⟩ := ((d 19 rfl).1 b)
   exact lt t rfl rfl (qe Tryz.underlying52 rfl Tryz.sizeOf9 rfl h77) <| sg rfl rfl b ⟨_, rfl, h78⟩
  ·intro s x e f d u
   refine gT rfl rfl rfl rfl (d 14 rfl) rfl fun b t => ?_
   obtain ⟨p79, h80, h81⟩ := ((d 20 rfl).1 b)
   exact lt t rfl rfl (jh Tryz.isAgg9 (j := 1) h81 h80 rfl) <| sg rfl rfl b rfl
  ·exact fun s x e f d u => gT rfl rfl rfl rfl (d 14 rfl) rfl fun b t => lt t rfl rfl (qe Tryz.underlying52 rfl Tryz.sizeOf9 rfl ((f 5 rfl).trans (K29 5 rfl))) <| sg rfl rfl b rfl
  ·exact fun s x e f d u => gT rfl rfl rfl rfl (d 14 rfl) rfl fun b t => lt t rfl rfl (qH Tryz.isAgg9 (Blk.ext k12 ((e15.t e30).t e)) ((d 22 rfl).1 b) rfl) <| sg rfl rfl b rfl
  ·exact fun s x e f d u => gT rfl rfl rfl rfl (d 14 rfl) rfl fun b t => lt t rfl rfl (VT ((d 21 rfl).1 b) ((d 23 rfl).1 b)) <| sg rfl rfl b rfl
  ·exact fun s x e f d u => lp rfl (jX (d 14 rfl) rfl fun h => ((d 24 rfl).1 h)) <| se rfl rfl
  ·exact fun s x e f d u => lp rfl (qL Tryz.underlying4 rfl (d 25 rfl)) <| se rfl rfl
  ·exact fun s x e f d u => lp rfl (qL Tryz.underlying3 rfl rfl) <| se rfl rfl
  ·exact fun s x e f d u => lp rfl (xm (.int .i64 a1) ((f 1 rfl).trans (K29 1 rfl))) <| se rfl rfl
  ·exact fun s x e f d u => lp rfl (jj (d 28 rfl) rfl) <| se rfl rfl
  ·exact fun s x e f d u => lp rfl (qc (d 29 rfl)) <| se rfl rfl
  ·exact fun s x e f d u => gT rfl rfl rfl rfl (d 30 rfl) rfl fun b t => lt t rfl rfl (xm v_a0 ((f 0 rfl).trans (K29 0 rfl))) <| sg rfl rfl b rfl
  ·exact fun s x e f d u => gT rfl rfl rfl rfl (d 30 rfl) rfl fun b t => lt t rfl rfl (xm (.int .i64 a1) ((f 1 rfl).trans (K29 1 rfl))) <| sg rfl rfl b rfl
  ·exact fun s x e f d u => gT rfl rfl rfl rfl (d 30 rfl) rfl fun b t => lt t rfl rfl (jl ((d 32 rfl).1 b) rfl) <| sg rfl rfl b rfl
  ·exact fun s x e f d u => gT rfl rfl rfl rfl (d 30 rfl) rfl fun b t => lt t rfl rfl (GW ((d 33 rfl).1 b) rfl) <| sg rfl rfl b rfl
  ·exact fun s x e f d u => gT rfl rfl rfl rfl (d 30 rfl) rfl fun b t => vw t rfl (ltb rfl) rfl Tryz.underlying35 Tryz.sizeOf52 ((d 31 rfl).1 b) (Rd.ext f_a0 (Ext.trans (Ext.trans (Ext.trans (Below.trans e8 (Wr.below h11 (Nat.le_of_eq z6))) e15) e30) e)) ((d 34 rfl).1 b) (yB b c40) <| fun p83 h84 => sg rfl rfl b ⟨_, rfl, h84⟩
  ·intro s x e f d u
   refine gT rfl rfl rfl rfl (d 30 rfl) rfl fun b t => ?_
   obtain ⟨p85, h86, h87⟩ := ((d 35 rfl).1 b)
   exact lt t rfl rfl (qe Tryz.underlying52 rfl Tryz.sizeOf9 rfl h86) <| sg rfl rfl b ⟨_, rfl, h87⟩
  ·intro s x e f d u
   refine gT rfl rfl rfl rfl (d 30 rfl) rfl fun b t => ?_
   obtain ⟨p88, h89, h90⟩ := ((d 36 rfl).1 b)
   exact lt t rfl rfl (jh Tryz.isAgg9 (j := 1) h90 h89 rfl) <| sg rfl rfl b rfl
  ·exact fun s x e f d u => gT rfl rfl rfl rfl (d 30 rfl) rfl fun b t => lt t rfl rfl (qe Tryz.underlying52 rfl Tryz.sizeOf9 rfl ((f 5 rfl).trans (K29 5 rfl))) <| sg rfl rfl b rfl
  ·exact fun s x e f d u => gT rfl rfl rfl rfl (d 30 rfl) rfl fun b t => lt t rfl rfl (qH Tryz.isAgg9 (Blk.ext k12 ((e15.t e30).t e)) ((d 38 rfl).1 b) rfl) <| sg rfl rfl b rfl
  ·exact fun s x e f d u => gT rfl rfl rfl rfl (d 30 rfl) rfl fun b t => y1 t rfl (ltb rfl) rfl Tryz.call37 (jc.calls (w := x) (a0 := (gt a0 (ql.e2 a1)).path) (a1 := (gt a0 a1).path) (GV.ext gv (Ext.trans (Ext.trans (Ext.trans (Below.trans e8 (Wr.below h11 (Nat.le_of_eq z6))) e15) e30) e))) (vI ((d 37 rfl).1 b) (vI ((d 39 rfl).1 b) rfl)) <| fun w91 e92 => sgx rfl rfl b e92 rfl
  ·exact fun s x e f d u => gT rfl rfl rfl rfl (d 30 rfl) rfl fun b t => lt t rfl rfl (yS ((d 40 rfl).1 b)) <| sg rfl rfl b rfl
  ·exact fun s x e f d u => lp rfl (jX (d 30 rfl) rfl fun h => ((d 41 rfl).1 h)) <| se rfl rfl
  ·exact fun s x e f d u => lp rfl (qL Tryz.underlying4 rfl (d 42 rfl)) <| se rfl rfl
  ·exact fun s x e f d u => lp rfl (qL Tryz.underlying3 rfl rfl) <| se rfl rfl
  ·exact fun s x e f d u => lp rfl (xm (.int .i64 x6_19) ((f 6 rfl).trans h32)) <| se rfl rfl
  ·exact fun s x e f d u => lp rfl (yH (d 45 rfl) rfl) <| se rfl rfl
  ·exact fun s x e f d u => lp rfl (qL Tryz.underlying4 rfl (d 46 rfl)) <| se rfl rfl
  ·exact fun s x e f d u => lp rfl (qL Tryz.underlying3 rfl rfl) <| se rfl rfl
  ·exact fun s x e f d u => lp rfl (qe Tryz.underlying52 rfl Tryz.sizeOf9 rfl ((f 5 rfl).trans (K29 5 rfl))) <| se rfl rfl
  ·exact fun s x e f d u => lp rfl (qH Tryz.isAgg9 (Blk.ext k12 ((e15.t e30).t e)) (d 49 rfl) rfl) <| se rfl rfl
  ·exact fun s x e f d u => lc rfl rfl Tryz.call92 (y6.calls (w := x) (a0 := (gt a0 a1).path) (od c45)) (vI (d 50 rfl) rfl) <| fun w94 e95 => sx rfl e95 rfl
  ·exact fun s x e f d u => lp rfl (Qv (d 51 rfl) rfl) <| se rfl rfl
  ·exact fun s x e f d u => lp rfl (qc (d 52 rfl)) <| se rfl rfl
  ·exact fun s x e f d u => gT rfl rfl rfl rfl (d 53 rfl) rfl fun b t => lt t rfl rfl (xm v_a0 ((f 0 rfl).trans (K29 0 rfl))) <| sg rfl rfl b rfl
  ·exact fun s x e f d u => gT rfl rfl rfl rfl (d 53 rfl) rfl fun b t => lt t rfl rfl (xm (.int .i64 x6_19) ((f 6 rfl).trans h32)) <| sg rfl rfl b rfl
  ·exact fun s x e f d u => gT rfl rfl rfl rfl (d 53 rfl) rfl fun b t => lt t rfl rfl (GW ((d 55 rfl).1 b) rfl) <| sg rfl rfl b rfl
  ·exact fun s x e f d u => gT rfl rfl rfl rfl (d 53 rfl) rfl fun b t => vw t rfl (ltb rfl) rfl Tryz.underlying35 Tryz.sizeOf52 ((d 54 rfl).1 b) (Rd.ext f_a0 (Ext.trans (Ext.trans (Ext.trans (Below.trans e8 (Wr.below h11 (Nat.le_of_eq z6))) e15) e30) e)) ((d 56 rfl).1 b) (yB b c48) <| fun p97 h98 => sg rfl rfl b ⟨_, rfl, h98⟩
  ·intro s x e f d u
   refine gT rfl rfl rfl rfl (d 53 rfl) rfl fun b t => ?_
   obtain ⟨p99, h100, h101⟩ := ((d 57 rfl).1 b)
   exact lt t rfl rfl (qe Tryz.underlying52 rfl Tryz.sizeOf3 rfl h100) <| sg rfl rfl b ⟨_, rfl, h101⟩
  ·intro s x e f d u
   refine gT rfl rfl rfl rfl (d 53 rfl) rfl fun b t => ?_
   obtain ⟨p102, h103, h104⟩ := ((d 58 rfl).1 b)
   exact lt t rfl rfl (jh Tryz.isAgg3 (j := 0) h104 h103 rfl) <| sg rfl rfl b rfl
  ·exact fun s x e f d u => gT rfl rfl rfl rfl (d 53 rfl) rfl fun b t => lt t rfl rfl (je ((d 59 rfl).1 b) rfl) <| sg rfl rfl b rfl
  ·exact fun s x e f d u => lp rfl (jX (d 53 rfl) rfl fun h => ((d 60 rfl).1 h)) <| se rfl rfl
  ·exact fun s x e f d u => lp rfl (qL Tryz.underlying4 rfl (d 61 rfl)) <| se rfl rfl
  ·exact fun s x e f d u => lp rfl (qL Tryz.underlying3 rfl rfl) <| se rfl rfl
  ·exact fun s x e f d u => yw (.plain rfl) rfl (ltb rfl) rfl Tryz.underlying142 Tryz.sizeOf20 Tryz.zeroValue20 rfl rfl rfl (vs := [(.iface 4 (.bool (!(decide (qz (gt a0 a1) = 0))))), (.iface 3 (.int .i64 (qz (gt a0 a1)))), (.iface 4 (.bool ((decide (0 < a1)) && (decide (((gt a0 (ql.e2 a1)).path) = ((gt a0 a1).path)))))), (.iface 3 (.int .i64 18)), (.iface 4 (.bool ((decide (0 < a1)) && (!(vQ ((gt a0 (ql.e2 a1)).path) ((gt a0 a1).path)))))), (.iface 3 (.int .i64 11)), (.iface 4 (.bool (decide (x6_19 < 0)))), (.iface 3 (.int .i64 12)), (.iface 4 (.bool ((ql.e3 a0 a1) && (!decide (((gt a0 (if (x6_19 < 0 : Prop) then 0 else x6_19)).kind) = 3))))), (.iface 3 (.int .i64 13))]) (vI (d 8 rfl) (vI (d 11 rfl) (vI (d 26 rfl) (vI (d 27 rfl) (vI (d 43 rfl) (vI (d 44 rfl) (vI (d 47 rfl) (vI (d 48 rfl) (vI (d 62 rfl) (vI (d 63 rfl) rfl)))))))))) (vh rfl) <| fun b105 w106 z107 z108 e109 k110 => sx rfl e109 (Ow.rd (Ow.new (xs := [.inl (!(decide (qz (gt a0 a1) = 0))), .inr (qz (gt a0 a1)), .inl ((decide (0 < a1)) && (decide (((gt a0 (ql.e2 a1)).path) = ((gt a0 a1).path)))), .inr 18, .inl ((decide (0 < a1)) && (!(vQ ((gt a0 (ql.e2 a1)).path) ((gt a0 a1).path)))), .inr 11, .inl (decide (x6_19 < 0)), .inr 12, .inl ((ql.e3 a0 a1) && (!decide (((gt a0 (if (x6_19 < 0 : Prop) then 0 else x6_19)).kind) = 3))), .inr 13]) (sz := 1) (enc := (j3 4 3)) (base := x.heap.size) k110 (Nat.le_of_eq z107) rfl (fun _ _ => by first | rfl | exact Qc _ _ _) (Nat.le_of_ble_eq_true rfl)))
  ·intro s x e f d u
   have d111 : Rd 1 (j3 4 3) x (s 86) (ql.e1 a0 a1 x6_19) := (d 64 rfl)
   exact lc rfl rfl Tryz.call77 (vT.calls (w := x) (a0 := (ql.e1 a0 a1 x6_19)) d111 (od c57)) rfl <| fun w113 e114 => sx rfl e114 rfl
  ·exact fun s x e f d u => lp rfl (qL Tryz.underlying3 rfl (d 65 rfl)) <| se rfl rfl
  ·exact fun s x e f d u => yw (.plain rfl) rfl (ltb rfl) rfl Tryz.underlying142 Tryz.sizeOf20 Tryz.zeroValue20 rfl rfl rfl (vs := [(.iface 4 (.bool (decide (16 ≤ a1)))), (.iface 3 (.int .i64 6)), (.iface 4 (.bool true)), (.iface 3 (.int .i64 (vu (ql.e1 a0 a1 x6_19))))]) (vI (d 2 rfl) (vI (d 3 rfl) (vI (d 4 rfl) (vI (d 66 rfl) rfl)))) (vh rfl) <| fun b115 w116 z117 z118 e119 k120 => sx rfl e119 (Ow.rd (Ow.new (xs := [.inl (decide (16 ≤ a1)), .inr 6, .inl true, .inr (vu (ql.e1 a0 a1 x6_19))]) (sz := 1) (enc := (j3 4 3)) (base := x.heap.size) k120 (Nat.le_of_eq z117) rfl (fun _ _ => by first | rfl | exact Qc _ _ _) (Nat.le_of_ble_eq_true rfl)))
  ·intro s x e f d u
   have d121 : Rd 1 (j3 4 3) x (s 89) (ql.e4 a0 a1 x6_19) := (d 67 rfl)
   exact lc rfl rfl Tryz.call77 (vT.calls (w := x) (a0 := (ql.e4 a0 a1 x6_19)) d121 (od c66)) rfl <| fun w123 e124 => sx rfl e124 rfl
  ·exact fun s x e f d u => lp rfl (qG (d 68 rfl)) <| se rfl rfl
  intro s125 w126 e127 hf128 ha129
  have K130 := Kp.ofD (kp := [(4, 5), (22, 91)]) rfl hf128
  have d131 : s125 4 = (.int .i64 (vu (ql.e4 a0 a1 x6_19))) := ha129 69 rfl
  clear ha129 hf128
  refine qd <| qr <| qv ?_
  obtain rfl := si H
  exact vo d131 (Ext.trans (Ext.trans (Ext.trans (Below.trans e8 (Wr.below h11 (Nat.le_of_eq z6))) e15) e30) e127)
theorem ql.calls {w : World} {a0 : List Rec} {a1 : Int} (gv : GV 0 w) {v_a0 : Value} (f_a0 : Rd 5 qg w v_a0 a0) (h0 : a0.length ≤ 1048576) (h1 : ∀ x ∈ a0, x.path.length ≤ 1048576) (h2 : inR a1 a0.length = true) :
  Calls Tryz.prog 220 #[v_a0, .int .i64 a1] w (Rt (RP w (.int .i64 (faultAt a0 a1)))) := ql.walk gv f_a0 (ql.eq a0 a1 h0 h1 h2)
/-! impl.fault -/
theorem yd.walk {k : Nat} {w : World} {a0 : List Rec} (gv : GV 0 w) {v_a0 : Value} (f_a0 : Rd 5 qg w v_a0 a0) {r : Int × Int} (H : yd.sh k a0 = some r) :
  Calls Tryz.prog 185 #[v_a0] w (Rt (RP w (.tuple #[.int .i64 r.1, .int .i64 r.2]))) := by
 unfold yd.sh at H
 refine qh Tryz.func185 rfl (Nat.le_of_ble_eq_true rfl) Tryz.ntmps185 rfl ?_
 refine wr <| lp rfl (xa (.int .i64 0) rfl) <| lp rfl (xa (.int .i64 0) rfl) <| nx <| qk <| wr <| lp rfl (xm v_a0 rfl) <| lp rfl (vy Tryz.underlying35 rfl f_a0) <| lp rfl (xm (.int .i64 0) rfl) <| nx ?_
 obtain ⟨z2, L3, C4⟩ := bind_some H
 clear H
 refine  vH (fun s0 sQ wQ => Kp [(2, 6), (8, 19)] s0 sQ ∧ Ext w wQ ∧ z2 = .inr ()) ?_ ?_
 ·refine qF <| vB (fun s0 kk sQ wQ => ∃ (x8_1 : Int), Kp [(2, 6), (8, 19)] s0 sQ ∧ sQ 8 = .int .i64 x8_1 ∧ Ext w wQ ∧ qn (yd.b1 a0) kk x8_1 = some z2) k ⟨0, kz, rfl, er, L3⟩ ?_
  rintro k9 s10 w11 ⟨x8_1, K12, h15, e13, L14⟩
  cases k9 with
  | zero => exact absurd L14 (by simp [qn])
  | succ k9 =>
   obtain ⟨t16, H, S17⟩ := qN L14
   clear L14
   unfold yd.b1 at H
   refine wr <| lp rfl (yH h15 (K12 7 rfl)) <| nx <| qk ?_
   rcases qf H with ⟨q18, H⟩ | ⟨q18, H⟩
   ·refine qp (cb q18) <| qq <| qd <| qk <| qF <| wr <| lp rfl (qc h15) <| lp rfl (xa (.int .i64 x8_1) rfl) <| nx <| wr <| lp rfl (xm v_a0 (K12 0 rfl)) <| lp rfl (xm (.int .i64 x8_1) rfl) ?_
    obtain ⟨c19, H⟩ := qa H
    obtain ⟨c20, H⟩ := qa H
    obtain ⟨c21, H⟩ := qa H
    refine lc rfl rfl Tryz.call220 (ql.calls (w := w11) (a0 := a0) (a1 := x8_1) (GV.ext gv e13) (Rd.ext f_a0 e13) (od c19) (od c20) (od c21)) rfl <| fun w22 e23 => lp rfl (xa (.int .i64 (faultAt a0 x8_1)) rfl) <| nx <| wr <| lp rfl (xm (.int .i64 (faultAt a0 x8_1)) rfl) <| lp rfl (je rfl rfl) <| nx ?_
    rcases qf H with ⟨q24, H⟩ | ⟨q24, H⟩
    ·refine qp (cb q24) <| wr <| lp rfl (xm (.int .i64 x8_1) rfl) <| lp rfl (xm (.int .i64 (faultAt a0 x8_1)) rfl) <| lp rfl (xa (.int .i64 x8_1) rfl) <| lp rfl (xa (.int .i64 (faultAt a0 x8_1)) rfl) <| nx <| qr <| vi <| qo <| qo <| vi <| qo <| qo <| qv ?_
     obtain rfl := si H
     obtain rfl := si S17
     have H := C4
     obtain rfl := si H
     exact VN rfl rfl (e13.t e23)
    ·refine qi (cb q24) <| qq <| ye <| qd <| qJ <| lp rfl (vW h15 rfl) <| lp rfl (xm (.int .i64 (IntKind.wrap .i64 (x8_1 + 1))) rfl) <| nx ?_
     obtain rfl := si H
     exact ⟨_, Nat.lt_succ_self _, IntKind.wrap .i64 (x8_1 + 1), (ku3 (ku8 K12 rfl) rfl), rfl, (e13.t e23), S17⟩
   ·refine qi (cb q18) <| vL <| vd <| vd <| yE <| qd ?_
    obtain rfl := si H
    obtain rfl := si S17
    exact ⟨(ku1 K12 rfl), e13, rfl⟩
 ·rintro s6 w5 ⟨K7, e8, y25⟩
  rw [y25] at C4
  have H := C4
  replace H : _ = some _ := H
  refine qd <| wr <| lp rfl (xa (.int .i64 0) rfl) <| lp rfl (xa (.int .i64 0) rfl) <| nx <| qr <| qv ?_
  obtain rfl := si H
  exact VN rfl rfl e8
theorem yd.calls {w : World} {a0 : List Rec} (gv : GV 0 w) {v_a0 : Value} (f_a0 : Rd 5 qg w v_a0 a0) (h0 : a0.length ≤ 1048576) (h1 : ∀ x ∈ a0, x.path.length ≤ 1048576) :
  Calls Tryz.prog 185 #[v_a0] w (Rt (RP w (.tuple #[.int .i64 ((qC a0).1), .int .i64 ((qC a0).2)]))) := by
 obtain ⟨k, h⟩ := yd.eq a0 h0 h1
 exact yd.walk gv f_a0 h
/-! impl.LayerFault -/
theorem yq.walk {w : World} {a0 : List Rec} (gv : GV 0 w) {v_a0 : Value} (f_a0 : Rd 5 qg w v_a0 a0) {r : Int × Int} (H : yq.sh a0 = some r) :
  Calls Tryz.prog 126 #[v_a0] w (Rt (RP w (.tuple #[.int .i64 r.1, .int .i64 r.2]))) := by
 unfold yq.sh at H
 refine qh Tryz.func126 rfl (Nat.le_of_ble_eq_true rfl) Tryz.ntmps126 rfl ?_
 refine wr <| lp rfl (xa (.int .i64 0) rfl) <| lp rfl (xa (.int .i64 0) rfl) <| nx <| qk <| wr <| lp rfl (xm v_a0 rfl) <| lc rfl rfl Tryz.call78 (yF.calls (w := w) (a0 := a0) f_a0) rfl <| fun w1 e2 => nx ?_
 rcases qf H with ⟨q3, H⟩ | ⟨q3, H⟩
 ·refine qp (cb q3) <| wr <| lp rfl (xa (.int .i64 0) rfl) <| lp rfl (xa (.int .i64 2) rfl) <| nx <| qr <| qo <| qv ?_
  obtain rfl := si H
  exact VN rfl rfl e2
 ·refine qi (cb q3) <| qq <| qd <| wr <| lp rfl (xm v_a0 rfl) ?_
  obtain ⟨c4, H⟩ := qa H
  obtain ⟨c5, H⟩ := qa H
  refine lc rfl rfl Tryz.call185 (yd.calls (w := w1) (a0 := a0) (GV.ext gv e2) (Rd.ext f_a0 e2) (od c4) (od c5)) rfl <| fun w6 e7 => lp rfl (qM (v := (.int .i64 ((qC a0).1))) rfl rfl) <| lp rfl (qM (v := (.int .i64 ((qC a0).2))) rfl rfl) <| lp rfl (xa (.int .i64 ((qC a0).1)) rfl) <| lp rfl (xa (.int .i64 ((qC a0).2)) rfl) <| nx <| qr <| qv ?_
  obtain rfl := si H
  exact VN rfl rfl (e2.t e7)
theorem yq.calls {w : World} {a0 : List Rec} (gv : GV 0 w) {v_a0 : Value} (f_a0 : Rd 5 qg w v_a0 a0) (h0 : a0.length ≤ 1048576) (h1 : ∀ x ∈ a0, x.path.length ≤ 1048576) :
  Calls Tryz.prog 126 #[v_a0] w (Rt (RP w (.tuple #[.int .i64 ((qY a0).1), .int .i64 ((qY a0).2)]))) := yq.walk gv f_a0 (yq.eq a0 h0 h1)
/-! spec.l03OK -/
theorem Qb.calls {w : World} {a0 : List Rec} {v_a0 : Value} (f_a0 : Rd 5 qg w v_a0 a0) (h0 : a0.length ≤ 1048576) (h1 : ∀ x ∈ a0, x.path.length ≤ 1048576) :
  Calls Tryz.prog 74 #[v_a0] w (Rt (RP w (.bool (decide ((qC a0).2 = 0))))) := by
 have H := Qb.eq a0 h0 h1
 generalize (decide ((qC a0).2 = 0)) = r at H ⊢
 unfold Qb.sh at H
 refine qh Tryz.func74 rfl (Nat.le_of_ble_eq_true rfl) Tryz.ntmps74 rfl ?_
 refine wr <| lp rfl (xa (.bool false) rfl) <| nx <| wr <| lp rfl (xm v_a0 rfl) ?_
 obtain ⟨c1, H⟩ := qa H
 obtain ⟨c2, H⟩ := qa H
 refine lc rfl rfl Tryz.call133 (vm.calls (w := w) (a0 := a0) f_a0 (od c1) (od c2)) rfl <| fun w3 e4 => lp rfl (qc rfl) <| lp rfl (qM (v := (.int .i64 ((qC a0).1))) rfl rfl) <| lp rfl (qM (v := (.int .i64 ((qC a0).2))) rfl rfl) <| lp rfl (xa (.int .i64 ((qC a0).1)) rfl) <| lp rfl (xa (.int .i64 ((qC a0).2)) rfl) <| nx <| wr <| lp rfl (xm (.int .i64 ((qC a0).2)) rfl) <| lp rfl (yZ rfl rfl) <| lp rfl (xa (.bool (decide (((qC a0).2) = 0))) rfl) <| nx <| qr <| qv ?_
 obtain rfl := si H
 exact vo rfl e4
/-! impl.LayerOK -/
theorem jm.calls {w : World} {a0 : List Rec} (gv : GV 0 w) {v_a0 : Value} (f_a0 : Rd 5 qg w v_a0 a0) (h0 : a0.length ≤ 1048576) (h1 : ∀ x ∈ a0, x.path.length ≤ 1048576) :
  Calls Tryz.prog 68 #[v_a0] w (Rt (RP w (.bool (decide ((qY a0).2 = 0))))) := by
 have H := jm.eq a0 h0 h1
 generalize (decide ((qY a0).2 = 0)) = r at H ⊢
 unfold jm.sh at H
 refine qh Tryz.func68 rfl (Nat.le_of_ble_eq_true rfl) Tryz.ntmps68 rfl ?_
 refine wr <| lp rfl (xa (.bool false) rfl) <| nx <| wr <| lp rfl (xm v_a0 rfl) ?_
 obtain ⟨c1, H⟩ := qa H
 obtain ⟨c2, H⟩ := qa H
 refine lc rfl rfl Tryz.call126 (yq.calls (w := w) (a0 := a0) gv f_a0 (od c1) (od c2)) rfl <| fun w3 e4 => lp rfl (qc rfl) <| lp rfl (qM (v := (.int .i64 ((qY a0).1))) rfl rfl) <| lp rfl (qM (v := (.int .i64 ((qY a0).2))) rfl rfl) <| lp rfl (xa (.int .i64 ((qY a0).1)) rfl) <| lp rfl (xa (.int .i64 ((qY a0).2)) rfl) <| nx <| wr <| lp rfl (xm (.int .i64 ((qY a0).2)) rfl) <| lp rfl (yZ rfl rfl) <| lp rfl (xa (.bool (decide (((qY a0).2) = 0))) rfl) <| nx <| qr <| qv ?_
 obtain rfl := si H
 exact vo rfl e4
/-! impl.FindRecord -/
theorem yr.walk {w : World} {a0 : List Rec} {a1 : List UInt8} (gv : GV 0 w) {v_a0 : Value} (f_a0 : Rd 5 qg w v_a0 a0) {r : Rec × Int} (H : yr.sh a0 a1 = some r) :
  Calls Tryz.prog 38 #[v_a0, S a1] w (Rt (RP w (.tuple #[.agg (qg r.1).toArray, .int .i64 r.2]))) := by
 unfold yr.sh at H
 refine Qf Tryz.func38 rfl (Nat.le_of_ble_eq_true rfl) Tryz.ntmps38 ?_
 refine wr <| y5 (.plain rfl) rfl (ltb rfl) rfl Tryz.zeroValue52 <| fun b1 w2 z3 z4 e5 k6 => lp rfl (xa (.int .i64 0) rfl) <| nx <| wr <| lp rfl (xm v_a0 rfl) <| lp rfl (xm (S a1) rfl) ?_
 obtain ⟨c7, H⟩ := qa H
 refine lc rfl rfl Tryz.call80 (jO.calls (w := w2) (a0 := a0) (a1 := a1) (Rd.ext f_a0 e5) (od c7)) rfl <| fun w8 e9 => lp rfl (xa (.int .i64 (qt a0 a1)) rfl) <| nx <| qk <| wr <| lp rfl (xm (S a1) rfl) <| yw (.plain rfl) rfl (ltb rfl) rfl Tryz.underlying44 Tryz.sizeOf9 Tryz.zeroValue9 rfl rfl rfl (vs := [(S a1)]) rfl (vh rfl) <| fun b10 w11 z12 z13 e14 k15 => ?_
 obtain ⟨c16, H⟩ := qa H
 refine lc rfl rfl Tryz.call103 (jE.calls (w := w11) (a0 := ([a1] : List (List UInt8))) (Ow.rd (Ow.new (xs := [a1]) (sz := 1) (enc := vr) (base := w8.heap.size) k15 (Nat.le_of_eq z12) rfl (fun _ _ => by rfl) (Nat.le_of_ble_eq_true rfl))) (od c16)) rfl <| fun w17 e18 => lp rfl (qc rfl) <| jN 3 [(15, 18)] 17 (.bool ((([a1] : List (List UInt8)).any fun t => decide (65536 < t.length)) || (decide (4096 < a0.length)))) ?_ ?_
 ·rcases qw (([a1] : List (List UInt8)).any fun t => decide (65536 < t.length)) with b18_ | b18_
  ·exact ls rfl rfl rfl (cb b18_) rfl <| ls rfl rfl rfl (cb b18_) rfl <| lp rfl (qD (b := true) (v := (.bool true)) (cb b18_) rfl) <| nx ⟨(ku3 kz rfl), (YJ b18_), er⟩
  ·exact lg rfl rfl rfl rfl (cb b18_) (xm v_a0 rfl) <| y1 (tg rfl rfl rfl (cb b18_)) rfl (ltb rfl) rfl Tryz.call78 (yF.calls (w := w17) (a0 := a0) (Rd.ext f_a0 (((e5.t e9).t e14).t e18))) rfl <| fun w20 e21 => lp rfl (qD (b := false) (v := (.bool (decide (4096 < a0.length)))) (cb b18_) rfl) <| nx ⟨(ku3 kz rfl), (YG b18_), e21⟩
 intro s24 w20 K21 h22 e23
 refine lp rfl (qL Tryz.underlying4 rfl h22) <| lp rfl (qL Tryz.underlying3 rfl rfl) <| lp rfl (xm v_a0 (K21 0 rfl)) ?_
 obtain ⟨c25, H⟩ := qa H
 obtain ⟨c26, H⟩ := qa H
 refine lc rfl rfl Tryz.call68 (jm.calls (w := w20) (a0 := a0) (GV.ext gv ((((e5.t e9).t e14).t e18).t e23)) (Rd.ext f_a0 ((((e5.t e9).t e14).t e18).t e23)) (od c25) (od c26)) rfl <| fun w27 e28 => lp rfl (yS rfl) <| lp rfl (qL Tryz.underlying4 rfl rfl) <| lp rfl (qL Tryz.underlying3 rfl rfl) <| lp rfl (xm (.int .i64 (qt a0 a1)) (K21 6 rfl)) <| lp rfl (yH rfl rfl) <| lp rfl (qL Tryz.underlying4 rfl rfl) <| lp rfl (qL Tryz.underlying3 rfl rfl) <| yw (.plain rfl) rfl (ltb rfl) rfl Tryz.underlying142 Tryz.sizeOf20 Tryz.zeroValue20 rfl rfl rfl (vs := [(.iface 4 (.bool ((([a1] : List (List UInt8)).any fun t => decide (65536 < t.length)) || (decide (4096 < a0.length))))), (.iface 3 (.int .i64 2)), (.iface 4 (.bool (!(decide ((qY a0).2 = 0))))), (.iface 3 (.int .i64 1)), (.iface 4 (.bool (decide ((qt a0 a1) < 0)))), (.iface 3 (.int .i64 5))]) rfl (vh rfl) <| fun b29 w30 z31 z32 e33 k34 => ?_
 obtain ⟨c35, H⟩ := qa H
 obtain ⟨z38, x39, H⟩ := bind_some H
 replace x39 := si x39
 refine lc rfl rfl Tryz.call77 (vT.calls (w := w30) (a0 := ([.inl ((([a1] : List (List UInt8)).any fun t => decide (65536 < t.length)) || (decide (4096 < a0.length))), .inr 2, .inl (!(decide ((qY a0).2 = 0))), .inr 1, .inl (decide ((qt a0 a1) < 0)), .inr 5] : List (Bool ⊕ Int))) (Ow.rd (Ow.new (xs := [.inl ((([a1] : List (List UInt8)).any fun t => decide (65536 < t.length)) || (decide (4096 < a0.length))), .inr 2, .inl (!(decide ((qY a0).2 = 0))), .inr 1, .inl (decide ((qt a0 a1) < 0)), .inr 5]) (sz := 1) (enc := (j3 4 3)) (base := w27.heap.size) k34 (Nat.le_of_eq z31) rfl (fun _ _ => by first | rfl | exact Qc _ _ _) (Nat.le_of_ble_eq_true rfl))) (od c35)) rfl <| fun w36 e37 => lp rfl (xa (.int .i64 z38) (congrArg (Value.int .i64) x39)) <| nx <| wr <| lp rfl (xm (.int .i64 z38) rfl) <| lp rfl (je rfl rfl) <| nx ?_
 rcases qf H with ⟨q40, H⟩ | ⟨q40, H⟩
 ·refine qp (cb q40) <| wr <| lp rfl (yR (vs := []) (pl := #[(0, 1), (1, 1), (2, 1), (3, 1), (4, 1)]) Tryz.underlying52 Tryz.zeroValue52 rfl (fun _ => by kernel_rfl) rfl rfl rfl) <| lp rfl (xm (.int .i64 z38) rfl) <| vk (.plain rfl) rfl rfl Tryz.sizeOf52 (K21 4 rfl) rfl rfl rfl rfl (Blk.ext k6 ((((((e9.t e14).t e18).t e23).t e28).t e33).t e37)) <| fun w41 h42 k43 => lp rfl (xa (.int .i64 z38) rfl) <| nx <| qr <| qo <| jA ?_
  obtain rfl := si H
  exact XQ rfl (K21 4 rfl) k43 Tryz.isAgg52 Tryz.sizeOf52 rfl rfl (Below.trans (((((((e5.t e9).t e14).t e18).t e23).t e28).t e33).t e37) (Wr.below h42 (Nat.le_of_eq z3)))
 ·refine qi (cb q40) <| qq <| qd <| wr <| lp rfl (xm v_a0 (K21 0 rfl)) <| lp rfl (xm (.int .i64 (qt a0 a1)) (K21 6 rfl)) ?_
  obtain ⟨c44, H⟩ := qa H
  refine vw (.plain rfl) rfl (ltb rfl) rfl Tryz.underlying35 Tryz.sizeOf52 rfl (Rd.ext f_a0 (((((((e5.t e9).t e14).t e18).t e23).t e28).t e33).t e37)) rfl c44 <| fun p45 h46 => lp rfl (vC Tryz.isAgg52 Tryz.sizeOf52 rfl rfl h46) <| vk (.plain rfl) rfl rfl Tryz.sizeOf52 (K21 4 rfl) rfl rfl rfl rfl (Blk.ext k6 ((((((e9.t e14).t e18).t e23).t e28).t e33).t e37)) <| fun w47 h48 k49 => lp rfl (xa (.int .i64 0) rfl) <| nx <| qr <| jA ?_
  obtain rfl := si H
  exact XQ rfl (K21 4 rfl) k49 Tryz.isAgg52 Tryz.sizeOf52 rfl rfl (Below.trans (((((((e5.t e9).t e14).t e18).t e23).t e28).t e33).t e37) (Wr.below h48 (Nat.le_of_eq z3)))
theorem yr.calls {w : World} {a0 : List Rec} {a1 : List UInt8} (gv : GV 0 w) {v_a0 : Value} (f_a0 : Rd 5 qg w v_a0 a0) (h0 : a0.length ≤ 1048576) (h1 : ∀ x ∈ a0, x.path.length ≤ 1048576) :
  Calls Tryz.prog 38 #[v_a0, S a1] w (Rt (RP w (.tuple #[.agg (qg ((jZ a0 a1).1)).toArray, .int .i64 ((jZ a0 a1).2)]))) := yr.walk gv f_a0 (yr.eq a0 a1 h0 h1)
/-! spec.l03Under -/
theorem vO.calls {w : World} {a0 : List Rec} {a1 : List UInt8} {v_a0 : Value} (f_a0 : Rd 5 qg w v_a0 a0) (h0 : a0.length ≤ 1048576) (h1 : a1.length ≤ 1048576) :
  Calls Tryz.prog 134 #[v_a0, S a1] w (Rt (RP w (.bool (Yq a0 a1)))) := by
 obtain ⟨k, H⟩ := vO.eq a0 a1 h0 h1
 generalize (Yq a0 a1) = r at H ⊢
 unfold vO.sh at H
 refine qh Tryz.func134 rfl (Nat.le_of_ble_eq_true rfl) Tryz.ntmps134 rfl ?_
 refine wr <| lp rfl (xa (.bool false) rfl) <| nx <| qk <| wr <| lp rfl (xm (S a1) rfl) ?_
 obtain ⟨c1, H⟩ := qa H
 refine lc rfl rfl Tryz.call154 (qZ.calls (w := w) (a0 := a1) (od c1)) rfl <| fun w2 e3 => lp rfl (xa (S (qb a1)) rfl) <| nx ?_
 obtain ⟨z5, L6, C7⟩ := bind_some H
 clear H
 refine  vH (fun s0 sQ wQ => Kp [(4, 7), (9, 25)] s0 sQ ∧ Ext w2 wQ ∧ z5 = .inr ()) ?_ ?_
 ·refine qF <| vB (fun s0 kk sQ wQ => ∃ (x5_4 : List UInt8), Kp [(4, 7), (9, 25)] s0 sQ ∧ sQ 5 = S x5_4 ∧ Ext w2 wQ ∧ qn (vO.b1 a0) kk x5_4 = some z5) k ⟨(qb a1), kz, rfl, er, L6⟩ ?_
  rintro k12 s13 w14 ⟨x5_4, K15, h18, e16, L17⟩
  cases k12 with
  | zero => exact absurd L17 (by simp [qn])
  | succ k12 =>
   obtain ⟨t19, H, S20⟩ := qN L17
   clear L17
   unfold vO.b1 at H
   refine qk <| wr <| lp rfl (qc h18) <| lp rfl (Qv rfl rfl) <| nx ?_
   rcases qf H with ⟨q21, H⟩ | ⟨q21, H⟩
   ·refine qp (cb q21) <| qq <| qd <| qk <| qF <| wr <| lp rfl (xm v_a0 (K15 0 rfl)) <| lp rfl (qc h18) ?_
    obtain ⟨c22, H⟩ := qa H
    refine lc rfl rfl Tryz.call162 (yc.calls (w := w14) (a0 := a0) (a1 := x5_4) (Rd.ext f_a0 (e3.t e16)) (od c22)) rfl <| fun w23 e24 => lp rfl (xa (.int .i64 (qt a0 x5_4)) rfl) <| nx <| wr <| lp rfl (xm (.int .i64 (qt a0 x5_4)) rfl) <| lp rfl (QY rfl rfl) <| lp rfl (xm (.bool (decide (0 ≤ (qt a0 x5_4)))) rfl) ?_
    obtain ⟨z26, x27, H⟩ := bind_some H
    refine jp 6 [(19, 25)] 24 (fun q => q = z26) ?_ ?_
    ·rcases qf x27 with ⟨b24_, H⟩ | ⟨b24_, H⟩
     ·refine lg rfl rfl rfl rfl (cb b24_) (xm v_a0 (K15 0 rfl)) <| lg rfl rfl rfl rfl (cb b24_) (xm (.int .i64 (qt a0 x5_4)) rfl) ?_
      obtain ⟨c26, H⟩ := qa H
      refine vw (tg rfl rfl rfl (cb b24_)) rfl (ltb rfl) rfl Tryz.underlying35 Tryz.sizeOf52 rfl (Rd.ext f_a0 ((e3.t e16).t e24)) rfl c26 <| fun p27 h28 => lg rfl rfl rfl rfl (cb b24_) (qe Tryz.underlying52 rfl Tryz.sizeOf4 rfl rfl) <| lg rfl rfl rfl rfl (cb b24_) (jh Tryz.isAgg4 (j := 4) h28 rfl rfl) <| lp rfl (qD (b := true) (v := (.bool ((gt a0 (qt a0 x5_4)).opq))) (cb b24_) rfl) ?_
      obtain rfl := si H
      exact nx ⟨(ku2 (ku4 kz rfl) rfl), ⟨_, rfl, rfl⟩, er⟩
     ·refine ls rfl rfl rfl (cb b24_) rfl <| ls rfl rfl rfl (cb b24_) rfl <| ls rfl rfl rfl (cb b24_) rfl <| ls rfl rfl rfl (cb b24_) rfl <| ls rfl rfl rfl (cb b24_) rfl <| lp rfl (qD (b := false) (v := (.bool false)) (cb b24_) rfl) ?_
      obtain rfl := si H
      exact nx ⟨(ku2 (ku4 kz rfl) rfl), ⟨_, rfl, rfl⟩, er⟩
    intro s32 w28 z33 K29 hq h30 e31
    rw [hq] at h30; clear hq
    refine nx ?_
    rcases qf H with ⟨q34, H⟩ | ⟨q34, H⟩
    ·refine qp (h30.trans (cb q34)) <| wr <| lp rfl (xa (.bool true) rfl) <| nx <| qr <| vi <| qo <| qo <| vi <| qo <| qo <| qv ?_
     obtain rfl := si H
     obtain rfl := si S20
     have H := C7
     obtain rfl := si H
     exact vo rfl (((e3.t e16).t e24).t e31)
    ·refine qi (h30.trans (cb q34)) <| qq <| ye <| qd <| qJ <| lp rfl (xm (S x5_4) ((K29 5 rfl).trans h18)) ?_
     obtain ⟨c35, H⟩ := qa H
     refine lc rfl rfl Tryz.call154 (qZ.calls (w := w28) (a0 := x5_4) (od c35)) rfl <| fun w36 e37 => lp rfl (xa (S (qb x5_4)) rfl) <| nx ?_
     obtain rfl := si H
     exact ⟨_, Nat.lt_succ_self _, (qb x5_4), (ku3 (Kp.cut (ku1 (ku8 K15 rfl) rfl) K29 rfl) rfl), rfl, (((e16.t e24).t e31).t e37), S20⟩
   ·refine qi (cb q21) <| vL <| vd <| vd <| yE <| qd ?_
    obtain rfl := si H
    obtain rfl := si S20
    exact ⟨(ku2 K15 rfl), e16, rfl⟩
 ·rintro s9 w8 ⟨K10, e11, y38⟩
  rw [y38] at C7
  have H := C7
  replace H : _ = some _ := H
  refine qd <| wr <| lp rfl (xa (.bool false) rfl) <| nx <| qr <| qv ?_
  obtain rfl := si H
  exact vo rfl (e3.t e11)
/-! impl.ancestors -/
theorem vq.calls {w : World} {a0 : List UInt8} (h0 : a0.length ≤ 1048576) :
  Calls Tryz.prog 141 #[S a0] w (Rt (RO 9 1 vr w (jz a0))) := by
 obtain ⟨k, H⟩ := vq.eq a0 h0
 generalize (jz a0) = r at H ⊢
 unfold vq.sh at H
 refine qh Tryz.func141 rfl (Nat.le_of_ble_eq_true rfl) Tryz.ntmps141 rfl ?_
 refine wr <| lp rfl (xa (.slice none 0 0) rfl) <| nx <| wr <| yw (.plain rfl) rfl (ltb rfl) rfl Tryz.underlying44 Tryz.sizeOf9 Tryz.zeroValue9 rfl rfl rfl (vs := []) rfl (vh rfl) <| fun b1 w2 z3 z4 e5 k6 => lp rfl (xa (.slice (some ⟨b1, 0, none⟩) 0 0) rfl) <| nx <| qk <| wr <| lp rfl (xm (S a0) rfl) ?_
 obtain ⟨c7, H⟩ := qa H
 refine lc rfl rfl Tryz.call92 (y6.calls (w := w2) (a0 := a0) (od c7)) rfl <| fun w8 e9 => lp rfl (xa (S (qb a0)) rfl) <| nx ?_
 obtain ⟨z13, L14, C15⟩ := bind_some H
 clear H
 refine  vH (fun s0 sQ wQ => ∃ (x3_16 : List (List UInt8)) (v17 : Value), Kp [(0, 1), (3, 4), (7, 15)] s0 sQ ∧ sQ 3 = v17 ∧ Ow 9 1 vr w8.heap.size wQ v17 x3_16 ∧ Ext w8 wQ ∧ z13 = .inr x3_16) ?_ ?_
 ·refine qF <| vB (fun s0 kk sQ wQ => ∃ (x0_10 : List UInt8) (x3_11 : List (List UInt8)) (v12 : Value), Kp [(0, 1), (3, 4), (7, 15)] s0 sQ ∧ sQ 0 = S x0_10 ∧ sQ 3 = v12 ∧ Ow 9 1 vr w8.heap.size wQ v12 x3_11 ∧ Ext w8 wQ ∧ qn (vq.b1) kk (x0_10, x3_11) = some z13) k ⟨(qb a0), ([] : List (List UInt8)), (.slice (some ⟨b1, 0, none⟩) 0 0), kz, rfl, rfl, (Ow.zero), er, L14⟩ ?_
  rintro k22 s23 w24 ⟨x0_10, x3_11, v12, K25, h28, h29, h30, e26, L27⟩
  cases k22 with
  | zero => exact absurd L27 (by simp [qn])
  | succ k22 =>
   obtain ⟨t31, H, S32⟩ := qN L27
   clear L27
   unfold vq.b1 at H
   refine qk <| wr <| lp rfl (qc h28) <| lp rfl (Qv rfl rfl) <| nx ?_
   rcases qf H with ⟨q33, H⟩ | ⟨q33, H⟩
   ·refine qp (cb q33) <| qq <| qd <| qk <| qF <| qJ <| lp rfl (qc h29) <| lp rfl (qc h28) <| yw (.plain rfl) rfl (ltb rfl) rfl Tryz.underlying44 Tryz.sizeOf9 Tryz.zeroValue9 rfl rfl rfl (vs := [(S x0_10)]) rfl (vh rfl) <| fun b34 w35 z36 z37 e38 k39 => ?_
    obtain ⟨c40, H⟩ := qa H
    refine jC (enc := vr) (.plain rfl) rfl (ltb rfl) rfl El.t44 rfl rfl (Ow.ext h30 e38) (Ow.rd (Ow.new (xs := [x0_10]) (sz := 1) (enc := vr) (base := w24.heap.size) k39 (Nat.le_of_eq z36) rfl (fun _ _ => by rfl) (Nat.le_of_ble_eq_true rfl))) (Yr _) (od c40) ((e26.t e38)).size <| fun v41 w42 o43 z44 g45 => lp rfl (xa v41 rfl) <| vb <| ye <| qd <| qJ <| lp rfl (qc h28) ?_
    obtain ⟨c46, H⟩ := qa H
    refine lc rfl rfl Tryz.call92 (y6.calls (w := w42) (a0 := x0_10) (od c46)) rfl <| fun w47 e48 => lp rfl (xa (S (qb x0_10)) rfl) <| nx ?_
    obtain rfl := si H
    exact ⟨_, Nat.lt_succ_self _, (qb x0_10), x3_11 ++ ([x0_10] : List (List UInt8)), v41, (ku2 (ku8 K25 rfl) rfl), rfl, rfl, (Ow.ext o43 e48), (Ext.trans (g45 _ (e26.t e38)) e48), S32⟩
   ·refine qi (cb q33) <| vL <| vd <| vd <| yE <| qd ?_
    obtain rfl := si H
    obtain rfl := si S32
    exact ⟨x3_11, v12, (ku2 K25 rfl), h29, h30, e26, rfl⟩
 ·rintro s19 w18 ⟨x3_16, v17, K20, h49, h50, e21, y51⟩
  rw [y51] at C15
  have H := C15
  replace H : _ = some _ := H
  refine qd <| wr <| lp rfl (qc h49) <| lp rfl (xa v17 rfl) <| nx <| qr <| qv ?_
  obtain rfl := si H
  exact Yf rfl ((e5.t e9).t e21) h50 ((e5.t e9)).size
/-! impl.above$1 -/
theorem yW.walk {w : World} {a0 : List UInt8} {a1 : List Rec} {a2 : Rec → Option Bool} {v_a1 : Value} (f_a1 : Rd 5 qg w v_a1 a1) (g_a1 : v_a1.cells = #[v_a1]) {b_a1 : Nat} (k_a1 : Blk w b_a1 #[v_a1] 35) {v_a2 : Value} (f_a2 : ∀ (x0 : Rec) (r : Bool), a2 x0 = some r → y4 Tryz.prog w v_a2 [(.agg (qg x0).toArray)] (.bool r)) (g_a2 : v_a2.cells = #[v_a2]) {b_a2 : Nat} (k_a2 : Blk w b_a2 #[v_a2] 148) {r : Bool} (H : yW.sh a0 a1 a2 = some r) :
  Calls Tryz.prog 221 #[S a0, .pointer (some ⟨b_a1, 0, none⟩), .pointer (some ⟨b_a2, 0, none⟩)] w (Rt (RP w (.bool r))) := by
 unfold yW.sh at H
 refine qh Tryz.func221 rfl (Nat.le_of_ble_eq_true rfl) Tryz.ntmps221 rfl ?_
 refine wr <| lp rfl (xa (.bool false) rfl) <| nx <| wr <| lp rfl (qH Tryz.isAgg35 k_a1 rfl rfl) <| lp rfl (xm (S a0) rfl) ?_
 obtain ⟨c1, H⟩ := qa H
 refine lc rfl rfl Tryz.call80 (jO.calls (w := w) (a0 := a1) (a1 := a0) f_a1 (od c1)) rfl <| fun w2 e3 => lp rfl (xa (.int .i64 (qt a1 a0)) rfl) <| nx <| qk ?_
 obtain ⟨c4, H⟩ := qa H
 obtain ⟨z7, x8, H⟩ := bind_some H
 refine YK [LEq (.int .i64 (qt a1 a0)), LEq (.bool (decide (0 ≤ (qt a1 a0)))), LEq (.bool (decide (0 ≤ (qt a1 a0)))), LIf (decide (0 ≤ (qt a1 a0))) (LEq v_a2), LIf (decide (0 ≤ (qt a1 a0))) (LEq v_a1), LIf (decide (0 ≤ (qt a1 a0))) (LEq (.int .i64 (qt a1 a0))), LIf (decide (0 ≤ (qt a1 a0))) (yO (qg (gt a1 (qt a1 a0)))), LIf (decide (0 ≤ (qt a1 a0))) (LEq (.agg (qg (gt a1 (qt a1 a0))).toArray)), LIf (decide (0 ≤ (qt a1 a0))) (LEq (.bool z7)), LEq (.bool ((decide (0 ≤ (qt a1 a0))) && z7)), LEq (.bool ((decide (0 ≤ (qt a1 a0))) && z7))] (by kernel_rfl) (by kernel_rfl) ⟨qm, qm, qm, lm, lm, lm, (LIf.mono yO.mono), lm, lm, qm, qm, trivial⟩ ⟨?_, ?_, ?_, ?_, ?_, ?_, ?_, ?_, ?_, ?_, ?_, trivial⟩ ?_
 ·exact fun s x e f d u => lp rfl (xm (.int .i64 (qt a1 a0)) (f 5 rfl)) <| se rfl rfl
 ·exact fun s x e f d u => lp rfl (QY (d 0 rfl) rfl) <| se rfl rfl
 ·exact fun s x e f d u => lp rfl (qc (d 1 rfl)) <| se rfl rfl
 ·exact fun s x e f d u => gT rfl rfl rfl rfl (d 2 rfl) rfl fun b t => lt t rfl rfl (qH Tryz.isAgg148 (Blk.ext k_a2 (e3.t e)) (f 2 rfl) rfl) <| sg rfl rfl b rfl
 ·exact fun s x e f d u => gT rfl rfl rfl rfl (d 2 rfl) rfl fun b t => lt t rfl rfl (qH Tryz.isAgg35 (Blk.ext k_a1 (e3.t e)) (f 1 rfl) rfl) <| sg rfl rfl b rfl
 ·exact fun s x e f d u => gT rfl rfl rfl rfl (d 2 rfl) rfl fun b t => lt t rfl rfl (xm (.int .i64 (qt a1 a0)) (f 5 rfl)) <| sg rfl rfl b rfl
 ·exact fun s x e f d u => gT rfl rfl rfl rfl (d 2 rfl) rfl fun b t => vw t rfl (ltb rfl) rfl Tryz.underlying35 Tryz.sizeOf52 ((d 4 rfl).1 b) (Rd.ext f_a1 (e3.t e)) ((d 5 rfl).1 b) (yB b c4) <| fun p12 h13 => sg rfl rfl b ⟨_, rfl, h13⟩
 ·intro s x e f d u
  refine gT rfl rfl rfl rfl (d 2 rfl) rfl fun b t => ?_
  obtain ⟨p14, h15, h16⟩ := ((d 6 rfl).1 b)
  exact lt t rfl rfl (vC Tryz.isAgg52 Tryz.sizeOf52 rfl h15 h16) <| sg rfl rfl b rfl
 ·exact fun s x e f d u => gT rfl rfl rfl rfl (d 2 rfl) rfl fun b t => Ya t rfl (ltb rfl) rfl ((d 3 rfl).1 b) (y4.ext (f_a2 _ _ x8) (e3.t e)) (vI ((d 7 rfl).1 b) rfl) <| fun w19 e20 => sgx rfl rfl b e20 rfl
 ·exact fun s x e f d u => lp rfl (jX (d 2 rfl) rfl fun h => ((d 8 rfl).1 h)) <| se rfl rfl
 ·exact fun s x e f d u => lp rfl (qG (d 9 rfl)) <| se rfl rfl
 intro s21 w22 e23 hf24 ha25
 have K26 := Kp.ofD (kp := [(4, 5), (9, 19)]) rfl hf24
 have d27 : s21 4 = (.bool ((decide (0 ≤ (qt a1 a0))) && z7)) := ha25 10 rfl
 clear ha25 hf24
 refine qd <| qr <| qv ?_
 obtain rfl := si H
 exact vo d27 (e3.t e23)
theorem yW.calls {w : World} {a0 : List UInt8} {a1 : List Rec} {a2 : Rec → Option Bool} {r : Bool} {v_a1 : Value} (f_a1 : Rd 5 qg w v_a1 a1) (g_a1 : v_a1.cells = #[v_a1]) {b_a1 : Nat} (k_a1 : Blk w b_a1 #[v_a1] 35) {v_a2 : Value} (f_a2 : ∀ (x0 : Rec) (r : Bool), a2 x0 = some r → y4 Tryz.prog w v_a2 [(.agg (qg x0).toArray)] (.bool r)) (g_a2 : v_a2.cells = #[v_a2]) {b_a2 : Nat} (k_a2 : Blk w b_a2 #[v_a2] 148) (h0 : a1.length ≤ 1048576) (H : (VD a1 a2 a0) = some r) :
  Calls Tryz.prog 221 #[S a0, .pointer (some ⟨b_a1, 0, none⟩), .pointer (some ⟨b_a2, 0, none⟩)] w (Rt (RP w (.bool r))) := yW.walk f_a1 g_a1 k_a1 f_a2 g_a2 k_a2 (yW.eq a0 a1 a2 h0 H)
/-! impl.above -/
theorem jr.walk {w : World} {a0 : List Rec} {a1 : List UInt8} {a2 : Rec → Option Bool} {v_a0 : Value} (f_a0 : Rd 5 qg w v_a0 a0) {v_a2 : Value} (f_a2 : ∀ (x0 : Rec) (r : Bool), a2 x0 = some r → y4 Tryz.prog w v_a2 [(.agg (qg x0).toArray)] (.bool r)) (g_a2 : v_a2.cells = #[v_a2]) {r : Bool} (H : jr.sh a0 a1 a2 = some r) :
  Calls Tryz.prog 191 #[v_a0, S a1, v_a2] w (Rt (RP w (.bool r))) := by
 unfold jr.sh at H
 refine qh Tryz.func191 rfl (Nat.le_of_ble_eq_true rfl) Tryz.ntmps191 rfl ?_
 refine wr <| Ve (.plain rfl) rfl (ltb rfl) rfl rfl <| fun b1 w2 z3 z4 e5 k6 => Ve (.plain rfl) rfl (ltb rfl) rfl rfl <| fun b7 w8 z9 z10 e11 k12 => lp rfl (xa (.bool false) rfl) <| nx <| wr <| lp rfl (xm (S a1) rfl) ?_
 obtain ⟨c13, H⟩ := qa H
 refine yX (.plain rfl) rfl (ltb rfl) rfl Tryz.call141 (vq.calls (w := w8) (a0 := a1) (od c13)) rfl <| fun v16 w14 e15 o17 => lp rfl (Q6 (vs := #[]) (us := #[.pointer (some ⟨b1, 0, none⟩), .pointer (some ⟨b7, 0, none⟩)]) rfl rfl) ?_
 obtain ⟨c22, H⟩ := qa H
 obtain ⟨z23, x24, H⟩ := bind_some H
 refine lc rfl rfl Tryz.call215 (vl.calls (w := w14) (a0 := (jz a1)) (a1 := (fun (x0_ : List UInt8) => bif decide (a0.length ≤ 1048576) then (VD a0 a2 x0_) else none)) (Ow.rd o17) (fun x0_ r h => by obtain ⟨q0, h⟩ := qa h; exact y4.mk Tryz.call221 (by rfl) fun w20 k21 => yW.calls (w := w20) (a0 := x0_) (a1 := a0) (a2 := a2) (Rd.ext f_a0 (((e5.t e11).t e15).t k21)) (Rd.cs (Rd.ext f_a0 e5)) (Blk.ext (Blk.cs k6 (Rd.cs (Rd.ext f_a0 e5))) ((e11.t e15).t k21)) (fun x0 r h => y4.ext (f_a2 x0 r h) (((e5.t e11).t e15).t k21)) g_a2 (Blk.ext (Blk.cs k12 g_a2) (e15.t k21)) (od q0) h) rfl (od c22) x24) rfl <| fun w25 e26 => lp rfl (xa (.bool z23) rfl) <| nx <| qr <| qv ?_
 obtain rfl := si H
 exact vo rfl (((e5.t e11).t e15).t e26)
theorem jr.calls {w : World} {a0 : List Rec} {a1 : List UInt8} {a2 : Rec → Option Bool} {r : Bool} {v_a0 : Value} (f_a0 : Rd 5 qg w v_a0 a0) {v_a2 : Value} (f_a2 : ∀ (x0 : Rec) (r : Bool), a2 x0 = some r → y4 Tryz.prog w v_a2 [(.agg (qg x0).toArray)] (.bool r)) (g_a2 : v_a2.cells = #[v_a2]) (h0 : a0.length ≤ 1048576) (h1 : a1.length ≤ 1048576) (H : (QX (VD a0 a2) (jz a1)) = some r) :
  Calls Tryz.prog 191 #[v_a0, S a1, v_a2] w (Rt (RP w (.bool r))) := jr.walk f_a0 f_a2 g_a2 (jr.eq a0 a1 a2 h0 h1 H)
/-! spec.l06Stops -/
theorem y7.calls {w : World} {a0 : Rec} :
  Calls Tryz.prog 163 #[.agg (qg a0).toArray] w (Rt (RP w (.bool (yC a0)))) := by
 have H := y7.eq a0
 generalize (yC a0) = r at H ⊢
 unfold y7.sh at H
 refine qh Tryz.func163 rfl (Nat.le_of_ble_eq_true rfl) Tryz.ntmps163 rfl ?_
 refine wr <| Ve (.plain rfl) rfl (ltb rfl) rfl rfl <| fun b1 w2 z3 z4 e5 k6 => lp rfl (xa (.bool false) rfl) <| nx <| wr <| lp rfl (qe Tryz.underlying52 rfl Tryz.sizeOf3 rfl rfl) <| lp rfl (qH Tryz.isAgg3 k6 rfl rfl) <| lp rfl (je rfl rfl) <| lp rfl (xm (.bool (!decide (a0.kind = 3))) rfl) <| jN 3 [(7, 10)] 9 (.bool ((!decide (a0.kind = 3)) || a0.opq)) ?_ ?_
 ·rcases qw (!decide (a0.kind = 3)) with b6_ | b6_
  ·exact ls rfl rfl rfl (cb b6_) rfl <| ls rfl rfl rfl (cb b6_) rfl <| lp rfl (qD (b := true) (v := (.bool true)) (cb b6_) rfl) <| nx ⟨(ku3 kz rfl), (YJ b6_), er⟩
  ·exact lg rfl rfl rfl rfl (cb b6_) (qe Tryz.underlying52 rfl Tryz.sizeOf4 rfl rfl) <| lg rfl rfl rfl rfl (cb b6_) (qH Tryz.isAgg4 k6 rfl rfl) <| lp rfl (qD (b := false) (v := (.bool a0.opq)) (cb b6_) rfl) <| nx ⟨(ku3 kz rfl), (YG b6_), er⟩
 intro s12 w8 K9 h10 e11
 refine lp rfl (qG h10) <| nx <| qr <| qv ?_
 obtain rfl := si H
 exact vo rfl (e5.t e11)
/-! spec.l06Cuts -/
theorem yf.calls {w : World} {a0 : List Rec} {a1 : List UInt8} {v_a0 : Value} (f_a0 : Rd 5 qg w v_a0 a0) (h0 : a0.length ≤ 1048576) (h1 : a1.length ≤ 1048576) :
  Calls Tryz.prog 166 #[v_a0, S a1] w (Rt (RP w (.bool (QB a0 a1)))) := by
 obtain ⟨k, H⟩ := yf.eq a0 a1 h0 h1
 generalize (QB a0 a1) = r at H ⊢
 unfold yf.sh at H
 refine qh Tryz.func166 rfl (Nat.le_of_ble_eq_true rfl) Tryz.ntmps166 rfl ?_
 refine wr <| lp rfl (xa (.bool false) rfl) <| nx <| qk <| wr <| lp rfl (xm (S a1) rfl) ?_
 obtain ⟨c1, H⟩ := qa H
 refine lc rfl rfl Tryz.call154 (qZ.calls (w := w) (a0 := a1) (od c1)) rfl <| fun w2 e3 => lp rfl (xa (S (qb a1)) rfl) <| nx ?_
 obtain ⟨z5, L6, C7⟩ := bind_some H
 clear H
 refine  vH (fun s0 sQ wQ => Kp [(4, 7), (9, 25)] s0 sQ ∧ Ext w2 wQ ∧ z5 = .inr ()) ?_ ?_
 ·refine qF <| vB (fun s0 kk sQ wQ => ∃ (x5_4 : List UInt8), Kp [(4, 7), (9, 25)] s0 sQ ∧ sQ 5 = S x5_4 ∧ Ext w2 wQ ∧ qn (yf.b1 a0) kk x5_4 = some z5) k ⟨(qb a1), kz, rfl, er, L6⟩ ?_
  rintro k12 s13 w14 ⟨x5_4, K15, h18, e16, L17⟩
  cases k12 with
  | zero => exact absurd L17 (by simp [qn])
  | succ k12 =>
   obtain ⟨t19, H, S20⟩ := qN L17
   clear L17
   unfold yf.b1 at H
   refine qk <| wr <| lp rfl (qc h18) <| lp rfl (Qv rfl rfl) <| nx ?_
   rcases qf H with ⟨q21, H⟩ | ⟨q21, H⟩
   ·refine qp (cb q21) <| qq <| qd <| qk <| qF <| wr <| lp rfl (xm v_a0 (K15 0 rfl)) <| lp rfl (qc h18) ?_
    obtain ⟨c22, H⟩ := qa H
    refine lc rfl rfl Tryz.call162 (yc.calls (w := w14) (a0 := a0) (a1 := x5_4) (Rd.ext f_a0 (e3.t e16)) (od c22)) rfl <| fun w23 e24 => lp rfl (xa (.int .i64 (qt a0 x5_4)) rfl) <| nx <| wr <| lp rfl (xm (.int .i64 (qt a0 x5_4)) rfl) <| lp rfl (QY rfl rfl) <| lp rfl (xm (.bool (decide (0 ≤ (qt a0 x5_4)))) rfl) ?_
    obtain ⟨z26, x27, H⟩ := bind_some H
    refine jp 6 [(19, 25)] 24 (fun q => q = z26) ?_ ?_
    ·rcases qf x27 with ⟨b24_, H⟩ | ⟨b24_, H⟩
     ·refine lg rfl rfl rfl rfl (cb b24_) (xm v_a0 (K15 0 rfl)) <| lg rfl rfl rfl rfl (cb b24_) (xm (.int .i64 (qt a0 x5_4)) rfl) ?_
      obtain ⟨c26, H⟩ := qa H
      refine vw (tg rfl rfl rfl (cb b24_)) rfl (ltb rfl) rfl Tryz.underlying35 Tryz.sizeOf52 rfl (Rd.ext f_a0 ((e3.t e16).t e24)) rfl c26 <| fun p27 h28 => lg rfl rfl rfl rfl (cb b24_) (vC Tryz.isAgg52 Tryz.sizeOf52 rfl rfl h28) <| y1 (tg rfl rfl rfl (cb b24_)) rfl (ltb rfl) rfl Tryz.call163 (y7.calls (w := w23) (a0 := gt a0 (qt a0 x5_4))) rfl <| fun w29 e30 => lp rfl (qD (b := true) (v := (.bool (yC (gt a0 (qt a0 x5_4))))) (cb b24_) rfl) ?_
      obtain rfl := si H
      exact nx ⟨(ku2 (ku4 kz rfl) rfl), ⟨_, rfl, rfl⟩, e30⟩
     ·refine ls rfl rfl rfl (cb b24_) rfl <| ls rfl rfl rfl (cb b24_) rfl <| ls rfl rfl rfl (cb b24_) rfl <| ls rfl rfl rfl (cb b24_) rfl <| ls rfl rfl rfl (cb b24_) rfl <| lp rfl (qD (b := false) (v := (.bool false)) (cb b24_) rfl) ?_
      obtain rfl := si H
      exact nx ⟨(ku2 (ku4 kz rfl) rfl), ⟨_, rfl, rfl⟩, er⟩
    intro s32 w28 z33 K29 hq h30 e31
    rw [hq] at h30; clear hq
    refine nx ?_
    rcases qf H with ⟨q34, H⟩ | ⟨q34, H⟩
    ·refine qp (h30.trans (cb q34)) <| wr <| lp rfl (xa (.bool true) rfl) <| nx <| qr <| vi <| qo <| qo <| vi <| qo <| qo <| qv ?_
     obtain rfl := si H
     obtain rfl := si S20
     have H := C7
     obtain rfl := si H
     exact vo rfl (((e3.t e16).t e24).t e31)
    ·refine qi (h30.trans (cb q34)) <| qq <| ye <| qd <| qJ <| lp rfl (xm (S x5_4) ((K29 5 rfl).trans h18)) ?_
     obtain ⟨c35, H⟩ := qa H
     refine lc rfl rfl Tryz.call154 (qZ.calls (w := w28) (a0 := x5_4) (od c35)) rfl <| fun w36 e37 => lp rfl (xa (S (qb x5_4)) rfl) <| nx ?_
     obtain rfl := si H
     exact ⟨_, Nat.lt_succ_self _, (qb x5_4), (ku3 (Kp.cut (ku1 (ku8 K15 rfl) rfl) K29 rfl) rfl), rfl, (((e16.t e24).t e31).t e37), S20⟩
   ·refine qi (cb q21) <| vL <| vd <| vd <| yE <| qd ?_
    obtain rfl := si H
    obtain rfl := si S20
    exact ⟨(ku2 K15 rfl), e16, rfl⟩
 ·rintro s9 w8 ⟨K10, e11, y38⟩
  rw [y38] at C7
  have H := C7
  replace H : _ = some _ := H
  refine qd <| wr <| lp rfl (xa (.bool false) rfl) <| nx <| qr <| qv ?_
  obtain rfl := si H
  exact vo rfl (e3.t e11)
/-! impl.stops -/
theorem Qa.calls {w : World} {a0 : Rec} :
  Calls Tryz.prog 160 #[.agg (qg a0).toArray] w (Rt (RP w (.bool (yC a0)))) := by
 have H := Qa.eq a0
 generalize (yC a0) = r at H ⊢
 unfold Qa.sh at H
 refine qh Tryz.func160 rfl (Nat.le_of_ble_eq_true rfl) Tryz.ntmps160 rfl ?_
 refine wr <| Ve (.plain rfl) rfl (ltb rfl) rfl rfl <| fun b1 w2 z3 z4 e5 k6 => lp rfl (xa (.bool false) rfl) <| nx <| wr <| lp rfl (qe Tryz.underlying52 rfl Tryz.sizeOf3 rfl rfl) <| lp rfl (qH Tryz.isAgg3 k6 rfl rfl) <| lp rfl (je rfl rfl) <| lp rfl (xm (.bool (!decide (a0.kind = 3))) rfl) <| jN 3 [(7, 10)] 9 (.bool ((!decide (a0.kind = 3)) || a0.opq)) ?_ ?_
 ·rcases qw (!decide (a0.kind = 3)) with b6_ | b6_
  ·exact ls rfl rfl rfl (cb b6_) rfl <| ls rfl rfl rfl (cb b6_) rfl <| lp rfl (qD (b := true) (v := (.bool true)) (cb b6_) rfl) <| nx ⟨(ku3 kz rfl), (YJ b6_), er⟩
  ·exact lg rfl rfl rfl rfl (cb b6_) (qe Tryz.underlying52 rfl Tryz.sizeOf4 rfl rfl) <| lg rfl rfl rfl rfl (cb b6_) (qH Tryz.isAgg4 k6 rfl rfl) <| lp rfl (qD (b := false) (v := (.bool a0.opq)) (cb b6_) rfl) <| nx ⟨(ku3 kz rfl), (YG b6_), er⟩
 intro s12 w8 K9 h10 e11
 refine lp rfl (qG h10) <| nx <| qr <| qv ?_
 obtain rfl := si H
 exact vo rfl (e5.t e11)
/-! impl.cuts -/
theorem QI.calls {w : World} {a0 : List Rec} {a1 : List UInt8} {v_a0 : Value} (f_a0 : Rd 5 qg w v_a0 a0) (h0 : a0.length ≤ 1048576) (h1 : a1.length ≤ 1048576) :
  Calls Tryz.prog 165 #[v_a0, S a1] w (Rt (RP w (.bool (QB a0 a1)))) := by
 have H := QI.eq a0 a1 h0 h1
 generalize (QB a0 a1) = r at H ⊢
 unfold QI.sh at H
 refine qh Tryz.func165 rfl (Nat.le_of_ble_eq_true rfl) Tryz.ntmps165 rfl ?_
 refine wr <| lp rfl (xa (.bool false) rfl) <| nx <| wr <| lp rfl (xm v_a0 rfl) <| lp rfl (xm (S a1) rfl) ?_
 obtain ⟨c5, H⟩ := qa H
 obtain ⟨c6, H⟩ := qa H
 obtain ⟨z7, x8, H⟩ := bind_some H
 refine lc rfl rfl Tryz.call191 (jr.calls (w := w) (a0 := a0) (a1 := a1) (a2 := (fun (x0_ : Rec) => some (yC x0_))) f_a0 (fun x0_ r h => by have h := si h; subst h; exact y4.mk Tryz.call160 (by rfl) fun w3 k4 => Qa.calls (w := w3) (a0 := x0_)) rfl (od c5) (od c6) x8) rfl <| fun w9 e10 => lp rfl (xa (.bool z7) rfl) <| nx <| qr <| qv ?_
 obtain rfl := si H
 exact vo rfl e10
/-! spec.l05Stack -/
theorem vv.calls {w : World} {a0 : List (List Rec)} {v_a0 : Value} (f_a0 : Rd2 5 qg w v_a0 a0) (h0 : a0.length ≤ 1048576) (h1 : ∀ l ∈ a0, l.length ≤ 1048576) (h2 : ∀ l ∈ a0, ∀ x ∈ l, x.path.length ≤ 1048576) :
  Calls Tryz.prog 60 #[v_a0] w (Rt (RP w (.bool (qO a0)))) := by
 obtain ⟨k, H⟩ := vv.eq a0 h0 h1 h2
 generalize (qO a0) = r at H ⊢
 unfold vv.sh at H
 refine qh Tryz.func60 rfl (Nat.le_of_ble_eq_true rfl) Tryz.ntmps60 rfl ?_
 refine wr <| lp rfl (xa (.bool false) rfl) <| nx <| qk <| wr <| lp rfl (xm v_a0 rfl) <| lp rfl (jR Tryz.underlying23 rfl f_a0) <| lp rfl (jj rfl rfl) <| nx ?_
 rcases qf H with ⟨q1, H⟩ | ⟨q1, H⟩
 ·refine qp (cb q1) <| wr <| lp rfl (xa (.bool false) rfl) <| nx <| qr <| qo <| qv ?_
  obtain rfl := si H
  exact vo rfl er
 ·refine qi (cb q1) <| qq <| qd <| qk <| wr <| lp rfl (xa (.int .i64 0) rfl) <| nx ?_
  obtain ⟨z3, L4, C5⟩ := bind_some H
  clear H
  refine  vH (fun s0 sQ wQ => Kp [(2, 4), (7, 19)] s0 sQ ∧ Ext w wQ ∧ z3 = .inr ()) ?_ ?_
  ·refine qF <| vB (fun s0 kk sQ wQ => ∃ (x3_2 : Int), Kp [(2, 4), (7, 19)] s0 sQ ∧ sQ 3 = .int .i64 x3_2 ∧ Ext w wQ ∧ qn (vv.b1 a0) kk x3_2 = some z3) k ⟨0, kz, rfl, er, L4⟩ ?_
   rintro k10 s11 w12 ⟨x3_2, K13, h16, e14, L15⟩
   cases k10 with
   | zero => exact absurd L15 (by simp [qn])
   | succ k10 =>
    obtain ⟨t17, H, S18⟩ := qN L15
    clear L15
    unfold vv.b1 at H
    refine qk <| wr <| lp rfl (qc h16) <| lp rfl (xm v_a0 (K13 0 rfl)) <| lp rfl (jR Tryz.underlying23 rfl (Rd2.ext f_a0 e14)) <| lp rfl (yH rfl rfl) <| nx ?_
    rcases qf H with ⟨q19, H⟩ | ⟨q19, H⟩
    ·refine qp (cb q19) <| qq <| qd <| qk <| qF <| wr <| lp rfl (xm v_a0 (K13 0 rfl)) <| lp rfl (qc h16) ?_
     obtain ⟨c20, H⟩ := qa H
     refine Vk (.plain rfl) rfl (ltb rfl) rfl Tryz.underlying23 Tryz.sizeOf35 rfl (Rd2.ext f_a0 e14) rfl c20 <| fun p21 v23 h22 h24 => lp rfl (qQ Tryz.isAgg35 rfl h22 rfl) ?_
     obtain ⟨c25, H⟩ := qa H
     obtain ⟨c26, H⟩ := qa H
     refine lc rfl rfl Tryz.call74 (Qb.calls (w := w12) (a0 := gt a0 x3_2) h24 (od c25) (od c26)) rfl <| fun w27 e28 => lp rfl (yS rfl) <| nx ?_
     rcases qf H with ⟨q29, H⟩ | ⟨q29, H⟩
     ·refine qp (cb q29) <| wr <| lp rfl (xa (.bool false) rfl) <| nx <| qr <| vi <| qo <| qo <| vi <| qo <| qo <| qv ?_
      obtain rfl := si H
      obtain rfl := si S18
      have H := C5
      obtain rfl := si H
      exact vo rfl (e14.t e28)
     ·refine qi (cb q29) <| qq <| ye <| qd <| qJ <| lp rfl (qc h16) <| lp rfl (vW rfl rfl) <| lp rfl (xa (.int .i64 (IntKind.wrap .i64 (x3_2 + 1))) rfl) <| nx ?_
      obtain rfl := si H
      exact ⟨_, Nat.lt_succ_self _, IntKind.wrap .i64 (x3_2 + 1), (ku1 (ku4 (ku8 K13 rfl) rfl) rfl), rfl, (e14.t e28), S18⟩
    ·refine qi (cb q19) <| vL <| vd <| vd <| yE <| qd ?_
     obtain rfl := si H
     obtain rfl := si S18
     exact ⟨(ku4 K13 rfl), e14, rfl⟩
  ·rintro s7 w6 ⟨K8, e9, y30⟩
   rw [y30] at C5
   have H := C5
   replace H : _ = some _ := H
   refine qd <| wr <| lp rfl (xa (.bool true) rfl) <| nx <| qr <| qv ?_
   obtain rfl := si H
   exact vo rfl e9
/-! impl.all(()impl.Record)$1 -/
theorem yT.walk {w : World} {a0 : List Rec} {a1 : List Rec → Option Bool} {v_a0 : Value} (f_a0 : Rd 5 qg w v_a0 a0) {v_a1 : Value} (f_a1 : ∀ (x0 : List Rec) (r : Bool), a1 x0 = some r → ∀ (u0 : Value) (wR : World), Ext w wR → Rd 5 qg wR u0 x0 → y4 Tryz.prog wR v_a1 [u0] (.bool r)) (g_a1 : v_a1.cells = #[v_a1]) {b_a1 : Nat} (k_a1 : Blk w b_a1 #[v_a1] 89) {r : Bool} (H : yT.sh a0 a1 = some r) :
  Calls Tryz.prog 125 #[v_a0, .pointer (some ⟨b_a1, 0, none⟩)] w (Rt (RP w (.bool r))) := by
 unfold yT.sh at H
 refine qh Tryz.func125 rfl (Nat.le_of_ble_eq_true rfl) Tryz.ntmps125 rfl ?_
 refine wr <| lp rfl (xa (.bool false) rfl) <| nx <| wr <| lp rfl (qH Tryz.isAgg89 k_a1 rfl rfl) <| lp rfl (xm v_a0 rfl) ?_
 obtain ⟨z1, x2, H⟩ := bind_some H
 refine Ya (.plain rfl) rfl (ltb rfl) rfl rfl (f_a1 _ _ x2 v_a0 w er f_a0) rfl <| fun w3 e4 => lp rfl (yS rfl) <| lp rfl (xa (.bool (!z1)) rfl) <| nx <| qr <| qv ?_
 obtain rfl := si H
 exact vo rfl e4
theorem yT.calls {w : World} {a0 : List Rec} {a1 : List Rec → Option Bool} {r : Bool} {v_a0 : Value} (f_a0 : Rd 5 qg w v_a0 a0) {v_a1 : Value} (f_a1 : ∀ (x0 : List Rec) (r : Bool), a1 x0 = some r → ∀ (u0 : Value) (wR : World), Ext w wR → Rd 5 qg wR u0 x0 → y4 Tryz.prog wR v_a1 [u0] (.bool r)) (g_a1 : v_a1.cells = #[v_a1]) {b_a1 : Nat} (k_a1 : Blk w b_a1 #[v_a1] 89) (H : ((a1 a0).map (!·)) = some r) :
  Calls Tryz.prog 125 #[v_a0, .pointer (some ⟨b_a1, 0, none⟩)] w (Rt (RP w (.bool r))) := yT.walk f_a0 f_a1 g_a1 k_a1 (yT.eq a0 a1 H)
/-! slices.IndexFunc(()()impl.Record,()impl.Record) -/
theorem qP.walk {k : Nat} {w : World} {a0 : List (List Rec)} {a1 : List Rec → Option Bool} {v_a0 : Value} (f_a0 : Rd2 5 qg w v_a0 a0) {v_a1 : Value} (f_a1 : ∀ (x0 : List Rec) (r : Bool), a1 x0 = some r → ∀ (u0 : Value) (wR : World), Ext w wR → Rd 5 qg wR u0 x0 → y4 Tryz.prog wR v_a1 [u0] (.bool r)) (g_a1 : v_a1.cells = #[v_a1]) {r : Int} (H : qP.sh k a0 a1 = some r) :
  Calls Tryz.prog 184 #[v_a0, v_a1] w (Rt (RP w (.int .i64 r))) := by
 unfold qP.sh at H
 refine qh Tryz.func184 rfl (Nat.le_of_ble_eq_true rfl) Tryz.ntmps184 rfl ?_
 refine wr <| lp rfl (xa (.int .i64 0) rfl) <| nx <| qk <| wr <| lp rfl (xm v_a0 rfl) <| lp rfl (jR Tryz.underlying23 rfl f_a0) <| lp rfl (xm (.int .i64 0) rfl) <| nx ?_
 obtain ⟨z2, L3, C4⟩ := bind_some H
 clear H
 refine  vH (fun s0 sQ wQ => Kp [(4, 6), (8, 19)] s0 sQ ∧ Ext w wQ ∧ z2 = .inr ()) ?_ ?_
 ·refine qF <| vB (fun s0 kk sQ wQ => ∃ (x8_1 : Int), Kp [(4, 6), (8, 19)] s0 sQ ∧ sQ 8 = .int .i64 x8_1 ∧ Ext w wQ ∧ qn (qP.b1 a0 a1) kk x8_1 = some z2) k ⟨0, kz, rfl, er, L3⟩ ?_
  rintro k9 s10 w11 ⟨x8_1, K12, h15, e13, L14⟩
  cases k9 with
  | zero => exact absurd L14 (by simp [qn])
  | succ k9 =>
   obtain ⟨t16, H, S17⟩ := qN L14
   clear L14
   unfold qP.b1 at H
   refine wr <| lp rfl (yH h15 (K12 7 rfl)) <| nx <| qk ?_
   rcases qf H with ⟨q18, H⟩ | ⟨q18, H⟩
   ·refine qp (cb q18) <| qq <| qd <| qk <| qF <| wr <| lp rfl (qc h15) <| lp rfl (xa (.int .i64 x8_1) rfl) <| nx <| wr <| lp rfl (xm v_a1 (K12 1 rfl)) <| lp rfl (xm v_a0 (K12 0 rfl)) <| lp rfl (xm (.int .i64 x8_1) rfl) ?_
    obtain ⟨c19, H⟩ := qa H
    refine Vk (.plain rfl) rfl (ltb rfl) rfl Tryz.underlying23 Tryz.sizeOf35 rfl (Rd2.ext f_a0 e13) rfl c19 <| fun p20 v22 h21 h23 => lp rfl (qQ Tryz.isAgg35 rfl h21 rfl) ?_
    obtain ⟨z24, x25, H⟩ := bind_some H
    refine Ya (.plain rfl) rfl (ltb rfl) rfl rfl (f_a1 _ _ x25 v22 w11 e13 h23) rfl <| fun w26 e27 => nx ?_
    rcases qf H with ⟨q28, H⟩ | ⟨q28, H⟩
    ·refine qp (cb q28) <| wr <| lp rfl (xm (.int .i64 x8_1) rfl) <| lp rfl (xa (.int .i64 x8_1) rfl) <| nx <| qr <| vi <| qo <| qo <| vi <| qo <| qo <| qv ?_
     obtain rfl := si H
     obtain rfl := si S17
     have H := C4
     obtain rfl := si H
     exact vo rfl (e13.t e27)
    ·refine qi (cb q28) <| qq <| ye <| qd <| qJ <| lp rfl (vW h15 rfl) <| lp rfl (xm (.int .i64 (IntKind.wrap .i64 (x8_1 + 1))) rfl) <| nx ?_
     obtain rfl := si H
     exact ⟨_, Nat.lt_succ_self _, IntKind.wrap .i64 (x8_1 + 1), (ku3 (ku8 K12 rfl) rfl), rfl, (e13.t e27), S17⟩
   ·refine qi (cb q18) <| vL <| vd <| vd <| yE <| qd ?_
    obtain rfl := si H
    obtain rfl := si S17
    exact ⟨(ku1 K12 rfl), e13, rfl⟩
 ·rintro s6 w5 ⟨K7, e8, y29⟩
  rw [y29] at C4
  have H := C4
  replace H : _ = some _ := H
  refine qd <| wr <| lp rfl (xa (.int .i64 (-1)) rfl) <| nx <| qr <| qv ?_
  obtain rfl := si H
  exact vo rfl e8
theorem qP.calls {w : World} {a0 : List (List Rec)} {a1 : List Rec → Option Bool} {r : Int} {v_a0 : Value} (f_a0 : Rd2 5 qg w v_a0 a0) {v_a1 : Value} (f_a1 : ∀ (x0 : List Rec) (r : Bool), a1 x0 = some r → ∀ (u0 : Value) (wR : World), Ext w wR → Rd 5 qg wR u0 x0 → y4 Tryz.prog wR v_a1 [u0] (.bool r)) (g_a1 : v_a1.cells = #[v_a1]) (h0 : a0.length ≤ 4611686018427387904) (H : (Vj a1 a0) = some r) :
  Calls Tryz.prog 184 #[v_a0, v_a1] w (Rt (RP w (.int .i64 r))) := by
 obtain ⟨k, h⟩ := qP.eq a0 a1 h0 H
 exact qP.walk f_a0 f_a1 g_a1 h
/-! slices.ContainsFunc(()()impl.Record,()impl.Record) -/
theorem vn.walk {w : World} {a0 : List (List Rec)} {a1 : List Rec → Option Bool} {v_a0 : Value} (f_a0 : Rd2 5 qg w v_a0 a0) {v_a1 : Value} (f_a1 : ∀ (x0 : List Rec) (r : Bool), a1 x0 = some r → ∀ (u0 : Value) (wR : World), Ext w wR → Rd 5 qg wR u0 x0 → y4 Tryz.prog wR v_a1 [u0] (.bool r)) (g_a1 : v_a1.cells = #[v_a1]) {r : Bool} (H : vn.sh a0 a1 = some r) :
  Calls Tryz.prog 124 #[v_a0, v_a1] w (Rt (RP w (.bool r))) := by
 unfold vn.sh at H
 refine qh Tryz.func124 rfl (Nat.le_of_ble_eq_true rfl) Tryz.ntmps124 rfl ?_
 refine wr <| lp rfl (xa (.bool false) rfl) <| nx <| wr <| lp rfl (xm v_a0 rfl) <| lp rfl (xm v_a1 rfl) ?_
 obtain ⟨c1, H⟩ := qa H
 obtain ⟨z2, x3, H⟩ := bind_some H
 refine lc rfl rfl Tryz.call184 (qP.calls (w := w) (a0 := a0) (a1 := a1) f_a0 (fun x0 r h u0 wR kR q0 => f_a1 x0 r h u0 wR (Ext.trans er kR) q0) g_a1 (od c1) x3) rfl <| fun w4 e5 => lp rfl (QY rfl rfl) <| lp rfl (xa (.bool (decide (0 ≤ z2))) rfl) <| nx <| qr <| qv ?_
 obtain rfl := si H
 exact vo rfl e5
theorem vn.calls {w : World} {a0 : List (List Rec)} {a1 : List Rec → Option Bool} {r : Bool} {v_a0 : Value} (f_a0 : Rd2 5 qg w v_a0 a0) {v_a1 : Value} (f_a1 : ∀ (x0 : List Rec) (r : Bool), a1 x0 = some r → ∀ (u0 : Value) (wR : World), Ext w wR → Rd 5 qg wR u0 x0 → y4 Tryz.prog wR v_a1 [u0] (.bool r)) (g_a1 : v_a1.cells = #[v_a1]) (h0 : a0.length ≤ 4611686018427387904) (H : (QX a1 a0) = some r) :
  Calls Tryz.prog 124 #[v_a0, v_a1] w (Rt (RP w (.bool r))) := vn.walk f_a0 f_a1 g_a1 (vn.eq a0 a1 h0 H)
/-! impl.all(()impl.Record) -/
theorem js.walk {w : World} {a0 : List (List Rec)} {a1 : List Rec → Option Bool} {v_a0 : Value} (f_a0 : Rd2 5 qg w v_a0 a0) {v_a1 : Value} (f_a1 : ∀ (x0 : List Rec) (r : Bool), a1 x0 = some r → ∀ (u0 : Value) (wR : World), Ext w wR → Rd 5 qg wR u0 x0 → y4 Tryz.prog wR v_a1 [u0] (.bool r)) (g_a1 : v_a1.cells = #[v_a1]) {r : Bool} (H : js.sh a0 a1 = some r) :
  Calls Tryz.prog 67 #[v_a0, v_a1] w (Rt (RP w (.bool r))) := by
 unfold js.sh at H
 refine qh Tryz.func67 rfl (Nat.le_of_ble_eq_true rfl) Tryz.ntmps67 rfl ?_
 refine wr <| Ve (.plain rfl) rfl (ltb rfl) rfl rfl <| fun b1 w2 z3 z4 e5 k6 => lp rfl (xa (.bool false) rfl) <| nx <| wr <| lp rfl (xm v_a0 rfl) <| lp rfl (Q6 (vs := #[]) (us := #[.pointer (some ⟨b1, 0, none⟩)]) rfl rfl) ?_
 obtain ⟨c11, H⟩ := qa H
 obtain ⟨z12, x13, H⟩ := bind_some H
 refine lc rfl rfl Tryz.call124 (vn.calls (w := w2) (a0 := a0) (a1 := (fun (x0_ : List Rec) => ((a1 x0_).map (!·)))) (Rd2.ext f_a0 e5) (fun x0_ r h ux0_ w7 k8 hx0_ => by exact y4.mk Tryz.call125 (by rfl) fun w9 k10 => yT.calls (w := w9) (a0 := x0_) (a1 := a1) (Rd.ext hx0_ k10) (fun x0 r h u0 wR kR q0 => f_a1 x0 r h u0 wR (((e5.t k8).t k10).t kR) q0) g_a1 (Blk.ext (Blk.cs k6 g_a1) (Ext.trans k8 k10)) h) rfl (od c11) x13) rfl <| fun w14 e15 => lp rfl (yS rfl) <| lp rfl (xa (.bool (!z12)) rfl) <| nx <| qr <| qv ?_
 obtain rfl := si H
 exact vo rfl (e5.t e15)
theorem js.calls {w : World} {a0 : List (List Rec)} {a1 : List Rec → Option Bool} {r : Bool} {v_a0 : Value} (f_a0 : Rd2 5 qg w v_a0 a0) {v_a1 : Value} (f_a1 : ∀ (x0 : List Rec) (r : Bool), a1 x0 = some r → ∀ (u0 : Value) (wR : World), Ext w wR → Rd 5 qg wR u0 x0 → y4 Tryz.prog wR v_a1 [u0] (.bool r)) (g_a1 : v_a1.cells = #[v_a1]) (h0 : a0.length ≤ 4611686018427387904) (H : (Jc a1 a0) = some r) :
  Calls Tryz.prog 67 #[v_a0, v_a1] w (Rt (RP w (.bool r))) := js.walk f_a0 f_a1 g_a1 (js.eq a0 a1 h0 H)
/-! impl.StackOK -/
theorem jH.calls {w : World} {a0 : List (List Rec)} (gv : GV 0 w) {v_a0 : Value} (f_a0 : Rd2 5 qg w v_a0 a0) (h0 : a0.length ≤ 1048576) (h1 : ∀ l ∈ a0, l.length ≤ 1048576) (h2 : ∀ l ∈ a0, ∀ x ∈ l, x.path.length ≤ 1048576) :
  Calls Tryz.prog 16 #[v_a0] w (Rt (RP w (.bool (qO a0)))) := by
 have H := jH.eq a0 h0 h1 h2
 generalize (qO a0) = r at H ⊢
 unfold jH.sh at H
 refine qh Tryz.func16 rfl (Nat.le_of_ble_eq_true rfl) Tryz.ntmps16 rfl ?_
 refine wr <| lp rfl (xa (.bool false) rfl) <| nx <| wr <| lp rfl (xm v_a0 rfl) <| lp rfl (jR Tryz.underlying23 rfl f_a0) <| lp rfl (VX rfl rfl) <| lp rfl (xm (.bool (decide ((a0.length : Int) ≤ 5))) rfl) ?_
 obtain ⟨z2, x3, H⟩ := bind_some H
 refine jp 3 [(7, 10)] 9 (fun q => q = z2) ?_ ?_
 ·rcases qf x3 with ⟨b0_, H⟩ | ⟨b0_, H⟩
  ·refine lg rfl rfl rfl rfl (cb b0_) (xm v_a0 rfl) ?_
   obtain ⟨c6, H⟩ := qa H
   obtain ⟨z7, x8, H⟩ := bind_some H
   refine y1 (tg rfl rfl rfl (cb b0_)) rfl (ltb rfl) rfl Tryz.call67 (js.calls (w := w) (a0 := a0) (a1 := (fun (x0_ : List Rec) => bif decide (x0_.length ≤ 1048576) then (bif decide (∀ x ∈ x0_, x.path.length ≤ 1048576) then (some (decide ((qY x0_).2 = 0))) else none) else none)) f_a0 (fun x0_ r h ux0_ w2 k3 hx0_ => by obtain ⟨q0, h⟩ := qa h; obtain ⟨q1, h⟩ := qa h; have h := si h; subst h; exact y4.mk Tryz.call68 (by rfl) fun w4 k5 => jm.calls (w := w4) (a0 := x0_) (GV.ext gv (Ext.trans k3 k5)) (Rd.ext hx0_ k5) (od q0) (od q1)) rfl (od c6) x8) rfl <| fun w9 e10 => lp rfl (qD (b := true) (v := (.bool z7)) (cb b0_) rfl) ?_
   obtain rfl := si H
   exact nx ⟨(ku3 kz rfl), ⟨_, rfl, rfl⟩, e10⟩
  ·refine ls rfl rfl rfl (cb b0_) rfl <| ls rfl rfl rfl (cb b0_) rfl <| lp rfl (qD (b := false) (v := (.bool false)) (cb b0_) rfl) ?_
   obtain rfl := si H
   exact nx ⟨(ku3 kz rfl), ⟨_, rfl, rfl⟩, er⟩
 intro s11 w4 z12 K5 hq h6 e7
 rw [hq] at h6; clear hq
 refine lp rfl (qG h6) <| nx <| qr <| qv ?_
 obtain rfl := si H
 exact vo rfl e7
/-! spec.l03Canon -/
theorem vN.calls {w : World} {a0 : List Rec} {v_a0 : Value} (f_a0 : Rd 5 qg w v_a0 a0) (h0 : a0.length ≤ 1048576) (h1 : ∀ x ∈ a0, qy x.path = true) :
  Calls Tryz.prog 76 #[v_a0] w (Rt (RO 52 5 qg w (Yx a0))) := by
 obtain ⟨k, H⟩ := vN.eq a0 h0 h1
 generalize (Yx a0) = r at H ⊢
 unfold vN.sh at H
 refine qh Tryz.func76 rfl (Nat.le_of_ble_eq_true rfl) Tryz.ntmps76 rfl ?_
 refine wr <| lp rfl (xa (.slice none 0 0) rfl) <| nx <| wr <| yw (.plain rfl) rfl (ltb rfl) rfl Tryz.underlying35 Tryz.sizeOf52 Tryz.zeroValue52 rfl rfl rfl (vs := []) rfl (vh rfl) <| fun b1 w2 z3 z4 e5 k6 => lp rfl (xa (.slice (some ⟨b1, 0, none⟩) 0 0) rfl) <| nx <| qk <| wr <| lp rfl (xa (.int .i64 0) rfl) <| nx ?_
 obtain ⟨z10, L11, C12⟩ := bind_some H
 clear H
 refine  vH (fun s0 sQ wQ => ∃ (x3_13 : List Rec) (v14 : Value), Kp [(3, 6), (7, 44)] s0 sQ ∧ sQ 3 = v14 ∧ Ow 52 5 qg w2.heap.size wQ v14 x3_13 ∧ Ext w2 wQ ∧ z10 = .inr x3_13) ?_ ?_
 ·refine qF <| vB (fun s0 kk sQ wQ => ∃ (x3_7 : List Rec) (v8 : Value) (x4_9 : Int), Kp [(3, 6), (7, 44)] s0 sQ ∧ sQ 3 = v8 ∧ Ow 52 5 qg w2.heap.size wQ v8 x3_7 ∧ sQ 4 = .int .i64 x4_9 ∧ Ext w2 wQ ∧ qn (vN.b1 a0) kk (x3_7, x4_9) = some z10) k ⟨([] : List Rec), (.slice (some ⟨b1, 0, none⟩) 0 0), 0, kz, rfl, (Ow.zero), rfl, er, L11⟩ ?_
  rintro k19 s20 w21 ⟨x3_7, v8, x4_9, K22, h25, h26, h27, e23, L24⟩
  cases k19 with
  | zero => exact absurd L24 (by simp [qn])
  | succ k19 =>
   obtain ⟨t28, H, S29⟩ := qN L24
   clear L24
   unfold vN.b1 at H
   refine qk <| wr <| lp rfl (qc h27) <| lp rfl (xm v_a0 (K22 0 rfl)) <| lp rfl (vy Tryz.underlying35 rfl (Rd.ext f_a0 (e5.t e23))) <| lp rfl (yH rfl rfl) <| nx ?_
   rcases qf H with ⟨q30, H⟩ | ⟨q30, H⟩
   ·refine qp (cb q30) <| qq <| qd <| qk <| qF <| wr <| lp rfl (xm v_a0 (K22 0 rfl)) <| lp rfl (qc h27) ?_
    obtain ⟨c31, H⟩ := qa H
    refine vw (.plain rfl) rfl (ltb rfl) rfl Tryz.underlying35 Tryz.sizeOf52 rfl (Rd.ext f_a0 (e5.t e23)) rfl c31 <| fun p32 h33 => lp rfl (vC Tryz.isAgg52 Tryz.sizeOf52 rfl rfl h33) <| y5 (.plain rfl) rfl (ltb rfl) rfl Tryz.zeroValue52 <| fun b34 w35 z36 z37 e38 k39 => vk (.plain rfl) rfl rfl Tryz.sizeOf52 rfl rfl rfl rfl rfl k39 <| fun w40 h41 k42 => nx <| qk <| wr <| lp rfl (xm v_a0 (K22 0 rfl)) <| lp rfl (qe Tryz.underlying52 rfl Tryz.sizeOf9 rfl rfl) <| lp rfl (qH Tryz.isAgg9 k42 rfl rfl) ?_
    obtain ⟨c43, H⟩ := qa H
    obtain ⟨c44, H⟩ := qa H
    refine lc rfl rfl Tryz.call134 (vO.calls (w := w40) (a0 := a0) (a1 := (gt a0 x4_9).path) (Rd.ext f_a0 ((e5.t e23).t (Below.trans e38 (Wr.below h41 (Nat.le_of_eq z36))))) (od c43) (od c44)) rfl <| fun w45 e46 => lp rfl (yS rfl) <| nx ?_
    rcases qf H with ⟨q47, H⟩ | ⟨q47, H⟩
    ·refine qp (cb q47) <| wr <| lp rfl (qe Tryz.underlying52 rfl Tryz.sizeOf4 rfl rfl) <| lp rfl (qH Tryz.isAgg4 (Blk.ext k42 e46) rfl rfl) <| lp rfl (xm (.bool ((gt a0 x4_9).opq)) rfl) ?_
     obtain ⟨z49, x50, H⟩ := bind_some H
     refine jp 6 [(25, 31)] 30 (fun q => q = z49) ?_ ?_
     ·rcases qf x50 with ⟨b47_, H⟩ | ⟨b47_, H⟩
      ·refine lg rfl rfl rfl rfl (cb b47_) (qe Tryz.underlying52 rfl Tryz.sizeOf9 rfl rfl) <| lg rfl rfl rfl rfl (cb b47_) (qH Tryz.isAgg9 (Blk.ext k42 e46) rfl rfl) ?_
       obtain ⟨c49, H⟩ := qa H
       refine yX (tg rfl rfl rfl (cb b47_)) rfl (ltb rfl) rfl Tryz.call135 (yb.calls (w := w45) (a0 := (gt a0 x4_9).path) (a1 := 47) (od c49)) rfl <| fun v52 w50 e51 o53 => lg rfl rfl rfl rfl (cb b47_) (vy Tryz.underlying44 rfl (Ow.rd o53)) <| lg rfl rfl rfl rfl (cb b47_) (yH rfl rfl) <| lp rfl (qD (b := true) (v := (.bool (decide (((cut 47 ((gt a0 x4_9).path)).length : Int) < 4)))) (cb b47_) rfl) ?_
       obtain rfl := si H
       exact nx ⟨(ku2 (ku4 kz rfl) rfl), ⟨_, rfl, rfl⟩, e51⟩
      ·refine ls rfl rfl rfl (cb b47_) rfl <| ls rfl rfl rfl (cb b47_) rfl <| ls rfl rfl rfl (cb b47_) rfl <| ls rfl rfl rfl (cb b47_) rfl <| ls rfl rfl rfl (cb b47_) rfl <| lp rfl (qD (b := false) (v := (.bool false)) (cb b47_) rfl) ?_
       obtain rfl := si H
       exact nx ⟨(ku2 (ku4 kz rfl) rfl), ⟨_, rfl, rfl⟩, er⟩
     intro s55 w51 z56 K52 hq h53 e54
     rw [hq] at h53; clear hq
     refine lp rfl (qe Tryz.underlying52 rfl Tryz.sizeOf4 rfl (K52 5 rfl)) <| Qw (.plain rfl) rfl rfl Tryz.sizeOf4 rfl h53 rfl (Blk.ext k42 (e46.t e54)) (ltb rfl) <| fun w57 h58 k59 => nx <| wr <| lp rfl (xm v8 ((K52 3 rfl).trans h25)) <| lp rfl (vC Tryz.isAgg52 Tryz.sizeOf52 rfl (K52 5 rfl) (Blk.at0 k59)) <| yw (.plain rfl) rfl (ltb rfl) rfl Tryz.underlying35 Tryz.sizeOf52 Tryz.zeroValue52 rfl rfl rfl (vs := [(.agg #[(.int .i64 ((gt a0 x4_9).kind)), (S ((gt a0 x4_9).path)), (S ((gt a0 x4_9).body)), (.int .i64 ((gt a0 x4_9).mode)), (.bool z49)])]) rfl (vh rfl) <| fun b60 w61 z62 z63 e64 k65 => ?_
     obtain ⟨c66, H⟩ := qa H
     refine jC (enc := qg) (.plain rfl) rfl (ltb rfl) rfl El.t35 rfl rfl (Ow.ext h26 (Ext.trans (Below.trans (Ext.trans (Ext.trans (Below.trans e38 (Wr.below h41 (Nat.le_of_eq z36))) e46) e54) (Wr.below h58 (Nat.le_of_eq z36))) e64)) (Ow.rd (Ow.new (xs := [(⟨(gt a0 x4_9).kind, (gt a0 x4_9).path, (gt a0 x4_9).body, (gt a0 x4_9).mode, z49⟩ : Rec)]) (sz := 5) (enc := qg) (base := w57.heap.size) k65 (Nat.le_of_eq z62) rfl (fun _ _ => by rfl) (Nat.le_of_ble_eq_true rfl))) (Vq _) (od c66) (((e23.t (Below.trans (Ext.trans (Ext.trans (Below.trans e38 (Wr.below h41 (Nat.le_of_eq z36))) e46) e54) (Wr.below h58 (Nat.le_of_eq z36)))).t e64)).size <| fun v67 w68 o69 z70 g71 => lp rfl (xa v67 rfl) <| nx <| vL <| vd <| yE <| qd <| qJ <| lp rfl (xm (.int .i64 x4_9) ((K52 4 rfl).trans h27)) <| lp rfl (vW rfl rfl) <| lp rfl (xa (.int .i64 (IntKind.wrap .i64 (x4_9 + 1))) rfl) <| nx ?_
     obtain rfl := si H
     exact ⟨_, Nat.lt_succ_self _, x3_7 ++ ([(⟨(gt a0 x4_9).kind, (gt a0 x4_9).path, (gt a0 x4_9).body, (gt a0 x4_9).mode, z49⟩ : Rec)] : List Rec), v67, IntKind.wrap .i64 (x4_9 + 1), (ku1 (ku8 (Kp.cut (ku1 (ku8 (ku8 K22 rfl) rfl) rfl) K52 rfl) rfl) rfl), rfl, o69, rfl, (g71 _ ((e23.t (Below.trans (Ext.trans (Ext.trans (Below.trans e38 (Wr.below h41 (Nat.le_of_eq z36))) e46) e54) (Wr.below h58 (Nat.le_of_eq z36)))).t e64)), S29⟩
    ·refine qi (cb q47) <| qq <| qd <| wr <| lp rfl (qe Tryz.underlying52 rfl Tryz.sizeOf4 rfl rfl) <| Qw (.plain rfl) rfl rfl Tryz.sizeOf4 rfl rfl rfl (Blk.ext k42 e46) (ltb rfl) <| fun w72 h73 k74 => nx <| wr <| lp rfl (qe Tryz.underlying52 rfl Tryz.sizeOf3 rfl rfl) <| lp rfl (qH Tryz.isAgg3 k74 rfl rfl) <| lp rfl (je rfl rfl) <| nx ?_
     rcases qf H with ⟨q75, H⟩ | ⟨q75, H⟩
     ·refine qp (cb q75) <| qJ <| lp rfl (qc h25) <| lp rfl (vC Tryz.isAgg52 Tryz.sizeOf52 rfl rfl (Blk.at0 k74)) <| yw (.plain rfl) rfl (ltb rfl) rfl Tryz.underlying35 Tryz.sizeOf52 Tryz.zeroValue52 rfl rfl rfl (vs := [(.agg #[(.int .i64 ((gt a0 x4_9).kind)), (S ((gt a0 x4_9).path)), (S ((gt a0 x4_9).body)), (.int .i64 ((gt a0 x4_9).mode)), (.bool false)])]) rfl (vh rfl) <| fun b76 w77 z78 z79 e80 k81 => ?_
      obtain ⟨c82, H⟩ := qa H
      refine jC (enc := qg) (.plain rfl) rfl (ltb rfl) rfl El.t35 rfl rfl (Ow.ext h26 (Ext.trans (Below.trans (Ext.trans (Below.trans e38 (Wr.below h41 (Nat.le_of_eq z36))) e46) (Wr.below h73 (Nat.le_of_eq z36))) e80)) (Ow.rd (Ow.new (xs := [(⟨(gt a0 x4_9).kind, (gt a0 x4_9).path, (gt a0 x4_9).body, (gt a0 x4_9).mode, false⟩ : Rec)]) (sz := 5) (enc := qg) (base := w72.heap.size) k81 (Nat.le_of_eq z78) rfl (fun _ _ => by rfl) (Nat.le_of_ble_eq_true rfl))) (Vq _) (od c82) (((e23.t (Below.trans (Ext.trans (Below.trans e38 (Wr.below h41 (Nat.le_of_eq z36))) e46) (Wr.below h73 (Nat.le_of_eq z36)))).t e80)).size <| fun v83 w84 o85 z86 g87 => lp rfl (xa v83 rfl) <| vb <| ye <| qd <| qJ <| lp rfl (qc h27) <| lp rfl (vW rfl rfl) <| lp rfl (xa (.int .i64 (IntKind.wrap .i64 (x4_9 + 1))) rfl) <| nx ?_
      obtain rfl := si H
      exact ⟨_, Nat.lt_succ_self _, x3_7 ++ ([(⟨(gt a0 x4_9).kind, (gt a0 x4_9).path, (gt a0 x4_9).body, (gt a0 x4_9).mode, false⟩ : Rec)] : List Rec), v83, IntKind.wrap .i64 (x4_9 + 1), (ku2 (ku8 (ku8 (ku8 K22 rfl) rfl) rfl) rfl), rfl, o85, rfl, (g87 _ ((e23.t (Below.trans (Ext.trans (Below.trans e38 (Wr.below h41 (Nat.le_of_eq z36))) e46) (Wr.below h73 (Nat.le_of_eq z36)))).t e80)), S29⟩
     ·refine qi (cb q75) <| qq <| ye <| qd <| qJ <| lp rfl (qc h27) <| lp rfl (vW rfl rfl) <| lp rfl (xa (.int .i64 (IntKind.wrap .i64 (x4_9 + 1))) rfl) <| nx ?_
      obtain rfl := si H
      exact ⟨_, Nat.lt_succ_self _, x3_7, v8, IntKind.wrap .i64 (x4_9 + 1), (ku1 (ku4 (ku8 (ku8 K22 rfl) rfl) rfl) rfl), h25, (Ow.ext h26 (Below.trans (Ext.trans (Below.trans e38 (Wr.below h41 (Nat.le_of_eq z36))) e46) (Wr.below h73 (Nat.le_of_eq z36)))), rfl, (e23.t (Below.trans (Ext.trans (Below.trans e38 (Wr.below h41 (Nat.le_of_eq z36))) e46) (Wr.below h73 (Nat.le_of_eq z36)))), S29⟩
   ·refine qi (cb q30) <| vL <| vd <| vd <| yE <| qd ?_
    obtain rfl := si H
    obtain rfl := si S29
    exact ⟨x3_7, v8, (ku4 K22 rfl), h25, h26, e23, rfl⟩
 ·rintro s16 w15 ⟨x3_13, v14, K17, h88, h89, e18, y90⟩
  rw [y90] at C12
  have H := C12
  replace H : _ = some _ := H
  refine qd <| wr <| lp rfl (qc h88) <| lp rfl (xa v14 rfl) <| nx <| qr <| qv ?_
  obtain rfl := si H
  exact Yf rfl (e5.t e18) h89 (e5).size
/-! spec.l07Cut -/
theorem yn.calls {w : World} {a0 : List (List Rec)} {a1 : List UInt8} {v_a0 : Value} (f_a0 : Rd2 5 qg w v_a0 a0) (h0 : a0.length ≤ 1048576) (h1 : a1.length ≤ 1048576) (h2 : ∀ l ∈ a0, l.length ≤ 1048576) :
  Calls Tryz.prog 100 #[v_a0, S a1] w (Rt (RP w (.int .i64 (jT a0 a1)))) := by
 obtain ⟨k, H⟩ := yn.eq a0 a1 h0 h1 h2
 generalize (jT a0 a1) = r at H ⊢
 unfold yn.sh at H
 refine qh Tryz.func100 rfl (Nat.le_of_ble_eq_true rfl) Tryz.ntmps100 rfl ?_
 refine wr <| lp rfl (xa (.int .i64 0) rfl) <| nx <| qk <| wr <| lp rfl (xm v_a0 rfl) <| lp rfl (jR Tryz.underlying23 rfl f_a0) <| lp rfl (jl rfl rfl) <| lp rfl (xa (.int .i64 (IntKind.wrap .i64 ((a0.length : Int) - 1))) rfl) <| nx ?_
 obtain ⟨z2, L3, C4⟩ := bind_some H
 clear H
 refine  vH (fun s0 sQ wQ => Kp [(4, 6), (9, 21)] s0 sQ ∧ Ext w wQ ∧ z2 = .inr ()) ?_ ?_
 ·refine qF <| vB (fun s0 kk sQ wQ => ∃ (x5_1 : Int), Kp [(4, 6), (9, 21)] s0 sQ ∧ sQ 5 = .int .i64 x5_1 ∧ Ext w wQ ∧ qn (yn.b1 a0 a1) kk x5_1 = some z2) k ⟨IntKind.wrap .i64 ((a0.length : Int) - 1), kz, rfl, er, L3⟩ ?_
  rintro k9 s10 w11 ⟨x5_1, K12, h15, e13, L14⟩
  cases k9 with
  | zero => exact absurd L14 (by simp [qn])
  | succ k9 =>
   obtain ⟨t16, H, S17⟩ := qN L14
   clear L14
   unfold yn.b1 at H
   refine qk <| wr <| lp rfl (qc h15) <| lp rfl (QY rfl rfl) <| nx ?_
   rcases qf H with ⟨q18, H⟩ | ⟨q18, H⟩
   ·refine qp (cb q18) <| qq <| qd <| qk <| qF <| wr <| lp rfl (xm v_a0 (K12 0 rfl)) <| lp rfl (qc h15) ?_
    obtain ⟨c19, H⟩ := qa H
    refine Vk (.plain rfl) rfl (ltb rfl) rfl Tryz.underlying23 Tryz.sizeOf35 rfl (Rd2.ext f_a0 e13) rfl c19 <| fun p20 v22 h21 h23 => lp rfl (qQ Tryz.isAgg35 rfl h21 rfl) <| lp rfl (xm (S a1) (K12 1 rfl)) ?_
    obtain ⟨c24, H⟩ := qa H
    obtain ⟨c25, H⟩ := qa H
    refine lc rfl rfl Tryz.call166 (yf.calls (w := w11) (a0 := gt a0 x5_1) (a1 := a1) h23 (od c24) (od c25)) rfl <| fun w26 e27 => nx ?_
    rcases qf H with ⟨q28, H⟩ | ⟨q28, H⟩
    ·refine qp (cb q28) <| wr <| lp rfl (qc h15) <| lp rfl (vW rfl rfl) <| lp rfl (xa (.int .i64 (IntKind.wrap .i64 (x5_1 + 1))) rfl) <| nx <| qr <| vi <| qo <| qo <| vi <| qo <| qo <| qv ?_
     obtain rfl := si H
     obtain rfl := si S17
     have H := C4
     obtain rfl := si H
     exact vo rfl (e13.t e27)
    ·refine qi (cb q28) <| qq <| ye <| qd <| qJ <| lp rfl (qc h15) <| lp rfl (jl rfl rfl) <| lp rfl (xa (.int .i64 (IntKind.wrap .i64 (x5_1 - 1))) rfl) <| nx ?_
     obtain rfl := si H
     exact ⟨_, Nat.lt_succ_self _, IntKind.wrap .i64 (x5_1 - 1), (ku3 (ku8 K12 rfl) rfl), rfl, (e13.t e27), S17⟩
   ·refine qi (cb q18) <| vL <| vd <| vd <| yE <| qd ?_
    obtain rfl := si H
    obtain rfl := si S17
    exact ⟨(ku2 K12 rfl), e13, rfl⟩
 ·rintro s6 w5 ⟨K7, e8, y29⟩
  rw [y29] at C4
  have H := C4
  replace H : _ = some _ := H
  refine qd <| wr <| lp rfl (xa (.int .i64 0) rfl) <| nx <| qr <| qv ?_
  obtain rfl := si H
  exact vo rfl e8
/-! spec.CutDepth -/
theorem yL.walk {w : World} {a0 : List (List Rec)} {a1 : List UInt8} {v_a0 : Value} (f_a0 : Rd2 5 qg w v_a0 a0) {r : Int × Int} (H : yL.sh a0 a1 = some r) :
  Calls Tryz.prog 36 #[v_a0, S a1] w (Rt (RP w (.tuple #[.int .i64 r.1, .int .i64 r.2]))) := by
 unfold yL.sh at H
 refine qh Tryz.func36 rfl (Nat.le_of_ble_eq_true rfl) Tryz.ntmps36 rfl ?_
 refine wr <| lp rfl (xa (.int .i64 0) rfl) <| lp rfl (xa (.int .i64 0) rfl) <| nx <| qk <| wr <| lp rfl (xm v_a0 rfl) <| lp rfl (jR Tryz.underlying23 rfl f_a0) <| lp rfl (jj rfl rfl) <| lp rfl (xm (.bool (decide (4096 < (a0.length : Int)))) rfl) <| jN 4 [(10, 14)] 13 (.bool ((decide (4096 < (a0.length : Int))) || (decide (65536 < (a1.length : Int))))) ?_ ?_
 ·rcases qw (decide (4096 < (a0.length : Int))) with b0_ | b0_
  ·exact ls rfl rfl rfl (cb b0_) rfl <| ls rfl rfl rfl (cb b0_) rfl <| ls rfl rfl rfl (cb b0_) rfl <| lp rfl (qD (b := true) (v := (.bool true)) (cb b0_) rfl) <| nx ⟨(ku4 kz rfl), (YJ b0_), er⟩
  ·exact lg rfl rfl rfl rfl (cb b0_) (xm (S a1) rfl) <| lg rfl rfl rfl rfl (cb b0_) (j9 Tryz.underlying9 rfl) <| lg rfl rfl rfl rfl (cb b0_) (jj rfl rfl) <| lp rfl (qD (b := false) (v := (.bool (decide (65536 < (a1.length : Int))))) (cb b0_) rfl) <| nx ⟨(ku4 kz rfl), (YG b0_), er⟩
 intro s6 w2 K3 h4 e5
 refine nx ?_
 rcases qf H with ⟨q7, H⟩ | ⟨q7, H⟩
 ·refine qp (h4.trans (cb q7)) <| wr <| lp rfl (xa (.int .i64 0) rfl) <| lp rfl (xa (.int .i64 2) rfl) <| nx <| qr <| qo <| qv ?_
  obtain rfl := si H
  exact VN rfl rfl e5
 ·refine qi (h4.trans (cb q7)) <| qq <| qd <| qk <| wr <| lp rfl (xm v_a0 (K3 0 rfl)) ?_
  obtain ⟨c8, H⟩ := qa H
  obtain ⟨c9, H⟩ := qa H
  obtain ⟨c10, H⟩ := qa H
  refine lc rfl rfl Tryz.call60 (vv.calls (w := w2) (a0 := a0) (Rd2.ext f_a0 e5) (od c8) (od c9) (od c10)) rfl <| fun w11 e12 => lp rfl (yS rfl) <| nx ?_
  rcases qf H with ⟨q13, H⟩ | ⟨q13, H⟩
  ·refine qp (cb q13) <| wr <| lp rfl (xa (.int .i64 0) rfl) <| lp rfl (xa (.int .i64 1) rfl) <| nx <| qr <| qo <| qv ?_
   obtain rfl := si H
   exact VN rfl rfl (e5.t e12)
  ·refine qi (cb q13) <| qq <| qd <| qk <| wr <| lp rfl (xm (S a1) (K3 1 rfl)) <| lc rfl rfl Tryz.call97 (yl.calls (w := w11) (a0 := a1)) rfl <| fun w14 e15 => lp rfl (yS rfl) <| nx ?_
   rcases qf H with ⟨q16, H⟩ | ⟨q16, H⟩
   ·refine qp (cb q16) <| wr <| lp rfl (xa (.int .i64 0) rfl) <| lp rfl (xa (.int .i64 10) rfl) <| nx <| qr <| qo <| qv ?_
    obtain rfl := si H
    exact VN rfl rfl ((e5.t e12).t e15)
   ·refine qi (cb q16) <| qq <| qd <| wr <| lp rfl (xm v_a0 (K3 0 rfl)) <| lp rfl (xm (S a1) (K3 1 rfl)) ?_
    obtain ⟨c17, H⟩ := qa H
    obtain ⟨c18, H⟩ := qa H
    obtain ⟨c19, H⟩ := qa H
    refine lc rfl rfl Tryz.call100 (yn.calls (w := w14) (a0 := a0) (a1 := a1) (Rd2.ext f_a0 ((e5.t e12).t e15)) (od c17) (od c18) (od c19)) rfl <| fun w20 e21 => lp rfl (xa (.int .i64 (jT a0 a1)) rfl) <| lp rfl (xa (.int .i64 0) rfl) <| nx <| qr <| qv ?_
    obtain rfl := si H
    exact VN rfl rfl (((e5.t e12).t e15).t e21)
theorem yL.calls {w : World} {a0 : List (List Rec)} {a1 : List UInt8} {v_a0 : Value} (f_a0 : Rd2 5 qg w v_a0 a0) (h0 : a0.length ≤ 1048576) (h1 : ∀ l ∈ a0, l.length ≤ 1048576) (h2 : ∀ l ∈ a0, ∀ x ∈ l, x.path.length ≤ 1048576) :
  Calls Tryz.prog 36 #[v_a0, S a1] w (Rt (RP w (.tuple #[.int .i64 ((cutDepth a0 a1).1), .int .i64 ((cutDepth a0 a1).2)]))) := yL.walk f_a0 (yL.eq a0 a1 h0 h1 h2)
/-! impl.isLongList(()impl.Record) -/
theorem yM.calls {w : World} {a0 : List (List Rec)} {v_a0 : Value} (f_a0 : Rd2 5 qg w v_a0 a0) :
  Calls Tryz.prog 116 #[v_a0] w (Rt (RP w (.bool (decide (4096 < a0.length))))) := by
 have H := yM.eq a0
 generalize (decide (4096 < a0.length)) = r at H ⊢
 unfold yM.sh at H
 refine qh Tryz.func116 rfl (Nat.le_of_ble_eq_true rfl) Tryz.ntmps116 rfl ?_
 refine wr <| lp rfl (xa (.bool false) rfl) <| nx <| wr <| lp rfl (xm v_a0 rfl) <| lp rfl (jR Tryz.underlying23 rfl f_a0) <| lp rfl (jj rfl rfl) <| lp rfl (xa (.bool (decide (4096 < (a0.length : Int)))) rfl) <| nx <| qr <| qv ?_
 obtain rfl := si H
 exact vo rfl er
/-! impl.stackCode -/
theorem yz.calls {w : World} {a0 : List (List Rec)} (gv : GV 0 w) {v_a0 : Value} (f_a0 : Rd2 5 qg w v_a0 a0) (h0 : a0.length ≤ 1048576) (h1 : ∀ l ∈ a0, l.length ≤ 1048576) (h2 : ∀ l ∈ a0, ∀ x ∈ l, x.path.length ≤ 1048576) :
  Calls Tryz.prog 58 #[v_a0] w (Rt (RP w (.int .i64 (stackCode a0)))) := by
 have H := yz.eq a0 h0 h1 h2
 generalize (stackCode a0) = r at H ⊢
 unfold yz.sh at H
 refine qh Tryz.func58 rfl (Nat.le_of_ble_eq_true rfl) Tryz.ntmps58 rfl ?_
 refine wr <| lp rfl (xa (.int .i64 0) rfl) <| nx <| wr <| lp rfl (xm v_a0 rfl) <| lc rfl rfl Tryz.call116 (yM.calls (w := w) (a0 := a0) f_a0) rfl <| fun w1 e2 => lp rfl (qL Tryz.underlying4 rfl rfl) <| lp rfl (qL Tryz.underlying3 rfl rfl) <| lp rfl (xm v_a0 rfl) ?_
 obtain ⟨c3, H⟩ := qa H
 obtain ⟨c4, H⟩ := qa H
 obtain ⟨c5, H⟩ := qa H
 refine lc rfl rfl Tryz.call16 (jH.calls (w := w1) (a0 := a0) (GV.ext gv e2) (Rd2.ext f_a0 e2) (od c3) (od c4) (od c5)) rfl <| fun w6 e7 => lp rfl (yS rfl) <| lp rfl (qL Tryz.underlying4 rfl rfl) <| lp rfl (qL Tryz.underlying3 rfl rfl) <| yw (.plain rfl) rfl (ltb rfl) rfl Tryz.underlying142 Tryz.sizeOf20 Tryz.zeroValue20 rfl rfl rfl (vs := [(.iface 4 (.bool (decide (4096 < a0.length)))), (.iface 3 (.int .i64 2)), (.iface 4 (.bool (!(qO a0)))), (.iface 3 (.int .i64 1))]) rfl (vh rfl) <| fun b8 w9 z10 z11 e12 k13 => ?_
 obtain ⟨c14, H⟩ := qa H
 obtain ⟨z17, x18, H⟩ := bind_some H
 replace x18 := si x18
 refine lc rfl rfl Tryz.call77 (vT.calls (w := w9) (a0 := ([.inl (decide (4096 < a0.length)), .inr 2, .inl (!(qO a0)), .inr 1] : List (Bool ⊕ Int))) (Ow.rd (Ow.new (xs := [.inl (decide (4096 < a0.length)), .inr 2, .inl (!(qO a0)), .inr 1]) (sz := 1) (enc := (j3 4 3)) (base := w6.heap.size) k13 (Nat.le_of_eq z10) rfl (fun _ _ => by first | rfl | exact Qc _ _ _) (Nat.le_of_ble_eq_true rfl))) (od c14)) rfl <| fun w15 e16 => lp rfl (xa (.int .i64 z17) (congrArg (Value.int .i64) x18)) <| nx <| qr <| qv ?_
 obtain rfl := si H
 exact vo rfl (((e2.t e7).t e12).t e16)
/-! impl.pathCode -/
theorem ja.calls {w : World} {a0 : List (List Rec)} {a1 : List UInt8} (gv : GV 0 w) {v_a0 : Value} (f_a0 : Rd2 5 qg w v_a0 a0) (h0 : a0.length ≤ 1048576) (h1 : ∀ l ∈ a0, l.length ≤ 1048576) (h2 : ∀ l ∈ a0, ∀ x ∈ l, x.path.length ≤ 1048576) :
  Calls Tryz.prog 96 #[v_a0, S a1] w (Rt (RP w (.int .i64 (pathCode a0 a1)))) := by
 have H := ja.eq a0 a1 h0 h1 h2
 generalize (pathCode a0 a1) = r at H ⊢
 unfold ja.sh at H
 refine qh Tryz.func96 rfl (Nat.le_of_ble_eq_true rfl) Tryz.ntmps96 rfl ?_
 refine wr <| lp rfl (xa (.int .i64 0) rfl) <| nx <| wr <| lp rfl (xm (S a1) rfl) <| yw (.plain rfl) rfl (ltb rfl) rfl Tryz.underlying44 Tryz.sizeOf9 Tryz.zeroValue9 rfl rfl rfl (vs := [(S a1)]) rfl (vh rfl) <| fun b1 w2 z3 z4 e5 k6 => ?_
 obtain ⟨c7, H⟩ := qa H
 refine lc rfl rfl Tryz.call103 (jE.calls (w := w2) (a0 := ([a1] : List (List UInt8))) (Ow.rd (Ow.new (xs := [a1]) (sz := 1) (enc := vr) (base := w.heap.size) k6 (Nat.le_of_eq z3) rfl (fun _ _ => by rfl) (Nat.le_of_ble_eq_true rfl))) (od c7)) rfl <| fun w8 e9 => lp rfl (qL Tryz.underlying4 rfl rfl) <| lp rfl (qL Tryz.underlying3 rfl rfl) <| lp rfl (qL Tryz.underlying4 rfl rfl) <| lp rfl (xm v_a0 rfl) ?_
 obtain ⟨c10, H⟩ := qa H
 obtain ⟨c11, H⟩ := qa H
 obtain ⟨c12, H⟩ := qa H
 refine lc rfl rfl Tryz.call58 (yz.calls (w := w8) (a0 := a0) (GV.ext gv (e5.t e9)) (Rd2.ext f_a0 (e5.t e9)) (od c10) (od c11) (od c12)) rfl <| fun w13 e14 => lp rfl (je rfl rfl) <| lp rfl (qL Tryz.underlying4 rfl rfl) <| lp rfl (xm v_a0 rfl) ?_
 obtain ⟨c15, H⟩ := qa H
 obtain ⟨c16, H⟩ := qa H
 obtain ⟨c17, H⟩ := qa H
 refine lc rfl rfl Tryz.call58 (yz.calls (w := w13) (a0 := a0) (GV.ext gv ((e5.t e9).t e14)) (Rd2.ext f_a0 ((e5.t e9).t e14)) (od c15) (od c16) (od c17)) rfl <| fun w18 e19 => lp rfl (qL Tryz.underlying3 rfl rfl) <| lp rfl (xm (S a1) rfl) <| lc rfl rfl Tryz.call101 (y8.calls (w := w18) (a0 := a1) (GV.ext gv (((e5.t e9).t e14).t e19))) rfl <| fun w20 e21 => lp rfl (yS rfl) <| lp rfl (qL Tryz.underlying4 rfl rfl) <| lp rfl (qL Tryz.underlying3 rfl rfl) <| yw (.plain rfl) rfl (ltb rfl) rfl Tryz.underlying142 Tryz.sizeOf20 Tryz.zeroValue20 rfl rfl rfl (vs := [(.iface 4 (.bool (!decide ((stackCode a0) = 0)))), (.iface 3 (.int .i64 (stackCode a0))), (.iface 4 (.bool (!(qy a1)))), (.iface 3 (.int .i64 10))]) rfl (vh rfl) <| fun b22 w23 z24 z25 e26 k27 => ?_
 obtain ⟨c28, H⟩ := qa H
 obtain ⟨z31, x32, H⟩ := bind_some H
 replace x32 := si x32
 refine lc rfl rfl Tryz.call77 (vT.calls (w := w23) (a0 := ([.inl (!decide ((stackCode a0) = 0)), .inr (stackCode a0), .inl (!(qy a1)), .inr 10] : List (Bool ⊕ Int))) (Ow.rd (Ow.new (xs := [.inl (!decide ((stackCode a0) = 0)), .inr (stackCode a0), .inl (!(qy a1)), .inr 10]) (sz := 1) (enc := (j3 4 3)) (base := w20.heap.size) k27 (Nat.le_of_eq z24) rfl (fun _ _ => by first | rfl | exact Qc _ _ _) (Nat.le_of_ble_eq_true rfl))) (od c28)) rfl <| fun w29 e30 => lp rfl (qL Tryz.underlying3 rfl (congrArg (Value.int .i64) x32)) <| yw (.plain rfl) rfl (ltb rfl) rfl Tryz.underlying142 Tryz.sizeOf20 Tryz.zeroValue20 rfl rfl rfl (vs := [(.iface 4 (.bool (([a1] : List (List UInt8)).any fun t => decide (65536 < t.length)))), (.iface 3 (.int .i64 2)), (.iface 4 (.bool true)), (.iface 3 (.int .i64 z31))]) rfl (vh rfl) <| fun b33 w34 z35 z36 e37 k38 => ?_
 obtain ⟨c39, H⟩ := qa H
 obtain ⟨z42, x43, H⟩ := bind_some H
 replace x43 := si x43
 refine lc rfl rfl Tryz.call77 (vT.calls (w := w34) (a0 := ([.inl (([a1] : List (List UInt8)).any fun t => decide (65536 < t.length)), .inr 2, .inl true, .inr z31] : List (Bool ⊕ Int))) (Ow.rd (Ow.new (xs := [.inl (([a1] : List (List UInt8)).any fun t => decide (65536 < t.length)), .inr 2, .inl true, .inr z31]) (sz := 1) (enc := (j3 4 3)) (base := w29.heap.size) k38 (Nat.le_of_eq z35) rfl (fun _ _ => by first | rfl | exact Qc _ _ _) (Nat.le_of_ble_eq_true rfl))) (od c39)) rfl <| fun w40 e41 => lp rfl (xa (.int .i64 z42) (congrArg (Value.int .i64) x43)) <| nx <| qr <| qv ?_
 obtain rfl := si H
 exact vo rfl ((((((((e5.t e9).t e14).t e19).t e21).t e26).t e30).t e37).t e41)
/-! slices.Backward(()()impl.Record,()impl.Record), by text -/
theorem V2.stops {w0 : World} {v : Value} {b0 : Nat} {vs : List Value} (hlen : vs.length ≤ 4611686018427387904) {Kp : World → World → Prop} {H : World → Prop}
    (hH : ∀ W, Below w0.heap.size w0 W → H W) (hK : ∀ W W', H W → Kp W W' → H W') (hHB : ∀ W, H W → Blk W b0 #[v] 23) (hHR : ∀ W, H W → Rd 1 VV W v vs) {n : Nat} :
    SeqStopsK Fence.wide n Tryz.prog 214 #[.pointer (some ⟨b0, 0, none⟩)] (fun i : Fin vs.length => #[.int .i64 (i.val : Int), vs.getD i.val undef]) Kp (fun l => l = y3 vs.length) (fun l => l <+: y3 vs.length) vs.length w0 := by
  letI : Inhabited Value := ⟨undef⟩
  intro l J Jx W hW hJ hJx hY h0
  have hH1 := hH W hW
  have hB1 := hHB W hH1
  have hR1 := hHR W hH1
  refine Yj Tryz.func214 rfl (Nat.le_of_ble_eq_true rfl) Tryz.ntmps214 ?_
  refine QV <| Q2 <| jK yu rfl rfl rfl (ltb rfl) (qH (v := v) Tryz.isAgg23 hB1 rfl rfl) <| jK yu rfl rfl rfl (ltb rfl) (vy Tryz.underlying23 rfl hR1) <| jK yu rfl rfl rfl (ltb rfl) (jl rfl rfl) <|
    jK yu rfl rfl rfl (ltb rfl) (qG (v := .int .i64 ((vs.length : Int) - 1)) (congrArg (Value.int .i64) (Go.UL.wrap_small (by omega) (by omega)))) <| Q8 ?_
  refine YN <| WI_loop (fun m σ W' => σ 3 = .int .i64 ((m : Int) - 1) ∧ σ 0 = .func (.yield l) #[] #[] ∧ σ 1 = .pointer (some ⟨b0, 0, none⟩) ∧ m ≤ vs.length ∧ J ((y3 vs.length).take (vs.length - m)) W' ∧ H W') vs.length ⟨rfl, rfl, rfl, Nat.le_refl _, by simpa using h0, hH1⟩ ?_
  rintro m σ W' ⟨h3, h00, h1, hm, hj, hH2⟩
  have hB2 := hHB _ hH2
  have hR2 := hHR _ hH2
  refine QV <| QV <| Q2 <| jK yu rfl rfl rfl (ltb rfl) (qc h3) <| jK yu rfl rfl rfl (ltb rfl) (QY rfl rfl) <| Q8 ?_
  refine JF (decide ((0 : Int) ≤ (m : Int) - 1)) rfl (fun hm1 => GY ?_) (fun hm1 => WI_exit ?_)
  · have hm2 : (0 : Int) ≤ (m : Int) - 1 := od hm1
    obtain ⟨m, rfl⟩ : ∃ j, m = j + 1 := ⟨m - 1, by omega⟩
    have e1 : ((m + 1 : Nat) : Int) - 1 = (m : Int) := by omega
    have hlt : m < vs.length := by omega
    have hin : inR (((m + 1 : Nat) : Int) - 1) vs.length = true := by rw [e1]; exact qT hlt
    have hg : gt vs (((m + 1 : Nat) : Int) - 1) = vs.getD m undef := by rw [e1]; rfl
    refine QV <| YN <| QV <| Q2 <| jK yu rfl rfl rfl (ltb rfl) (qc h00) <| jK yu rfl rfl rfl (ltb rfl) (qc h3) <| jK yu rfl rfl rfl (ltb rfl) (qH (v := v) Tryz.isAgg23 hB2 h1 rfl) <| jK yu rfl rfl rfl (ltb rfl) (qc h3) <|
      LI_idx yu rfl rfl rfl (ltb rfl) rfl Tryz.underlying23 Tryz.sizeOf35 rfl hR2 rfl hin <| fun p hA => jK yu rfl rfl rfl (ltb rfl) (qQ (v := vs.getD m undef) Tryz.isAgg35 rfl hA (by rw [hg]; rfl)) <| ?_
    have hpre : ((y3 vs.length).take (vs.length - (m + 1))).length < vs.length := by simp [y3]; omega
    refine LI_yield yu (vs := #[.int .i64 (((m + 1 : Nat) : Int) - 1), vs.getD m undef]) (A := fun b w1 => (b = true ∧ J ((y3 vs.length).take (vs.length - m)) w1 ∧ Kp W' w1) ∨ (b = false ∧ Jx ((y3 vs.length).take (vs.length - m)) w1)) rfl rfl (ltb rfl) rfl rfl rfl rfl ?_ ?_
    · obtain ⟨fn, tmps, assign, body, hy, hRd⟩ := hY _ ⟨m, hlt⟩ W' hj hpre
      rw [e1]
      refine ⟨fn, tmps, assign, body, hy, RoundIn.mono hRd fun e w1 hr => ?_⟩
      rw [XS vs.length m hlt] at hr
      rcases hr with ⟨rfl, hj', hk⟩ | ⟨rfl, hj'⟩
      · exact ⟨true, rfl, .inl ⟨rfl, hj', hk⟩⟩
      · exact ⟨false, rfl, .inr ⟨rfl, hj'⟩⟩
    · intro b w1 hb
      refine jK yu rfl rfl rfl (ltb rfl) (yS rfl) <| Q8 ?_
      rcases hb with ⟨rfl, hj', hk⟩ | ⟨rfl, hj'⟩
      · have hH3 := hK _ _ hH2 hk
        refine JF false rfl (fun h => by cases h) (fun _ => GY ?_)
        refine Q2 <| jK yu rfl rfl rfl (ltb rfl) (qc h3) <| jK yu rfl rfl rfl (ltb rfl) (jl rfl rfl) <| jK yu rfl rfl rfl (ltb rfl) (qG (v := .int .i64 ((m : Int) - 1)) (congrArg (Value.int .i64) (by rw [e1]; exact Go.UL.wrap_small (by omega) (by omega)))) <| Q8 ?_
        exact ⟨rfl, m, by omega, rfl, h00, h1, by omega, hj', hH3⟩
      · refine JF true rfl (fun _ => G0 ?_) (fun h => by cases h)
        exact ⟨.inr rfl, .inl ⟨rfl, .tuple #[], fun tmps _ => results_none (fn := Tryz.f214) rfl tmps _ _, ⟨_, rfl⟩, .inr ⟨_, downTo_pre _ _, hj'⟩⟩⟩
  · have hm2 : ¬ (0 : Int) ≤ (m : Int) - 1 := of_decide_eq_false hm1
    have hm0 : m = 0 := by omega
    subst hm0
    have hf : (y3 vs.length).take (vs.length - 0) = y3 vs.length := by rw [Nat.sub_zero]; exact List.take_of_length_le (by simp [y3])
    rw [hf] at hj
    exact ⟨.inl rfl, .inl ⟨rfl, .tuple #[], fun tmps _ => results_none (fn := Tryz.f214) rfl tmps _ _, ⟨_, rfl⟩, .inl ⟨_, rfl, hj⟩⟩⟩
theorem YI.calls {w : World} {v : Value} {A : Option Addr} {len cap : Nat} (hv : v = .slice A len cap) :
    Calls Tryz.prog 164 #[v] w (Rt (fun u w' => Ext w w' ∧ ∃ b, w.heap.size ≤ b ∧ Blk w' b #[v] 23 ∧ u = .func (.func 214) #[] #[.pointer (some ⟨b, 0, none⟩)])) := by
  refine qh Tryz.func164 rfl (Nat.le_of_ble_eq_true rfl) Tryz.ntmps164 rfl ?_
  refine wr <| Ve (.plain rfl) rfl (ltb rfl) rfl rfl <| fun b w1 hb hb1 he hB => lp rfl (qG rfl) <| nx <| wr <| lp rfl (Q6 (vs := #[]) (us := #[.pointer (some ⟨b, 0, none⟩)]) rfl rfl) <|
    lp rfl (qG rfl) <| nx <| qr <| qv ?_
  refine ⟨_, rfl, he, b, by omega, ?_, rfl⟩
  subst hv
  exact hB

/-! impl.cutDepth, by text -/
theorem Ym.calls {w : World} {a0 : List (List Rec)} {a1 : List UInt8} {v_a0 : Value} (f_a0 : Rd2 5 qg w v_a0 a0) (h0 : a0.length ≤ 1048576) (h1 : a1.length ≤ 1048576) (h2 : ∀ l ∈ a0, l.length ≤ 1048576) :
    Calls Tryz.prog 99 #[v_a0, S a1] w (Rt (RP w (.int .i64 (jT a0 a1)))) := by
  letI : Inhabited Value := ⟨undef⟩
  have hcs := f_a0.shape
  obtain ⟨vs, hl, hR, hi⟩ := f_a0
  obtain ⟨A0, c0, hv0⟩ := hcs
  refine callsIn_wide.1 (Yj (n := 3) Tryz.func99 rfl (Nat.le_of_ble_eq_true rfl) Tryz.ntmps99 ?_)
  refine QV <| Q2 <| LI_box yu rfl rfl rfl (ltb rfl) rfl rfl <| fun b3 w1 hz1 hz1' e1 k3 => LI_alloc yu rfl rfl rfl (ltb rfl) rfl Tryz.zeroValue3 <| fun b4 w2 hz2 hz2' e2 k4 => Q8 ?_
  refine QV <| QV <| Q2 <| jK yu rfl rfl rfl (ltb rfl) (xm v_a0 rfl) <| XP yu (vs := #[v_a0]) rfl rfl (ltb rfl) rfl Tryz.call164 (YI.calls hv0) rfl <| fun u w3 hA => ?_
  obtain ⟨e3, b8, hb8, k8, rfl⟩ := hA
  refine Q8 ?_
  have eA : Ext w w3 := Ext.trans (e1.t e2) e3
  have k3' : Blk w3 b3 #[S a1] 9 := k3.ext (e2.t e3)
  have k4' : Blk w3 b4 #[.int .i64 0] 3 := k4.ext e3
  have hne : w.heap.size ≤ b4 := by have := e1.size; omega
  refine YN <| WI_range (n := 3) (α := Fin vs.length) (by omega) (gf := 214) rfl Tryz.call214
    (V2.stops (w0 := w3) (v := v_a0) (b0 := b8) (vs := vs) (by omega) (Kp := Below w3.heap.size) (H := Below w3.heap.size w3) (fun _ h => h) (fun _ _ h k => h.trans k) (fun W h => k8.ext h) (fun W h => (hR.ext eA).ext h) (n := 3 - 1))
    (fun h k => h.trans k) (belowK_b (Nat.le_refl _)) (Below.refl _ _) (fun _ => rfl)
    (fun pre W => Ext w3 W ∧ ∀ i ∈ pre, QB (a0.getD i.val default) a1 = false)
    (fun c pre W => c = .ret ∧ ∃ i p, pre = p ++ [i] ∧ (∀ j ∈ p, QB (a0.getD j.val default) a1 = false) ∧ QB (a0.getD i.val default) a1 = true ∧ Ext w W ∧ Blk W b4 #[.int .i64 ((i.val : Int) + 1)] 3)
    ?_ ?_ ⟨Ext.refl _, by simp⟩
    (fun i => upd (upd (upd (upd (upd (upd (upd (upd (fun t => (#[v_a0, S a1] : Array Value).getD t undef) 3 (.pointer (some ⟨b3, 0, none⟩))) 4 (.pointer (some ⟨b4, 0, none⟩))) 7 v_a0) 8 (.func (.func 214) #[] #[.pointer (some ⟨b8, 0, none⟩)])) 9 (.int .i64 (i.val : Int))) 10 (vs.getD i.val undef)) 5 (.int .i64 (i.val : Int))) 6 (vs.getD i.val undef))
    ?_ ?_ ?_ ?_ ?_
  · intro s W W' row hs hg hr
    exact ⟨hs.1.grow hg (Nat.le_refl _) hr, hs.2⟩
  · intro c s W W' row hs hg hr
    obtain ⟨hc, i, p, h1, h2, h3, h4, h5⟩ := hs
    exact ⟨hc, i, p, h1, h2, h3, h4.grow hg eA.size hr, h5.grow hg hr⟩
  · intro hf x
    exact JC (by decide) (JC (by decide) (JC (by decide) (JC (by decide) hf)))
  · intro l x W a K ha hK
    refine ⟨_, ha.two 9 10 (by decide) (by decide) (.int .i64 (x.val : Int)) (vs.getD x.val undef), ?_⟩
    refine QV <| Q2 <| jK (Qh l) rfl rfl rfl (ltb rfl) (qG rfl) <| Q8 <| ?_
    exact Q2 <| jK (Qh l) rfl rfl rfl (ltb rfl) (qG rfl) <| Q8 hK
  · rintro l pre x W ⟨eW, hpre⟩ hlen
    have hx : x.val < a0.length := by have := x.isLt; omega
    have hu : Rd 5 qg W (vs.getD x.val undef) (a0.getD x.val default) := by
      have := hi x.val vs[x.val] a0[x.val] (List.getElem?_eq_getElem x.isLt) (List.getElem?_eq_getElem hx)
      have e : vs.getD x.val undef = vs[x.val] := by simp [List.getD_eq_getElem?_getD]
      rw [e, vY hx]
      exact (this.ext eA).ext eW
    have hlx : (a0.getD x.val default).length ≤ 1048576 := by rw [vY hx]; exact h2 _ (List.getElem_mem hx)
    refine YN <| QV <| Q2 <| jK (Qh l) rfl rfl rfl (ltb rfl) (qc (v := vs.getD x.val undef) rfl) <| jK (Qh l) rfl rfl rfl (ltb rfl) (qH (v := S a1) Tryz.isAgg9 (k3'.ext eW) rfl rfl) <|
      XP (Qh l) (vs := #[vs.getD x.val undef, S a1]) rfl rfl (ltb rfl) rfl Tryz.call165 (QI.calls (w := W) (a0 := a0.getD x.val default) (a1 := a1) hu hlx h1) rfl <| fun u w5 hA => ?_
    obtain ⟨e5, rfl⟩ := hA
    refine Q8 ?_
    refine JF (QB (a0.getD x.val default) a1) rfl (fun hc => ?_) (fun hc => GY ?_)
    · refine QV <| Q2 <| jK (Qh l) rfl rfl rfl (ltb rfl) (qc (v := .int .i64 (x.val : Int)) rfl) <| jK (Qh l) rfl rfl rfl (ltb rfl) (vW rfl rfl) <|
        GH (Qh l) rfl rfl rfl Tryz.sizeOf3 rfl rfl rfl ((k4'.ext eW).ext e5) (ltb rfl) <| fun w6 hw6 k6 => Q8 <| G0 ?_
      refine ⟨(GT e5).trans (XF hw6 ((k4'.ext eW).ext e5)), rfl, x, pre, rfl, hpre, hc, Ext.wr (Ext.trans (Ext.trans eA eW) e5) hw6 hne (Nat.le_refl _), ?_⟩
      have e : IntKind.wrap .i64 ((x.val : Int) + 1) = (x.val : Int) + 1 := Go.UL.wrap_small (by omega) (by omega)
      rw [← e]; exact k6
    · refine ⟨GT e5, e5.mono eW.size, Ext.trans eW e5, ?_⟩
      intro i hi
      rcases List.mem_append.1 hi with h | h
      · exact hpre i h
      · obtain rfl := List.mem_singleton.1 h; exact hc
  · rintro D xs W hD hS ⟨eW, hpre⟩ hk
    refine QV <| Q2 <| GH yu rfl rfl rfl Tryz.sizeOf3 rfl rfl rfl (k4'.ext eW) (ltb rfl) <| fun w6 hw6 k6 => Q8 <| G0 ?_
    have hz : jT a0 a1 = 0 := cutDN_none a0.length fun j hj => hpre ⟨j, by omega⟩ (by rw [hS]; exact downTo_all _)
    have hk6 : w6.heap[D]? = some (.deferred (some [])) := (XF hw6 (k4'.ext eW)).same D _ hk rfl
    have e6 : Ext w w6 := Ext.wr (Ext.trans eA eW) hw6 hne (Nat.le_refl _)
    refine ⟨.inr rfl, .inr ⟨D, rfl, hk6, .int .i64 0, fun tmps hg => GS rfl Tryz.isAgg3 (Xu k6 _ hk6) tmps (hg 4), ⟨_, rfl, Xw e6 (by have := eA.size; omega) _ hk6, by rw [hz]⟩⟩⟩
  · rintro D c pre W hD hS ⟨rfl, i, p, rfl, h3, h4, h5, h6⟩ hk
    refine G0 ?_
    have hz : jT a0 a1 = (i.val : Int) + 1 := cutDN_some a0.length (by have := i.isLt; omega) h4 fun j hj1 hj2 => h3 ⟨j, by omega⟩ (Xj hS ⟨j, by omega⟩ hj1)
    exact ⟨.inr rfl, .inr ⟨D, rfl, hk, _, fun tmps hg => GS rfl Tryz.isAgg3 (Xu h6 _ hk) tmps (hg 4), ⟨_, rfl, Xw h5 (by have := eA.size; omega) _ hk, by rw [hz]⟩⟩⟩

/-! impl.CutDepth -/
theorem yJ.walk {w : World} {a0 : List (List Rec)} {a1 : List UInt8} (gv : GV 0 w) {v_a0 : Value} (f_a0 : Rd2 5 qg w v_a0 a0) {r : Int × Int} (H : yJ.sh a0 a1 = some r) :
  Calls Tryz.prog 35 #[v_a0, S a1] w (Rt (RP w (.tuple #[.int .i64 r.1, .int .i64 r.2]))) := by
 unfold yJ.sh at H
 refine qh Tryz.func35 rfl (Nat.le_of_ble_eq_true rfl) Tryz.ntmps35 rfl ?_
 refine wr <| lp rfl (xa (.int .i64 0) rfl) <| lp rfl (xa (.int .i64 0) rfl) <| nx <| qk <| wr <| lp rfl (xm v_a0 rfl) <| lp rfl (xm (S a1) rfl) ?_
 obtain ⟨c1, H⟩ := qa H
 obtain ⟨c2, H⟩ := qa H
 obtain ⟨c3, H⟩ := qa H
 refine lc rfl rfl Tryz.call96 (ja.calls (w := w) (a0 := a0) (a1 := a1) gv f_a0 (od c1) (od c2) (od c3)) rfl <| fun w4 e5 => lp rfl (xa (.int .i64 (pathCode a0 a1)) rfl) <| nx <| wr <| lp rfl (xm (.int .i64 (pathCode a0 a1)) rfl) <| lp rfl (je rfl rfl) <| nx ?_
 rcases qf H with ⟨q6, H⟩ | ⟨q6, H⟩
 ·refine qp (cb q6) <| wr <| lp rfl (xm (.int .i64 (pathCode a0 a1)) rfl) <| lp rfl (xa (.int .i64 0) rfl) <| lp rfl (xa (.int .i64 (pathCode a0 a1)) rfl) <| nx <| qr <| qo <| qv ?_
  obtain rfl := si H
  exact VN rfl rfl e5
 ·refine qi (cb q6) <| qq <| qd <| wr <| lp rfl (xm v_a0 rfl) <| lp rfl (xm (S a1) rfl) ?_
  obtain ⟨c7, H⟩ := qa H
  obtain ⟨c8, H⟩ := qa H
  obtain ⟨c9, H⟩ := qa H
  refine lc rfl rfl Tryz.call99 (Ym.calls (w := w4) (a0 := a0) (a1 := a1) (Rd2.ext f_a0 e5) (od c7) (od c8) (od c9)) rfl <| fun w10 e11 => lp rfl (xa (.int .i64 (jT a0 a1)) rfl) <| lp rfl (xa (.int .i64 0) rfl) <| nx <| qr <| qv ?_
  obtain rfl := si H
  exact VN rfl rfl (e5.t e11)
theorem yJ.calls {w : World} {a0 : List (List Rec)} {a1 : List UInt8} (gv : GV 0 w) {v_a0 : Value} (f_a0 : Rd2 5 qg w v_a0 a0) (h0 : a0.length ≤ 1048576) (h1 : ∀ l ∈ a0, l.length ≤ 1048576) (h2 : ∀ l ∈ a0, ∀ x ∈ l, x.path.length ≤ 1048576) :
  Calls Tryz.prog 35 #[v_a0, S a1] w (Rt (RP w (.tuple #[.int .i64 ((cutDepth a0 a1).1), .int .i64 ((cutDepth a0 a1).2)]))) := yJ.walk gv f_a0 (yJ.eq a0 a1 h0 h1 h2)
/-! spec.l07Winner -/
theorem qV.walk {k : Nat} {w : World} {a0 : List (List Rec)} {a1 : List UInt8} {v_a0 : Value} (f_a0 : Rd2 5 qg w v_a0 a0) {r : Rec × Int} (H : qV.sh k a0 a1 = some r) :
  Calls Tryz.prog 98 #[v_a0, S a1] w (Rt (RP w (.tuple #[.agg (qg r.1).toArray, .int .i64 r.2]))) := by
 unfold qV.sh at H
 refine Qf Tryz.func98 rfl (Nat.le_of_ble_eq_true rfl) Tryz.ntmps98 ?_
 refine wr <| y5 (.plain rfl) rfl (ltb rfl) rfl Tryz.zeroValue52 <| fun b1 w2 z3 z4 e5 k6 => lp rfl (xa (.int .i64 0) rfl) <| nx <| wr <| lp rfl (xm v_a0 rfl) <| lp rfl (xm (S a1) rfl) ?_
 obtain ⟨c7, H⟩ := qa H
 obtain ⟨c8, H⟩ := qa H
 obtain ⟨c9, H⟩ := qa H
 refine lc rfl rfl Tryz.call100 (yn.calls (w := w2) (a0 := a0) (a1 := a1) (Rd2.ext f_a0 e5) (od c7) (od c8) (od c9)) rfl <| fun w10 e11 => lp rfl (GW rfl rfl) <| lp rfl (xa (.int .i64 (if ((jT a0 a1) < 1 : Prop) then 1 else (jT a0 a1))) rfl) <| nx <| wr <| lp rfl (yR (vs := []) (pl := #[(0, 1), (1, 1), (2, 1), (3, 1), (4, 1)]) Tryz.underlying52 Tryz.zeroValue52 rfl (fun _ => by kernel_rfl) rfl rfl rfl) <| y5 (.plain rfl) rfl (ltb rfl) rfl Tryz.zeroValue52 <| fun b12 w13 z14 z15 e16 k17 => vk (.plain rfl) rfl rfl Tryz.sizeOf52 rfl rfl rfl rfl rfl k17 <| fun w18 h19 k20 => nx <| wr <| lp rfl (xa (.int .i64 0) rfl) <| nx <| qk <| wr <| lp rfl (xm v_a0 rfl) <| lp rfl (jR Tryz.underlying23 rfl (Rd2.ext f_a0 ((e5.t e11).t (Below.trans e16 (Wr.below h19 (Nat.le_of_eq z14)))))) <| lp rfl (xa (.int .i64 (a0.length : Int)) rfl) <| nx ?_
 obtain ⟨z24, L25, C26⟩ := bind_some H
 clear H
 refine  vH (fun s0 sQ wQ => ∃ (x8_27 : Int) (y28 : Rec), Kp [(5, 6), (8, 12), (19, 53)] s0 sQ ∧ sQ 8 = .int .i64 x8_27 ∧ Blk wQ b12 (qg y28).toArray 52 ∧ Ext w10 wQ ∧ z24 = .inr (x8_27, y28)) ?_ ?_
 ·refine qF <| vB (fun s0 kk sQ wQ => ∃ (x8_21 : Int) (x9_22 : Int) (y23 : Rec), Kp [(5, 6), (8, 12), (19, 53)] s0 sQ ∧ sQ 8 = .int .i64 x8_21 ∧ sQ 9 = .int .i64 x9_22 ∧ Blk wQ b12 (qg y23).toArray 52 ∧ Ext w10 wQ ∧ qn (qV.b1 a0 a1) kk (x8_21, x9_22, y23) = some z24) k ⟨0, (a0.length : Int), (⟨0, ([] : List UInt8), ([] : List UInt8), 0, false⟩ : Rec), kz, rfl, rfl, k20, (Below.trans e16 (Wr.below h19 (Nat.le_of_eq z14))), L25⟩ ?_
  rintro k33 s34 w35 ⟨x8_21, x9_22, y23, K36, h39, h40, h41, e37, L38⟩
  cases k33 with
  | zero => exact absurd L38 (by simp [qn])
  | succ k33 =>
   obtain ⟨t42, H, S43⟩ := qN L38
   clear L38
   unfold qV.b1 at H
   refine qk <| wr <| lp rfl (qc h40) <| lp rfl (xm (.int .i64 (if ((jT a0 a1) < 1 : Prop) then 1 else (jT a0 a1))) (K36 6 rfl)) <| lp rfl (QY rfl rfl) <| nx ?_
   rcases qf H with ⟨q44, H⟩ | ⟨q44, H⟩
   ·refine qp (cb q44) <| qq <| qd <| qk <| qF <| wr <| lp rfl (xm v_a0 (K36 0 rfl)) <| lp rfl (qc h40) <| lp rfl (jl rfl rfl) ?_
    obtain ⟨c45, H⟩ := qa H
    refine Vk (.plain rfl) rfl (ltb rfl) rfl Tryz.underlying23 Tryz.sizeOf35 rfl (Rd2.ext f_a0 ((e5.t e11).t e37)) rfl c45 <| fun p46 v48 h47 h49 => lp rfl (qQ Tryz.isAgg35 rfl h47 rfl) <| lp rfl (xm (S a1) (K36 1 rfl)) ?_
    obtain ⟨c50, H⟩ := qa H
    refine lc rfl rfl Tryz.call162 (yc.calls (w := w35) (a0 := gt a0 (IntKind.wrap .i64 (x9_22 - 1))) (a1 := a1) h49 (od c50)) rfl <| fun w51 e52 => lp rfl (xa (.int .i64 (qt (gt a0 (IntKind.wrap .i64 (x9_22 - 1))) a1)) rfl) <| nx <| qk <| wr <| lp rfl (xm (.int .i64 (qt (gt a0 (IntKind.wrap .i64 (x9_22 - 1))) a1)) rfl) <| lp rfl (yH rfl rfl) <| nx ?_
    rcases qf H with ⟨q53, H⟩ | ⟨q53, H⟩
    ·refine qp (cb q53) <| vL <| vd <| yE <| qd <| qJ <| lp rfl (qc h40) <| lp rfl (jl rfl rfl) <| lp rfl (xa (.int .i64 (IntKind.wrap .i64 (x9_22 - 1))) rfl) <| nx ?_
     obtain rfl := si H
     exact ⟨_, Nat.lt_succ_self _, x8_21, IntKind.wrap .i64 (x9_22 - 1), y23, (ku8 (ku8 K36 rfl) rfl), h39, rfl, (Blk.ext h41 e52), (e37.t e52), S43⟩
    ·refine qi (cb q53) <| qq <| qd <| wr <| lp rfl (xm v_a0 (K36 0 rfl)) <| lp rfl (qc h40) <| lp rfl (jl rfl rfl) ?_
     obtain ⟨c54, H⟩ := qa H
     refine Vk (.plain rfl) rfl (ltb rfl) rfl Tryz.underlying23 Tryz.sizeOf35 rfl (Rd2.ext f_a0 (((e5.t e11).t e37).t e52)) rfl c54 <| fun p55 v57 h56 h58 => lp rfl (qQ Tryz.isAgg35 rfl h56 rfl) <| lp rfl (xm (.int .i64 (qt (gt a0 (IntKind.wrap .i64 (x9_22 - 1))) a1)) rfl) ?_
     obtain ⟨c59, H⟩ := qa H
     refine vw (.plain rfl) rfl (ltb rfl) rfl Tryz.underlying35 Tryz.sizeOf52 rfl h58 rfl c59 <| fun p60 h61 => lp rfl (vC Tryz.isAgg52 Tryz.sizeOf52 rfl rfl h61) <| y5 (.plain rfl) rfl (ltb rfl) rfl Tryz.zeroValue52 <| fun b62 w63 z64 z65 e66 k67 => vk (.plain rfl) rfl rfl Tryz.sizeOf52 rfl rfl rfl rfl rfl k67 <| fun w68 h69 k70 => nx <| qk <| wr <| lp rfl (qc h39) <| lp rfl (yZ rfl rfl) <| nx ?_
     rcases qf H with ⟨q71, H⟩ | ⟨q71, H⟩
     ·refine qp (cb q71) <| wr <| lp rfl (vC Tryz.isAgg52 Tryz.sizeOf52 rfl rfl (Blk.at0 k70)) <| vk (.plain rfl) rfl rfl Tryz.sizeOf52 (K36 7 rfl) rfl rfl rfl rfl (Blk.ext h41 (e52.t (Below.trans e66 (Wr.below h69 (Nat.le_of_eq z64))))) <| fun w72 h73 k74 => nx <| qJ <| lp rfl (qc h40) <| lp rfl (xa (.int .i64 x9_22) rfl) <| nx <| wr <| lp rfl (vC Tryz.isAgg52 Tryz.sizeOf52 rfl rfl (Blk.at0 (Wr.blk h73 k70 (fun e9 => by have e8 : b62 = b12 := e9; clear e9; have h9 := Blk.lt (Blk.ext h41 e52); have h8 := z64; omega)))) ?_
      obtain ⟨z77, x78, H⟩ := bind_some H
      replace x78 := si x78
      refine lc rfl rfl Tryz.call163 (y7.calls (w := w72) (a0 := (gt (gt a0 (IntKind.wrap .i64 (x9_22 - 1))) (qt (gt a0 (IntKind.wrap .i64 (x9_22 - 1))) a1)))) rfl <| fun w75 e76 => nx ?_
      rcases qf H with ⟨q79, H⟩ | ⟨q79, H⟩
      ·refine qp ((cb x78).trans (cb q79)) <| wr <| lp rfl (qe Tryz.underlying52 rfl Tryz.sizeOf3 rfl (K36 7 rfl)) <| lp rfl (qH Tryz.isAgg3 (Blk.ext k74 e76) rfl rfl) <| lp rfl (yZ rfl rfl) <| lp rfl (qe Tryz.underlying52 rfl Tryz.sizeOf4 rfl (K36 7 rfl)) <| Qw (.plain rfl) rfl rfl Tryz.sizeOf4 rfl rfl rfl (Blk.ext k74 e76) (ltb rfl) <| fun w80 h81 k82 => nx <| wr <| lp rfl (vC Tryz.isAgg52 Tryz.sizeOf52 rfl (K36 7 rfl) (Blk.at0 k82)) <| lp rfl (xm (.int .i64 x9_22) rfl) <| vk (.plain rfl) rfl rfl Tryz.sizeOf52 (K36 4 rfl) rfl rfl rfl rfl (Blk.ext k6 (e11.t (Below.trans (Ext.trans (Below.trans ((e37.t e52).t (Below.trans e66 (Wr.below h69 (Nat.le_of_eq z64)))) (Wr.below h73 (Nat.le_of_eq z14))) e76) (Wr.below h81 (Nat.le_of_eq z14))))) <| fun w83 h84 k85 => lp rfl (xa (.int .i64 x9_22) rfl) <| nx <| qr <| vi <| qo <| qo <| vi <| qo <| qo <| jA ?_
       obtain rfl := si H
       obtain rfl := si S43
       have H := C26
       obtain rfl := si H
       exact XQ rfl (K36 4 rfl) k85 Tryz.isAgg52 Tryz.sizeOf52 rfl rfl (Below.trans ((e5.t e11).t (Below.trans (Ext.trans (Below.trans ((e37.t e52).t (Below.trans e66 (Wr.below h69 (Nat.le_of_eq z64)))) (Wr.below h73 (Nat.le_of_eq z14))) e76) (Wr.below h81 (Nat.le_of_eq z14)))) (Wr.below h84 (Nat.le_of_eq z3)))
      ·refine qi ((cb x78).trans (cb q79)) <| qq <| ye <| qd <| qJ <| lp rfl (qc h40) <| lp rfl (jl rfl rfl) <| lp rfl (xa (.int .i64 (IntKind.wrap .i64 (x9_22 - 1))) rfl) <| nx ?_
       obtain rfl := si H
       exact ⟨_, Nat.lt_succ_self _, x9_22, IntKind.wrap .i64 (x9_22 - 1), (gt (gt a0 (IntKind.wrap .i64 (x9_22 - 1))) (qt (gt a0 (IntKind.wrap .i64 (x9_22 - 1))) a1)), (ku8 (ku8 (ku8 (ku8 K36 rfl) rfl) rfl) rfl), rfl, rfl, (Blk.ext k74 e76), (Ext.trans (Below.trans ((e37.t e52).t (Below.trans e66 (Wr.below h69 (Nat.le_of_eq z64)))) (Wr.below h73 (Nat.le_of_eq z14))) e76), S43⟩
     ·refine qi (cb q71) <| qq <| qd <| wr <| lp rfl (vC Tryz.isAgg52 Tryz.sizeOf52 rfl rfl (Blk.at0 k70)) ?_
      obtain ⟨z88, x89, H⟩ := bind_some H
      replace x89 := si x89
      refine lc rfl rfl Tryz.call163 (y7.calls (w := w68) (a0 := (gt (gt a0 (IntKind.wrap .i64 (x9_22 - 1))) (qt (gt a0 (IntKind.wrap .i64 (x9_22 - 1))) a1)))) rfl <| fun w86 e87 => nx ?_
      rcases qf H with ⟨q90, H⟩ | ⟨q90, H⟩
      ·refine qp ((cb x89).trans (cb q90)) <| wr <| lp rfl (qe Tryz.underlying52 rfl Tryz.sizeOf3 rfl (K36 7 rfl)) <| lp rfl (qH Tryz.isAgg3 (Blk.ext h41 ((e52.t (Below.trans e66 (Wr.below h69 (Nat.le_of_eq z64)))).t e87)) rfl rfl) <| lp rfl (yZ rfl rfl) <| lp rfl (qe Tryz.underlying52 rfl Tryz.sizeOf4 rfl (K36 7 rfl)) <| Qw (.plain rfl) rfl rfl Tryz.sizeOf4 rfl rfl rfl (Blk.ext h41 ((e52.t (Below.trans e66 (Wr.below h69 (Nat.le_of_eq z64)))).t e87)) (ltb rfl) <| fun w91 h92 k93 => nx <| wr <| lp rfl (vC Tryz.isAgg52 Tryz.sizeOf52 rfl (K36 7 rfl) (Blk.at0 k93)) <| lp rfl (qc h39) <| vk (.plain rfl) rfl rfl Tryz.sizeOf52 (K36 4 rfl) rfl rfl rfl rfl (Blk.ext k6 (e11.t (Below.trans (((e37.t e52).t (Below.trans e66 (Wr.below h69 (Nat.le_of_eq z64)))).t e87) (Wr.below h92 (Nat.le_of_eq z14))))) <| fun w94 h95 k96 => lp rfl (xa (.int .i64 x8_21) rfl) <| nx <| qr <| vi <| qo <| qo <| vi <| qo <| qo <| jA ?_
       obtain rfl := si H
       obtain rfl := si S43
       have H := C26
       obtain rfl := si H
       exact XQ rfl (K36 4 rfl) k96 Tryz.isAgg52 Tryz.sizeOf52 rfl rfl (Below.trans ((e5.t e11).t (Below.trans (((e37.t e52).t (Below.trans e66 (Wr.below h69 (Nat.le_of_eq z64)))).t e87) (Wr.below h92 (Nat.le_of_eq z14)))) (Wr.below h95 (Nat.le_of_eq z3)))
      ·refine qi ((cb x89).trans (cb q90)) <| qq <| ye <| qd <| qJ <| lp rfl (qc h40) <| lp rfl (jl rfl rfl) <| lp rfl (xa (.int .i64 (IntKind.wrap .i64 (x9_22 - 1))) rfl) <| nx ?_
       obtain rfl := si H
       exact ⟨_, Nat.lt_succ_self _, x8_21, IntKind.wrap .i64 (x9_22 - 1), y23, (ku1 (ku4 (ku8 (ku8 (ku8 K36 rfl) rfl) rfl) rfl) rfl), h39, rfl, (Blk.ext h41 ((e52.t (Below.trans e66 (Wr.below h69 (Nat.le_of_eq z64)))).t e87)), (((e37.t e52).t (Below.trans e66 (Wr.below h69 (Nat.le_of_eq z64)))).t e87), S43⟩
   ·refine qi (cb q44) <| vL <| vd <| vd <| yE <| qd ?_
    obtain rfl := si H
    obtain rfl := si S43
    exact ⟨x8_21, y23, (ku3 K36 rfl), h39, h41, e37, rfl⟩
 ·rintro s30 w29 ⟨x8_27, y28, K31, h97, h98, e32, y99⟩
  rw [y99] at C26
  have H := C26
  replace H : _ = some _ := H
  refine qd <| wr <| lp rfl (vC Tryz.isAgg52 Tryz.sizeOf52 rfl (K31 7 rfl) (Blk.at0 h98)) <| lp rfl (qc h97) <| vk (.plain rfl) rfl rfl Tryz.sizeOf52 (K31 4 rfl) rfl rfl rfl rfl (Blk.ext k6 (e11.t e32)) <| fun w100 h101 k102 => lp rfl (xa (.int .i64 x8_27) rfl) <| nx <| qr <| jA ?_
  obtain rfl := si H
  exact XQ rfl (K31 4 rfl) k102 Tryz.isAgg52 Tryz.sizeOf52 rfl rfl (Below.trans ((e5.t e11).t e32) (Wr.below h101 (Nat.le_of_eq z3)))
theorem qV.calls {w : World} {a0 : List (List Rec)} {a1 : List UInt8} {v_a0 : Value} (f_a0 : Rd2 5 qg w v_a0 a0) (h0 : qO a0 = true) (h1 : a0.length ≤ 1048576) (h2 : a1.length ≤ 1048576) (h3 : ∀ l ∈ a0, l.length ≤ 1048576) :
  Calls Tryz.prog 98 #[v_a0, S a1] w (Rt (RP w (.tuple #[.agg (qg ((winner a0 a1).1)).toArray, .int .i64 ((winner a0 a1).2)]))) := by
 obtain ⟨k, h⟩ := qV.eq a0 a1 h0 h1 h2 h3
 exact qV.walk f_a0 h
end Go.Proofs.YtdhmlillkbjjjaaGreatDoor
