/- The walks, by program (wip/tools). -/
import Derived.Test.YtdhmlillkbjjjaaGreatDoorProg
import Derived.Test.YtdhmlillkbjjjaaGreatDoorKJ
import Derived.Test.YtdhmlillkbjjjaaGreatDoorKL
import Derived.Test.YtdhmlillkbjjjaaGreatDoorqSrt
import Derived.Test.YtdhmlillkbjjjaaGreatDoorqH
set_option linter.unusedVariables false
set_option linter.unusedSimpArgs false
set_option maxRecDepth 10000
namespace Go.Proofs.YtdhmlillkbjjjaaGreatDoor
open Go.UL Go.RowKit
theorem El.t23 : ElemI Tryz.prog 23 35 1 24 (.slice none 0 0) := ElemI.mk' Tryz.underlying23 (by kernel_rfl) rfl rfl rfl
theorem El.t29 : ElemI Tryz.prog 29 91 4 48 (.agg #[.int .i64 0, .string ⟨#[]⟩, .string ⟨#[]⟩, .int .i64 0]) := ElemI.mk' Tryz.underlying29 (by kernel_rfl) rfl rfl rfl
theorem El.t35 : ElemI Tryz.prog 35 52 5 56 (.agg #[.int .i64 0, .string ⟨#[]⟩, .string ⟨#[]⟩, .int .i64 0, .bool false]) := ElemI.mk' Tryz.underlying35 (by kernel_rfl) rfl rfl rfl
theorem El.t44 : ElemI Tryz.prog 44 9 1 16 (.string ⟨#[]⟩) := ElemI.mk' Tryz.underlying44 (by kernel_rfl) rfl rfl rfl
theorem Eqg.t52 : Tryz.prog.eqGuardType Tryz.prog.depth 52 = false := by kernel_rfl
theorem Eqs.t52 (a b : Rec) (w : World) : (Op.equal 52 (.agg (qc a).toArray) (.agg (qc b).toArray)).run Tryz.prog w = .ok (decide (a = b)) w := run_eqRec (d := 9998) (ti := 3) (ts := 9) (tb := 4) Tryz.underlying52 rfl Tryz.underlying3 Tryz.underlying9 Tryz.underlying4 Tryz.isAgg3 Tryz.isAgg9 Tryz.isAgg4 (by kernel_rfl)
theorem Eqg.t91 : Tryz.prog.eqGuardType Tryz.prog.depth 91 = false := by kernel_rfl
theorem Eqs.t91 (a b : Nd) (w : World) : (Op.equal 91 (.agg (qv a).toArray) (.agg (qv b).toArray)).run Tryz.prog w = .ok (decide (a = b)) w := run_eqNd (d := 9998) (ti := 3) (ts := 9) Tryz.underlying91 rfl Tryz.underlying3 Tryz.underlying9 Tryz.isAgg3 Tryz.isAgg9 (by kernel_rfl)
/-! impl.within -/
theorem jB.calls {w : World} {a0 : Int} {a1 : Int} {a2 : Int} :
  Calls Tryz.prog 117 #[.int .i64 a0, .int .i64 a1, .int .i64 a2] w (Rt (RP w (.bool (within a0 a1 a2)))) := by
 have H := jB.eq a0 a1 a2
 generalize (within a0 a1 a2) = r at H ⊢
 unfold jB.sh at H
 refine qg Tryz.func117 rfl (Nat.le_of_ble_eq_true rfl) Tryz.ntmps117 rfl ?_
 refine wr <| lp rfl (xa (.bool false) rfl) <| nx <| wr <| lp rfl (xm (.int .i64 a1) rfl) <| lp rfl (xm (.int .i64 a0) rfl) <| lp rfl (Jv rfl rfl) <| lp rfl (xm (.bool (decide (a1 ≤ a0))) rfl) <| jN 4 [(11, 15)] 14 (.bool ((decide (a1 ≤ a0)) && (decide (a0 ≤ a2)))) ?_ ?_
 ·rcases ql (decide (a1 ≤ a0)) with b0_ | b0_
  ·exact lg rfl rfl rfl rfl (cb b0_) (xm (.int .i64 a0) rfl) <| lg rfl rfl rfl rfl (cb b0_) (xm (.int .i64 a2) rfl) <| lg rfl rfl rfl rfl (cb b0_) (Jv rfl rfl) <| lp rfl (qy (b := true) (v := (.bool (decide (a0 ≤ a2)))) (cb b0_) rfl) <| nx ⟨(ku4 kz rfl), (Vm b0_), er⟩
  ·exact ls rfl rfl rfl (cb b0_) rfl <| ls rfl rfl rfl (cb b0_) rfl <| ls rfl rfl rfl (cb b0_) rfl <| lp rfl (qy (b := false) (v := (.bool false)) (cb b0_) rfl) <| nx ⟨(ku4 kz rfl), (Vn b0_), er⟩
 intro s6 w2 K3 h4 e5
 refine lp rfl (qp h4) <| nx <| qr <| qu ?_
 obtain rfl := si H
 exact vh rfl e5
/-! spec.l01In -/
theorem Qc.calls {w : World} {a0 : Int} {a1 : Int} {a2 : Int} :
  Calls Tryz.prog 61 #[.int .i64 a0, .int .i64 a1, .int .i64 a2] w (Rt (RP w (.bool (within a0 a1 a2)))) := by
 have H := Qc.eq a0 a1 a2
 generalize (within a0 a1 a2) = r at H ⊢
 unfold Qc.sh at H
 refine qg Tryz.func61 rfl (Nat.le_of_ble_eq_true rfl) Tryz.ntmps61 rfl ?_
 refine wr <| lp rfl (xa (.bool false) rfl) <| nx <| wr <| lp rfl (xm (.int .i64 a0) rfl) <| lp rfl (xm (.int .i64 a1) rfl) <| lp rfl (VS rfl rfl) <| lp rfl (xm (.bool (decide (a1 ≤ a0))) rfl) <| jN 4 [(11, 15)] 14 (.bool ((decide (a1 ≤ a0)) && (decide (a0 ≤ a2)))) ?_ ?_
 ·rcases ql (decide (a1 ≤ a0)) with b0_ | b0_
  ·exact lg rfl rfl rfl rfl (cb b0_) (xm (.int .i64 a0) rfl) <| lg rfl rfl rfl rfl (cb b0_) (xm (.int .i64 a2) rfl) <| lg rfl rfl rfl rfl (cb b0_) (Jv rfl rfl) <| lp rfl (qy (b := true) (v := (.bool (decide (a0 ≤ a2)))) (cb b0_) rfl) <| nx ⟨(ku4 kz rfl), (Vm b0_), er⟩
  ·exact ls rfl rfl rfl (cb b0_) rfl <| ls rfl rfl rfl (cb b0_) rfl <| ls rfl rfl rfl (cb b0_) rfl <| lp rfl (qy (b := false) (v := (.bool false)) (cb b0_) rfl) <| nx ⟨(ku4 kz rfl), (Vn b0_), er⟩
 intro s6 w2 K3 h4 e5
 refine lp rfl (qp h4) <| nx <| qr <| qu ?_
 obtain rfl := si H
 exact vh rfl e5
/-! spec.l01Part -/
theorem yJ.calls {w : World} {a0 : List UInt8} :
  Calls Tryz.prog 161 #[S a0] w (Rt (RP w (.bool (jn a0)))) := by
 obtain ⟨k, H⟩ := yJ.eq a0
 generalize (jn a0) = r at H ⊢
 unfold yJ.sh at H
 refine qg Tryz.func161 rfl (Nat.le_of_ble_eq_true rfl) Tryz.ntmps161 rfl ?_
 refine wr <| lp rfl (xa (.bool false) rfl) <| nx <| qi <| wr <| lp rfl (xm (S a0) rfl) <| lp rfl (Q1 Tryz.underlying9 rfl) <| lc rfl rfl Tryz.call61 (Qc.calls (w := w) (a0 := (a0.length : Int)) (a1 := 1) (a2 := 8)) rfl <| fun w1 e2 => lp rfl (jm rfl) <| lp rfl (xm (.bool (!(within (a0.length : Int) 1 8))) rfl) <| jN 3 [(9, 12)] 11 (.bool ((!(within (a0.length : Int) 1 8)) || (decide (a0 = ([46] : List UInt8))))) ?_ ?_
 ·rcases ql (!(within (a0.length : Int) 1 8)) with b2_ | b2_
  ·exact ls rfl rfl rfl (cb b2_) rfl <| ls rfl rfl rfl (cb b2_) rfl <| lp rfl (qy (b := true) (v := (.bool true)) (cb b2_) rfl) <| nx ⟨(ku3 kz rfl), (J9 b2_), er⟩
  ·exact lg rfl rfl rfl rfl (cb b2_) (xm (S a0) rfl) <| lg rfl rfl rfl rfl (cb b2_) (VO rfl rfl) <| lp rfl (qy (b := false) (v := (.bool (decide (a0 = ([46] : List UInt8))))) (cb b2_) rfl) <| nx ⟨(ku3 kz rfl), (JY b2_), er⟩
 intro s8 w4 K5 h6 e7
 refine lp rfl (qb h6) <| jN 3 [(13, 16)] 15 (.bool (((!(within (a0.length : Int) 1 8)) || (decide (a0 = ([46] : List UInt8)))) || (decide (a0 = ([46, 46] : List UInt8))))) ?_ ?_
 ·rcases ql ((!(within (a0.length : Int) 1 8)) || (decide (a0 = ([46] : List UInt8)))) with b8_ | b8_
  ·exact ls rfl rfl rfl (cb b8_) rfl <| ls rfl rfl rfl (cb b8_) rfl <| lp rfl (qy (b := true) (v := (.bool true)) (cb b8_) rfl) <| nx ⟨(ku3 kz rfl), (J9 b8_), er⟩
  ·exact lg rfl rfl rfl rfl (cb b8_) (xm (S a0) (K5 0 rfl)) <| lg rfl rfl rfl rfl (cb b8_) (VO rfl rfl) <| lp rfl (qy (b := false) (v := (.bool (decide (a0 = ([46, 46] : List UInt8))))) (cb b8_) rfl) <| nx ⟨(ku3 kz rfl), (JY b8_), er⟩
 intro s14 w10 K11 h12 e13
 refine nx ?_
 rcases qh H with ⟨q15, H⟩ | ⟨q15, H⟩
 ·refine qo (h12.trans (cb q15)) <| wr <| lp rfl (xa (.bool false) rfl) <| nx <| qr <| qw <| qu ?_
  obtain rfl := si H
  exact vh rfl ((e2.t e7).t e13)
 ·refine qj (h12.trans (cb q15)) <| qq <| qf <| qi <| wr <| lp rfl (xa (.int .i64 0) rfl) <| nx ?_
  obtain ⟨z17, L18, C19⟩ := bind_some H
  clear H
  refine  vq (fun s0 sQ wQ => Kp [(2, 4), (16, 38)] s0 sQ ∧ Ext w10 wQ ∧ z17 = .inr ()) ?_ ?_
  ·refine qx <| vc (fun s0 kk sQ wQ => ∃ (x3_16 : Int), Kp [(2, 4), (16, 38)] s0 sQ ∧ sQ 3 = .int .i64 x3_16 ∧ Ext w10 wQ ∧ qn (yJ.b1 a0) kk x3_16 = some z17) k ⟨0, kz, rfl, er, L18⟩ ?_
   rintro k24 s25 w26 ⟨x3_16, K27, h30, e28, L29⟩
   cases k24 with
   | zero => exact absurd L29 (by simp [qn])
   | succ k24 =>
    obtain ⟨t31, H, S32⟩ := qJ L29
    clear L29
    unfold yJ.b1 at H
    refine qi <| wr <| lp rfl (qb h30) <| lp rfl (xm (S a0) ((K27 0 rfl).trans ((K11 0 rfl).trans (K5 0 rfl)))) <| lp rfl (Q1 Tryz.underlying9 rfl) <| lp rfl (vW rfl rfl) <| nx ?_
    rcases qh H with ⟨q33, H⟩ | ⟨q33, H⟩
    ·refine qo (cb q33) <| qq <| qf <| qi <| qx <| wr <| lp rfl (xm (S a0) ((K27 0 rfl).trans ((K11 0 rfl).trans (K5 0 rfl)))) <| lp rfl (qb h30) ?_
     obtain ⟨c34, H⟩ := qa H
     refine lp rfl (VL Tryz.underlying9 rfl rfl (Qt c34) (Qb c34)) <| lp rfl (vW rfl rfl) <| lp rfl (xm (.bool (decide ((byt a0 x3_16) < 33))) rfl) ?_
     obtain ⟨z36, x37, H⟩ := bind_some H
     refine ja 5 [(27, 32)] 31 (fun q => q = z36) ?_ ?_
     ·rcases qh x37 with ⟨b34_, H⟩ | ⟨b34_, H⟩
      ·refine ls rfl rfl rfl (cb b34_) rfl <| ls rfl rfl rfl (cb b34_) rfl <| ls rfl rfl rfl (cb b34_) rfl <| ls rfl rfl rfl (cb b34_) rfl <| lp rfl (qy (b := true) (v := (.bool true)) (cb b34_) rfl) ?_
       obtain rfl := si H
       exact nx ⟨(ku1 (ku4 kz rfl) rfl), ⟨_, rfl, rfl⟩, er⟩
      ·refine lg rfl rfl rfl rfl (cb b34_) (xm (S a0) ((K27 0 rfl).trans ((K11 0 rfl).trans (K5 0 rfl)))) <| lg rfl rfl rfl rfl (cb b34_) (qb h30) ?_
       obtain ⟨c36, H⟩ := qa H
       refine lg rfl rfl rfl rfl (cb b34_) (VL Tryz.underlying9 rfl rfl (Qt c36) (Qb c36)) <| lg rfl rfl rfl rfl (cb b34_) (Qp rfl rfl) <| lp rfl (qy (b := false) (v := (.bool (decide (126 < (byt a0 x3_16))))) (cb b34_) rfl) ?_
       obtain rfl := si H
       exact nx ⟨(ku1 (ku4 kz rfl) rfl), ⟨_, rfl, rfl⟩, er⟩
     intro s42 w38 z43 K39 hq h40 e41
     rw [hq] at h40; clear hq
     refine lp rfl (qb h40) ?_
     obtain ⟨z45, x46, H⟩ := bind_some H
     refine ja 5 [(33, 38)] 37 (fun q => q = z45) ?_ ?_
     ·rcases qh x46 with ⟨b43_, H⟩ | ⟨b43_, H⟩
      ·refine ls rfl rfl rfl (cb b43_) rfl <| ls rfl rfl rfl (cb b43_) rfl <| ls rfl rfl rfl (cb b43_) rfl <| ls rfl rfl rfl (cb b43_) rfl <| lp rfl (qy (b := true) (v := (.bool true)) (cb b43_) rfl) ?_
       obtain rfl := si H
       exact nx ⟨(ku1 (ku4 kz rfl) rfl), ⟨_, rfl, rfl⟩, er⟩
      ·refine lg rfl rfl rfl rfl (cb b43_) (xm (S a0) ((K39 0 rfl).trans ((K27 0 rfl).trans ((K11 0 rfl).trans (K5 0 rfl))))) <| lg rfl rfl rfl rfl (cb b43_) (xm (.int .i64 x3_16) ((K39 3 rfl).trans h30)) ?_
       obtain ⟨c45, H⟩ := qa H
       refine lg rfl rfl rfl rfl (cb b43_) (VL Tryz.underlying9 rfl rfl (Qt c45) (Qb c45)) <| lg rfl rfl rfl rfl (cb b43_) (yL rfl rfl) <| lp rfl (qy (b := false) (v := (.bool (decide ((byt a0 x3_16) = 47)))) (cb b43_) rfl) ?_
       obtain rfl := si H
       exact nx ⟨(ku1 (ku4 kz rfl) rfl), ⟨_, rfl, rfl⟩, er⟩
     intro s51 w47 z52 K48 hq h49 e50
     rw [hq] at h49; clear hq
     refine nx ?_
     rcases qh H with ⟨q53, H⟩ | ⟨q53, H⟩
     ·refine qo (h49.trans (cb q53)) <| wr <| lp rfl (xa (.bool false) rfl) <| nx <| qr <| vJ <| qw <| qw <| vJ <| qw <| qw <| qu ?_
      obtain rfl := si H
      obtain rfl := si S32
      have H := C19
      obtain rfl := si H
      exact vh rfl (((((e2.t e7).t e13).t e28).t e41).t e50)
     ·refine qj (h49.trans (cb q53)) <| qq <| vj <| qf <| qG <| lp rfl (xm (.int .i64 x3_16) ((K48 3 rfl).trans ((K39 3 rfl).trans h30))) <| lp rfl (qU rfl rfl) <| lp rfl (xa (.int .i64 (IntKind.wrap .i64 (x3_16 + 1))) rfl) <| nx ?_
      obtain rfl := si H
      exact ⟨_, Nat.lt_succ_self _, IntKind.wrap .i64 (x3_16 + 1), (ku3 (Kp.cut (ku1 (Kp.cut (ku1 (ku8 K27 rfl) rfl) K39 rfl) rfl) K48 rfl) rfl), rfl, ((e28.t e41).t e50), S32⟩
    ·refine qj (cb q33) <| vt <| qN <| qN <| yu <| qf ?_
     obtain rfl := si H
     obtain rfl := si S32
     exact ⟨(ku4 K27 rfl), e28, rfl⟩
  ·rintro s21 w20 ⟨K22, e23, y54⟩
   rw [y54] at C19
   have H := C19
   replace H : _ = some _ := H
   refine qf <| wr <| lp rfl (xa (.bool true) rfl) <| nx <| qr <| qu ?_
   obtain rfl := si H
   exact vh rfl (((e2.t e7).t e13).t e23)
/-! impl.PartOK -/
theorem yZ.calls {w : World} {a0 : List UInt8} (h0 : a0.length ≤ 4611686018427387904) :
  Calls Tryz.prog 168 #[S a0] w (Rt (RP w (.bool (jn a0)))) := by
 obtain ⟨k, H⟩ := yZ.eq a0 h0
 generalize (jn a0) = r at H ⊢
 unfold yZ.sh at H
 refine qg Tryz.func168 rfl (Nat.le_of_ble_eq_true rfl) Tryz.ntmps168 rfl ?_
 refine wr <| lp rfl (xa (.bool false) rfl) <| nx <| qi <| wr <| lp rfl (xm (S a0) rfl) <| lp rfl (Q1 Tryz.underlying9 rfl) <| lp rfl (xm (.int .i64 0) rfl) <| nx ?_
 obtain ⟨z2, L3, C4⟩ := bind_some H
 clear H
 refine  vq (fun s0 sQ wQ => Kp [(2, 4), (6, 22)] s0 sQ ∧ Ext w wQ ∧ z2 = .inr ()) ?_ ?_
 ·refine qx <| vc (fun s0 kk sQ wQ => ∃ (x6_1 : Int), Kp [(2, 4), (6, 22)] s0 sQ ∧ sQ 6 = .int .i64 x6_1 ∧ Ext w wQ ∧ qn (yZ.b1 a0) kk x6_1 = some z2) k ⟨0, kz, rfl, er, L3⟩ ?_
  rintro k9 s10 w11 ⟨x6_1, K12, h15, e13, L14⟩
  cases k9 with
  | zero => exact absurd L14 (by simp [qn])
  | succ k9 =>
   obtain ⟨t16, H, S17⟩ := qJ L14
   clear L14
   unfold yZ.b1 at H
   refine wr <| lp rfl (vW h15 (K12 5 rfl)) <| nx <| qi ?_
   rcases qh H with ⟨q18, H⟩ | ⟨q18, H⟩
   ·refine qo (cb q18) <| qq <| qf <| qi <| qx <| wr <| lp rfl (qb h15) <| lp rfl (xa (.int .i64 x6_1) rfl) <| nx <| wr <| lp rfl (xm (S a0) (K12 0 rfl)) <| lp rfl (xm (.int .i64 x6_1) rfl) ?_
    obtain ⟨c19, H⟩ := qa H
    refine lp rfl (VL Tryz.underlying9 rfl rfl (Qt c19) (Qb c19)) <| lp rfl (Vy Tryz.underlying5 Tryz.underlying3 rfl) <| lc rfl rfl Tryz.call117 (jB.calls (w := w11) (a0 := IntKind.wrap .i64 (byt a0 x6_1)) (a1 := 33) (a2 := 126)) rfl <| fun w20 e21 => lp rfl (jm rfl) <| lp rfl (xm (.bool (!(within (IntKind.wrap .i64 (byt a0 x6_1)) 33 126))) rfl) ?_
    obtain ⟨z23, x24, H⟩ := bind_some H
    refine ja 5 [(16, 21)] 20 (fun q => q = z23) ?_ ?_
    ·rcases qh x24 with ⟨b21_, H⟩ | ⟨b21_, H⟩
     ·refine ls rfl rfl rfl (cb b21_) rfl <| ls rfl rfl rfl (cb b21_) rfl <| ls rfl rfl rfl (cb b21_) rfl <| ls rfl rfl rfl (cb b21_) rfl <| lp rfl (qy (b := true) (v := (.bool true)) (cb b21_) rfl) ?_
      obtain rfl := si H
      exact nx ⟨(ku1 (ku4 kz rfl) rfl), ⟨_, rfl, rfl⟩, er⟩
     ·refine lg rfl rfl rfl rfl (cb b21_) (xm (S a0) (K12 0 rfl)) <| lg rfl rfl rfl rfl (cb b21_) (xm (.int .i64 x6_1) rfl) ?_
      obtain ⟨c23, H⟩ := qa H
      refine lg rfl rfl rfl rfl (cb b21_) (VL Tryz.underlying9 rfl rfl (Qt c23) (Qb c23)) <| lg rfl rfl rfl rfl (cb b21_) (yL rfl rfl) <| lp rfl (qy (b := false) (v := (.bool (decide ((byt a0 x6_1) = 47)))) (cb b21_) rfl) ?_
      obtain rfl := si H
      exact nx ⟨(ku1 (ku4 kz rfl) rfl), ⟨_, rfl, rfl⟩, er⟩
    intro s29 w25 z30 K26 hq h27 e28
    rw [hq] at h27; clear hq
    refine nx ?_
    rcases qh H with ⟨q31, H⟩ | ⟨q31, H⟩
    ·refine qo (h27.trans (cb q31)) <| wr <| lp rfl (xa (.bool false) rfl) <| nx <| qr <| vJ <| qw <| qw <| vJ <| qw <| qw <| qu ?_
     obtain rfl := si H
     obtain rfl := si S17
     have H := C4
     obtain rfl := si H
     exact vh rfl ((e13.t e21).t e28)
    ·refine qj (h27.trans (cb q31)) <| qq <| vj <| qf <| qG <| lp rfl (qU ((K26 6 rfl).trans h15) rfl) <| lp rfl (xm (.int .i64 (IntKind.wrap .i64 (x6_1 + 1))) rfl) <| nx ?_
     obtain rfl := si H
     exact ⟨_, Nat.lt_succ_self _, IntKind.wrap .i64 (x6_1 + 1), (ku2 (Kp.cut (ku2 (ku8 K12 rfl) rfl) K26 rfl) rfl), rfl, ((e13.t e21).t e28), S17⟩
   ·refine qj (cb q18) <| vt <| qN <| qN <| yu <| qf ?_
    obtain rfl := si H
    obtain rfl := si S17
    exact ⟨(ku1 K12 rfl), e13, rfl⟩
 ·rintro s6 w5 ⟨K7, e8, y32⟩
  rw [y32] at C4
  have H := C4
  replace H : _ = some _ := H
  refine qf <| wr <| lp rfl (xm (S a0) (K7 0 rfl)) <| lp rfl (Q1 Tryz.underlying9 rfl) <| lc rfl rfl Tryz.call117 (jB.calls (w := w5) (a0 := (a0.length : Int)) (a1 := 1) (a2 := 8)) rfl <| fun w33 e34 => lp rfl (xm (.bool (within (a0.length : Int) 1 8)) rfl) <| jN 3 [(26, 29)] 28 (.bool ((within (a0.length : Int) 1 8) && (!decide (a0 = ([46] : List UInt8))))) ?_ ?_
  ·rcases ql (within (a0.length : Int) 1 8) with b34_ | b34_
   ·exact lg rfl rfl rfl rfl (cb b34_) (xm (S a0) (K7 0 rfl)) <| lg rfl rfl rfl rfl (cb b34_) (VN rfl rfl) <| lp rfl (qy (b := true) (v := (.bool (!decide (a0 = ([46] : List UInt8))))) (cb b34_) rfl) <| nx ⟨(ku3 kz rfl), (Vm b34_), er⟩
   ·exact ls rfl rfl rfl (cb b34_) rfl <| ls rfl rfl rfl (cb b34_) rfl <| lp rfl (qy (b := false) (v := (.bool false)) (cb b34_) rfl) <| nx ⟨(ku3 kz rfl), (Vn b34_), er⟩
  intro s40 w36 K37 h38 e39
  refine lp rfl (qb h38) <| jN 3 [(30, 33)] 32 (.bool (((within (a0.length : Int) 1 8) && (!decide (a0 = ([46] : List UInt8)))) && (!decide (a0 = ([46, 46] : List UInt8))))) ?_ ?_
  ·rcases ql ((within (a0.length : Int) 1 8) && (!decide (a0 = ([46] : List UInt8)))) with b40_ | b40_
   ·exact lg rfl rfl rfl rfl (cb b40_) (xm (S a0) ((K37 0 rfl).trans (K7 0 rfl))) <| lg rfl rfl rfl rfl (cb b40_) (VN rfl rfl) <| lp rfl (qy (b := true) (v := (.bool (!decide (a0 = ([46, 46] : List UInt8))))) (cb b40_) rfl) <| nx ⟨(ku3 kz rfl), (Vm b40_), er⟩
   ·exact ls rfl rfl rfl (cb b40_) rfl <| ls rfl rfl rfl (cb b40_) rfl <| lp rfl (qy (b := false) (v := (.bool false)) (cb b40_) rfl) <| nx ⟨(ku3 kz rfl), (Vn b40_), er⟩
  intro s46 w42 K43 h44 e45
  refine lp rfl (qp h44) <| nx <| qr <| qu ?_
  obtain rfl := si H
  exact vh rfl (((e8.t e34).t e39).t e45)
/-! spec.l00Cut -/
theorem yE.calls {w : World} {a0 : List UInt8} {a1 : Int} (h0 : a0.length ≤ 1048576) :
  Calls Tryz.prog 135 #[S a0, .int .u8 a1] w (Rt (RO 9 1 jc w (cut a1 a0))) := by
 obtain ⟨k, H⟩ := yE.eq a0 a1 h0
 generalize (cut a1 a0) = r at H ⊢
 unfold yE.sh at H
 refine qg Tryz.func135 rfl (Nat.le_of_ble_eq_true rfl) Tryz.ntmps135 rfl ?_
 refine wr <| lp rfl (xa (.slice none 0 0) rfl) <| nx <| wr <| vC (.plain rfl) rfl (ltb rfl) rfl Tryz.underlying44 Tryz.sizeOf9 Tryz.zeroValue9 rfl rfl rfl (vs := []) rfl (qO rfl) <| fun b1 w2 z3 z4 e5 k6 => lp rfl (xa (.slice (some ⟨b1, 0, none⟩) 0 0) rfl) <| nx <| wr <| lp rfl (xa (.int .i64 0) rfl) <| nx <| qi <| wr <| lp rfl (xa (.int .i64 0) rfl) <| nx ?_
 obtain ⟨z11, L12, C13⟩ := bind_some H
 clear H
 refine  vq (fun s0 sQ wQ => ∃ (x5_14 : List (List UInt8)) (v15 : Value) (x6_16 : Int), Kp [(5, 8), (9, 29)] s0 sQ ∧ sQ 5 = v15 ∧ Ow 9 1 jc w2.heap.size wQ v15 x5_14 ∧ sQ 6 = .int .i64 x6_16 ∧ Ext w2 wQ ∧ z11 = .inr (x5_14, x6_16)) ?_ ?_
 ·refine qx <| vc (fun s0 kk sQ wQ => ∃ (x5_7 : List (List UInt8)) (v8 : Value) (x6_9 : Int) (x7_10 : Int), Kp [(5, 8), (9, 29)] s0 sQ ∧ sQ 5 = v8 ∧ Ow 9 1 jc w2.heap.size wQ v8 x5_7 ∧ sQ 6 = .int .i64 x6_9 ∧ sQ 7 = .int .i64 x7_10 ∧ Ext w2 wQ ∧ qn (yE.b1 a0 a1) kk (x5_7, x6_9, x7_10) = some z11) k ⟨([] : List (List UInt8)), (.slice (some ⟨b1, 0, none⟩) 0 0), 0, 0, kz, rfl, (Ow.zero), rfl, rfl, er, L12⟩ ?_
  rintro k21 s22 w23 ⟨x5_7, v8, x6_9, x7_10, K24, h27, h28, h29, h30, e25, L26⟩
  cases k21 with
  | zero => exact absurd L26 (by simp [qn])
  | succ k21 =>
   obtain ⟨t31, H, S32⟩ := qJ L26
   clear L26
   unfold yE.b1 at H
   refine qi <| wr <| lp rfl (qb h30) <| lp rfl (xm (S a0) (K24 0 rfl)) <| lp rfl (Q1 Tryz.underlying9 rfl) <| lp rfl (vW rfl rfl) <| nx ?_
   rcases qh H with ⟨q33, H⟩ | ⟨q33, H⟩
   ·refine qo (cb q33) <| qq <| qf <| qi <| qx <| wr <| lp rfl (xm (S a0) (K24 0 rfl)) <| lp rfl (qb h30) ?_
    obtain ⟨c34, H⟩ := qa H
    refine lp rfl (VL Tryz.underlying9 rfl rfl (Qt c34) (Qb c34)) <| lp rfl (xm (.int .u8 a1) (K24 1 rfl)) <| lp rfl (yL rfl rfl) <| nx ?_
    rcases qh H with ⟨q35, H⟩ | ⟨q35, H⟩
    ·refine qo (cb q35) <| wr <| lp rfl (qb h27) <| lp rfl (xm (S a0) (K24 0 rfl)) <| lp rfl (qb h29) <| lp rfl (qb h30) ?_
     obtain ⟨c36, H⟩ := qa H
     refine lp rfl (Yz Tryz.underlying9 rfl (l := x6_9) (h := x7_10) ⟨_, rfl⟩ ⟨_, rfl⟩ (JS c36) (JP c36) (Gc c36)) <| vC (.plain rfl) rfl (ltb rfl) rfl Tryz.underlying44 Tryz.sizeOf9 Tryz.zeroValue9 rfl rfl rfl (vs := [(S (sub a0 x6_9 x7_10))]) rfl (qO rfl) <| fun b37 w38 z39 z40 e41 k42 => ?_
     obtain ⟨c43, H⟩ := qa H
     refine vP (enc := jc) (.plain rfl) rfl (ltb rfl) rfl El.t44 rfl rfl (Ow.ext h28 e41) (Ow.rd (Ow.new (xs := [sub a0 x6_9 x7_10]) (sz := 1) (enc := jc) (base := w23.heap.size) k42 (Nat.le_of_eq z39) rfl (fun _ _ => by rfl) (Nat.le_of_ble_eq_true rfl))) (ones_S _) (od c43) ((e25.t e41)).size <| fun v44 w45 o46 z47 g48 => lp rfl (xa v44 rfl) <| nx <| qG <| lp rfl (qb h30) <| lp rfl (qU rfl rfl) <| lp rfl (xa (.int .i64 (IntKind.wrap .i64 (x7_10 + 1))) rfl) <| qH <| vj <| qf <| qG <| lp rfl (qb h30) <| lp rfl (qU rfl rfl) <| lp rfl (xa (.int .i64 (IntKind.wrap .i64 (x7_10 + 1))) rfl) <| nx ?_
     obtain rfl := si H
     exact ⟨_, Nat.lt_succ_self _, x5_7 ++ ([sub a0 x6_9 x7_10] : List (List UInt8)), v44, IntKind.wrap .i64 (x7_10 + 1), IntKind.wrap .i64 (x7_10 + 1), (ku3 (ku4 (ku8 (ku8 K24 rfl) rfl) rfl) rfl), rfl, o46, rfl, rfl, (g48 _ (e25.t e41)), S32⟩
    ·refine qj (cb q35) <| qq <| vj <| qf <| qG <| lp rfl (qb h30) <| lp rfl (qU rfl rfl) <| lp rfl (xa (.int .i64 (IntKind.wrap .i64 (x7_10 + 1))) rfl) <| nx ?_
     obtain rfl := si H
     exact ⟨_, Nat.lt_succ_self _, x5_7, v8, x6_9, IntKind.wrap .i64 (x7_10 + 1), (ku4 (ku8 K24 rfl) rfl), h27, h28, h29, rfl, e25, S32⟩
   ·refine qj (cb q33) <| vt <| qN <| qN <| yu <| qf ?_
    obtain rfl := si H
    obtain rfl := si S32
    exact ⟨x5_7, v8, x6_9, (ku4 K24 rfl), h27, h28, h29, e25, rfl⟩
 ·rintro s18 w17 ⟨x5_14, v15, x6_16, K19, h49, h50, h51, e20, y52⟩
  rw [y52] at C13
  have H := C13
  replace H : _ = some _ := H
  refine qf <| wr <| lp rfl (qb h49) <| lp rfl (xm (S a0) (K19 0 rfl)) <| lp rfl (qb h51) ?_
  obtain ⟨c53, H⟩ := qa H
  refine lp rfl (Yz Tryz.underlying9 rfl (l := x6_16) (h := (a0.length : Int)) ⟨_, rfl⟩ rfl (JS c53) (JP c53) (Gc c53)) <| vC (.plain rfl) rfl (ltb rfl) rfl Tryz.underlying44 Tryz.sizeOf9 Tryz.zeroValue9 rfl rfl rfl (vs := [(S (sub a0 x6_16 (a0.length : Int)))]) rfl (qO rfl) <| fun b54 w55 z56 z57 e58 k59 => ?_
  obtain ⟨c60, H⟩ := qa H
  refine vP (enc := jc) (.plain rfl) rfl (ltb rfl) rfl El.t44 rfl rfl (Ow.ext h50 e58) (Ow.rd (Ow.new (xs := [sub a0 x6_16 (a0.length : Int)]) (sz := 1) (enc := jc) (base := w17.heap.size) k59 (Nat.le_of_eq z56) rfl (fun _ _ => by rfl) (Nat.le_of_ble_eq_true rfl))) (ones_S _) (od c60) ((e20.t e58)).size <| fun v61 w62 o63 z64 g65 => lp rfl (xa v61 rfl) <| nx <| qr <| qu ?_
  obtain rfl := si H
  exact jI rfl (e5.t (g65 _ (e20.t e58))) o63 (e5).size
/-! impl.parts -/
theorem yn.calls {w : World} {a0 : List UInt8} (gv : GV 0 w) (h0 : a0.length ≤ 1048576) :
  Calls Tryz.prog 132 #[S a0] w (Rt (RO 9 1 jc w (cut 47 a0))) := by
 have H := yn.eq a0 h0
 generalize (cut 47 a0) = r at H ⊢
 unfold yn.sh at H
 refine qg Tryz.func132 rfl (Nat.le_of_ble_eq_true rfl) Tryz.ntmps132 rfl ?_
 refine wr <| lp rfl (xa (.slice none 0 0) rfl) <| nx <| wr <| lp rfl (xm (S a0) rfl) ?_
 obtain ⟨c1, H⟩ := qa H
 obtain ⟨c2, H⟩ := qa H
 refine vE (.plain rfl) rfl (ltb rfl) rfl Tryz.call193 (strings_Split.calls (w := w) (a0 := a0) (a1 := ([47] : List UInt8)) gv (od c1) (od c2)) rfl <| fun v5 w3 e4 o6 => lp rfl (xa v5 rfl) <| nx <| qr <| qu ?_
 obtain rfl := si H
 exact jI rfl e4 o6 (er).size
/-! impl.all(string)$1 -/
theorem jO.walk {w : World} {a0 : List UInt8} {a1 : List UInt8 → Option Bool} {v_a1 : Value} (f_a1 : ∀ (x0 : List UInt8) (r : Bool), a1 x0 = some r → jb Tryz.prog w v_a1 [(S x0)] (.bool r)) (g_a1 : v_a1.cells = #[v_a1]) {b_a1 : Nat} (k_a1 : Blk w b_a1 #[v_a1] 113) {r : Bool} (H : jO.sh a0 a1 = some r) :
  Calls Tryz.prog 216 #[S a0, .pointer (some ⟨b_a1, 0, none⟩)] w (Rt (RP w (.bool r))) := by
 unfold jO.sh at H
 refine qg Tryz.func216 rfl (Nat.le_of_ble_eq_true rfl) Tryz.ntmps216 rfl ?_
 refine wr <| lp rfl (xa (.bool false) rfl) <| nx <| wr <| lp rfl (qA Tryz.isAgg113 k_a1 rfl rfl) <| lp rfl (xm (S a0) rfl) ?_
 obtain ⟨z1, x2, H⟩ := bind_some H
 refine VG (.plain rfl) rfl (ltb rfl) rfl rfl (jb.ext (f_a1 _ _ x2) er) rfl <| fun w3 e4 => lp rfl (jm rfl) <| lp rfl (xa (.bool (!z1)) rfl) <| nx <| qr <| qu ?_
 obtain rfl := si H
 exact vh rfl e4
theorem jO.calls {w : World} {a0 : List UInt8} {a1 : List UInt8 → Option Bool} {r : Bool} {v_a1 : Value} (f_a1 : ∀ (x0 : List UInt8) (r : Bool), a1 x0 = some r → jb Tryz.prog w v_a1 [(S x0)] (.bool r)) (g_a1 : v_a1.cells = #[v_a1]) {b_a1 : Nat} (k_a1 : Blk w b_a1 #[v_a1] 113) (H : ((a1 a0).map (!·)) = some r) :
  Calls Tryz.prog 216 #[S a0, .pointer (some ⟨b_a1, 0, none⟩)] w (Rt (RP w (.bool r))) := jO.walk f_a1 g_a1 k_a1 (jO.eq a0 a1 H)
/-! slices.IndexFunc(()string,string) -/
theorem qW.walk {k : Nat} {w : World} {a0 : List (List UInt8)} {a1 : List UInt8 → Option Bool} {v_a0 : Value} (f_a0 : Rd 1 jc w v_a0 a0) {v_a1 : Value} (f_a1 : ∀ (x0 : List UInt8) (r : Bool), a1 x0 = some r → jb Tryz.prog w v_a1 [(S x0)] (.bool r)) (g_a1 : v_a1.cells = #[v_a1]) {r : Int} (H : qW.sh k a0 a1 = some r) :
  Calls Tryz.prog 241 #[v_a0, v_a1] w (Rt (RP w (.int .i64 r))) := by
 unfold qW.sh at H
 refine qg Tryz.func241 rfl (Nat.le_of_ble_eq_true rfl) Tryz.ntmps241 rfl ?_
 refine wr <| lp rfl (xa (.int .i64 0) rfl) <| nx <| qi <| wr <| lp rfl (xm v_a0 rfl) <| lp rfl (va Tryz.underlying44 rfl f_a0) <| lp rfl (xm (.int .i64 0) rfl) <| nx ?_
 obtain ⟨z2, L3, C4⟩ := bind_some H
 clear H
 refine  vq (fun s0 sQ wQ => Kp [(4, 6), (8, 19)] s0 sQ ∧ Ext w wQ ∧ z2 = .inr ()) ?_ ?_
 ·refine qx <| vc (fun s0 kk sQ wQ => ∃ (x8_1 : Int), Kp [(4, 6), (8, 19)] s0 sQ ∧ sQ 8 = .int .i64 x8_1 ∧ Ext w wQ ∧ qn (qW.b1 a0 a1) kk x8_1 = some z2) k ⟨0, kz, rfl, er, L3⟩ ?_
  rintro k9 s10 w11 ⟨x8_1, K12, h15, e13, L14⟩
  cases k9 with
  | zero => exact absurd L14 (by simp [qn])
  | succ k9 =>
   obtain ⟨t16, H, S17⟩ := qJ L14
   clear L14
   unfold qW.b1 at H
   refine wr <| lp rfl (vW h15 (K12 7 rfl)) <| nx <| qi ?_
   rcases qh H with ⟨q18, H⟩ | ⟨q18, H⟩
   ·refine qo (cb q18) <| qq <| qf <| qi <| qx <| wr <| lp rfl (qb h15) <| lp rfl (xa (.int .i64 x8_1) rfl) <| nx <| wr <| lp rfl (xm v_a1 (K12 1 rfl)) <| lp rfl (xm v_a0 (K12 0 rfl)) <| lp rfl (xm (.int .i64 x8_1) rfl) ?_
    obtain ⟨c19, H⟩ := qa H
    refine vk (.plain rfl) rfl (ltb rfl) rfl Tryz.underlying44 Tryz.sizeOf9 rfl (Rd.ext f_a0 e13) rfl c19 <| fun p20 h21 => lp rfl (vy Tryz.isAgg9 rfl h21 rfl) ?_
    obtain ⟨z22, x23, H⟩ := bind_some H
    refine VG (.plain rfl) rfl (ltb rfl) rfl rfl (jb.ext (f_a1 _ _ x23) e13) rfl <| fun w24 e25 => nx ?_
    rcases qh H with ⟨q26, H⟩ | ⟨q26, H⟩
    ·refine qo (cb q26) <| wr <| lp rfl (xm (.int .i64 x8_1) rfl) <| lp rfl (xa (.int .i64 x8_1) rfl) <| nx <| qr <| vJ <| qw <| qw <| vJ <| qw <| qw <| qu ?_
     obtain rfl := si H
     obtain rfl := si S17
     have H := C4
     obtain rfl := si H
     exact vh rfl (e13.t e25)
    ·refine qj (cb q26) <| qq <| vj <| qf <| qG <| lp rfl (qU h15 rfl) <| lp rfl (xm (.int .i64 (IntKind.wrap .i64 (x8_1 + 1))) rfl) <| nx ?_
     obtain rfl := si H
     exact ⟨_, Nat.lt_succ_self _, IntKind.wrap .i64 (x8_1 + 1), (ku3 (ku8 K12 rfl) rfl), rfl, (e13.t e25), S17⟩
   ·refine qj (cb q18) <| vt <| qN <| qN <| yu <| qf ?_
    obtain rfl := si H
    obtain rfl := si S17
    exact ⟨(ku1 K12 rfl), e13, rfl⟩
 ·rintro s6 w5 ⟨K7, e8, y27⟩
  rw [y27] at C4
  have H := C4
  replace H : _ = some _ := H
  refine qf <| wr <| lp rfl (xa (.int .i64 (-1)) rfl) <| nx <| qr <| qu ?_
  obtain rfl := si H
  exact vh rfl e8
theorem qW.calls {w : World} {a0 : List (List UInt8)} {a1 : List UInt8 → Option Bool} {r : Int} {v_a0 : Value} (f_a0 : Rd 1 jc w v_a0 a0) {v_a1 : Value} (f_a1 : ∀ (x0 : List UInt8) (r : Bool), a1 x0 = some r → jb Tryz.prog w v_a1 [(S x0)] (.bool r)) (g_a1 : v_a1.cells = #[v_a1]) (h0 : a0.length ≤ 4611686018427387904) (H : (VV a1 a0) = some r) :
  Calls Tryz.prog 241 #[v_a0, v_a1] w (Rt (RP w (.int .i64 r))) := by
 obtain ⟨k, h⟩ := qW.eq a0 a1 h0 H
 exact qW.walk f_a0 f_a1 g_a1 h
/-! slices.ContainsFunc(()string,string) -/
theorem vz.walk {w : World} {a0 : List (List UInt8)} {a1 : List UInt8 → Option Bool} {v_a0 : Value} (f_a0 : Rd 1 jc w v_a0 a0) {v_a1 : Value} (f_a1 : ∀ (x0 : List UInt8) (r : Bool), a1 x0 = some r → jb Tryz.prog w v_a1 [(S x0)] (.bool r)) (g_a1 : v_a1.cells = #[v_a1]) {r : Bool} (H : vz.sh a0 a1 = some r) :
  Calls Tryz.prog 215 #[v_a0, v_a1] w (Rt (RP w (.bool r))) := by
 unfold vz.sh at H
 refine qg Tryz.func215 rfl (Nat.le_of_ble_eq_true rfl) Tryz.ntmps215 rfl ?_
 refine wr <| lp rfl (xa (.bool false) rfl) <| nx <| wr <| lp rfl (xm v_a0 rfl) <| lp rfl (xm v_a1 rfl) ?_
 obtain ⟨c1, H⟩ := qa H
 obtain ⟨z2, x3, H⟩ := bind_some H
 refine lc rfl rfl Tryz.call241 (qW.calls (w := w) (a0 := a0) (a1 := a1) f_a0 (fun x0 r h => jb.ext (f_a1 x0 r h) er) g_a1 (od c1) x3) rfl <| fun w4 e5 => lp rfl (VS rfl rfl) <| lp rfl (xa (.bool (decide (0 ≤ z2))) rfl) <| nx <| qr <| qu ?_
 obtain rfl := si H
 exact vh rfl e5
theorem vz.calls {w : World} {a0 : List (List UInt8)} {a1 : List UInt8 → Option Bool} {r : Bool} {v_a0 : Value} (f_a0 : Rd 1 jc w v_a0 a0) {v_a1 : Value} (f_a1 : ∀ (x0 : List UInt8) (r : Bool), a1 x0 = some r → jb Tryz.prog w v_a1 [(S x0)] (.bool r)) (g_a1 : v_a1.cells = #[v_a1]) (h0 : a0.length ≤ 4611686018427387904) (H : (VP a1 a0) = some r) :
  Calls Tryz.prog 215 #[v_a0, v_a1] w (Rt (RP w (.bool r))) := vz.walk f_a0 f_a1 g_a1 (vz.eq a0 a1 h0 H)
/-! impl.all(string) -/
theorem QG.walk {w : World} {a0 : List (List UInt8)} {a1 : List UInt8 → Option Bool} {v_a0 : Value} (f_a0 : Rd 1 jc w v_a0 a0) {v_a1 : Value} (f_a1 : ∀ (x0 : List UInt8) (r : Bool), a1 x0 = some r → jb Tryz.prog w v_a1 [(S x0)] (.bool r)) (g_a1 : v_a1.cells = #[v_a1]) {r : Bool} (H : QG.sh a0 a1 = some r) :
  Calls Tryz.prog 167 #[v_a0, v_a1] w (Rt (RP w (.bool r))) := by
 unfold QG.sh at H
 refine qg Tryz.func167 rfl (Nat.le_of_ble_eq_true rfl) Tryz.ntmps167 rfl ?_
 refine wr <| Qg (.plain rfl) rfl (ltb rfl) rfl rfl <| fun b1 w2 z3 z4 e5 k6 => lp rfl (xa (.bool false) rfl) <| nx <| wr <| lp rfl (xm v_a0 rfl) <| lp rfl (VA (vs := #[]) (us := #[.pointer (some ⟨b1, 0, none⟩)]) rfl rfl) ?_
 obtain ⟨c11, H⟩ := qa H
 obtain ⟨z12, x13, H⟩ := bind_some H
 refine lc rfl rfl Tryz.call215 (vz.calls (w := w2) (a0 := a0) (a1 := (fun (x0_ : List UInt8) => ((a1 x0_).map (!·)))) (Rd.ext f_a0 e5) (fun x0_ r h => by exact jb.mk Tryz.call216 (by rfl) fun w9 k10 => jO.calls (w := w9) (a0 := x0_) (a1 := a1) (fun x0 r h => jb.ext (f_a1 x0 r h) (e5.t k10)) g_a1 (Blk.ext (Blk.cs k6 g_a1) k10) h) rfl (od c11) x13) rfl <| fun w14 e15 => lp rfl (jm rfl) <| lp rfl (xa (.bool (!z12)) rfl) <| nx <| qr <| qu ?_
 obtain rfl := si H
 exact vh rfl (e5.t e15)
theorem QG.calls {w : World} {a0 : List (List UInt8)} {a1 : List UInt8 → Option Bool} {r : Bool} {v_a0 : Value} (f_a0 : Rd 1 jc w v_a0 a0) {v_a1 : Value} (f_a1 : ∀ (x0 : List UInt8) (r : Bool), a1 x0 = some r → jb Tryz.prog w v_a1 [(S x0)] (.bool r)) (g_a1 : v_a1.cells = #[v_a1]) (h0 : a0.length ≤ 4611686018427387904) (H : (GY a1 a0) = some r) :
  Calls Tryz.prog 167 #[v_a0, v_a1] w (Rt (RP w (.bool r))) := QG.walk f_a0 f_a1 g_a1 (QG.eq a0 a1 h0 H)
/-! impl.PathOK -/
theorem j4.calls {w : World} {a0 : List UInt8} (gv : GV 0 w) :
  Calls Tryz.prog 101 #[S a0] w (Rt (RP w (.bool (qE a0)))) := by
 have H := j4.eq a0
 generalize (qE a0) = r at H ⊢
 unfold j4.sh at H
 refine qg Tryz.func101 rfl (Nat.le_of_ble_eq_true rfl) Tryz.ntmps101 rfl ?_
 refine wr <| lp rfl (xa (.bool false) rfl) <| nx <| wr <| lp rfl (xm (S a0) rfl) <| lp rfl (Q1 Tryz.underlying9 rfl) <| lp rfl (vW rfl rfl) <| lp rfl (xm (.bool (decide ((a0.length : Int) < 36))) rfl) ?_
 obtain ⟨z2, x3, H⟩ := bind_some H
 refine ja 5 [(7, 12)] 11 (fun q => q = z2) ?_ ?_
 ·rcases qh x3 with ⟨b0_, H⟩ | ⟨b0_, H⟩
  ·refine lg rfl rfl rfl rfl (cb b0_) (xm (S a0) rfl) ?_
   obtain ⟨c2, H⟩ := qa H
   refine vE (tg rfl rfl rfl (cb b0_)) rfl (ltb rfl) rfl Tryz.call132 (yn.calls (w := w) (a0 := a0) gv (od c2)) rfl <| fun v5 w3 e4 o6 => lg rfl rfl rfl rfl (cb b0_) (va Tryz.underlying44 rfl (Ow.rd o6)) <| lg rfl rfl rfl rfl (cb b0_) (Jv rfl rfl) <| lp rfl (qy (b := true) (v := (.bool (decide (((cut 47 a0).length : Int) ≤ 4)))) (cb b0_) rfl) ?_
   obtain rfl := si H
   exact nx ⟨(ku1 (ku4 kz rfl) rfl), ⟨_, rfl, rfl⟩, e4⟩
  ·refine ls rfl rfl rfl (cb b0_) rfl <| ls rfl rfl rfl (cb b0_) rfl <| ls rfl rfl rfl (cb b0_) rfl <| ls rfl rfl rfl (cb b0_) rfl <| lp rfl (qy (b := false) (v := (.bool false)) (cb b0_) rfl) ?_
   obtain rfl := si H
   exact nx ⟨(ku1 (ku4 kz rfl) rfl), ⟨_, rfl, rfl⟩, er⟩
 intro s8 w4 z9 K5 hq h6 e7
 rw [hq] at h6; clear hq
 refine lp rfl (qb h6) ?_
 obtain ⟨z11, x12, H⟩ := bind_some H
 refine ja 4 [(13, 17)] 16 (fun q => q = z11) ?_ ?_
 ·rcases qh x12 with ⟨b9_, H⟩ | ⟨b9_, H⟩
  ·refine lg rfl rfl rfl rfl (cb b9_) (xm (S a0) (K5 0 rfl)) ?_
   obtain ⟨c11, H⟩ := qa H
   refine vE (tg rfl rfl rfl (cb b9_)) rfl (ltb rfl) rfl Tryz.call132 (yn.calls (w := w4) (a0 := a0) (GV.ext gv e7) (od c11)) rfl <| fun v14 w12 e13 o15 => ?_
   obtain ⟨c20, H⟩ := qa H
   obtain ⟨z21, x22, H⟩ := bind_some H
   refine yW (tg rfl rfl rfl (cb b9_)) rfl (ltb rfl) rfl Tryz.call167 (QG.calls (w := w12) (a0 := (cut 47 a0)) (a1 := (fun (x0_ : List UInt8) => bif decide (x0_.length ≤ 4611686018427387904) then (some (jn x0_)) else none)) (Ow.rd o15) (fun x0_ r h => by obtain ⟨q0, h⟩ := qa h; have h := si h; subst h; exact jb.mk Tryz.call168 (by rfl) fun w18 k19 => yZ.calls (w := w18) (a0 := x0_) (od q0)) rfl (od c20) x22) rfl <| fun w23 e24 => lp rfl (qy (b := true) (v := (.bool z21)) (cb b9_) rfl) ?_
   obtain rfl := si H
   exact nx ⟨(ku4 kz rfl), ⟨_, rfl, rfl⟩, (e13.t e24)⟩
  ·refine ls rfl rfl rfl (cb b9_) rfl <| ls rfl rfl rfl (cb b9_) rfl <| ls rfl rfl rfl (cb b9_) rfl <| lp rfl (qy (b := false) (v := (.bool false)) (cb b9_) rfl) ?_
   obtain rfl := si H
   exact nx ⟨(ku4 kz rfl), ⟨_, rfl, rfl⟩, er⟩
 intro s25 w13 z26 K14 hq h15 e16
 rw [hq] at h15; clear hq
 refine lp rfl (qp h15) <| nx <| qr <| qu ?_
 obtain rfl := si H
 exact vh rfl (e7.t e16)
/-! impl.first -/
theorem yM.calls {w : World} {a0 : List (Bool ⊕ Int)} {v_a0 : Value} (f_a0 : Rd 1 (Ve 4 3) w v_a0 a0) (h0 : a0.length ≤ 4611686018427387904) :
  Calls Tryz.prog 77 #[v_a0] w (Rt (RP w (.int .i64 (vO a0)))) := by
 obtain ⟨k, H⟩ := yM.eq a0 h0
 generalize (vO a0) = r at H ⊢
 unfold yM.sh at H
 refine qg Tryz.func77 rfl (Nat.le_of_ble_eq_true rfl) Tryz.ntmps77 rfl ?_
 refine wr <| lp rfl (xa (.int .i64 0) rfl) <| nx <| qi <| wr <| lp rfl (xa (.int .i64 0) rfl) <| nx ?_
 obtain ⟨z2, L3, C4⟩ := bind_some H
 clear H
 refine  vq (fun s0 sQ wQ => Kp [(2, 34)] s0 sQ ∧ Ext w wQ ∧ z2 = .inr ()) ?_ ?_
 ·refine qx <| vc (fun s0 kk sQ wQ => ∃ (x3_1 : Int), Kp [(2, 34)] s0 sQ ∧ sQ 3 = .int .i64 x3_1 ∧ Ext w wQ ∧ qn (yM.b1 a0) kk x3_1 = some z2) k ⟨0, kz, rfl, er, L3⟩ ?_
  rintro k9 s10 w11 ⟨x3_1, K12, h15, e13, L14⟩
  cases k9 with
  | zero => exact absurd L14 (by simp [qn])
  | succ k9 =>
   obtain ⟨t16, H, S17⟩ := qJ L14
   clear L14
   unfold yM.b1 at H
   refine qi <| wr <| lp rfl (qb h15) <| lp rfl (qU rfl rfl) <| lp rfl (xm v_a0 (K12 0 rfl)) <| lp rfl (va Tryz.underlying142 rfl (Rd.ext f_a0 e13)) <| lp rfl (vW rfl rfl) <| nx ?_
   rcases qh H with ⟨q18, H⟩ | ⟨q18, H⟩
   ·refine qo (cb q18) <| qq <| qf <| qi <| qx <| wr <| lp rfl (xm v_a0 (K12 0 rfl)) <| lp rfl (qb h15) ?_
    obtain ⟨c19, H⟩ := qa H
    refine vk (.plain rfl) rfl (ltb rfl) rfl Tryz.underlying142 Tryz.sizeOf20 rfl (Rd.ext f_a0 e13) rfl c19 <| fun p20 h21 => lp rfl (vy Tryz.isAgg20 rfl h21 rfl) <| lp rfl (X_taB Tryz.underlying4 Tryz.zeroValue4 (by decide) rfl) <| lp rfl (xm (.tuple #[(.bool (J1 (gt a0 x3_1))), (.bool (isB (gt a0 x3_1)))]) rfl) <| lp rfl (vV (v := (.bool (J1 (gt a0 x3_1)))) rfl rfl) <| lp rfl (vV (v := (.bool (isB (gt a0 x3_1)))) rfl rfl) <| lp rfl (xa (.bool (J1 (gt a0 x3_1))) rfl) <| lp rfl (xa (.bool (isB (gt a0 x3_1))) rfl) <| nx <| wr <| lp rfl (xm (.bool (J1 (gt a0 x3_1))) rfl) <| nx ?_
    rcases qh H with ⟨q22, H⟩ | ⟨q22, H⟩
    ·refine qo (cb q22) <| wr <| lp rfl (xm v_a0 (K12 0 rfl)) <| lp rfl (qb h15) <| lp rfl (qU rfl rfl) ?_
     obtain ⟨c23, H⟩ := qa H
     refine vk (.plain rfl) rfl (ltb rfl) rfl Tryz.underlying142 Tryz.sizeOf20 rfl (Rd.ext f_a0 e13) rfl c23 <| fun p24 h25 => lp rfl (vy Tryz.isAgg20 rfl h25 rfl) <| lp rfl (X_taI Tryz.underlying3 Tryz.zeroValue3 (by decide) rfl) <| lp rfl (qb rfl) <| lp rfl (vV (v := (.int .i64 (Gz (gt a0 (IntKind.wrap .i64 (x3_1 + 1)))))) rfl rfl) <| lp rfl (vV (v := (.bool (!isB (gt a0 (IntKind.wrap .i64 (x3_1 + 1)))))) rfl rfl) <| lp rfl (xa (.int .i64 (Gz (gt a0 (IntKind.wrap .i64 (x3_1 + 1))))) rfl) <| lp rfl (xa (.bool (!isB (gt a0 (IntKind.wrap .i64 (x3_1 + 1))))) rfl) <| nx <| wr <| lp rfl (xm (.int .i64 (Gz (gt a0 (IntKind.wrap .i64 (x3_1 + 1))))) rfl) <| lp rfl (xa (.int .i64 (Gz (gt a0 (IntKind.wrap .i64 (x3_1 + 1))))) rfl) <| nx <| qr <| vJ <| qw <| qw <| vJ <| qw <| qw <| qu ?_
     obtain rfl := si H
     obtain rfl := si S17
     have H := C4
     obtain rfl := si H
     exact vh rfl e13
    ·refine qj (cb q22) <| qq <| vj <| qf <| qG <| lp rfl (qb h15) <| lp rfl (qU rfl rfl) <| lp rfl (xa (.int .i64 (IntKind.wrap .i64 (x3_1 + 2))) rfl) <| nx ?_
     obtain rfl := si H
     exact ⟨_, Nat.lt_succ_self _, IntKind.wrap .i64 (x3_1 + 2), (ku3 (ku8 (ku8 K12 rfl) rfl) rfl), rfl, e13, S17⟩
   ·refine qj (cb q18) <| vt <| qN <| qN <| yu <| qf ?_
    obtain rfl := si H
    obtain rfl := si S17
    exact ⟨(ku1 (ku4 K12 rfl) rfl), e13, rfl⟩
 ·rintro s6 w5 ⟨K7, e8, y26⟩
  rw [y26] at C4
  have H := C4
  replace H : _ = some _ := H
  refine qf <| wr <| lp rfl (xa (.int .i64 0) rfl) <| nx <| qr <| qu ?_
  obtain rfl := si H
  exact vh rfl e8
/-! spec.l01OK -/
theorem y7.calls {w : World} {a0 : List UInt8} :
  Calls Tryz.prog 97 #[S a0] w (Rt (RP w (.bool (qE a0)))) := by
 obtain ⟨k, H⟩ := y7.eq a0
 generalize (qE a0) = r at H ⊢
 unfold y7.sh at H
 refine qg Tryz.func97 rfl (Nat.le_of_ble_eq_true rfl) Tryz.ntmps97 rfl ?_
 refine wr <| lp rfl (xa (.bool false) rfl) <| nx <| qi <| wr <| lp rfl (xm (S a0) rfl) <| lp rfl (Q1 Tryz.underlying9 rfl) <| lp rfl (Qp rfl rfl) <| nx ?_
 rcases qh H with ⟨q1, H⟩ | ⟨q1, H⟩
 ·refine qo (cb q1) <| wr <| lp rfl (xa (.bool false) rfl) <| nx <| qr <| qw <| qu ?_
  obtain rfl := si H
  exact vh rfl er
 ·refine qj (cb q1) <| qq <| qf <| wr <| lp rfl (xm (S a0) rfl) ?_
  obtain ⟨c2, H⟩ := qa H
  refine vE (.plain rfl) rfl (ltb rfl) rfl Tryz.call135 (yE.calls (w := w) (a0 := a0) (a1 := 47) (od c2)) rfl <| fun v5 w3 e4 o6 => lp rfl (xa v5 rfl) <| nx <| qi <| wr <| lp rfl (xm v5 rfl) <| lp rfl (va Tryz.underlying44 rfl (Ow.rd o6)) <| lp rfl (Qp rfl rfl) <| nx ?_
  rcases qh H with ⟨q7, H⟩ | ⟨q7, H⟩
  ·refine qo (cb q7) <| wr <| lp rfl (xa (.bool false) rfl) <| nx <| qr <| qw <| qu ?_
   obtain rfl := si H
   exact vh rfl e4
  ·refine qj (cb q7) <| qq <| qf <| qi <| wr <| lp rfl (xa (.int .i64 0) rfl) <| nx ?_
   obtain ⟨z9, L10, C11⟩ := bind_some H
   clear H
   refine  vq (fun s0 sQ wQ => Kp [(2, 3), (4, 5), (13, 25)] s0 sQ ∧ Ext w3 wQ ∧ z9 = .inr ()) ?_ ?_
   ·refine qx <| vc (fun s0 kk sQ wQ => ∃ (x4_8 : Int), Kp [(2, 3), (4, 5), (13, 25)] s0 sQ ∧ sQ 4 = .int .i64 x4_8 ∧ Ext w3 wQ ∧ qn (y7.b1 a0) kk x4_8 = some z9) k ⟨0, kz, rfl, er, L10⟩ ?_
    rintro k16 s17 w18 ⟨x4_8, K19, h22, e20, L21⟩
    cases k16 with
    | zero => exact absurd L21 (by simp [qn])
    | succ k16 =>
     obtain ⟨t23, H, S24⟩ := qJ L21
     clear L21
     unfold y7.b1 at H
     refine qi <| wr <| lp rfl (qb h22) <| lp rfl (xm v5 (K19 3 rfl)) <| lp rfl (va Tryz.underlying44 rfl (Ow.rd (Ow.ext o6 e20))) <| lp rfl (vW rfl rfl) <| nx ?_
     rcases qh H with ⟨q25, H⟩ | ⟨q25, H⟩
     ·refine qo (cb q25) <| qq <| qf <| qi <| qx <| wr <| lp rfl (xm v5 (K19 3 rfl)) <| lp rfl (qb h22) ?_
      obtain ⟨c26, H⟩ := qa H
      refine vk (.plain rfl) rfl (ltb rfl) rfl Tryz.underlying44 Tryz.sizeOf9 rfl (Ow.rd (Ow.ext o6 e20)) rfl c26 <| fun p27 h28 => lp rfl (vy Tryz.isAgg9 rfl h28 rfl) <| lc rfl rfl Tryz.call161 (yJ.calls (w := w18) (a0 := gt (cut 47 a0) x4_8)) rfl <| fun w29 e30 => lp rfl (jm rfl) <| nx ?_
      rcases qh H with ⟨q31, H⟩ | ⟨q31, H⟩
      ·refine qo (cb q31) <| wr <| lp rfl (xa (.bool false) rfl) <| nx <| qr <| vJ <| qw <| qw <| vJ <| qw <| qw <| qu ?_
       obtain rfl := si H
       obtain rfl := si S24
       have H := C11
       obtain rfl := si H
       exact vh rfl ((e4.t e20).t e30)
      ·refine qj (cb q31) <| qq <| vj <| qf <| qG <| lp rfl (qb h22) <| lp rfl (qU rfl rfl) <| lp rfl (xa (.int .i64 (IntKind.wrap .i64 (x4_8 + 1))) rfl) <| nx ?_
       obtain rfl := si H
       exact ⟨_, Nat.lt_succ_self _, IntKind.wrap .i64 (x4_8 + 1), (ku1 (ku4 (ku8 K19 rfl) rfl) rfl), rfl, (e20.t e30), S24⟩
     ·refine qj (cb q25) <| vt <| qN <| qN <| yu <| qf ?_
      obtain rfl := si H
      obtain rfl := si S24
      exact ⟨(ku4 K19 rfl), e20, rfl⟩
   ·rintro s13 w12 ⟨K14, e15, y32⟩
    rw [y32] at C11
    have H := C11
    replace H : _ = some _ := H
    refine qf <| wr <| lp rfl (xa (.bool true) rfl) <| nx <| qr <| qu ?_
    obtain rfl := si H
    exact vh rfl (e4.t e15)
/-! spec.l02Fault -/
theorem Qd.calls {w : World} {a0 : Rec} :
  Calls Tryz.prog 194 #[.agg (qc a0).toArray] w (Rt (RP w (.int .i64 (qz a0)))) := by
 have H := Qd.eq a0
 generalize (qz a0) = r at H ⊢
 unfold Qd.sh at H
 refine qg Tryz.func194 rfl (Nat.le_of_ble_eq_true rfl) Tryz.ntmps194 rfl ?_
 refine wr <| Qg (.plain rfl) rfl (ltb rfl) rfl rfl <| fun b1 w2 z3 z4 e5 k6 => lp rfl (xa (.int .i64 0) rfl) <| nx <| wr <| lp rfl (qd Tryz.underlying52 rfl Tryz.sizeOf3 rfl rfl) <| lp rfl (qA Tryz.isAgg3 k6 rfl rfl) <| lp rfl (yL rfl rfl) <| lp rfl (xa (.bool (decide (a0.kind = 3))) rfl) <| nx <| qi <| qx <| wr <| lp rfl (qd Tryz.underlying52 rfl Tryz.sizeOf3 rfl rfl) <| lp rfl (qA Tryz.isAgg3 k6 rfl rfl) <| lc rfl rfl Tryz.call61 (Qc.calls (w := w2) (a0 := a0.kind) (a1 := 1) (a2 := 4)) rfl <| fun w7 e8 => lp rfl (jm rfl) <| lp rfl (xa (.bool (!(within a0.kind 1 4))) rfl) <| nx ?_
 rcases qh H with ⟨q9, H⟩ | ⟨q9, H⟩
 ·refine qo (cb q9) <| wr <| lp rfl (xa (.int .i64 9) rfl) <| nx <| qr <| vJ <| qw <| qu ?_
  obtain rfl := si H
  exact vh rfl (e5.t e8)
 ·refine qj (cb q9) <| wr <| lp rfl (qd Tryz.underlying52 rfl Tryz.sizeOf9 rfl rfl) <| lp rfl (qA Tryz.isAgg9 (Blk.ext k6 e8) rfl rfl) <| lc rfl rfl Tryz.call97 (y7.calls (w := w7) (a0 := a0.path)) rfl <| fun w10 e11 => lp rfl (jm rfl) <| lp rfl (xa (.bool (!(qE a0.path))) rfl) <| nx ?_
  rcases qh H with ⟨q12, H⟩ | ⟨q12, H⟩
  ·refine qo (cb q12) <| wr <| lp rfl (xa (.int .i64 10) rfl) <| nx <| qr <| vJ <| qw <| qu ?_
   obtain rfl := si H
   exact vh rfl ((e5.t e8).t e11)
  ·refine qj (cb q12) <| wr <| lp rfl (qd Tryz.underlying52 rfl Tryz.sizeOf9 rfl rfl) <| lp rfl (qA Tryz.isAgg9 (Blk.ext k6 (e8.t e11)) rfl rfl) <| lp rfl (Q1 Tryz.underlying9 rfl) <| lp rfl (Qp rfl rfl) <| lp rfl (xm (.bool (decide (20 < (a0.body.length : Int)))) rfl) <| jN 9 [(23, 32)] 31 (.bool ((decide (20 < (a0.body.length : Int))) || ((decide (a0.kind = 2)) && (decide (a0.body = ([] : List UInt8)))))) ?_ ?_
   ·rcases ql (decide (20 < (a0.body.length : Int))) with b12_ | b12_
    ·exact ls rfl rfl rfl (cb b12_) rfl <| ls rfl rfl rfl (cb b12_) rfl <| ls rfl rfl rfl (cb b12_) rfl <| ls rfl rfl rfl (cb b12_) rfl <| lu rfl rfl rfl rfl rfl <| lu rfl rfl rfl rfl rfl <| lu rfl rfl rfl rfl rfl <| ls rfl rfl rfl (cb b12_) rfl <| lp rfl (qy (b := true) (v := (.bool true)) (cb b12_) rfl) <| nx ⟨(ku1 (ku8 kz rfl) rfl), (J9 b12_), er⟩
    ·refine lg rfl rfl rfl rfl (cb b12_) (qd Tryz.underlying52 rfl Tryz.sizeOf3 rfl rfl) <| lg rfl rfl rfl rfl (cb b12_) (qA Tryz.isAgg3 (Blk.ext k6 (e8.t e11)) rfl rfl) <| lg rfl rfl rfl rfl (cb b12_) (yL rfl rfl) <| lg rfl rfl rfl rfl (cb b12_) (xm (.bool (decide (a0.kind = 2))) rfl) <| jN 4 [(27, 31)] 30 (.bool ((decide (a0.kind = 2)) && (decide (a0.body = ([] : List UInt8))))) ?_ ?_
     ·rcases ql (decide (a0.kind = 2)) with b13_ | b13_
      ·exact lg rfl rfl rfl rfl (cb b13_) (qd Tryz.underlying52 rfl Tryz.sizeOf9 rfl rfl) <| lg rfl rfl rfl rfl (cb b13_) (qA Tryz.isAgg9 (Blk.ext k6 (e8.t e11)) rfl rfl) <| lg rfl rfl rfl rfl (cb b13_) (VO rfl rfl) <| lg rfl rfl rfl rfl (cb b12_) (qy (b := true) (v := (.bool (decide (a0.body = ([] : List UInt8))))) (cb b13_) rfl) <| nx ⟨(ku4 kz rfl), (Vm b13_), er⟩
      ·exact ls rfl rfl rfl (cb b13_) rfl <| ls rfl rfl rfl (cb b13_) rfl <| ls rfl rfl rfl (cb b13_) rfl <| lg rfl rfl rfl rfl (cb b12_) (qy (b := false) (v := (.bool false)) (cb b13_) rfl) <| nx ⟨(ku4 kz rfl), (Vn b13_), er⟩
     intro s19 w15 K16 h17 e18
     exact lp rfl (qy (b := false) (v := (.bool ((decide (a0.kind = 2)) && (decide (a0.body = ([] : List UInt8)))))) ((K16 22 rfl).trans (cb b12_)) h17) <| nx ⟨(ku1 (Kp.cut (ku4 kz rfl) K16 rfl) rfl), (JY b12_), e18⟩
   intro s20 w14 K15 h16 e17
   refine lp rfl (qp h16) <| nx ?_
   rcases qh H with ⟨q21, H⟩ | ⟨q21, H⟩
   ·refine qo (cb q21) <| wr <| lp rfl (xa (.int .i64 8) rfl) <| nx <| qr <| vJ <| qw <| qu ?_
    obtain rfl := si H
    exact vh rfl (((e5.t e8).t e11).t e17)
   ·refine qj (cb q21) <| wr <| lp rfl (qd Tryz.underlying52 rfl Tryz.sizeOf9 rfl (K15 1 rfl)) <| lp rfl (qA Tryz.isAgg9 (Blk.ext k6 ((e8.t e11).t e17)) rfl rfl) <| lp rfl (VN rfl rfl) <| lp rfl (xm (.bool (!decide (a0.body = ([] : List UInt8)))) rfl) <| jN 7 [(37, 44)] 43 (.bool ((!decide (a0.body = ([] : List UInt8))) && ((decide (a0.kind = 3)) || (decide (a0.kind = 4))))) ?_ ?_
    ·rcases ql (!decide (a0.body = ([] : List UInt8))) with b21_ | b21_
     ·refine lg rfl rfl rfl rfl (cb b21_) (xm (.bool (decide (a0.kind = 3))) (K15 3 rfl)) <| lg rfl rfl rfl rfl (cb b21_) (xm (.bool (decide (a0.kind = 3))) rfl) <| jN 4 [(39, 43)] 42 (.bool ((decide (a0.kind = 3)) || (decide (a0.kind = 4)))) ?_ ?_
      ·rcases ql (decide (a0.kind = 3)) with b22_ | b22_
       ·exact ls rfl rfl rfl (cb b22_) rfl <| ls rfl rfl rfl (cb b22_) rfl <| ls rfl rfl rfl (cb b22_) rfl <| lg rfl rfl rfl rfl (cb b21_) (qy (b := true) (v := (.bool true)) (cb b22_) rfl) <| nx ⟨(ku4 kz rfl), (J9 b22_), er⟩
       ·exact lg rfl rfl rfl rfl (cb b22_) (qd Tryz.underlying52 rfl Tryz.sizeOf3 rfl (K15 1 rfl)) <| lg rfl rfl rfl rfl (cb b22_) (qA Tryz.isAgg3 (Blk.ext k6 ((e8.t e11).t e17)) rfl rfl) <| lg rfl rfl rfl rfl (cb b22_) (yL rfl rfl) <| lg rfl rfl rfl rfl (cb b21_) (qy (b := false) (v := (.bool (decide (a0.kind = 4)))) (cb b22_) rfl) <| nx ⟨(ku4 kz rfl), (JY b22_), er⟩
      intro s28 w24 K25 h26 e27
      exact lp rfl (qy (b := true) (v := (.bool ((decide (a0.kind = 3)) || (decide (a0.kind = 4))))) ((K25 36 rfl).trans (cb b21_)) h26) <| nx ⟨(ku1 (Kp.cut (ku2 kz rfl) K25 rfl) rfl), (Vm b21_), e27⟩
     ·exact ls rfl rfl rfl (cb b21_) rfl <| ls rfl rfl rfl (cb b21_) rfl <| lu rfl rfl rfl rfl rfl <| lu rfl rfl rfl rfl rfl <| lu rfl rfl rfl rfl rfl <| ls rfl rfl rfl (cb b21_) rfl <| lp rfl (qy (b := false) (v := (.bool false)) (cb b21_) rfl) <| nx ⟨(ku3 (ku4 kz rfl) rfl), (Vn b21_), er⟩
    intro s29 w23 K24 h25 e26
    refine lp rfl (qb h25) <| jN 7 [(45, 52)] 51 (.bool (((!decide (a0.body = ([] : List UInt8))) && ((decide (a0.kind = 3)) || (decide (a0.kind = 4)))) || (a0.opq && (!(decide (a0.kind = 3)))))) ?_ ?_
    ·rcases ql ((!decide (a0.body = ([] : List UInt8))) && ((decide (a0.kind = 3)) || (decide (a0.kind = 4)))) with b29_ | b29_
     ·exact ls rfl rfl rfl (cb b29_) rfl <| ls rfl rfl rfl (cb b29_) rfl <| ls rfl rfl rfl (cb b29_) rfl <| lu rfl rfl rfl rfl rfl <| lu rfl rfl rfl rfl rfl <| ls rfl rfl rfl (cb b29_) rfl <| lp rfl (qy (b := true) (v := (.bool true)) (cb b29_) rfl) <| nx ⟨(ku3 (ku4 kz rfl) rfl), (J9 b29_), er⟩
     ·refine lg rfl rfl rfl rfl (cb b29_) (qd Tryz.underlying52 rfl Tryz.sizeOf4 rfl ((K24 1 rfl).trans (K15 1 rfl))) <| lg rfl rfl rfl rfl (cb b29_) (qA Tryz.isAgg4 (Blk.ext k6 (((e8.t e11).t e17).t e26)) rfl rfl) <| lg rfl rfl rfl rfl (cb b29_) (xm (.bool a0.opq) rfl) <| jN 3 [(48, 51)] 50 (.bool (a0.opq && (!(decide (a0.kind = 3))))) ?_ ?_
      ·rcases ql a0.opq with b30_ | b30_
       ·exact lg rfl rfl rfl rfl (cb b30_) (xm (.bool (decide (a0.kind = 3))) ((K24 3 rfl).trans (K15 3 rfl))) <| lg rfl rfl rfl rfl (cb b30_) (jm rfl) <| lg rfl rfl rfl rfl (cb b29_) (qy (b := true) (v := (.bool (!(decide (a0.kind = 3))))) (cb b30_) rfl) <| nx ⟨(ku3 kz rfl), (Vm b30_), er⟩
       ·exact ls rfl rfl rfl (cb b30_) rfl <| ls rfl rfl rfl (cb b30_) rfl <| lg rfl rfl rfl rfl (cb b29_) (qy (b := false) (v := (.bool false)) (cb b30_) rfl) <| nx ⟨(ku3 kz rfl), (Vn b30_), er⟩
      intro s36 w32 K33 h34 e35
      exact lp rfl (qy (b := false) (v := (.bool (a0.opq && (!(decide (a0.kind = 3)))))) ((K33 44 rfl).trans (cb b29_)) h34) <| nx ⟨(ku1 (Kp.cut (ku3 kz rfl) K33 rfl) rfl), (JY b29_), e35⟩
    intro s37 w31 K32 h33 e34
    refine lp rfl (qp h33) <| nx ?_
    rcases qh H with ⟨q38, H⟩ | ⟨q38, H⟩
    ·refine qo (cb q38) <| wr <| lp rfl (xa (.int .i64 3) rfl) <| nx <| qr <| vJ <| qw <| qu ?_
     obtain rfl := si H
     exact vh rfl (((((e5.t e8).t e11).t e17).t e26).t e34)
    ·refine qj (cb q38) <| wr <| lp rfl (qd Tryz.underlying52 rfl Tryz.sizeOf3 rfl ((K32 1 rfl).trans ((K24 1 rfl).trans (K15 1 rfl)))) <| lp rfl (qA Tryz.isAgg3 (Blk.ext k6 ((((e8.t e11).t e17).t e26).t e34)) rfl rfl) <| lc rfl rfl Tryz.call61 (Qc.calls (w := w31) (a0 := a0.mode) (a1 := 0) (a2 := 511)) rfl <| fun w39 e40 => lp rfl (jm rfl) <| lp rfl (xm (.bool (!(within a0.mode 0 511))) rfl) <| jN 14 [(58, 72)] 71 (.bool ((!(within a0.mode 0 511)) || ((!decide (a0.mode = 0)) && ((decide (a0.kind = 4)) || (decide (a0.kind = 2)))))) ?_ ?_
     ·rcases ql (!(within a0.mode 0 511)) with b40_ | b40_
      ·exact ls rfl rfl rfl (cb b40_) rfl <| ls rfl rfl rfl (cb b40_) rfl <| ls rfl rfl rfl (cb b40_) rfl <| ls rfl rfl rfl (cb b40_) rfl <| lu rfl rfl rfl rfl rfl <| lu rfl rfl rfl rfl rfl <| lu rfl rfl rfl rfl rfl <| lu rfl rfl rfl rfl rfl <| lu rfl rfl rfl rfl rfl <| lu rfl rfl rfl rfl rfl <| lu rfl rfl rfl rfl rfl <| lu rfl rfl rfl rfl rfl <| ls rfl rfl rfl (cb b40_) rfl <| lp rfl (qy (b := true) (v := (.bool true)) (cb b40_) rfl) <| nx ⟨(ku2 (ku4 (ku8 kz rfl) rfl) rfl), (J9 b40_), er⟩
      ·refine lg rfl rfl rfl rfl (cb b40_) (qd Tryz.underlying52 rfl Tryz.sizeOf3 rfl ((K32 1 rfl).trans ((K24 1 rfl).trans (K15 1 rfl)))) <| lg rfl rfl rfl rfl (cb b40_) (qA Tryz.isAgg3 (Blk.ext k6 (((((e8.t e11).t e17).t e26).t e34).t e40)) rfl rfl) <| lg rfl rfl rfl rfl (cb b40_) (Qo rfl rfl) <| lg rfl rfl rfl rfl (cb b40_) (xm (.bool (!decide (a0.mode = 0))) rfl) <| jN 9 [(62, 71)] 70 (.bool ((!decide (a0.mode = 0)) && ((decide (a0.kind = 4)) || (decide (a0.kind = 2))))) ?_ ?_
       ·rcases ql (!decide (a0.mode = 0)) with b41_ | b41_
        ·refine lg rfl rfl rfl rfl (cb b41_) (qd Tryz.underlying52 rfl Tryz.sizeOf3 rfl ((K32 1 rfl).trans ((K24 1 rfl).trans (K15 1 rfl)))) <| lg rfl rfl rfl rfl (cb b41_) (qA Tryz.isAgg3 (Blk.ext k6 (((((e8.t e11).t e17).t e26).t e34).t e40)) rfl rfl) <| lg rfl rfl rfl rfl (cb b41_) (yL rfl rfl) <| lg rfl rfl rfl rfl (cb b41_) (xm (.bool (decide (a0.kind = 4))) rfl) <| jN 4 [(66, 70)] 69 (.bool ((decide (a0.kind = 4)) || (decide (a0.kind = 2)))) ?_ ?_
         ·rcases ql (decide (a0.kind = 4)) with b42_ | b42_
          ·exact ls rfl rfl rfl (cb b42_) rfl <| ls rfl rfl rfl (cb b42_) rfl <| ls rfl rfl rfl (cb b42_) rfl <| lg rfl rfl rfl rfl (cb b41_) (qy (b := true) (v := (.bool true)) (cb b42_) rfl) <| nx ⟨(ku4 kz rfl), (J9 b42_), er⟩
          ·exact lg rfl rfl rfl rfl (cb b42_) (qd Tryz.underlying52 rfl Tryz.sizeOf3 rfl ((K32 1 rfl).trans ((K24 1 rfl).trans (K15 1 rfl)))) <| lg rfl rfl rfl rfl (cb b42_) (qA Tryz.isAgg3 (Blk.ext k6 (((((e8.t e11).t e17).t e26).t e34).t e40)) rfl rfl) <| lg rfl rfl rfl rfl (cb b42_) (yL rfl rfl) <| lg rfl rfl rfl rfl (cb b41_) (qy (b := false) (v := (.bool (decide (a0.kind = 2)))) (cb b42_) rfl) <| nx ⟨(ku4 kz rfl), (JY b42_), er⟩
         intro s48 w44 K45 h46 e47
         exact lg rfl rfl rfl rfl ((K45 57 rfl).trans (cb b40_)) (qy (b := true) (v := (.bool ((decide (a0.kind = 4)) || (decide (a0.kind = 2))))) ((K45 61 rfl).trans (cb b41_)) h46) <| nx ⟨(ku1 (Kp.cut (ku4 kz rfl) K45 rfl) rfl), (Vm b41_), e47⟩
        ·exact ls rfl rfl rfl (cb b41_) rfl <| ls rfl rfl rfl (cb b41_) rfl <| ls rfl rfl rfl (cb b41_) rfl <| ls rfl rfl rfl (cb b41_) rfl <| lu rfl rfl rfl rfl rfl <| lu rfl rfl rfl rfl rfl <| lu rfl rfl rfl rfl rfl <| ls rfl rfl rfl (cb b41_) rfl <| lg rfl rfl rfl rfl (cb b40_) (qy (b := false) (v := (.bool false)) (cb b41_) rfl) <| nx ⟨(ku1 (ku8 kz rfl) rfl), (Vn b41_), er⟩
       intro s49 w43 K44 h45 e46
       exact lp rfl (qy (b := false) (v := (.bool ((!decide (a0.mode = 0)) && ((decide (a0.kind = 4)) || (decide (a0.kind = 2)))))) ((K44 57 rfl).trans (cb b40_)) h45) <| nx ⟨(ku1 (Kp.cut (ku4 kz rfl) K44 rfl) rfl), (JY b40_), e46⟩
     intro s50 w42 K43 h44 e45
     refine lp rfl (qp h44) <| nx ?_
     rcases qh H with ⟨q51, H⟩ | ⟨q51, H⟩
     ·refine qo (cb q51) <| wr <| lp rfl (xa (.int .i64 4) rfl) <| nx <| qr <| vJ <| qw <| qu ?_
      obtain rfl := si H
      exact vh rfl (((((((e5.t e8).t e11).t e17).t e26).t e34).t e40).t e45)
     ·refine qj (cb q51) <| qq <| vj <| qf <| wr <| lp rfl (xa (.int .i64 0) rfl) <| nx <| qr <| qu ?_
      obtain rfl := si H
      exact vh rfl (((((((e5.t e8).t e11).t e17).t e26).t e34).t e40).t e45)
/-! impl.RecordFault -/
abbrev qk.e1 (a0 : Rec) := ([.inl (!(within a0.kind 1 4)), .inr 9, .inl (!(qE a0.path)), .inr 10, .inl ((decide (20 < (a0.body.length : Int))) || ((decide (a0.kind = 2)) && (decide (a0.body = ([] : List UInt8))))), .inr 8, .inl ((((decide (a0.kind = 3)) || (decide (a0.kind = 4))) && (!decide (a0.body = ([] : List UInt8)))) || ((!decide (a0.kind = 3)) && a0.opq)), .inr 3, .inl ((!(within a0.mode 0 511)) || (((decide (a0.kind = 2)) || (decide (a0.kind = 4))) && (!decide (a0.mode = 0)))), .inr 4] : List (Bool ⊕ Int))
abbrev qk.e2 (a0 : Rec) := (((decide (a0.kind = 3)) || (decide (a0.kind = 4))) && (!decide (a0.body = ([] : List UInt8))))
abbrev qk.e3 (a0 : Rec) := ((decide (a0.kind = 2)) || (decide (a0.kind = 4)))
abbrev qk.e4 (a0 : Rec) := ((decide (20 < (a0.body.length : Int))) || ((decide (a0.kind = 2)) && (decide (a0.body = ([] : List UInt8)))))
theorem qk.walk {w : World} {a0 : Rec} (gv : GV 0 w) {r : Int} (H : qk.sh a0 = some r) :
  Calls Tryz.prog 211 #[.agg (qc a0).toArray] w (Rt (RP w (.int .i64 r))) := by
 unfold qk.sh at H
 refine qg Tryz.func211 rfl (Nat.le_of_ble_eq_true rfl) Tryz.ntmps211 rfl ?_
 refine wr <| Qg (.plain rfl) rfl (ltb rfl) rfl rfl <| fun b1 w2 z3 z4 e5 k6 => lp rfl (xa (.int .i64 0) rfl) <| nx <| wr <| lp rfl (qd Tryz.underlying52 rfl Tryz.sizeOf3 rfl rfl) <| lp rfl (qA Tryz.isAgg3 k6 rfl rfl) <| lp rfl (yL rfl rfl) <| lp rfl (xm (.bool (decide (a0.kind = 3))) rfl) <| jN 4 [(8, 12)] 11 (.bool ((decide (a0.kind = 3)) || (decide (a0.kind = 4)))) ?_ ?_
 ·rcases ql (decide (a0.kind = 3)) with b6_ | b6_
  ·exact ls rfl rfl rfl (cb b6_) rfl <| ls rfl rfl rfl (cb b6_) rfl <| ls rfl rfl rfl (cb b6_) rfl <| lp rfl (qy (b := true) (v := (.bool true)) (cb b6_) rfl) <| nx ⟨(ku4 kz rfl), (J9 b6_), er⟩
  ·exact lg rfl rfl rfl rfl (cb b6_) (qd Tryz.underlying52 rfl Tryz.sizeOf3 rfl rfl) <| lg rfl rfl rfl rfl (cb b6_) (qA Tryz.isAgg3 k6 rfl rfl) <| lg rfl rfl rfl rfl (cb b6_) (yL rfl rfl) <| lp rfl (qy (b := false) (v := (.bool (decide (a0.kind = 4)))) (cb b6_) rfl) <| nx ⟨(ku4 kz rfl), (JY b6_), er⟩
 intro s12 w8 K9 h10 e11
 refine lp rfl (qp h10) <| nx <| qi ?_
 obtain ⟨c25, H⟩ := qa H
 refine Yc [LEq (.pointer (some ⟨b1, 0, none⟩)), LEq (.int .i64 a0.kind), LEq (.bool (within a0.kind 1 4)), LEq (.bool (!(within a0.kind 1 4))), LEq (.iface 4 (.bool (!(within a0.kind 1 4)))), LEq (.iface 3 (.int .i64 9)), LEq (.pointer (some ⟨b1, 1, none⟩)), LEq (S a0.path), LEq (.bool (qE a0.path)), LEq (.bool (!(qE a0.path))), LEq (.iface 4 (.bool (!(qE a0.path)))), LEq (.iface 3 (.int .i64 10)), LEq (.pointer (some ⟨b1, 2, none⟩)), LEq (S a0.body), LEq (.int .i64 (a0.body.length : Int)), LEq (.bool (decide (20 < (a0.body.length : Int)))), LEq (.bool (decide (20 < (a0.body.length : Int)))), LIf (!(decide (20 < (a0.body.length : Int)))) (LEq (.pointer (some ⟨b1, 0, none⟩))), LIf (!(decide (20 < (a0.body.length : Int)))) (LEq (.int .i64 a0.kind)), LIf (!(decide (20 < (a0.body.length : Int)))) (LEq (.bool (decide (a0.kind = 2)))), LIf (!(decide (20 < (a0.body.length : Int)))) (LEq (.bool (decide (a0.kind = 2)))), LIf ((!(decide (20 < (a0.body.length : Int)))) && (decide (a0.kind = 2))) (LEq (.pointer (some ⟨b1, 2, none⟩))), LIf ((!(decide (20 < (a0.body.length : Int)))) && (decide (a0.kind = 2))) (LEq (S a0.body)), LIf ((!(decide (20 < (a0.body.length : Int)))) && (decide (a0.kind = 2))) (LEq (.bool (decide (a0.body = ([] : List UInt8))))), LIf (!(decide (20 < (a0.body.length : Int)))) (LEq (.bool ((decide (a0.kind = 2)) && (decide (a0.body = ([] : List UInt8)))))), LEq (.bool (qk.e4 a0)), LEq (.iface 4 (.bool (qk.e4 a0))), LEq (.iface 3 (.int .i64 8)), LEq (.bool ((decide (a0.kind = 3)) || (decide (a0.kind = 4)))), LEq (.bool ((decide (a0.kind = 3)) || (decide (a0.kind = 4)))), LIf ((decide (a0.kind = 3)) || (decide (a0.kind = 4))) (LEq (.pointer (some ⟨b1, 2, none⟩))), LIf ((decide (a0.kind = 3)) || (decide (a0.kind = 4))) (LEq (S a0.body)), LIf ((decide (a0.kind = 3)) || (decide (a0.kind = 4))) (LEq (.bool (!decide (a0.body = ([] : List UInt8))))), LEq (.bool (qk.e2 a0)), LEq (.bool (qk.e2 a0)), LIf (!(qk.e2 a0)) (LEq (.pointer (some ⟨b1, 0, none⟩))), LIf (!(qk.e2 a0)) (LEq (.int .i64 a0.kind)), LIf (!(qk.e2 a0)) (LEq (.bool (!decide (a0.kind = 3)))), LIf (!(qk.e2 a0)) (LEq (.bool (!decide (a0.kind = 3)))), LIf ((!(qk.e2 a0)) && (!decide (a0.kind = 3))) (LEq (.pointer (some ⟨b1, 4, none⟩))), LIf ((!(qk.e2 a0)) && (!decide (a0.kind = 3))) (LEq (.bool a0.opq)), LIf (!(qk.e2 a0)) (LEq (.bool ((!decide (a0.kind = 3)) && a0.opq))), LEq (.bool ((qk.e2 a0) || ((!decide (a0.kind = 3)) && a0.opq))), LEq (.iface 4 (.bool ((qk.e2 a0) || ((!decide (a0.kind = 3)) && a0.opq)))), LEq (.iface 3 (.int .i64 3)), LEq (.pointer (some ⟨b1, 3, none⟩)), LEq (.int .i64 a0.mode), LEq (.bool (within a0.mode 0 511)), LEq (.bool (!(within a0.mode 0 511))), LEq (.bool (!(within a0.mode 0 511))), LIf (!(!(within a0.mode 0 511))) (LEq (.pointer (some ⟨b1, 0, none⟩))), LIf (!(!(within a0.mode 0 511))) (LEq (.int .i64 a0.kind)), LIf (!(!(within a0.mode 0 511))) (LEq (.bool (decide (a0.kind = 2)))), LIf (!(!(within a0.mode 0 511))) (LEq (.bool (decide (a0.kind = 2)))), LIf ((!(!(within a0.mode 0 511))) && (!(decide (a0.kind = 2)))) (LEq (.pointer (some ⟨b1, 0, none⟩))), LIf ((!(!(within a0.mode 0 511))) && (!(decide (a0.kind = 2)))) (LEq (.int .i64 a0.kind)), LIf ((!(!(within a0.mode 0 511))) && (!(decide (a0.kind = 2)))) (LEq (.bool (decide (a0.kind = 4)))), LIf (!(!(within a0.mode 0 511))) (LEq (.bool (qk.e3 a0))), LIf (!(!(within a0.mode 0 511))) (LEq (.bool (qk.e3 a0))), LIf ((!(!(within a0.mode 0 511))) && (qk.e3 a0)) (LEq (.pointer (some ⟨b1, 3, none⟩))), LIf ((!(!(within a0.mode 0 511))) && (qk.e3 a0)) (LEq (.int .i64 a0.mode)), LIf ((!(!(within a0.mode 0 511))) && (qk.e3 a0)) (LEq (.bool (!decide (a0.mode = 0)))), LIf (!(!(within a0.mode 0 511))) (LEq (.bool ((qk.e3 a0) && (!decide (a0.mode = 0))))), LEq (.bool ((!(within a0.mode 0 511)) || ((qk.e3 a0) && (!decide (a0.mode = 0))))), LEq (.iface 4 (.bool ((!(within a0.mode 0 511)) || ((qk.e3 a0) && (!decide (a0.mode = 0)))))), LEq (.iface 3 (.int .i64 4)), LRd 1 (Ve 4 3) (qk.e1 a0), LEq (.int .i64 (vO (qk.e1 a0))), LEq (.int .i64 (vO (qk.e1 a0)))] (by kernel_rfl) (by kernel_rfl) ⟨qm, qm, qm, qm, qm, qm, qm, qm, qm, qm, qm, qm, qm, qm, qm, qm, qm, lm, lm, lm, lm, lm, lm, lm, lm, qm, qm, qm, qm, qm, lm, lm, lm, qm, qm, lm, lm, lm, lm, lm, lm, lm, qm, qm, qm, qm, qm, qm, qm, qm, lm, lm, lm, lm, lm, lm, lm, lm, lm, lm, lm, lm, lm, qm, qm, qm, LRd.mono, qm, qm, trivial⟩ ⟨?_, ?_, ?_, ?_, ?_, ?_, ?_, ?_, ?_, ?_, ?_, ?_, ?_, ?_, ?_, ?_, ?_, ?_, ?_, ?_, ?_, ?_, ?_, ?_, ?_, ?_, ?_, ?_, ?_, ?_, ?_, ?_, ?_, ?_, ?_, ?_, ?_, ?_, ?_, ?_, ?_, ?_, ?_, ?_, ?_, ?_, ?_, ?_, ?_, ?_, ?_, ?_, ?_, ?_, ?_, ?_, ?_, ?_, ?_, ?_, ?_, ?_, ?_, ?_, ?_, ?_, ?_, ?_, ?_, trivial⟩ ?_
 ·exact fun s x e f d u => lp rfl (qd Tryz.underlying52 rfl Tryz.sizeOf3 rfl ((f 1 rfl).trans (K9 1 rfl))) <| se rfl rfl
 ·exact fun s x e f d u => lp rfl (qA Tryz.isAgg3 (Blk.ext k6 (e11.t e)) (d 0 rfl) rfl) <| se rfl rfl
 ·exact fun s x e f d u => lc rfl rfl Tryz.call117 (jB.calls (w := x) (a0 := a0.kind) (a1 := 1) (a2 := 4)) (vu (d 1 rfl) (vu rfl (vu rfl rfl))) <| fun w28 e29 => sx rfl e29 rfl
 ·exact fun s x e f d u => lp rfl (jm (d 2 rfl)) <| se rfl rfl
 ·exact fun s x e f d u => lp rfl (vn Tryz.underlying4 rfl (d 3 rfl)) <| se rfl rfl
 ·exact fun s x e f d u => lp rfl (vn Tryz.underlying3 rfl rfl) <| se rfl rfl
 ·exact fun s x e f d u => lp rfl (qd Tryz.underlying52 rfl Tryz.sizeOf9 rfl ((f 1 rfl).trans (K9 1 rfl))) <| se rfl rfl
 ·exact fun s x e f d u => lp rfl (qA Tryz.isAgg9 (Blk.ext k6 (e11.t e)) (d 6 rfl) rfl) <| se rfl rfl
 ·exact fun s x e f d u => lc rfl rfl Tryz.call101 (j4.calls (w := x) (a0 := a0.path) (GV.ext gv ((e5.t e11).t e))) (vu (d 7 rfl) rfl) <| fun w30 e31 => sx rfl e31 rfl
 ·exact fun s x e f d u => lp rfl (jm (d 8 rfl)) <| se rfl rfl
 ·exact fun s x e f d u => lp rfl (vn Tryz.underlying4 rfl (d 9 rfl)) <| se rfl rfl
 ·exact fun s x e f d u => lp rfl (vn Tryz.underlying3 rfl rfl) <| se rfl rfl
 ·exact fun s x e f d u => lp rfl (qd Tryz.underlying52 rfl Tryz.sizeOf9 rfl ((f 1 rfl).trans (K9 1 rfl))) <| se rfl rfl
 ·exact fun s x e f d u => lp rfl (qA Tryz.isAgg9 (Blk.ext k6 (e11.t e)) (d 12 rfl) rfl) <| se rfl rfl
 ·exact fun s x e f d u => lp rfl (Q1 Tryz.underlying9 (d 13 rfl)) <| se rfl rfl
 ·exact fun s x e f d u => lp rfl (Qp (d 14 rfl) rfl) <| se rfl rfl
 ·exact fun s x e f d u => lp rfl (qb (d 15 rfl)) <| se rfl rfl
 ·exact fun s x e f d u => gF rfl rfl rfl rfl (d 16 rfl) rfl fun b t => lt t rfl rfl (qd Tryz.underlying52 rfl Tryz.sizeOf3 rfl ((f 1 rfl).trans (K9 1 rfl))) <| sg rfl rfl b rfl
 ·exact fun s x e f d u => gF rfl rfl rfl rfl (d 16 rfl) rfl fun b t => lt t rfl rfl (qA Tryz.isAgg3 (Blk.ext k6 (e11.t e)) ((d 17 rfl).1 (qV (vX b))) rfl) <| sg rfl rfl b rfl
 ·exact fun s x e f d u => gF rfl rfl rfl rfl (d 16 rfl) rfl fun b t => lt t rfl rfl (yL ((d 18 rfl).1 (qV (vX b))) rfl) <| sg rfl rfl b rfl
 ·exact fun s x e f d u => gF rfl rfl rfl rfl (d 16 rfl) rfl fun b t => lt t rfl rfl (xm (.bool (decide (a0.kind = 2))) ((d 19 rfl).1 (qV (vX b)))) <| sg rfl rfl b rfl
 ·exact fun s x e f d u => hT rfl rfl rfl rfl (d 20 rfl) rfl fun b t => lt t rfl rfl (qd Tryz.underlying52 rfl Tryz.sizeOf9 rfl ((f 1 rfl).trans (K9 1 rfl))) <| sg rfl rfl b rfl
 ·exact fun s x e f d u => hT rfl rfl rfl rfl (d 20 rfl) rfl fun b t => lt t rfl rfl (qA Tryz.isAgg9 (Blk.ext k6 (e11.t e)) ((d 21 rfl).1 (vd (qV (vX (QA b))) (QB b))) rfl) <| sg rfl rfl b rfl
 ·exact fun s x e f d u => hT rfl rfl rfl rfl (d 20 rfl) rfl fun b t => lt t rfl rfl (VO ((d 22 rfl).1 (vd (qV (vX (QA b))) (QB b))) rfl) <| sg rfl rfl b rfl
 ·exact fun s x e f d u => gF rfl rfl rfl rfl (d 16 rfl) rfl fun b t => lt t rfl rfl (Qk ((d 20 rfl).1 (qV (vX b))) rfl fun h => ((d 23 rfl).1 (vd (qV (vX b)) h))) <| sg rfl rfl b rfl
 ·exact fun s x e f d u => lp rfl (YO (d 16 rfl) rfl fun h => ((d 24 rfl).1 (qV h))) <| se rfl rfl
 ·exact fun s x e f d u => lp rfl (vn Tryz.underlying4 rfl (d 25 rfl)) <| se rfl rfl
 ·exact fun s x e f d u => lp rfl (vn Tryz.underlying3 rfl rfl) <| se rfl rfl
 ·exact fun s x e f d u => lp rfl (xm (.bool ((decide (a0.kind = 3)) || (decide (a0.kind = 4)))) (f 3 rfl)) <| se rfl rfl
 ·exact fun s x e f d u => lp rfl (qb (d 28 rfl)) <| se rfl rfl
 ·exact fun s x e f d u => gT rfl rfl rfl rfl (d 29 rfl) rfl fun b t => lt t rfl rfl (qd Tryz.underlying52 rfl Tryz.sizeOf9 rfl ((f 1 rfl).trans (K9 1 rfl))) <| sg rfl rfl b rfl
 ·exact fun s x e f d u => gT rfl rfl rfl rfl (d 29 rfl) rfl fun b t => lt t rfl rfl (qA Tryz.isAgg9 (Blk.ext k6 (e11.t e)) ((d 30 rfl).1 b) rfl) <| sg rfl rfl b rfl
 ·exact fun s x e f d u => gT rfl rfl rfl rfl (d 29 rfl) rfl fun b t => lt t rfl rfl (VN ((d 31 rfl).1 b) rfl) <| sg rfl rfl b rfl
 ·exact fun s x e f d u => lp rfl (Qk (d 29 rfl) rfl fun h => ((d 32 rfl).1 h)) <| se rfl rfl
 ·exact fun s x e f d u => lp rfl (qb (d 33 rfl)) <| se rfl rfl
 ·exact fun s x e f d u => gF rfl rfl rfl rfl (d 34 rfl) rfl fun b t => lt t rfl rfl (qd Tryz.underlying52 rfl Tryz.sizeOf3 rfl ((f 1 rfl).trans (K9 1 rfl))) <| sg rfl rfl b rfl
 ·exact fun s x e f d u => gF rfl rfl rfl rfl (d 34 rfl) rfl fun b t => lt t rfl rfl (qA Tryz.isAgg3 (Blk.ext k6 (e11.t e)) ((d 35 rfl).1 (qV (vX b))) rfl) <| sg rfl rfl b rfl
 ·exact fun s x e f d u => gF rfl rfl rfl rfl (d 34 rfl) rfl fun b t => lt t rfl rfl (Qo ((d 36 rfl).1 (qV (vX b))) rfl) <| sg rfl rfl b rfl
 ·exact fun s x e f d u => gF rfl rfl rfl rfl (d 34 rfl) rfl fun b t => lt t rfl rfl (xm (.bool (!decide (a0.kind = 3))) ((d 37 rfl).1 (qV (vX b)))) <| sg rfl rfl b rfl
 ·exact fun s x e f d u => hT rfl rfl rfl rfl (d 38 rfl) rfl fun b t => lt t rfl rfl (qd Tryz.underlying52 rfl Tryz.sizeOf4 rfl ((f 1 rfl).trans (K9 1 rfl))) <| sg rfl rfl b rfl
 ·exact fun s x e f d u => hT rfl rfl rfl rfl (d 38 rfl) rfl fun b t => lt t rfl rfl (qA Tryz.isAgg4 (Blk.ext k6 (e11.t e)) ((d 39 rfl).1 (vd (qV (vX (QA b))) (QB b))) rfl) <| sg rfl rfl b rfl
 ·exact fun s x e f d u => gF rfl rfl rfl rfl (d 34 rfl) rfl fun b t => lt t rfl rfl (Qk ((d 38 rfl).1 (qV (vX b))) rfl fun h => ((d 40 rfl).1 (vd (qV (vX b)) h))) <| sg rfl rfl b rfl
 ·exact fun s x e f d u => lp rfl (YO (d 34 rfl) rfl fun h => ((d 41 rfl).1 (qV h))) <| se rfl rfl
 ·exact fun s x e f d u => lp rfl (vn Tryz.underlying4 rfl (d 42 rfl)) <| se rfl rfl
 ·exact fun s x e f d u => lp rfl (vn Tryz.underlying3 rfl rfl) <| se rfl rfl
 ·exact fun s x e f d u => lp rfl (qd Tryz.underlying52 rfl Tryz.sizeOf3 rfl ((f 1 rfl).trans (K9 1 rfl))) <| se rfl rfl
 ·exact fun s x e f d u => lp rfl (qA Tryz.isAgg3 (Blk.ext k6 (e11.t e)) (d 45 rfl) rfl) <| se rfl rfl
 ·exact fun s x e f d u => lc rfl rfl Tryz.call117 (jB.calls (w := x) (a0 := a0.mode) (a1 := 0) (a2 := 511)) (vu (d 46 rfl) (vu rfl (vu rfl rfl))) <| fun w32 e33 => sx rfl e33 rfl
 ·exact fun s x e f d u => lp rfl (jm (d 47 rfl)) <| se rfl rfl
 ·exact fun s x e f d u => lp rfl (qb (d 48 rfl)) <| se rfl rfl
 ·exact fun s x e f d u => gF rfl rfl rfl rfl (d 49 rfl) rfl fun b t => lt t rfl rfl (qd Tryz.underlying52 rfl Tryz.sizeOf3 rfl ((f 1 rfl).trans (K9 1 rfl))) <| sg rfl rfl b rfl
 ·exact fun s x e f d u => gF rfl rfl rfl rfl (d 49 rfl) rfl fun b t => lt t rfl rfl (qA Tryz.isAgg3 (Blk.ext k6 (e11.t e)) ((d 50 rfl).1 (qV (vX b))) rfl) <| sg rfl rfl b rfl
 ·exact fun s x e f d u => gF rfl rfl rfl rfl (d 49 rfl) rfl fun b t => lt t rfl rfl (yL ((d 51 rfl).1 (qV (vX b))) rfl) <| sg rfl rfl b rfl
 ·exact fun s x e f d u => gF rfl rfl rfl rfl (d 49 rfl) rfl fun b t => lt t rfl rfl (xm (.bool (decide (a0.kind = 2))) ((d 52 rfl).1 (qV (vX b)))) <| sg rfl rfl b rfl
 ·exact fun s x e f d u => hF rfl rfl rfl rfl (d 53 rfl) rfl fun b t => lt t rfl rfl (qd Tryz.underlying52 rfl Tryz.sizeOf3 rfl ((f 1 rfl).trans (K9 1 rfl))) <| sg rfl rfl b rfl
 ·exact fun s x e f d u => hF rfl rfl rfl rfl (d 53 rfl) rfl fun b t => lt t rfl rfl (qA Tryz.isAgg3 (Blk.ext k6 (e11.t e)) ((d 54 rfl).1 (vd (qV (vX (QA b))) (qV (vX (QB b))))) rfl) <| sg rfl rfl b rfl
 ·exact fun s x e f d u => hF rfl rfl rfl rfl (d 53 rfl) rfl fun b t => lt t rfl rfl (yL ((d 55 rfl).1 (vd (qV (vX (QA b))) (qV (vX (QB b))))) rfl) <| sg rfl rfl b rfl
 ·exact fun s x e f d u => gF rfl rfl rfl rfl (d 49 rfl) rfl fun b t => lt t rfl rfl (YO ((d 53 rfl).1 (qV (vX b))) rfl fun h => ((d 56 rfl).1 (vd (qV (vX b)) (qV h)))) <| sg rfl rfl b rfl
 ·exact fun s x e f d u => gF rfl rfl rfl rfl (d 49 rfl) rfl fun b t => lt t rfl rfl (xm (.bool (qk.e3 a0)) ((d 57 rfl).1 (qV (vX b)))) <| sg rfl rfl b rfl
 ·exact fun s x e f d u => hT rfl rfl rfl rfl (d 58 rfl) rfl fun b t => lt t rfl rfl (qd Tryz.underlying52 rfl Tryz.sizeOf3 rfl ((f 1 rfl).trans (K9 1 rfl))) <| sg rfl rfl b rfl
 ·exact fun s x e f d u => hT rfl rfl rfl rfl (d 58 rfl) rfl fun b t => lt t rfl rfl (qA Tryz.isAgg3 (Blk.ext k6 (e11.t e)) ((d 59 rfl).1 (vd (qV (vX (QA b))) (QB b))) rfl) <| sg rfl rfl b rfl
 ·exact fun s x e f d u => hT rfl rfl rfl rfl (d 58 rfl) rfl fun b t => lt t rfl rfl (Qo ((d 60 rfl).1 (vd (qV (vX (QA b))) (QB b))) rfl) <| sg rfl rfl b rfl
 ·exact fun s x e f d u => gF rfl rfl rfl rfl (d 49 rfl) rfl fun b t => lt t rfl rfl (Qk ((d 58 rfl).1 (qV (vX b))) rfl fun h => ((d 61 rfl).1 (vd (qV (vX b)) h))) <| sg rfl rfl b rfl
 ·exact fun s x e f d u => lp rfl (YO (d 49 rfl) rfl fun h => ((d 62 rfl).1 (qV h))) <| se rfl rfl
 ·exact fun s x e f d u => lp rfl (vn Tryz.underlying4 rfl (d 63 rfl)) <| se rfl rfl
 ·exact fun s x e f d u => lp rfl (vn Tryz.underlying3 rfl rfl) <| se rfl rfl
 ·exact fun s x e f d u => vC (.plain rfl) rfl (ltb rfl) rfl Tryz.underlying142 Tryz.sizeOf20 Tryz.zeroValue20 rfl rfl rfl (vs := [(.iface 4 (.bool (!(within a0.kind 1 4)))), (.iface 3 (.int .i64 9)), (.iface 4 (.bool (!(qE a0.path)))), (.iface 3 (.int .i64 10)), (.iface 4 (.bool (qk.e4 a0))), (.iface 3 (.int .i64 8)), (.iface 4 (.bool ((qk.e2 a0) || ((!decide (a0.kind = 3)) && a0.opq)))), (.iface 3 (.int .i64 3)), (.iface 4 (.bool ((!(within a0.mode 0 511)) || ((qk.e3 a0) && (!decide (a0.mode = 0)))))), (.iface 3 (.int .i64 4))]) (vu (d 4 rfl) (vu (d 5 rfl) (vu (d 10 rfl) (vu (d 11 rfl) (vu (d 26 rfl) (vu (d 27 rfl) (vu (d 43 rfl) (vu (d 44 rfl) (vu (d 64 rfl) (vu (d 65 rfl) rfl)))))))))) (qO rfl) <| fun b34 w35 z36 z37 e38 k39 => sx rfl e38 (Ow.rd (Ow.new (xs := [.inl (!(within a0.kind 1 4)), .inr 9, .inl (!(qE a0.path)), .inr 10, .inl (qk.e4 a0), .inr 8, .inl ((qk.e2 a0) || ((!decide (a0.kind = 3)) && a0.opq)), .inr 3, .inl ((!(within a0.mode 0 511)) || ((qk.e3 a0) && (!decide (a0.mode = 0)))), .inr 4]) (sz := 1) (enc := (Ve 4 3)) (base := x.heap.size) k39 (Nat.le_of_eq z36) rfl (fun _ _ => by first | rfl | exact V9 _ _ _) (Nat.le_of_ble_eq_true rfl)))
 ·intro s x e f d u
  have d40 : Rd 1 (Ve 4 3) x (s 78) (qk.e1 a0) := (d 66 rfl)
  exact lc rfl rfl Tryz.call77 (yM.calls (w := x) (a0 := (qk.e1 a0)) d40 (od c25)) rfl <| fun w42 e43 => sx rfl e43 rfl
 ·exact fun s x e f d u => lp rfl (qp (d 67 rfl)) <| se rfl rfl
 intro s44 w45 e46 hf47 ha48
 have K49 := Kp.ofD (kp := [(2, 3), (12, 80)]) rfl hf47
 have d50 : s44 2 = (.int .i64 (vO (qk.e1 a0))) := ha48 68 rfl
 clear ha48 hf47
 refine qf <| qr <| qu ?_
 obtain rfl := si H
 exact vh d50 ((e5.t e11).t e46)
theorem qk.calls {w : World} {a0 : Rec} (gv : GV 0 w) :
  Calls Tryz.prog 211 #[.agg (qc a0).toArray] w (Rt (RP w (.int .i64 (qz a0)))) := qk.walk gv (qk.eq a0)
/-! impl.RecordOK -/
theorem QF.calls {w : World} {a0 : Rec} (gv : GV 0 w) :
  Calls Tryz.prog 157 #[.agg (qc a0).toArray] w (Rt (RP w (.bool (decide (qz a0 = 0))))) := by
 have H := QF.eq a0
 generalize (decide (qz a0 = 0)) = r at H ⊢
 unfold QF.sh at H
 refine qg Tryz.func157 rfl (Nat.le_of_ble_eq_true rfl) Tryz.ntmps157 rfl ?_
 refine wr <| Qg (.plain rfl) rfl (ltb rfl) rfl rfl <| fun b1 w2 z3 z4 e5 k6 => lp rfl (xa (.bool false) rfl) <| nx <| wr <| lp rfl (qZ Tryz.isAgg52 Tryz.sizeOf52 rfl rfl (Blk.at0 k6)) <| lc rfl rfl Tryz.call211 (qk.calls (w := w2) (a0 := a0) (GV.ext gv e5)) rfl <| fun w7 e8 => lp rfl (yL rfl rfl) <| lp rfl (xa (.bool (decide ((qz a0) = 0))) rfl) <| nx <| qr <| qu ?_
 obtain rfl := si H
 exact vh rfl (e5.t e8)
/-! spec.l01Below -/
theorem jM.calls {w : World} {a0 : List UInt8} {a1 : List UInt8} :
  Calls Tryz.prog 186 #[S a0, S a1] w (Rt (RP w (.bool ((decide (a1 = []) && !decide (a0 = [])) || ve a0 a1)))) := by
 have H := jM.eq a0 a1
 generalize ((decide (a1 = []) && !decide (a0 = [])) || ve a0 a1) = r at H ⊢
 unfold jM.sh at H
 refine qg Tryz.func186 rfl (Nat.le_of_ble_eq_true rfl) Tryz.ntmps186 rfl ?_
 refine wr <| lp rfl (xa (.bool false) rfl) <| nx <| wr <| lp rfl (xm (S a1) rfl) <| lp rfl (Q1 Tryz.underlying9 rfl) <| lp rfl (xa (.int .i64 (a1.length : Int)) rfl) <| nx <| wr <| lp rfl (xm (S a1) rfl) <| lp rfl (VO rfl rfl) <| lp rfl (xm (.bool (decide (a1 = ([] : List UInt8)))) rfl) <| jN 3 [(11, 14)] 13 (.bool ((decide (a1 = ([] : List UInt8))) && (!decide (a0 = ([] : List UInt8))))) ?_ ?_
 ·rcases ql (decide (a1 = ([] : List UInt8))) with b0_ | b0_
  ·exact lg rfl rfl rfl rfl (cb b0_) (xm (S a0) rfl) <| lg rfl rfl rfl rfl (cb b0_) (VN rfl rfl) <| lp rfl (qy (b := true) (v := (.bool (!decide (a0 = ([] : List UInt8))))) (cb b0_) rfl) <| nx ⟨(ku3 kz rfl), (Vm b0_), er⟩
  ·exact ls rfl rfl rfl (cb b0_) rfl <| ls rfl rfl rfl (cb b0_) rfl <| lp rfl (qy (b := false) (v := (.bool false)) (cb b0_) rfl) <| nx ⟨(ku3 kz rfl), (Vn b0_), er⟩
 intro s6 w2 K3 h4 e5
 refine lp rfl (qb h4) ?_
 obtain ⟨z8, x9, H⟩ := bind_some H
 refine ja 18 [(15, 33)] 32 (fun q => q = z8) ?_ ?_
 ·rcases qh x9 with ⟨b6_, H⟩ | ⟨b6_, H⟩
  ·refine ls rfl rfl rfl (cb b6_) rfl <| ls rfl rfl rfl (cb b6_) rfl <| ls rfl rfl rfl (cb b6_) rfl <| ls rfl rfl rfl (cb b6_) rfl <| ls rfl rfl rfl (cb b6_) rfl <| lu rfl rfl rfl rfl rfl <| lu rfl rfl rfl rfl rfl <| lu rfl rfl rfl rfl rfl <| lu rfl rfl rfl rfl rfl <| lu rfl rfl rfl rfl rfl <| ls rfl rfl rfl (cb b6_) rfl <| ls rfl rfl rfl (cb b6_) rfl <| lu rfl rfl rfl rfl rfl <| lu rfl rfl rfl rfl rfl <| lu rfl rfl rfl rfl rfl <| lu rfl rfl rfl rfl rfl <| ls rfl rfl rfl (cb b6_) rfl <| lp rfl (qy (b := true) (v := (.bool true)) (cb b6_) rfl) ?_
   obtain rfl := si H
   exact nx ⟨(ku2 (ku8 (ku8 kz rfl) rfl) rfl), ⟨_, rfl, rfl⟩, er⟩
  ·refine lg rfl rfl rfl rfl (cb b6_) (xm (S a0) (K3 0 rfl)) <| lg rfl rfl rfl rfl (cb b6_) (Q1 Tryz.underlying9 rfl) <| lg rfl rfl rfl rfl (cb b6_) (xm (.int .i64 (a1.length : Int)) (K3 5 rfl)) <| lg rfl rfl rfl rfl (cb b6_) (Qp rfl rfl) <| lg rfl rfl rfl rfl (cb b6_) (xm (.bool (decide ((a1.length : Int) < (a0.length : Int)))) rfl) ?_
   obtain ⟨z9, x10, H⟩ := bind_some H
   refine ja 6 [(20, 26)] 25 (fun q => q = z9) ?_ ?_
   ·rcases qh x10 with ⟨b7_, H⟩ | ⟨b7_, H⟩
    ·refine lg rfl rfl rfl rfl (cb b7_) (xm (S a0) (K3 0 rfl)) <| lg rfl rfl rfl rfl (cb b7_) (xm (.int .i64 (a1.length : Int)) (K3 5 rfl)) ?_
     obtain ⟨c9, H⟩ := qa H
     refine lg rfl rfl rfl rfl (cb b7_) (Yz Tryz.underlying9 rfl (l := 0) (h := (a1.length : Int)) rfl ⟨_, rfl⟩ (JS c9) (JP c9) (Gc c9)) <| lg rfl rfl rfl rfl (cb b7_) (xm (S a1) (K3 1 rfl)) <| lg rfl rfl rfl rfl (cb b7_) (VO rfl rfl) <| lg rfl rfl rfl rfl (cb b6_) (qy (b := true) (v := (.bool (decide ((sub a0 0 (a1.length : Int)) = a1)))) (cb b7_) rfl) ?_
     obtain rfl := si H
     exact nx ⟨(ku2 (ku4 kz rfl) rfl), ⟨_, rfl, rfl⟩, er⟩
    ·refine ls rfl rfl rfl (cb b7_) rfl <| ls rfl rfl rfl (cb b7_) rfl <| ls rfl rfl rfl (cb b7_) rfl <| ls rfl rfl rfl (cb b7_) rfl <| ls rfl rfl rfl (cb b7_) rfl <| lg rfl rfl rfl rfl (cb b6_) (qy (b := false) (v := (.bool false)) (cb b7_) rfl) ?_
     obtain rfl := si H
     exact nx ⟨(ku2 (ku4 kz rfl) rfl), ⟨_, rfl, rfl⟩, er⟩
   intro s15 w11 z16 K12 hq h13 e14
   rw [hq] at h13; clear hq
   refine lg rfl rfl rfl rfl ((K12 14 rfl).trans (cb b6_)) (qb h13) ?_
   obtain ⟨z18, x19, H⟩ := bind_some H
   refine ja 5 [(27, 32)] 31 (fun q => q = z18) ?_ ?_
   ·rcases qh x19 with ⟨b16_, H⟩ | ⟨b16_, H⟩
    ·refine lg rfl rfl rfl rfl (cb b16_) (xm (S a0) ((K12 0 rfl).trans (K3 0 rfl))) <| lg rfl rfl rfl rfl (cb b16_) (xm (.int .i64 (a1.length : Int)) ((K12 5 rfl).trans (K3 5 rfl))) ?_
     obtain ⟨c18, H⟩ := qa H
     refine lg rfl rfl rfl rfl (cb b16_) (VL Tryz.underlying9 rfl rfl (Qt c18) (Qb c18)) <| lg rfl rfl rfl rfl (cb b16_) (yL rfl rfl) <| lg rfl rfl rfl rfl ((K12 14 rfl).trans (cb b6_)) (qy (b := true) (v := (.bool (decide ((byt a0 (a1.length : Int)) = 47)))) (cb b16_) rfl) ?_
     obtain rfl := si H
     exact nx ⟨(ku1 (ku4 kz rfl) rfl), ⟨_, rfl, rfl⟩, er⟩
    ·refine ls rfl rfl rfl (cb b16_) rfl <| ls rfl rfl rfl (cb b16_) rfl <| ls rfl rfl rfl (cb b16_) rfl <| ls rfl rfl rfl (cb b16_) rfl <| lg rfl rfl rfl rfl ((K12 14 rfl).trans (cb b6_)) (qy (b := false) (v := (.bool false)) (cb b16_) rfl) ?_
     obtain rfl := si H
     exact nx ⟨(ku1 (ku4 kz rfl) rfl), ⟨_, rfl, rfl⟩, er⟩
   intro s24 w20 z25 K21 hq h22 e23
   rw [hq] at h22; clear hq
   refine lp rfl (qy (b := false) (v := (.bool z18)) (((K21 14 rfl).trans (K12 14 rfl)).trans (cb b6_)) h22) ?_
   obtain rfl := si H
   exact nx ⟨(ku1 (Kp.cut (ku1 (Kp.cut (ku1 (ku4 kz rfl) rfl) K12 rfl) rfl) K21 rfl) rfl), ⟨_, rfl, rfl⟩, (e14.t e23)⟩
 intro s26 w10 z27 K11 hq h12 e13
 rw [hq] at h12; clear hq
 refine lp rfl (qp h12) <| nx <| qr <| qu ?_
 obtain rfl := si H
 exact vh rfl (e5.t e13)
/-! internal/stringslite.HasPrefix -/
theorem y6.calls {w : World} {a0 : List UInt8} {a1 : List UInt8} :
  Calls Tryz.prog 263 #[S a0, S a1] w (Rt (RP w (.bool (List.isPrefixOf a1 a0)))) := by
 have H := y6.eq a0 a1
 generalize (List.isPrefixOf a1 a0) = r at H ⊢
 unfold y6.sh at H
 refine qg Tryz.func263 rfl (Nat.le_of_ble_eq_true rfl) Tryz.ntmps263 rfl ?_
 refine wr <| lp rfl (xa (.bool false) rfl) <| nx <| wr <| lp rfl (xm (S a0) rfl) <| lp rfl (Q1 Tryz.underlying9 rfl) <| lp rfl (xm (S a1) rfl) <| lp rfl (Q1 Tryz.underlying9 rfl) <| lp rfl (VS rfl rfl) <| lp rfl (xm (.bool (decide ((a1.length : Int) ≤ (a0.length : Int)))) rfl) ?_
 obtain ⟨z2, x3, H⟩ := bind_some H
 refine ja 7 [(11, 18)] 17 (fun q => q = z2) ?_ ?_
 ·rcases qh x3 with ⟨b0_, H⟩ | ⟨b0_, H⟩
  ·refine lg rfl rfl rfl rfl (cb b0_) (xm (S a0) rfl) <| lg rfl rfl rfl rfl (cb b0_) (xm (S a1) rfl) <| lg rfl rfl rfl rfl (cb b0_) (Q1 Tryz.underlying9 rfl) ?_
   obtain ⟨c2, H⟩ := qa H
   refine lg rfl rfl rfl rfl (cb b0_) (Yz Tryz.underlying9 rfl (l := 0) (h := (a1.length : Int)) rfl ⟨_, rfl⟩ (JS c2) (JP c2) (Gc c2)) <| lg rfl rfl rfl rfl (cb b0_) (xm (S a1) rfl) <| lg rfl rfl rfl rfl (cb b0_) (VO rfl rfl) <| lp rfl (qy (b := true) (v := (.bool (decide ((sub a0 0 (a1.length : Int)) = a1)))) (cb b0_) rfl) ?_
   obtain rfl := si H
   exact nx ⟨(ku3 (ku4 kz rfl) rfl), ⟨_, rfl, rfl⟩, er⟩
  ·refine ls rfl rfl rfl (cb b0_) rfl <| ls rfl rfl rfl (cb b0_) rfl <| ls rfl rfl rfl (cb b0_) rfl <| ls rfl rfl rfl (cb b0_) rfl <| ls rfl rfl rfl (cb b0_) rfl <| ls rfl rfl rfl (cb b0_) rfl <| lp rfl (qy (b := false) (v := (.bool false)) (cb b0_) rfl) ?_
   obtain rfl := si H
   exact nx ⟨(ku3 (ku4 kz rfl) rfl), ⟨_, rfl, rfl⟩, er⟩
 intro s8 w4 z9 K5 hq h6 e7
 rw [hq] at h6; clear hq
 refine lp rfl (qp h6) <| nx <| qr <| qu ?_
 obtain rfl := si H
 exact vh rfl e7
/-! strings.HasPrefix -/
theorem jG.calls {w : World} {a0 : List UInt8} {a1 : List UInt8} :
  Calls Tryz.prog 237 #[S a0, S a1] w (Rt (RP w (.bool (List.isPrefixOf a1 a0)))) := by
 have H := jG.eq a0 a1
 generalize (List.isPrefixOf a1 a0) = r at H ⊢
 unfold jG.sh at H
 refine qg Tryz.func237 rfl (Nat.le_of_ble_eq_true rfl) Tryz.ntmps237 rfl ?_
 refine wr <| lp rfl (xa (.bool false) rfl) <| nx <| wr <| lp rfl (xm (S a0) rfl) <| lp rfl (xm (S a1) rfl) <| lc rfl rfl Tryz.call263 (y6.calls (w := w) (a0 := a0) (a1 := a1)) rfl <| fun w1 e2 => lp rfl (xa (.bool (List.isPrefixOf a1 a0)) rfl) <| nx <| qr <| qu ?_
 obtain rfl := si H
 exact vh rfl e2
/-! impl.below -/
theorem QV.calls {w : World} {a0 : List UInt8} {a1 : List UInt8} (h0 : a1.length ≤ 1048576) :
  Calls Tryz.prog 205 #[S a0, S a1] w (Rt (RP w (.bool (decide (a1 = []) || ve a0 a1)))) := by
 have H := QV.eq a0 a1 h0
 generalize (decide (a1 = []) || ve a0 a1) = r at H ⊢
 unfold QV.sh at H
 refine qg Tryz.func205 rfl (Nat.le_of_ble_eq_true rfl) Tryz.ntmps205 rfl ?_
 refine wr <| lp rfl (xa (.bool false) rfl) <| nx <| wr <| lp rfl (xm (S a1) rfl) <| lp rfl (VO rfl rfl) <| lp rfl (xm (.bool (decide (a1 = ([] : List UInt8)))) rfl) ?_
 obtain ⟨z2, x3, H⟩ := bind_some H
 refine ja 5 [(8, 13)] 12 (fun q => q = z2) ?_ ?_
 ·rcases qh x3 with ⟨b0_, H⟩ | ⟨b0_, H⟩
  ·refine ls rfl rfl rfl (cb b0_) rfl <| ls rfl rfl rfl (cb b0_) rfl <| ls rfl rfl rfl (cb b0_) rfl <| ls rfl rfl rfl (cb b0_) rfl <| lp rfl (qy (b := true) (v := (.bool true)) (cb b0_) rfl) ?_
   obtain rfl := si H
   exact nx ⟨(ku1 (ku4 kz rfl) rfl), ⟨_, rfl, rfl⟩, er⟩
  ·refine lg rfl rfl rfl rfl (cb b0_) (xm (S a0) rfl) <| lg rfl rfl rfl rfl (cb b0_) (xm (S a1) rfl) ?_
   obtain ⟨c2, H⟩ := qa H
   refine lg rfl rfl rfl rfl (cb b0_) (X_cat rfl rfl (od c2)) <| yW (tg rfl rfl rfl (cb b0_)) rfl (ltb rfl) rfl Tryz.call237 (jG.calls (w := w) (a0 := a0) (a1 := a1 ++ ([47] : List UInt8))) rfl <| fun w3 e4 => lp rfl (qy (b := false) (v := (.bool (List.isPrefixOf (a1 ++ ([47] : List UInt8)) a0))) (cb b0_) rfl) ?_
   obtain rfl := si H
   exact nx ⟨(ku1 (ku4 kz rfl) rfl), ⟨_, rfl, rfl⟩, e4⟩
 intro s8 w4 z9 K5 hq h6 e7
 rw [hq] at h6; clear hq
 refine lp rfl (qp h6) <| nx <| qr <| qu ?_
 obtain rfl := si H
 exact vh rfl e7
/-! spec.l01Less -/
theorem vM.calls {w : World} {a0 : List UInt8} {a1 : List UInt8} (h0 : a0.length ≤ 1048576) (h1 : a1.length ≤ 1048576) :
  Calls Tryz.prog 153 #[S a0, S a1] w (Rt (RP w (.bool (vA (cut 47 a0) (cut 47 a1))))) := by
 obtain ⟨k, H⟩ := vM.eq a0 a1 h0 h1
 generalize (vA (cut 47 a0) (cut 47 a1)) = r at H ⊢
 unfold vM.sh at H
 refine qg Tryz.func153 rfl (Nat.le_of_ble_eq_true rfl) Tryz.ntmps153 rfl ?_
 refine wr <| lp rfl (xa (.bool false) rfl) <| nx <| wr <| lp rfl (xm (S a0) rfl) ?_
 obtain ⟨c1, H⟩ := qa H
 refine vE (.plain rfl) rfl (ltb rfl) rfl Tryz.call135 (yE.calls (w := w) (a0 := a0) (a1 := 47) (od c1)) rfl <| fun v4 w2 e3 o5 => lp rfl (xa v4 rfl) <| nx <| wr <| lp rfl (xm (S a1) rfl) ?_
 obtain ⟨c6, H⟩ := qa H
 refine vE (.plain rfl) rfl (ltb rfl) rfl Tryz.call135 (yE.calls (w := w2) (a0 := a1) (a1 := 47) (od c6)) rfl <| fun v9 w7 e8 o10 => lp rfl (xa v9 rfl) <| nx <| qi <| wr <| lp rfl (xa (.int .i64 0) rfl) <| nx ?_
 obtain ⟨z12, L13, C14⟩ := bind_some H
 clear H
 refine  vq (fun s0 sQ wQ => Kp [(4, 5), (7, 8), (12, 42)] s0 sQ ∧ Ext w7 wQ ∧ z12 = .inr ()) ?_ ?_
 ·refine qx <| vc (fun s0 kk sQ wQ => ∃ (x7_11 : Int), Kp [(4, 5), (7, 8), (12, 42)] s0 sQ ∧ sQ 7 = .int .i64 x7_11 ∧ Ext w7 wQ ∧ qn (vM.b1 a0 a1) kk x7_11 = some z12) k ⟨0, kz, rfl, er, L13⟩ ?_
  rintro k19 s20 w21 ⟨x7_11, K22, h25, e23, L24⟩
  cases k19 with
  | zero => exact absurd L24 (by simp [qn])
  | succ k19 =>
   obtain ⟨t26, H, S27⟩ := qJ L24
   clear L24
   unfold vM.b1 at H
   refine qi <| wr <| lp rfl (qb h25) <| lp rfl (xm v4 (K22 5 rfl)) <| lp rfl (va Tryz.underlying44 rfl (Ow.rd (Ow.ext o5 (e8.t e23)))) <| lp rfl (vW rfl rfl) <| lp rfl (xm (.bool (decide (x7_11 < ((cut 47 a0).length : Int)))) rfl) <| jN 5 [(17, 22)] 21 (.bool ((decide (x7_11 < ((cut 47 a0).length : Int))) && (decide (x7_11 < ((cut 47 a1).length : Int))))) ?_ ?_
   ·rcases ql (decide (x7_11 < ((cut 47 a0).length : Int))) with b27_ | b27_
    ·exact lg rfl rfl rfl rfl (cb b27_) (qb h25) <| lg rfl rfl rfl rfl (cb b27_) (xm v9 (K22 6 rfl)) <| lg rfl rfl rfl rfl (cb b27_) (va Tryz.underlying44 rfl (Ow.rd (Ow.ext o10 e23))) <| lg rfl rfl rfl rfl (cb b27_) (vW rfl rfl) <| lp rfl (qy (b := true) (v := (.bool (decide (x7_11 < ((cut 47 a1).length : Int))))) (cb b27_) rfl) <| nx ⟨(ku1 (ku4 kz rfl) rfl), (Vm b27_), er⟩
    ·exact ls rfl rfl rfl (cb b27_) rfl <| ls rfl rfl rfl (cb b27_) rfl <| ls rfl rfl rfl (cb b27_) rfl <| ls rfl rfl rfl (cb b27_) rfl <| lp rfl (qy (b := false) (v := (.bool false)) (cb b27_) rfl) <| nx ⟨(ku1 (ku4 kz rfl) rfl), (Vn b27_), er⟩
   intro s33 w29 K30 h31 e32
   refine nx ?_
   rcases qh H with ⟨q34, H⟩ | ⟨q34, H⟩
   ·refine qo (h31.trans (cb q34)) <| qq <| qf <| qi <| qx <| qi ?_
    obtain ⟨c35, H⟩ := qa H
    obtain ⟨c38, H⟩ := qa H
    refine Yc [LEq v4, LEq (.int .i64 x7_11), yY (jc (gt (cut 47 a0) x7_11)), LEq (S (gt (cut 47 a0) x7_11)), LEq v9, LEq (.int .i64 x7_11), yY (jc (gt (cut 47 a1) x7_11)), LEq (S (gt (cut 47 a1) x7_11)), LEq (.bool (!decide ((gt (cut 47 a0) x7_11) = (gt (cut 47 a1) x7_11))))] (by kernel_rfl) (by kernel_rfl) ⟨qm, qm, yY.mono, qm, qm, qm, yY.mono, qm, qm, trivial⟩ ⟨?_, ?_, ?_, ?_, ?_, ?_, ?_, ?_, ?_, trivial⟩ ?_
    ·exact fun s x e f d u => lp rfl (xm v4 ((f 5 rfl).trans ((K30 5 rfl).trans (K22 5 rfl)))) <| se rfl rfl
    ·exact fun s x e f d u => lp rfl (xm (.int .i64 x7_11) ((f 7 rfl).trans ((K30 7 rfl).trans h25))) <| se rfl rfl
    ·exact fun s x e f d u => vk (.plain rfl) rfl (ltb rfl) rfl Tryz.underlying44 Tryz.sizeOf9 (d 0 rfl) (Ow.rd (Ow.ext o5 (((e8.t e23).t e32).t e))) (d 1 rfl) c35 <| fun p42 h43 => se rfl ⟨_, rfl, h43⟩
    ·intro s x e f d u
     obtain ⟨p44, h45, h46⟩ := (d 2 rfl)
     exact lp rfl (vy Tryz.isAgg9 h45 h46 rfl) <| se rfl rfl
    ·exact fun s x e f d u => lp rfl (xm v9 ((f 6 rfl).trans ((K30 6 rfl).trans (K22 6 rfl)))) <| se rfl rfl
    ·exact fun s x e f d u => lp rfl (xm (.int .i64 x7_11) ((f 7 rfl).trans ((K30 7 rfl).trans h25))) <| se rfl rfl
    ·exact fun s x e f d u => vk (.plain rfl) rfl (ltb rfl) rfl Tryz.underlying44 Tryz.sizeOf9 (d 4 rfl) (Ow.rd (Ow.ext o10 ((e23.t e32).t e))) (d 5 rfl) c38 <| fun p48 h49 => se rfl ⟨_, rfl, h49⟩
    ·intro s x e f d u
     obtain ⟨p50, h51, h52⟩ := (d 6 rfl)
     exact lp rfl (vy Tryz.isAgg9 h51 h52 rfl) <| se rfl rfl
    ·exact fun s x e f d u => lp rfl (VN (d 3 rfl) (d 7 rfl)) <| se rfl rfl
    intro s53 w54 e55 hf56 ha57
    have K58 := Kp.ofD (kp := [(24, 33)]) rfl hf56
    have d59 : s53 32 = (.bool (!decide ((gt (cut 47 a0) x7_11) = (gt (cut 47 a1) x7_11)))) := ha57 8 rfl
    clear ha57 hf56
    refine qf ?_
    rcases qh H with ⟨q60, H⟩ | ⟨q60, H⟩
    ·refine qo (d59.trans (cb q60)) <| qi ?_
     obtain ⟨c61, H⟩ := qa H
     obtain ⟨c64, H⟩ := qa H
     refine Yc [LEq v4, LEq (.int .i64 x7_11), yY (jc (gt (cut 47 a0) x7_11)), LEq (S (gt (cut 47 a0) x7_11)), LEq v9, LEq (.int .i64 x7_11), yY (jc (gt (cut 47 a1) x7_11)), LEq (S (gt (cut 47 a1) x7_11)), LEq (.bool (lt8 (gt (cut 47 a0) x7_11) (gt (cut 47 a1) x7_11))), LEq (.bool (lt8 (gt (cut 47 a0) x7_11) (gt (cut 47 a1) x7_11)))] (by kernel_rfl) (by kernel_rfl) ⟨qm, qm, yY.mono, qm, qm, qm, yY.mono, qm, qm, qm, trivial⟩ ⟨?_, ?_, ?_, ?_, ?_, ?_, ?_, ?_, ?_, ?_, trivial⟩ ?_
     ·exact fun s x e f d u => lp rfl (xm v4 ((f 5 rfl).trans ((K58 5 rfl).trans ((K30 5 rfl).trans (K22 5 rfl))))) <| se rfl rfl
     ·exact fun s x e f d u => lp rfl (xm (.int .i64 x7_11) ((f 7 rfl).trans ((K58 7 rfl).trans ((K30 7 rfl).trans h25)))) <| se rfl rfl
     ·exact fun s x e f d u => vk (.plain rfl) rfl (ltb rfl) rfl Tryz.underlying44 Tryz.sizeOf9 (d 0 rfl) (Ow.rd (Ow.ext o5 ((((e8.t e23).t e32).t e55).t e))) (d 1 rfl) c61 <| fun p68 h69 => se rfl ⟨_, rfl, h69⟩
     ·intro s x e f d u
      obtain ⟨p70, h71, h72⟩ := (d 2 rfl)
      exact lp rfl (vy Tryz.isAgg9 h71 h72 rfl) <| se rfl rfl
     ·exact fun s x e f d u => lp rfl (xm v9 ((f 6 rfl).trans ((K58 6 rfl).trans ((K30 6 rfl).trans (K22 6 rfl))))) <| se rfl rfl
     ·exact fun s x e f d u => lp rfl (xm (.int .i64 x7_11) ((f 7 rfl).trans ((K58 7 rfl).trans ((K30 7 rfl).trans h25)))) <| se rfl rfl
     ·exact fun s x e f d u => vk (.plain rfl) rfl (ltb rfl) rfl Tryz.underlying44 Tryz.sizeOf9 (d 4 rfl) (Ow.rd (Ow.ext o10 (((e23.t e32).t e55).t e))) (d 5 rfl) c64 <| fun p74 h75 => se rfl ⟨_, rfl, h75⟩
     ·intro s x e f d u
      obtain ⟨p76, h77, h78⟩ := (d 6 rfl)
      exact lp rfl (vy Tryz.isAgg9 h77 h78 rfl) <| se rfl rfl
     ·exact fun s x e f d u => lp rfl (X_slt (d 3 rfl) (d 7 rfl)) <| se rfl rfl
     ·exact fun s x e f d u => lp rfl (qp (d 8 rfl)) <| se rfl rfl
     intro s79 w80 e81 hf82 ha83
     have K84 := Kp.ofD (kp := [(4, 5), (33, 42)]) rfl hf82
     have d85 : s79 4 = (.bool (lt8 (gt (cut 47 a0) x7_11) (gt (cut 47 a1) x7_11))) := ha83 9 rfl
     clear ha83 hf82
     refine qf <| qr <| vJ <| qw <| qw <| vJ <| qw <| qw <| qu ?_
     obtain rfl := si H
     obtain rfl := si S27
     have H := C14
     obtain rfl := si H
     exact vh d85 (((((e3.t e8).t e23).t e32).t e55).t e81)
    ·refine qj (d59.trans (cb q60)) <| qq <| vj <| qf <| qG <| lp rfl (xm (.int .i64 x7_11) ((K58 7 rfl).trans ((K30 7 rfl).trans h25))) <| lp rfl (qU rfl rfl) <| lp rfl (xa (.int .i64 (IntKind.wrap .i64 (x7_11 + 1))) rfl) <| nx ?_
     obtain rfl := si H
     exact ⟨_, Nat.lt_succ_self _, IntKind.wrap .i64 (x7_11 + 1), (ku3 (Kp.cut (Kp.cut (ku1 (ku4 K22 rfl) rfl) K30 rfl) K58 rfl) rfl), rfl, ((e23.t e32).t e55), S27⟩
   ·refine qj (h31.trans (cb q34)) <| vt <| qN <| qN <| yu <| qf ?_
    obtain rfl := si H
    obtain rfl := si S27
    exact ⟨(Kp.cut (ku1 (ku4 K22 rfl) rfl) K30 rfl), (e23.t e32), rfl⟩
 ·rintro s16 w15 ⟨K17, e18, y86⟩
  rw [y86] at C14
  have H := C14
  replace H : _ = some _ := H
  refine qf <| wr <| lp rfl (xm v4 (K17 5 rfl)) <| lp rfl (va Tryz.underlying44 rfl (Ow.rd (Ow.ext o5 (e8.t e18)))) <| lp rfl (xm v9 (K17 6 rfl)) <| lp rfl (va Tryz.underlying44 rfl (Ow.rd (Ow.ext o10 e18))) <| lp rfl (vW rfl rfl) <| lp rfl (qp rfl) <| nx <| qr <| qu ?_
  obtain rfl := si H
  exact vh rfl ((e3.t e8).t e18)
/-! cmp.isNaN(string) -/
theorem vR.walk {w : World} {a0 : List UInt8} {r : Bool} (H : vR.sh a0 = some r) :
  Calls Tryz.prog 242 #[S a0] w (Rt (RP w (.bool r))) := by
 unfold vR.sh at H
 refine qg Tryz.func242 rfl (Nat.le_of_ble_eq_true rfl) Tryz.ntmps242 rfl ?_
 refine wr <| lp rfl (xa (.bool false) rfl) <| nx <| wr <| lp rfl (xm (S a0) rfl) <| lp rfl (xm (S a0) rfl) <| lp rfl (VN rfl rfl) <| lp rfl (xa (.bool (!decide (a0 = a0))) rfl) <| nx <| qr <| qu ?_
 obtain rfl := si H
 exact vh rfl er
theorem vR.calls {w : World} {a0 : List UInt8} :
  Calls Tryz.prog 242 #[S a0] w (Rt (RP w (.bool false))) := vR.walk (vR.eq a0)
/-! cmp.Compare(string) -/
theorem yB.calls {w : World} {a0 : List UInt8} {a1 : List UInt8} :
  Calls Tryz.prog 217 #[S a0, S a1] w (Rt (RP w (.int .i64 (cmpS a0 a1)))) := by
 have H := yB.eq a0 a1
 generalize (cmpS a0 a1) = r at H ⊢
 unfold yB.sh at H
 refine qg Tryz.func217 rfl (Nat.le_of_ble_eq_true rfl) Tryz.ntmps217 rfl ?_
 refine wr <| lp rfl (xa (.int .i64 0) rfl) <| nx <| wr <| lp rfl (xm (S a0) rfl) <| lc rfl rfl Tryz.call242 (vR.calls (w := w) (a0 := a0)) rfl <| fun w1 e2 => lp rfl (xa (.bool false) rfl) <| nx <| wr <| lp rfl (xm (S a1) rfl) <| lc rfl rfl Tryz.call242 (vR.calls (w := w1) (a0 := a1)) rfl <| fun w3 e4 => lp rfl (xa (.bool false) rfl) <| nx <| qi <| wr <| lp rfl (xm (.bool false) rfl) <| nx ?_
 rcases qh H with ⟨q5, H⟩ | ⟨q5, H⟩
 ·refine qo (cb q5) <| qi <| wr <| lp rfl (xm (.bool false) rfl) <| nx ?_
  rcases qh H with ⟨q6, H⟩ | ⟨q6, H⟩
  ·refine qo (cb q6) <| wr <| lp rfl (xa (.int .i64 0) rfl) <| nx <| qr <| qw <| qw <| qu ?_
   obtain rfl := si H
   exact vh rfl (e2.t e4)
  ·refine qj (cb q6) <| qq <| qf <| wr <| lp rfl (xa (.int .i64 (-1)) rfl) <| nx <| qr <| qw <| qu ?_
   obtain rfl := si H
   exact vh rfl (e2.t e4)
 ·refine qj (cb q5) <| qq <| qf <| qi <| wr <| lp rfl (xm (.bool false) rfl) <| nx ?_
  rcases qh H with ⟨q7, H⟩ | ⟨q7, H⟩
  ·refine qo (cb q7) <| wr <| lp rfl (xa (.int .i64 1) rfl) <| nx <| qr <| qw <| qu ?_
   obtain rfl := si H
   exact vh rfl (e2.t e4)
  ·refine qj (cb q7) <| qq <| qf <| qi <| wr <| lp rfl (xm (S a0) rfl) <| lp rfl (xm (S a1) rfl) <| lp rfl (X_slt rfl rfl) <| nx ?_
   rcases qh H with ⟨q8, H⟩ | ⟨q8, H⟩
   ·refine qo (cb q8) <| wr <| lp rfl (xa (.int .i64 (-1)) rfl) <| nx <| qr <| qw <| qu ?_
    obtain rfl := si H
    exact vh rfl (e2.t e4)
   ·refine qj (cb q8) <| qq <| qf <| qi <| wr <| lp rfl (xm (S a0) rfl) <| lp rfl (xm (S a1) rfl) <| lp rfl (X_sgt rfl rfl) <| nx ?_
    rcases qh H with ⟨q9, H⟩ | ⟨q9, H⟩
    ·refine qo (cb q9) <| wr <| lp rfl (xa (.int .i64 1) rfl) <| nx <| qr <| qw <| qu ?_
     obtain rfl := si H
     exact vh rfl (e2.t e4)
    ·refine qj (cb q9) <| qq <| qf <| wr <| lp rfl (xa (.int .i64 0) rfl) <| nx <| qr <| qu ?_
     obtain rfl := si H
     exact vh rfl (e2.t e4)
/-! slices.Compare(()string,string) -/
theorem qI.calls {w : World} {a0 : List (List UInt8)} {a1 : List (List UInt8)} {v_a0 : Value} (f_a0 : Rd 1 jc w v_a0 a0) {v_a1 : Value} (f_a1 : Rd 1 jc w v_a1 a1) (h0 : a0.length ≤ 4611686018427387904) (h1 : a1.length ≤ 4611686018427387904) :
  Calls Tryz.prog 169 #[v_a0, v_a1] w (Rt (RP w (.int .i64 (cmpL a0 a1)))) := by
 obtain ⟨k, H⟩ := qI.eq a0 a1 h0 h1
 generalize (cmpL a0 a1) = r at H ⊢
 unfold qI.sh at H
 refine qg Tryz.func169 rfl (Nat.le_of_ble_eq_true rfl) Tryz.ntmps169 rfl ?_
 refine wr <| lp rfl (xa (.int .i64 0) rfl) <| nx <| qi <| wr <| lp rfl (xm v_a0 rfl) <| lp rfl (va Tryz.underlying44 rfl f_a0) <| lp rfl (xm (.int .i64 0) rfl) <| nx ?_
 obtain ⟨z2, L3, C4⟩ := bind_some H
 clear H
 refine  vq (fun s0 sQ wQ => Kp [(4, 9), (11, 31)] s0 sQ ∧ Ext w wQ ∧ z2 = .inr ()) ?_ ?_
 ·refine qx <| vc (fun s0 kk sQ wQ => ∃ (x11_1 : Int), Kp [(4, 9), (11, 31)] s0 sQ ∧ sQ 11 = .int .i64 x11_1 ∧ Ext w wQ ∧ qn (qI.b1 a0 a1) kk x11_1 = some z2) k ⟨0, kz, rfl, er, L3⟩ ?_
  rintro k9 s10 w11 ⟨x11_1, K12, h15, e13, L14⟩
  cases k9 with
  | zero => exact absurd L14 (by simp [qn])
  | succ k9 =>
   obtain ⟨t16, H, S17⟩ := qJ L14
   clear L14
   unfold qI.b1 at H
   refine wr <| lp rfl (vW h15 (K12 10 rfl)) <| nx <| qi ?_
   rcases qh H with ⟨q18, H⟩ | ⟨q18, H⟩
   ·refine qo (cb q18) <| qq <| qf <| qi <| qx <| wr <| lp rfl (qb h15) ?_
    obtain ⟨c19, H⟩ := qa H
    refine vk (.plain rfl) rfl (ltb rfl) rfl Tryz.underlying44 Tryz.sizeOf9 (K12 9 rfl) (Rd.ext f_a0 e13) h15 c19 <| fun p20 h21 => lp rfl (vy Tryz.isAgg9 rfl h21 rfl) <| lp rfl (xa (.int .i64 x11_1) rfl) <| lp rfl (xa (S (gt a0 x11_1)) rfl) <| nx <| qi <| wr <| lp rfl (xm (.int .i64 x11_1) rfl) <| lp rfl (xm v_a1 (K12 1 rfl)) <| lp rfl (va Tryz.underlying44 rfl (Rd.ext f_a1 e13)) <| lp rfl (VS rfl rfl) <| nx ?_
    rcases qh H with ⟨q22, H⟩ | ⟨q22, H⟩
    ·refine qo (cb q22) <| wr <| lp rfl (xa (.int .i64 1) rfl) <| nx <| qr <| qw <| vJ <| qw <| qw <| vJ <| qw <| qw <| qu ?_
     obtain rfl := si H
     obtain rfl := si S17
     have H := C4
     obtain rfl := si H
     exact vh rfl e13
    ·refine qj (cb q22) <| qq <| qf <| wr <| lp rfl (xm v_a1 (K12 1 rfl)) <| lp rfl (xm (.int .i64 x11_1) rfl) ?_
     obtain ⟨c23, H⟩ := qa H
     refine vk (.plain rfl) rfl (ltb rfl) rfl Tryz.underlying44 Tryz.sizeOf9 rfl (Rd.ext f_a1 e13) rfl c23 <| fun p24 h25 => lp rfl (vy Tryz.isAgg9 rfl h25 rfl) <| lp rfl (xa (S (gt a1 x11_1)) rfl) <| nx <| wr <| lp rfl (xm (S (gt a0 x11_1)) rfl) <| lp rfl (xm (S (gt a1 x11_1)) rfl) <| lc rfl rfl Tryz.call217 (yB.calls (w := w11) (a0 := gt a0 x11_1) (a1 := gt a1 x11_1)) rfl <| fun w26 e27 => lp rfl (xa (.int .i64 (cmpS (gt a0 x11_1) (gt a1 x11_1))) rfl) <| nx <| wr <| lp rfl (xm (.int .i64 (cmpS (gt a0 x11_1) (gt a1 x11_1))) rfl) <| lp rfl (Qo rfl rfl) <| nx ?_
     rcases qh H with ⟨q28, H⟩ | ⟨q28, H⟩
     ·refine qo (cb q28) <| wr <| lp rfl (xm (.int .i64 (cmpS (gt a0 x11_1) (gt a1 x11_1))) rfl) <| lp rfl (xa (.int .i64 (cmpS (gt a0 x11_1) (gt a1 x11_1))) rfl) <| nx <| qr <| vJ <| qw <| qw <| vJ <| qw <| qw <| qu ?_
      obtain rfl := si H
      obtain rfl := si S17
      have H := C4
      obtain rfl := si H
      exact vh rfl (e13.t e27)
     ·refine qj (cb q28) <| qq <| vj <| qf <| qG <| lp rfl (qU h15 rfl) <| lp rfl (xm (.int .i64 (IntKind.wrap .i64 (x11_1 + 1))) rfl) <| nx ?_
      obtain rfl := si H
      exact ⟨_, Nat.lt_succ_self _, IntKind.wrap .i64 (x11_1 + 1), (ku3 (ku4 (ku8 (ku8 K12 rfl) rfl) rfl) rfl), rfl, (e13.t e27), S17⟩
   ·refine qj (cb q18) <| vt <| qN <| qN <| yu <| qf ?_
    obtain rfl := si H
    obtain rfl := si S17
    exact ⟨(ku1 K12 rfl), e13, rfl⟩
 ·rintro s6 w5 ⟨K7, e8, y29⟩
  rw [y29] at C4
  have H := C4
  replace H : _ = some _ := H
  refine qf <| qi <| wr <| lp rfl (xm v_a0 (K7 0 rfl)) <| lp rfl (va Tryz.underlying44 rfl (Rd.ext f_a0 e8)) <| lp rfl (xm v_a1 (K7 1 rfl)) <| lp rfl (va Tryz.underlying44 rfl (Rd.ext f_a1 e8)) <| lp rfl (vW rfl rfl) <| nx ?_
  rcases qh H with ⟨q30, H⟩ | ⟨q30, H⟩
  ·refine qo (cb q30) <| wr <| lp rfl (xa (.int .i64 (-1)) rfl) <| nx <| qr <| qw <| qu ?_
   obtain rfl := si H
   exact vh rfl e8
  ·refine qj (cb q30) <| qq <| qf <| wr <| lp rfl (xa (.int .i64 0) rfl) <| nx <| qr <| qu ?_
   obtain rfl := si H
   exact vh rfl e8
/-! impl.compare -/
theorem impl_compare.calls {w : World} {a0 : List UInt8} {a1 : List UInt8} (gv : GV 0 w) (h0 : a0.length ≤ 1048576) (h1 : a1.length ≤ 1048576) :
  Calls Tryz.prog 102 #[S a0, S a1] w (Rt (RP w (.int .i64 (cmpL (cut 47 a0) (cut 47 a1))))) := by
 have H := impl_compare.eq a0 a1 h0 h1
 generalize (cmpL (cut 47 a0) (cut 47 a1)) = r at H ⊢
 unfold impl_compare.sh at H
 refine qg Tryz.func102 rfl (Nat.le_of_ble_eq_true rfl) Tryz.ntmps102 rfl ?_
 refine wr <| lp rfl (xa (.int .i64 0) rfl) <| nx <| wr <| lp rfl (xm (S a0) rfl) ?_
 obtain ⟨c1, H⟩ := qa H
 refine vE (.plain rfl) rfl (ltb rfl) rfl Tryz.call132 (yn.calls (w := w) (a0 := a0) gv (od c1)) rfl <| fun v4 w2 e3 o5 => lp rfl (xm (S a1) rfl) ?_
 obtain ⟨c6, H⟩ := qa H
 refine vE (.plain rfl) rfl (ltb rfl) rfl Tryz.call132 (yn.calls (w := w2) (a0 := a1) (GV.ext gv e3) (od c6)) rfl <| fun v9 w7 e8 o10 => ?_
 obtain ⟨c11, H⟩ := qa H
 obtain ⟨c12, H⟩ := qa H
 refine lc rfl rfl Tryz.call169 (qI.calls (w := w7) (a0 := (cut 47 a0)) (a1 := (cut 47 a1)) (Ow.rd (Ow.ext o5 e8)) (Ow.rd o10) (od c11) (od c12)) rfl <| fun w13 e14 => lp rfl (xa (.int .i64 (cmpL (cut 47 a0) (cut 47 a1))) rfl) <| nx <| qr <| qu ?_
 obtain rfl := si H
 exact vh rfl ((e3.t e8).t e14)
/-! impl.PathLess -/
theorem j7.calls {w : World} {a0 : List UInt8} {a1 : List UInt8} (gv : GV 0 w) :
  Calls Tryz.prog 37 #[S a0, S a1] w (Rt (RP w (.bool (y4 a0 a1)))) := by
 have H := j7.eq a0 a1
 generalize (y4 a0 a1) = r at H ⊢
 unfold j7.sh at H
 refine qg Tryz.func37 rfl (Nat.le_of_ble_eq_true rfl) Tryz.ntmps37 rfl ?_
 refine wr <| lp rfl (xa (.bool false) rfl) <| nx <| wr <| lp rfl (xm (S a0) rfl) <| lc rfl rfl Tryz.call101 (j4.calls (w := w) (a0 := a0) gv) rfl <| fun w1 e2 => lp rfl (xm (.bool (qE a0)) rfl) <| jN 3 [(8, 11)] 10 (.bool ((qE a0) && (qE a1))) ?_ ?_
 ·rcases ql (qE a0) with b2_ | b2_
  ·exact lg rfl rfl rfl rfl (cb b2_) (xm (S a1) rfl) <| yW (tg rfl rfl rfl (cb b2_)) rfl (ltb rfl) rfl Tryz.call101 (j4.calls (w := w1) (a0 := a1) (GV.ext gv e2)) rfl <| fun w4 e5 => lp rfl (qy (b := true) (v := (.bool (qE a1))) (cb b2_) rfl) <| nx ⟨(ku3 kz rfl), (Vm b2_), e5⟩
  ·exact ls rfl rfl rfl (cb b2_) rfl <| ls rfl rfl rfl (cb b2_) rfl <| lp rfl (qy (b := false) (v := (.bool false)) (cb b2_) rfl) <| nx ⟨(ku3 kz rfl), (Vn b2_), er⟩
 intro s8 w4 K5 h6 e7
 refine lp rfl (qb h6) ?_
 obtain ⟨z10, x11, H⟩ := bind_some H
 refine ja 5 [(12, 17)] 16 (fun q => q = z10) ?_ ?_
 ·rcases qh x11 with ⟨b8_, H⟩ | ⟨b8_, H⟩
  ·refine lg rfl rfl rfl rfl (cb b8_) (xm (S a0) (K5 0 rfl)) <| lg rfl rfl rfl rfl (cb b8_) (xm (S a1) (K5 1 rfl)) ?_
   obtain ⟨c10, H⟩ := qa H
   obtain ⟨c11, H⟩ := qa H
   refine yW (tg rfl rfl rfl (cb b8_)) rfl (ltb rfl) rfl Tryz.call102 (impl_compare.calls (w := w4) (a0 := a0) (a1 := a1) (GV.ext gv (e2.t e7)) (od c10) (od c11)) rfl <| fun w12 e13 => lg rfl rfl rfl rfl (cb b8_) (vW rfl rfl) <| lp rfl (qy (b := true) (v := (.bool (decide ((cmpL (cut 47 a0) (cut 47 a1)) < 0)))) (cb b8_) rfl) ?_
   obtain rfl := si H
   exact nx ⟨(ku1 (ku4 kz rfl) rfl), ⟨_, rfl, rfl⟩, e13⟩
  ·refine ls rfl rfl rfl (cb b8_) rfl <| ls rfl rfl rfl (cb b8_) rfl <| ls rfl rfl rfl (cb b8_) rfl <| ls rfl rfl rfl (cb b8_) rfl <| lp rfl (qy (b := false) (v := (.bool false)) (cb b8_) rfl) ?_
   obtain rfl := si H
   exact nx ⟨(ku1 (ku4 kz rfl) rfl), ⟨_, rfl, rfl⟩, er⟩
 intro s16 w12 z17 K13 hq h14 e15
 rw [hq] at h14; clear hq
 refine lp rfl (qp h14) <| nx <| qr <| qu ?_
 obtain rfl := si H
 exact vh rfl ((e2.t e7).t e15)
/-! spec.l01Parent -/
theorem vg.calls {w : World} {a0 : List UInt8} (h0 : a0.length ≤ 4611686018427387904) :
  Calls Tryz.prog 154 #[S a0] w (Rt (RP w (S (qe a0)))) := by
 obtain ⟨k, H⟩ := vg.eq a0 h0
 generalize (qe a0) = r at H ⊢
 unfold vg.sh at H
 refine qg Tryz.func154 rfl (Nat.le_of_ble_eq_true rfl) Tryz.ntmps154 rfl ?_
 refine wr <| lp rfl (xa (S ([] : List UInt8)) rfl) <| nx <| qi <| wr <| lp rfl (xm (S a0) rfl) <| lp rfl (Q1 Tryz.underlying9 rfl) <| lp rfl (QS rfl rfl) <| lp rfl (xa (.int .i64 (IntKind.wrap .i64 ((a0.length : Int) - 1))) rfl) <| nx ?_
 obtain ⟨z2, L3, C4⟩ := bind_some H
 clear H
 refine  vq (fun s0 sQ wQ => Kp [(2, 4), (7, 18)] s0 sQ ∧ Ext w wQ ∧ z2 = .inr ()) ?_ ?_
 ·refine qx <| vc (fun s0 kk sQ wQ => ∃ (x3_1 : Int), Kp [(2, 4), (7, 18)] s0 sQ ∧ sQ 3 = .int .i64 x3_1 ∧ Ext w wQ ∧ qn (vg.b1 a0) kk x3_1 = some z2) k ⟨IntKind.wrap .i64 ((a0.length : Int) - 1), kz, rfl, er, L3⟩ ?_
  rintro k9 s10 w11 ⟨x3_1, K12, h15, e13, L14⟩
  cases k9 with
  | zero => exact absurd L14 (by simp [qn])
  | succ k9 =>
   obtain ⟨t16, H, S17⟩ := qJ L14
   clear L14
   unfold vg.b1 at H
   refine qi <| wr <| lp rfl (qb h15) <| lp rfl (VS rfl rfl) <| nx ?_
   rcases qh H with ⟨q18, H⟩ | ⟨q18, H⟩
   ·refine qo (cb q18) <| qq <| qf <| qi <| qx <| wr <| lp rfl (xm (S a0) (K12 0 rfl)) <| lp rfl (qb h15) ?_
    obtain ⟨c19, H⟩ := qa H
    refine lp rfl (VL Tryz.underlying9 rfl rfl (Qt c19) (Qb c19)) <| lp rfl (yL rfl rfl) <| nx ?_
    rcases qh H with ⟨q20, H⟩ | ⟨q20, H⟩
    ·refine qo (cb q20) <| wr <| lp rfl (xm (S a0) (K12 0 rfl)) <| lp rfl (qb h15) ?_
     obtain ⟨c21, H⟩ := qa H
     refine lp rfl (Yz Tryz.underlying9 rfl (l := 0) (h := x3_1) rfl ⟨_, rfl⟩ (JS c21) (JP c21) (Gc c21)) <| lp rfl (xa (S (sub a0 0 x3_1)) rfl) <| nx <| qr <| vJ <| qw <| qw <| vJ <| qw <| qw <| qu ?_
     obtain rfl := si H
     obtain rfl := si S17
     have H := C4
     obtain rfl := si H
     exact vh rfl e13
    ·refine qj (cb q20) <| qq <| vj <| qf <| qG <| lp rfl (qb h15) <| lp rfl (QS rfl rfl) <| lp rfl (xa (.int .i64 (IntKind.wrap .i64 (x3_1 - 1))) rfl) <| nx ?_
     obtain rfl := si H
     exact ⟨_, Nat.lt_succ_self _, IntKind.wrap .i64 (x3_1 - 1), (ku1 (ku8 K12 rfl) rfl), rfl, e13, S17⟩
   ·refine qj (cb q18) <| vt <| qN <| qN <| yu <| qf ?_
    obtain rfl := si H
    obtain rfl := si S17
    exact ⟨(ku2 K12 rfl), e13, rfl⟩
 ·rintro s6 w5 ⟨K7, e8, y22⟩
  rw [y22] at C4
  have H := C4
  replace H : _ = some _ := H
  refine qf <| wr <| lp rfl (xa (S ([] : List UInt8)) rfl) <| nx <| qr <| qu ?_
  obtain rfl := si H
  exact vh rfl e8
/-! impl.parent -/
theorem jQ.calls {w : World} {a0 : List UInt8} (h0 : a0.length ≤ 1048576) :
  Calls Tryz.prog 92 #[S a0] w (Rt (RP w (S (qe a0)))) := by
 have H := jQ.eq a0 h0
 generalize (qe a0) = r at H ⊢
 unfold jQ.sh at H
 refine qg Tryz.func92 rfl (Nat.le_of_ble_eq_true rfl) Tryz.ntmps92 rfl ?_
 refine wr <| lp rfl (xa (S ([] : List UInt8)) rfl) <| nx <| wr <| lp rfl (xm (S a0) rfl) <| lp rfl (xm (S a0) rfl) ?_
 obtain ⟨c1, H⟩ := qa H
 obtain ⟨c2, H⟩ := qa H
 refine lc rfl rfl Tryz.call159 (JM.calls (w := w) (a0 := a0) (a1 := ([47] : List UInt8)) (od c1) (od c2)) rfl <| fun w3 e4 => lp rfl (X_max rfl rfl) ?_
 obtain ⟨c5, H⟩ := qa H
 refine lp rfl (Yz Tryz.underlying9 rfl (l := 0) (h := (if ((vp a0) < 0 : Prop) then 0 else (vp a0))) rfl ⟨_, rfl⟩ (JS c5) (JP c5) (Gc c5)) <| lp rfl (qp rfl) <| nx <| qr <| qu ?_
 obtain rfl := si H
 exact vh rfl e4
/-! spec.l03At -/
theorem yQ.calls {w : World} {a0 : List Rec} {a1 : List UInt8} {v_a0 : Value} (f_a0 : Rd 5 qc w v_a0 a0) (h0 : a0.length ≤ 1048576) :
  Calls Tryz.prog 162 #[v_a0, S a1] w (Rt (RP w (.int .i64 (qB a0 a1)))) := by
 obtain ⟨k, H⟩ := yQ.eq a0 a1 h0
 generalize (qB a0 a1) = r at H ⊢
 unfold yQ.sh at H
 refine qg Tryz.func162 rfl (Nat.le_of_ble_eq_true rfl) Tryz.ntmps162 rfl ?_
 refine wr <| lp rfl (xa (.int .i64 0) rfl) <| nx <| qi <| wr <| lp rfl (xa (.int .i64 0) rfl) <| nx ?_
 obtain ⟨z2, L3, C4⟩ := bind_some H
 clear H
 refine  vq (fun s0 sQ wQ => Kp [(4, 20)] s0 sQ ∧ Ext w wQ ∧ z2 = .inr ()) ?_ ?_
 ·refine qx <| vc (fun s0 kk sQ wQ => ∃ (x5_1 : Int), Kp [(4, 20)] s0 sQ ∧ sQ 5 = .int .i64 x5_1 ∧ Ext w wQ ∧ qn (yQ.b1 a0 a1) kk x5_1 = some z2) k ⟨0, kz, rfl, er, L3⟩ ?_
  rintro k9 s10 w11 ⟨x5_1, K12, h15, e13, L14⟩
  cases k9 with
  | zero => exact absurd L14 (by simp [qn])
  | succ k9 =>
   obtain ⟨t16, H, S17⟩ := qJ L14
   clear L14
   unfold yQ.b1 at H
   refine qi <| wr <| lp rfl (qb h15) <| lp rfl (xm v_a0 (K12 0 rfl)) <| lp rfl (va Tryz.underlying35 rfl (Rd.ext f_a0 e13)) <| lp rfl (vW rfl rfl) <| nx ?_
   rcases qh H with ⟨q18, H⟩ | ⟨q18, H⟩
   ·refine qo (cb q18) <| qq <| qf <| qi <| qx <| wr <| lp rfl (xm v_a0 (K12 0 rfl)) <| lp rfl (qb h15) ?_
    obtain ⟨c19, H⟩ := qa H
    refine vk (.plain rfl) rfl (ltb rfl) rfl Tryz.underlying35 Tryz.sizeOf52 rfl (Rd.ext f_a0 e13) rfl c19 <| fun p20 h21 => lp rfl (qd Tryz.underlying52 rfl Tryz.sizeOf9 rfl rfl) <| lp rfl (yU Tryz.isAgg9 (j := 1) h21 rfl rfl) <| lp rfl (xm (S a1) (K12 1 rfl)) <| lp rfl (VO rfl rfl) <| nx ?_
    rcases qh H with ⟨q22, H⟩ | ⟨q22, H⟩
    ·refine qo (cb q22) <| wr <| lp rfl (qb h15) <| lp rfl (xa (.int .i64 x5_1) rfl) <| nx <| qr <| vJ <| qw <| qw <| vJ <| qw <| qw <| qu ?_
     obtain rfl := si H
     obtain rfl := si S17
     have H := C4
     obtain rfl := si H
     exact vh rfl e13
    ·refine qj (cb q22) <| qq <| vj <| qf <| qG <| lp rfl (qb h15) <| lp rfl (qU rfl rfl) <| lp rfl (xa (.int .i64 (IntKind.wrap .i64 (x5_1 + 1))) rfl) <| nx ?_
     obtain rfl := si H
     exact ⟨_, Nat.lt_succ_self _, IntKind.wrap .i64 (x5_1 + 1), (ku2 (ku4 (ku8 K12 rfl) rfl) rfl), rfl, e13, S17⟩
   ·refine qj (cb q18) <| vt <| qN <| qN <| yu <| qf ?_
    obtain rfl := si H
    obtain rfl := si S17
    exact ⟨(ku4 K12 rfl), e13, rfl⟩
 ·rintro s6 w5 ⟨K7, e8, y23⟩
  rw [y23] at C4
  have H := C4
  replace H : _ = some _ := H
  refine qf <| wr <| lp rfl (xa (.int .i64 (-1)) rfl) <| nx <| qr <| qu ?_
  obtain rfl := si H
  exact vh rfl e8
/-! spec.l03Fault -/
theorem vG.walk {k : Nat} {w : World} {a0 : List Rec} {v_a0 : Value} (f_a0 : Rd 5 qc w v_a0 a0) {r : Int × Int} (H : vG.sh k a0 = some r) :
  Calls Tryz.prog 133 #[v_a0] w (Rt (RP w (.tuple #[.int .i64 r.1, .int .i64 r.2]))) := by
 unfold vG.sh at H
 refine qg Tryz.func133 rfl (Nat.le_of_ble_eq_true rfl) Tryz.ntmps133 rfl ?_
 refine wr <| lp rfl (xa (.int .i64 0) rfl) <| lp rfl (xa (.int .i64 0) rfl) <| nx <| qi <| wr <| lp rfl (xa (.int .i64 0) rfl) <| nx ?_
 obtain ⟨z2, L3, C4⟩ := bind_some H
 clear H
 refine  vq (fun s0 sQ wQ => Kp [(2, 84)] s0 sQ ∧ Ext w wQ ∧ z2 = .inr ()) ?_ ?_
 ·refine qx <| vc (fun s0 kk sQ wQ => ∃ (x4_1 : Int), Kp [(2, 84)] s0 sQ ∧ sQ 4 = .int .i64 x4_1 ∧ Ext w wQ ∧ qn (vG.b1 a0) kk x4_1 = some z2) k ⟨0, kz, rfl, er, L3⟩ ?_
  rintro k9 s10 w11 ⟨x4_1, K12, h15, e13, L14⟩
  cases k9 with
  | zero => exact absurd L14 (by simp [qn])
  | succ k9 =>
   obtain ⟨t16, H, S17⟩ := qJ L14
   clear L14
   unfold vG.b1 at H
   refine qi <| wr <| lp rfl (qb h15) <| lp rfl (xm v_a0 (K12 0 rfl)) <| lp rfl (va Tryz.underlying35 rfl (Rd.ext f_a0 e13)) <| lp rfl (vW rfl rfl) <| nx ?_
   rcases qh H with ⟨q18, H⟩ | ⟨q18, H⟩
   ·refine qo (cb q18) <| qq <| qf <| qi <| qx <| qi <| wr <| lp rfl (qb h15) <| lp rfl (yL rfl rfl) <| nx ?_
    rcases qh H with ⟨q19, H⟩ | ⟨q19, H⟩
    ·refine qo (cb q19) <| wr <| lp rfl (qb h15) <| lp rfl (xa (.int .i64 x4_1) rfl) <| lp rfl (xa (.int .i64 6) rfl) <| nx <| qr <| qw <| vJ <| qw <| qw <| vJ <| qw <| qw <| qu ?_
     obtain rfl := si H
     obtain rfl := si S17
     have H := C4
     obtain rfl := si H
     exact G0 rfl rfl e13
    ·refine qj (cb q19) <| qq <| qf <| qi <| wr <| lp rfl (xm v_a0 (K12 0 rfl)) <| lp rfl (qb h15) ?_
     obtain ⟨c20, H⟩ := qa H
     refine vk (.plain rfl) rfl (ltb rfl) rfl Tryz.underlying35 Tryz.sizeOf52 rfl (Rd.ext f_a0 e13) rfl c20 <| fun p21 h22 => lp rfl (qZ Tryz.isAgg52 Tryz.sizeOf52 rfl rfl h22) <| lc rfl rfl Tryz.call194 (Qd.calls (w := w11) (a0 := gt a0 x4_1)) rfl <| fun w23 e24 => lp rfl (xa (.int .i64 (qz (gt a0 x4_1))) rfl) <| nx <| wr <| lp rfl (xm (.int .i64 (qz (gt a0 x4_1))) rfl) <| lp rfl (Qo rfl rfl) <| nx ?_
     rcases qh H with ⟨q25, H⟩ | ⟨q25, H⟩
     ·refine qo (cb q25) <| wr <| lp rfl (qb h15) <| lp rfl (xm (.int .i64 (qz (gt a0 x4_1))) rfl) <| lp rfl (xa (.int .i64 x4_1) rfl) <| lp rfl (xa (.int .i64 (qz (gt a0 x4_1))) rfl) <| nx <| qr <| qw <| vJ <| qw <| qw <| vJ <| qw <| qw <| qu ?_
      obtain rfl := si H
      obtain rfl := si S17
      have H := C4
      obtain rfl := si H
      exact G0 rfl rfl (e13.t e24)
     ·refine qj (cb q25) <| qq <| qf <| qi <| qi ?_
      obtain ⟨c26, H⟩ := qa H
      obtain ⟨c29, H⟩ := qa H
      refine Yc [LEq (.int .i64 x4_1), LEq (.bool (decide (0 < x4_1))), LEq (.bool (decide (0 < x4_1))), LIf (decide (0 < x4_1)) (LEq v_a0), LIf (decide (0 < x4_1)) (LEq (.int .i64 x4_1)), LIf (decide (0 < x4_1)) (yY (qc (gt a0 x4_1))), LIf (decide (0 < x4_1)) (LAt 1 (qc (gt a0 x4_1))), LIf (decide (0 < x4_1)) (LEq (S ((gt a0 x4_1).path))), LIf (decide (0 < x4_1)) (LEq v_a0), LIf (decide (0 < x4_1)) (LEq (.int .i64 x4_1)), LIf (decide (0 < x4_1)) (LEq (.int .i64 (IntKind.wrap .i64 (x4_1 - 1)))), LIf (decide (0 < x4_1)) (yY (qc (gt a0 (IntKind.wrap .i64 (x4_1 - 1))))), LIf (decide (0 < x4_1)) (LAt 1 (qc (gt a0 (IntKind.wrap .i64 (x4_1 - 1))))), LIf (decide (0 < x4_1)) (LEq (S ((gt a0 (IntKind.wrap .i64 (x4_1 - 1))).path))), LIf (decide (0 < x4_1)) (LEq (.bool (decide (((gt a0 x4_1).path) = ((gt a0 (IntKind.wrap .i64 (x4_1 - 1))).path))))), LEq (.bool ((decide (0 < x4_1)) && (decide (((gt a0 x4_1).path) = ((gt a0 (IntKind.wrap .i64 (x4_1 - 1))).path)))))] (by kernel_rfl) (by kernel_rfl) ⟨qm, qm, qm, lm, lm, (LIf.mono yY.mono), (LIf.mono LAt.mono), lm, lm, lm, lm, (LIf.mono yY.mono), (LIf.mono LAt.mono), lm, lm, qm, trivial⟩ ⟨?_, ?_, ?_, ?_, ?_, ?_, ?_, ?_, ?_, ?_, ?_, ?_, ?_, ?_, ?_, ?_, trivial⟩ ?_
      ·exact fun s x e f d u => lp rfl (xm (.int .i64 x4_1) ((f 4 rfl).trans h15)) <| se rfl rfl
      ·exact fun s x e f d u => lp rfl (Qp (d 0 rfl) rfl) <| se rfl rfl
      ·exact fun s x e f d u => lp rfl (qb (d 1 rfl)) <| se rfl rfl
      ·exact fun s x e f d u => gT rfl rfl rfl rfl (d 2 rfl) rfl fun b t => lt t rfl rfl (xm v_a0 ((f 0 rfl).trans (K12 0 rfl))) <| sg rfl rfl b rfl
      ·exact fun s x e f d u => gT rfl rfl rfl rfl (d 2 rfl) rfl fun b t => lt t rfl rfl (xm (.int .i64 x4_1) ((f 4 rfl).trans h15)) <| sg rfl rfl b rfl
      ·exact fun s x e f d u => gT rfl rfl rfl rfl (d 2 rfl) rfl fun b t => vk t rfl (ltb rfl) rfl Tryz.underlying35 Tryz.sizeOf52 ((d 3 rfl).1 b) (Rd.ext f_a0 ((e13.t e24).t e)) ((d 4 rfl).1 b) (yl b c26) <| fun p33 h34 => sg rfl rfl b ⟨_, rfl, h34⟩
      ·intro s x e f d u
       refine gT rfl rfl rfl rfl (d 2 rfl) rfl fun b t => ?_
       obtain ⟨p35, h36, h37⟩ := ((d 5 rfl).1 b)
       exact lt t rfl rfl (qd Tryz.underlying52 rfl Tryz.sizeOf9 rfl h36) <| sg rfl rfl b ⟨_, rfl, h37⟩
      ·intro s x e f d u
       refine gT rfl rfl rfl rfl (d 2 rfl) rfl fun b t => ?_
       obtain ⟨p38, h39, h40⟩ := ((d 6 rfl).1 b)
       exact lt t rfl rfl (yU Tryz.isAgg9 (j := 1) h40 h39 rfl) <| sg rfl rfl b rfl
      ·exact fun s x e f d u => gT rfl rfl rfl rfl (d 2 rfl) rfl fun b t => lt t rfl rfl (xm v_a0 ((f 0 rfl).trans (K12 0 rfl))) <| sg rfl rfl b rfl
      ·exact fun s x e f d u => gT rfl rfl rfl rfl (d 2 rfl) rfl fun b t => lt t rfl rfl (xm (.int .i64 x4_1) ((f 4 rfl).trans h15)) <| sg rfl rfl b rfl
      ·exact fun s x e f d u => gT rfl rfl rfl rfl (d 2 rfl) rfl fun b t => lt t rfl rfl (QS ((d 9 rfl).1 b) rfl) <| sg rfl rfl b rfl
      ·exact fun s x e f d u => gT rfl rfl rfl rfl (d 2 rfl) rfl fun b t => vk t rfl (ltb rfl) rfl Tryz.underlying35 Tryz.sizeOf52 ((d 8 rfl).1 b) (Rd.ext f_a0 ((e13.t e24).t e)) ((d 10 rfl).1 b) (yl b c29) <| fun p42 h43 => sg rfl rfl b ⟨_, rfl, h43⟩
      ·intro s x e f d u
       refine gT rfl rfl rfl rfl (d 2 rfl) rfl fun b t => ?_
       obtain ⟨p44, h45, h46⟩ := ((d 11 rfl).1 b)
       exact lt t rfl rfl (qd Tryz.underlying52 rfl Tryz.sizeOf9 rfl h45) <| sg rfl rfl b ⟨_, rfl, h46⟩
      ·intro s x e f d u
       refine gT rfl rfl rfl rfl (d 2 rfl) rfl fun b t => ?_
       obtain ⟨p47, h48, h49⟩ := ((d 12 rfl).1 b)
       exact lt t rfl rfl (yU Tryz.isAgg9 (j := 1) h49 h48 rfl) <| sg rfl rfl b rfl
      ·exact fun s x e f d u => gT rfl rfl rfl rfl (d 2 rfl) rfl fun b t => lt t rfl rfl (VO ((d 7 rfl).1 b) ((d 13 rfl).1 b)) <| sg rfl rfl b rfl
      ·exact fun s x e f d u => lp rfl (Qk (d 2 rfl) rfl fun h => ((d 14 rfl).1 h)) <| se rfl rfl
      intro s50 w51 e52 hf53 ha54
      have K55 := Kp.ofD (kp := [(26, 42)]) rfl hf53
      have d56 : s50 41 = (.bool ((decide (0 < x4_1)) && (decide (((gt a0 x4_1).path) = ((gt a0 (IntKind.wrap .i64 (x4_1 - 1))).path))))) := ha54 15 rfl
      clear ha54 hf53
      refine qf ?_
      rcases qh H with ⟨q57, H⟩ | ⟨q57, H⟩
      ·refine qo (d56.trans (cb q57)) <| wr <| lp rfl (xm (.int .i64 x4_1) ((K55 4 rfl).trans h15)) <| lp rfl (xa (.int .i64 x4_1) rfl) <| lp rfl (xa (.int .i64 18) rfl) <| nx <| qr <| qw <| vJ <| qw <| qw <| vJ <| qw <| qw <| qu ?_
       obtain rfl := si H
       obtain rfl := si S17
       have H := C4
       obtain rfl := si H
       exact G0 rfl rfl ((e13.t e24).t e52)
      ·refine qj (d56.trans (cb q57)) <| qq <| qf <| qi <| qi ?_
       obtain ⟨c58, H⟩ := qa H
       obtain ⟨c61, H⟩ := qa H
       obtain ⟨c64, H⟩ := qa H
       obtain ⟨c65, H⟩ := qa H
       refine Yc [LEq (.int .i64 x4_1), LEq (.bool (decide (0 < x4_1))), LEq (.bool (decide (0 < x4_1))), LIf (decide (0 < x4_1)) (LEq v_a0), LIf (decide (0 < x4_1)) (LEq (.int .i64 x4_1)), LIf (decide (0 < x4_1)) (LEq (.int .i64 (IntKind.wrap .i64 (x4_1 - 1)))), LIf (decide (0 < x4_1)) (yY (qc (gt a0 (IntKind.wrap .i64 (x4_1 - 1))))), LIf (decide (0 < x4_1)) (LAt 1 (qc (gt a0 (IntKind.wrap .i64 (x4_1 - 1))))), LIf (decide (0 < x4_1)) (LEq (S ((gt a0 (IntKind.wrap .i64 (x4_1 - 1))).path))), LIf (decide (0 < x4_1)) (LEq v_a0), LIf (decide (0 < x4_1)) (LEq (.int .i64 x4_1)), LIf (decide (0 < x4_1)) (yY (qc (gt a0 x4_1))), LIf (decide (0 < x4_1)) (LAt 1 (qc (gt a0 x4_1))), LIf (decide (0 < x4_1)) (LEq (S ((gt a0 x4_1).path))), LIf (decide (0 < x4_1)) (LEq (.bool (vA (cut 47 ((gt a0 (IntKind.wrap .i64 (x4_1 - 1))).path)) (cut 47 ((gt a0 x4_1).path))))), LIf (decide (0 < x4_1)) (LEq (.bool (!(vA (cut 47 ((gt a0 (IntKind.wrap .i64 (x4_1 - 1))).path)) (cut 47 ((gt a0 x4_1).path)))))), LEq (.bool ((decide (0 < x4_1)) && (!(vA (cut 47 ((gt a0 (IntKind.wrap .i64 (x4_1 - 1))).path)) (cut 47 ((gt a0 x4_1).path))))))] (by kernel_rfl) (by kernel_rfl) ⟨qm, qm, qm, lm, lm, lm, (LIf.mono yY.mono), (LIf.mono LAt.mono), lm, lm, lm, (LIf.mono yY.mono), (LIf.mono LAt.mono), lm, lm, lm, qm, trivial⟩ ⟨?_, ?_, ?_, ?_, ?_, ?_, ?_, ?_, ?_, ?_, ?_, ?_, ?_, ?_, ?_, ?_, ?_, trivial⟩ ?_
       ·exact fun s x e f d u => lp rfl (xm (.int .i64 x4_1) ((f 4 rfl).trans ((K55 4 rfl).trans h15))) <| se rfl rfl
       ·exact fun s x e f d u => lp rfl (Qp (d 0 rfl) rfl) <| se rfl rfl
       ·exact fun s x e f d u => lp rfl (qb (d 1 rfl)) <| se rfl rfl
       ·exact fun s x e f d u => gT rfl rfl rfl rfl (d 2 rfl) rfl fun b t => lt t rfl rfl (xm v_a0 ((f 0 rfl).trans ((K55 0 rfl).trans (K12 0 rfl)))) <| sg rfl rfl b rfl
       ·exact fun s x e f d u => gT rfl rfl rfl rfl (d 2 rfl) rfl fun b t => lt t rfl rfl (xm (.int .i64 x4_1) ((f 4 rfl).trans ((K55 4 rfl).trans h15))) <| sg rfl rfl b rfl
       ·exact fun s x e f d u => gT rfl rfl rfl rfl (d 2 rfl) rfl fun b t => lt t rfl rfl (QS ((d 4 rfl).1 b) rfl) <| sg rfl rfl b rfl
       ·exact fun s x e f d u => gT rfl rfl rfl rfl (d 2 rfl) rfl fun b t => vk t rfl (ltb rfl) rfl Tryz.underlying35 Tryz.sizeOf52 ((d 3 rfl).1 b) (Rd.ext f_a0 (((e13.t e24).t e52).t e)) ((d 5 rfl).1 b) (yl b c58) <| fun p69 h70 => sg rfl rfl b ⟨_, rfl, h70⟩
       ·intro s x e f d u
        refine gT rfl rfl rfl rfl (d 2 rfl) rfl fun b t => ?_
        obtain ⟨p71, h72, h73⟩ := ((d 6 rfl).1 b)
        exact lt t rfl rfl (qd Tryz.underlying52 rfl Tryz.sizeOf9 rfl h72) <| sg rfl rfl b ⟨_, rfl, h73⟩
       ·intro s x e f d u
        refine gT rfl rfl rfl rfl (d 2 rfl) rfl fun b t => ?_
        obtain ⟨p74, h75, h76⟩ := ((d 7 rfl).1 b)
        exact lt t rfl rfl (yU Tryz.isAgg9 (j := 1) h76 h75 rfl) <| sg rfl rfl b rfl
       ·exact fun s x e f d u => gT rfl rfl rfl rfl (d 2 rfl) rfl fun b t => lt t rfl rfl (xm v_a0 ((f 0 rfl).trans ((K55 0 rfl).trans (K12 0 rfl)))) <| sg rfl rfl b rfl
       ·exact fun s x e f d u => gT rfl rfl rfl rfl (d 2 rfl) rfl fun b t => lt t rfl rfl (xm (.int .i64 x4_1) ((f 4 rfl).trans ((K55 4 rfl).trans h15))) <| sg rfl rfl b rfl
       ·exact fun s x e f d u => gT rfl rfl rfl rfl (d 2 rfl) rfl fun b t => vk t rfl (ltb rfl) rfl Tryz.underlying35 Tryz.sizeOf52 ((d 9 rfl).1 b) (Rd.ext f_a0 (((e13.t e24).t e52).t e)) ((d 10 rfl).1 b) (yl b c61) <| fun p78 h79 => sg rfl rfl b ⟨_, rfl, h79⟩
       ·intro s x e f d u
        refine gT rfl rfl rfl rfl (d 2 rfl) rfl fun b t => ?_
        obtain ⟨p80, h81, h82⟩ := ((d 11 rfl).1 b)
        exact lt t rfl rfl (qd Tryz.underlying52 rfl Tryz.sizeOf9 rfl h81) <| sg rfl rfl b ⟨_, rfl, h82⟩
       ·intro s x e f d u
        refine gT rfl rfl rfl rfl (d 2 rfl) rfl fun b t => ?_
        obtain ⟨p83, h84, h85⟩ := ((d 12 rfl).1 b)
        exact lt t rfl rfl (yU Tryz.isAgg9 (j := 1) h85 h84 rfl) <| sg rfl rfl b rfl
       ·exact fun s x e f d u => gT rfl rfl rfl rfl (d 2 rfl) rfl fun b t => yW t rfl (ltb rfl) rfl Tryz.call153 (vM.calls (w := x) (a0 := (gt a0 (IntKind.wrap .i64 (x4_1 - 1))).path) (a1 := (gt a0 x4_1).path) (od (yl b c64)) (od (yl b c65))) (vu ((d 8 rfl).1 b) (vu ((d 13 rfl).1 b) rfl)) <| fun w88 e89 => sgx rfl rfl b e89 rfl
       ·exact fun s x e f d u => gT rfl rfl rfl rfl (d 2 rfl) rfl fun b t => lt t rfl rfl (jm ((d 14 rfl).1 b)) <| sg rfl rfl b rfl
       ·exact fun s x e f d u => lp rfl (Qk (d 2 rfl) rfl fun h => ((d 15 rfl).1 h)) <| se rfl rfl
       intro s90 w91 e92 hf93 ha94
       have K95 := Kp.ofD (kp := [(43, 60)]) rfl hf93
       have d96 : s90 59 = (.bool ((decide (0 < x4_1)) && (!(vA (cut 47 ((gt a0 (IntKind.wrap .i64 (x4_1 - 1))).path)) (cut 47 ((gt a0 x4_1).path)))))) := ha94 16 rfl
       clear ha94 hf93
       refine qf ?_
       rcases qh H with ⟨q97, H⟩ | ⟨q97, H⟩
       ·refine qo (d96.trans (cb q97)) <| wr <| lp rfl (xm (.int .i64 x4_1) ((K95 4 rfl).trans ((K55 4 rfl).trans h15))) <| lp rfl (xa (.int .i64 x4_1) rfl) <| lp rfl (xa (.int .i64 11) rfl) <| nx <| qr <| qw <| vJ <| qw <| qw <| vJ <| qw <| qw <| qu ?_
        obtain rfl := si H
        obtain rfl := si S17
        have H := C4
        obtain rfl := si H
        exact G0 rfl rfl (((e13.t e24).t e52).t e92)
       ·refine qj (d96.trans (cb q97)) <| qq <| qf <| wr <| lp rfl (xm v_a0 ((K95 0 rfl).trans ((K55 0 rfl).trans (K12 0 rfl)))) <| lp rfl (xm (.int .i64 x4_1) ((K95 4 rfl).trans ((K55 4 rfl).trans h15))) ?_
        obtain ⟨c98, H⟩ := qa H
        refine vk (.plain rfl) rfl (ltb rfl) rfl Tryz.underlying35 Tryz.sizeOf52 rfl (Rd.ext f_a0 (((e13.t e24).t e52).t e92)) rfl c98 <| fun p99 h100 => lp rfl (qd Tryz.underlying52 rfl Tryz.sizeOf9 rfl rfl) <| lp rfl (yU Tryz.isAgg9 (j := 1) h100 rfl rfl) ?_
        obtain ⟨c101, H⟩ := qa H
        refine lc rfl rfl Tryz.call154 (vg.calls (w := w91) (a0 := (gt a0 x4_1).path) (od c101)) rfl <| fun w102 e103 => lp rfl (xa (S (qe ((gt a0 x4_1).path))) rfl) <| nx <| qi <| wr <| lp rfl (xm (S (qe ((gt a0 x4_1).path))) rfl) <| lp rfl (VO rfl rfl) <| nx ?_
        rcases qh H with ⟨q104, H⟩ | ⟨q104, H⟩
        ·refine qo (cb q104) <| vt <| qN <| yu <| qf <| qG <| lp rfl (xm (.int .i64 x4_1) ((K95 4 rfl).trans ((K55 4 rfl).trans h15))) <| lp rfl (qU rfl rfl) <| lp rfl (xa (.int .i64 (IntKind.wrap .i64 (x4_1 + 1))) rfl) <| nx ?_
         obtain rfl := si H
         exact ⟨_, Nat.lt_succ_self _, IntKind.wrap .i64 (x4_1 + 1), (ku4 (ku8 (Kp.cut (Kp.cut (ku2 (ku4 (ku8 K12 rfl) rfl) rfl) K55 rfl) K95 rfl) rfl) rfl), rfl, ((((e13.t e24).t e52).t e92).t e103), S17⟩
        ·refine qj (cb q104) <| qq <| qf <| wr <| lp rfl (xm v_a0 ((K95 0 rfl).trans ((K55 0 rfl).trans (K12 0 rfl)))) <| lp rfl (xm (.int .i64 x4_1) ((K95 4 rfl).trans ((K55 4 rfl).trans h15))) ?_
         obtain ⟨c105, H⟩ := qa H
         refine Xo (.plain rfl) rfl (ltb rfl) rfl Tryz.underlying35 Tryz.sizeOf52 rfl (Rd.ext f_a0 ((((e13.t e24).t e52).t e92).t e103)) (l := 0) (h := x4_1) rfl ⟨_, rfl⟩ c105 <| fun v106 h107 => lp rfl (xm (S (qe ((gt a0 x4_1).path))) rfl) ?_
         obtain ⟨c108, H⟩ := qa H
         refine lc rfl rfl Tryz.call162 (yQ.calls (w := w102) (a0 := sub a0 0 x4_1) (a1 := (qe ((gt a0 x4_1).path))) h107 (od c108)) rfl <| fun w109 e110 => lp rfl (xa (.int .i64 (qB (sub a0 0 x4_1) (qe ((gt a0 x4_1).path)))) rfl) <| nx <| qi <| wr <| lp rfl (xm (.int .i64 (qB (sub a0 0 x4_1) (qe ((gt a0 x4_1).path)))) rfl) <| lp rfl (vW rfl rfl) <| nx ?_
         rcases qh H with ⟨q111, H⟩ | ⟨q111, H⟩
         ·refine qo (cb q111) <| wr <| lp rfl (xm (.int .i64 x4_1) ((K95 4 rfl).trans ((K55 4 rfl).trans h15))) <| lp rfl (xa (.int .i64 x4_1) rfl) <| lp rfl (xa (.int .i64 12) rfl) <| nx <| qr <| qw <| vJ <| qw <| qw <| vJ <| qw <| qw <| qu ?_
          obtain rfl := si H
          obtain rfl := si S17
          have H := C4
          obtain rfl := si H
          exact G0 rfl rfl (((((e13.t e24).t e52).t e92).t e103).t e110)
         ·refine qj (cb q111) <| qq <| qf <| wr <| lp rfl (xm v_a0 ((K95 0 rfl).trans ((K55 0 rfl).trans (K12 0 rfl)))) <| lp rfl (xm (.int .i64 (qB (sub a0 0 x4_1) (qe ((gt a0 x4_1).path)))) rfl) ?_
          obtain ⟨c112, H⟩ := qa H
          refine vk (.plain rfl) rfl (ltb rfl) rfl Tryz.underlying35 Tryz.sizeOf52 rfl (Rd.ext f_a0 (((((e13.t e24).t e52).t e92).t e103).t e110)) rfl c112 <| fun p113 h114 => lp rfl (qd Tryz.underlying52 rfl Tryz.sizeOf3 rfl rfl) <| lp rfl (yU Tryz.isAgg3 (j := 0) h114 rfl rfl) <| lp rfl (Qo rfl rfl) <| nx ?_
          rcases qh H with ⟨q115, H⟩ | ⟨q115, H⟩
          ·refine qo (cb q115) <| wr <| lp rfl (xm (.int .i64 x4_1) ((K95 4 rfl).trans ((K55 4 rfl).trans h15))) <| lp rfl (xa (.int .i64 x4_1) rfl) <| lp rfl (xa (.int .i64 13) rfl) <| nx <| qr <| vJ <| qw <| qw <| vJ <| qw <| qw <| qu ?_
           obtain rfl := si H
           obtain rfl := si S17
           have H := C4
           obtain rfl := si H
           exact G0 rfl rfl (((((e13.t e24).t e52).t e92).t e103).t e110)
          ·refine qj (cb q115) <| qq <| vj <| qf <| qG <| lp rfl (xm (.int .i64 x4_1) ((K95 4 rfl).trans ((K55 4 rfl).trans h15))) <| lp rfl (qU rfl rfl) <| lp rfl (xa (.int .i64 (IntKind.wrap .i64 (x4_1 + 1))) rfl) <| nx ?_
           obtain rfl := si H
           exact ⟨_, Nat.lt_succ_self _, IntKind.wrap .i64 (x4_1 + 1), (ku2 (ku8 (ku8 (ku8 (Kp.cut (Kp.cut (ku2 (ku4 (ku8 K12 rfl) rfl) rfl) K55 rfl) K95 rfl) rfl) rfl) rfl) rfl), rfl, (((((e13.t e24).t e52).t e92).t e103).t e110), S17⟩
   ·refine qj (cb q18) <| vt <| qN <| qN <| yu <| qf ?_
    obtain rfl := si H
    obtain rfl := si S17
    exact ⟨(ku4 K12 rfl), e13, rfl⟩
 ·rintro s6 w5 ⟨K7, e8, y116⟩
  rw [y116] at C4
  have H := C4
  replace H : _ = some _ := H
  refine qf <| wr <| lp rfl (xa (.int .i64 0) rfl) <| lp rfl (xa (.int .i64 0) rfl) <| nx <| qr <| qu ?_
  obtain rfl := si H
  exact G0 rfl rfl e8
theorem vG.calls {w : World} {a0 : List Rec} {v_a0 : Value} (f_a0 : Rd 5 qc w v_a0 a0) (h0 : a0.length ≤ 1048576) (h1 : ∀ x ∈ a0, x.path.length ≤ 1048576) :
  Calls Tryz.prog 133 #[v_a0] w (Rt (RP w (.tuple #[.int .i64 ((qC a0).1), .int .i64 ((qC a0).2)]))) := by
 obtain ⟨k, h⟩ := vG.eq a0 h0 h1
 exact vG.walk f_a0 h
/-! impl.isLongList(impl.Record) -/
theorem jr.calls {w : World} {a0 : List Rec} {v_a0 : Value} (f_a0 : Rd 5 qc w v_a0 a0) :
  Calls Tryz.prog 78 #[v_a0] w (Rt (RP w (.bool (decide (4096 < a0.length))))) := by
 have H := jr.eq a0
 generalize (decide (4096 < a0.length)) = r at H ⊢
 unfold jr.sh at H
 refine qg Tryz.func78 rfl (Nat.le_of_ble_eq_true rfl) Tryz.ntmps78 rfl ?_
 refine wr <| lp rfl (xa (.bool false) rfl) <| nx <| wr <| lp rfl (xm v_a0 rfl) <| lp rfl (va Tryz.underlying35 rfl f_a0) <| lp rfl (Qp rfl rfl) <| lp rfl (xa (.bool (decide (4096 < (a0.length : Int)))) rfl) <| nx <| qr <| qu ?_
 obtain rfl := si H
 exact vh rfl er
/-! impl.find$1 -/
theorem Q2.calls {w : World} {a0 : Rec} {a1 : List UInt8} {b_a1 : Nat} (k_a1 : Blk w b_a1 #[(S a1)] 9) :
  Calls Tryz.prog 139 #[.agg (qc a0).toArray, .pointer (some ⟨b_a1, 0, none⟩)] w (Rt (RP w (.bool (decide (a0.path = a1))))) := by
 have H := Q2.eq a0 a1
 generalize (decide (a0.path = a1)) = r at H ⊢
 unfold Q2.sh at H
 refine qg Tryz.func139 rfl (Nat.le_of_ble_eq_true rfl) Tryz.ntmps139 rfl ?_
 refine wr <| Qg (.plain rfl) rfl (ltb rfl) rfl rfl <| fun b1 w2 z3 z4 e5 k6 => lp rfl (xa (.bool false) rfl) <| nx <| wr <| lp rfl (qd Tryz.underlying52 rfl Tryz.sizeOf9 rfl rfl) <| lp rfl (qA Tryz.isAgg9 k6 rfl rfl) <| lp rfl (qA Tryz.isAgg9 (Blk.ext k_a1 e5) rfl rfl) <| lp rfl (VO rfl rfl) <| lp rfl (xa (.bool (decide (a0.path = a1))) rfl) <| nx <| qr <| qu ?_
 obtain rfl := si H
 exact vh rfl e5
/-! slices.IndexFunc(()impl.Record,impl.Record) -/
theorem qX.walk {k : Nat} {w : World} {a0 : List Rec} {a1 : Rec → Option Bool} {v_a0 : Value} (f_a0 : Rd 5 qc w v_a0 a0) {v_a1 : Value} (f_a1 : ∀ (x0 : Rec) (r : Bool), a1 x0 = some r → jb Tryz.prog w v_a1 [(.agg (qc x0).toArray)] (.bool r)) (g_a1 : v_a1.cells = #[v_a1]) {r : Int} (H : qX.sh k a0 a1 = some r) :
  Calls Tryz.prog 138 #[v_a0, v_a1] w (Rt (RP w (.int .i64 r))) := by
 unfold qX.sh at H
 refine qg Tryz.func138 rfl (Nat.le_of_ble_eq_true rfl) Tryz.ntmps138 rfl ?_
 refine wr <| lp rfl (xa (.int .i64 0) rfl) <| nx <| qi <| wr <| lp rfl (xm v_a0 rfl) <| lp rfl (va Tryz.underlying35 rfl f_a0) <| lp rfl (xm (.int .i64 0) rfl) <| nx ?_
 obtain ⟨z2, L3, C4⟩ := bind_some H
 clear H
 refine  vq (fun s0 sQ wQ => Kp [(4, 6), (8, 19)] s0 sQ ∧ Ext w wQ ∧ z2 = .inr ()) ?_ ?_
 ·refine qx <| vc (fun s0 kk sQ wQ => ∃ (x8_1 : Int), Kp [(4, 6), (8, 19)] s0 sQ ∧ sQ 8 = .int .i64 x8_1 ∧ Ext w wQ ∧ qn (qX.b1 a0 a1) kk x8_1 = some z2) k ⟨0, kz, rfl, er, L3⟩ ?_
  rintro k9 s10 w11 ⟨x8_1, K12, h15, e13, L14⟩
  cases k9 with
  | zero => exact absurd L14 (by simp [qn])
  | succ k9 =>
   obtain ⟨t16, H, S17⟩ := qJ L14
   clear L14
   unfold qX.b1 at H
   refine wr <| lp rfl (vW h15 (K12 7 rfl)) <| nx <| qi ?_
   rcases qh H with ⟨q18, H⟩ | ⟨q18, H⟩
   ·refine qo (cb q18) <| qq <| qf <| qi <| qx <| wr <| lp rfl (qb h15) <| lp rfl (xa (.int .i64 x8_1) rfl) <| nx <| wr <| lp rfl (xm v_a1 (K12 1 rfl)) <| lp rfl (xm v_a0 (K12 0 rfl)) <| lp rfl (xm (.int .i64 x8_1) rfl) ?_
    obtain ⟨c19, H⟩ := qa H
    refine vk (.plain rfl) rfl (ltb rfl) rfl Tryz.underlying35 Tryz.sizeOf52 rfl (Rd.ext f_a0 e13) rfl c19 <| fun p20 h21 => lp rfl (qZ Tryz.isAgg52 Tryz.sizeOf52 rfl rfl h21) ?_
    obtain ⟨z22, x23, H⟩ := bind_some H
    refine VG (.plain rfl) rfl (ltb rfl) rfl rfl (jb.ext (f_a1 _ _ x23) e13) rfl <| fun w24 e25 => nx ?_
    rcases qh H with ⟨q26, H⟩ | ⟨q26, H⟩
    ·refine qo (cb q26) <| wr <| lp rfl (xm (.int .i64 x8_1) rfl) <| lp rfl (xa (.int .i64 x8_1) rfl) <| nx <| qr <| vJ <| qw <| qw <| vJ <| qw <| qw <| qu ?_
     obtain rfl := si H
     obtain rfl := si S17
     have H := C4
     obtain rfl := si H
     exact vh rfl (e13.t e25)
    ·refine qj (cb q26) <| qq <| vj <| qf <| qG <| lp rfl (qU h15 rfl) <| lp rfl (xm (.int .i64 (IntKind.wrap .i64 (x8_1 + 1))) rfl) <| nx ?_
     obtain rfl := si H
     exact ⟨_, Nat.lt_succ_self _, IntKind.wrap .i64 (x8_1 + 1), (ku3 (ku8 K12 rfl) rfl), rfl, (e13.t e25), S17⟩
   ·refine qj (cb q18) <| vt <| qN <| qN <| yu <| qf ?_
    obtain rfl := si H
    obtain rfl := si S17
    exact ⟨(ku1 K12 rfl), e13, rfl⟩
 ·rintro s6 w5 ⟨K7, e8, y27⟩
  rw [y27] at C4
  have H := C4
  replace H : _ = some _ := H
  refine qf <| wr <| lp rfl (xa (.int .i64 (-1)) rfl) <| nx <| qr <| qu ?_
  obtain rfl := si H
  exact vh rfl e8
theorem qX.calls {w : World} {a0 : List Rec} {a1 : Rec → Option Bool} {r : Int} {v_a0 : Value} (f_a0 : Rd 5 qc w v_a0 a0) {v_a1 : Value} (f_a1 : ∀ (x0 : Rec) (r : Bool), a1 x0 = some r → jb Tryz.prog w v_a1 [(.agg (qc x0).toArray)] (.bool r)) (g_a1 : v_a1.cells = #[v_a1]) (h0 : a0.length ≤ 4611686018427387904) (H : (VV a1 a0) = some r) :
  Calls Tryz.prog 138 #[v_a0, v_a1] w (Rt (RP w (.int .i64 r))) := by
 obtain ⟨k, h⟩ := qX.eq a0 a1 h0 H
 exact qX.walk f_a0 f_a1 g_a1 h
/-! impl.find -/
theorem QE.calls {w : World} {a0 : List Rec} {a1 : List UInt8} {v_a0 : Value} (f_a0 : Rd 5 qc w v_a0 a0) (h0 : a0.length ≤ 1048576) :
  Calls Tryz.prog 80 #[v_a0, S a1] w (Rt (RP w (.int .i64 (qB a0 a1)))) := by
 have H := QE.eq a0 a1 h0
 generalize (qB a0 a1) = r at H ⊢
 unfold QE.sh at H
 refine qg Tryz.func80 rfl (Nat.le_of_ble_eq_true rfl) Tryz.ntmps80 rfl ?_
 refine wr <| Qg (.plain rfl) rfl (ltb rfl) rfl rfl <| fun b1 w2 z3 z4 e5 k6 => lp rfl (xa (.int .i64 0) rfl) <| nx <| wr <| lp rfl (xm v_a0 rfl) <| lp rfl (VA (vs := #[]) (us := #[.pointer (some ⟨b1, 0, none⟩)]) rfl rfl) ?_
 obtain ⟨c11, H⟩ := qa H
 obtain ⟨z12, x13, H⟩ := bind_some H
 refine lc rfl rfl Tryz.call138 (qX.calls (w := w2) (a0 := a0) (a1 := (fun (x0_ : Rec) => some (decide (x0_.path = a1)))) (Rd.ext f_a0 e5) (fun x0_ r h => by have h := si h; subst h; exact jb.mk Tryz.call139 (by rfl) fun w9 k10 => Q2.calls (w := w9) (a0 := x0_) (a1 := a1) (Blk.ext k6 k10)) rfl (od c11) x13) rfl <| fun w14 e15 => lp rfl (xa (.int .i64 z12) rfl) <| nx <| qr <| qu ?_
 obtain rfl := si H
 exact vh rfl (e5.t e15)
/-! impl.faultAt -/
abbrev qt.e1 (a0 : List Rec) (a1 : Int) (x6_19 : Int) := ([.inl (!(decide (qz (gt a0 a1) = 0))), .inr (qz (gt a0 a1)), .inl ((decide (0 < a1)) && (decide (((gt a0 (if ((IntKind.wrap .i64 (a1 - 1)) < 0 : Prop) then 0 else (IntKind.wrap .i64 (a1 - 1)))).path) = ((gt a0 a1).path)))), .inr 18, .inl ((decide (0 < a1)) && (!(y4 ((gt a0 (if ((IntKind.wrap .i64 (a1 - 1)) < 0 : Prop) then 0 else (IntKind.wrap .i64 (a1 - 1)))).path) ((gt a0 a1).path)))), .inr 11, .inl (decide (x6_19 < 0)), .inr 12, .inl ((!decide ((qe ((gt a0 a1).path)) = ([] : List UInt8))) && (!decide (((gt a0 (if (x6_19 < 0 : Prop) then 0 else x6_19)).kind) = 3))), .inr 13] : List (Bool ⊕ Int))
abbrev qt.e2 (a1 : Int) := (if ((IntKind.wrap .i64 (a1 - 1)) < 0 : Prop) then 0 else (IntKind.wrap .i64 (a1 - 1)))
abbrev qt.e3 (a0 : List Rec) (a1 : Int) := (!decide ((qe ((gt a0 a1).path)) = ([] : List UInt8)))
abbrev qt.e4 (a0 : List Rec) (a1 : Int) (x6_19 : Int) := ([.inl (decide (16 ≤ a1)), .inr 6, .inl true, .inr (vO (qt.e1 a0 a1 x6_19))] : List (Bool ⊕ Int))
theorem qt.walk {w : World} {a0 : List Rec} {a1 : Int} (gv : GV 0 w) {v_a0 : Value} (f_a0 : Rd 5 qc w v_a0 a0) {r : Int} (H : qt.sh a0 a1 = some r) :
  Calls Tryz.prog 220 #[v_a0, .int .i64 a1] w (Rt (RP w (.int .i64 r))) := by
 unfold qt.sh at H
 refine qg Tryz.func220 rfl (Nat.le_of_ble_eq_true rfl) Tryz.ntmps220 rfl ?_
 refine wr <| lp rfl (xa (.int .i64 0) rfl) <| nx <| wr <| lp rfl (xm v_a0 rfl) <| lp rfl (xm (.int .i64 a1) rfl) ?_
 obtain ⟨c1, H⟩ := qa H
 refine vk (.plain rfl) rfl (ltb rfl) rfl Tryz.underlying35 Tryz.sizeOf52 rfl f_a0 rfl c1 <| fun p2 h3 => lp rfl (qZ Tryz.isAgg52 Tryz.sizeOf52 rfl rfl h3) <| Vf (.plain rfl) rfl (ltb rfl) rfl Tryz.zeroValue52 <| fun b4 w5 z6 z7 e8 k9 => jK (.plain rfl) rfl rfl Tryz.sizeOf52 rfl rfl rfl rfl rfl k9 <| fun w10 h11 k12 => lp rfl (xa (.int .i64 0) rfl) <| nx <| qi <| wr <| lp rfl (qd Tryz.underlying52 rfl Tryz.sizeOf9 rfl rfl) <| lp rfl (qA Tryz.isAgg9 k12 rfl rfl) ?_
 obtain ⟨c13, H⟩ := qa H
 refine lc rfl rfl Tryz.call92 (jQ.calls (w := w10) (a0 := (gt a0 a1).path) (od c13)) rfl <| fun w14 e15 => lp rfl (xa (S (qe ((gt a0 a1).path))) rfl) <| nx <| wr <| lp rfl (xm (S (qe ((gt a0 a1).path))) rfl) <| lp rfl (VN rfl rfl) <| nx ?_
 obtain ⟨z16, L17, C18⟩ := bind_some H
 clear H
 refine vq (fun s0 sQ wQ => ∃ (x6_19 : Int), Kp [(6, 7), (17, 22)] s0 sQ ∧ sQ 6 = .int .i64 x6_19 ∧ Ext w14 wQ ∧ z16 = .inr x6_19) ?_ ?_
 ·have H := L17
  rcases qh H with ⟨q20, H⟩ | ⟨q20, H⟩
  ·refine qo (cb q20) <| qG <| lp rfl (xm v_a0 rfl) <| lp rfl (xm (.int .i64 a1) rfl) ?_
   obtain ⟨c21, H⟩ := qa H
   refine Xo (.plain rfl) rfl (ltb rfl) rfl Tryz.underlying35 Tryz.sizeOf52 rfl (Rd.ext f_a0 (Ext.trans (Below.trans e8 (Wr.below h11 (Nat.le_of_eq z6))) e15)) (l := 0) (h := a1) rfl ⟨_, rfl⟩ c21 <| fun v22 h23 => lp rfl (xm (S (qe ((gt a0 a1).path))) rfl) ?_
   obtain ⟨c24, H⟩ := qa H
   refine lc rfl rfl Tryz.call80 (QE.calls (w := w14) (a0 := sub a0 0 a1) (a1 := (qe ((gt a0 a1).path))) h23 (od c24)) rfl <| fun w25 e26 => lp rfl (xa (.int .i64 (qB (sub a0 0 a1) (qe ((gt a0 a1).path)))) rfl) <| nx ?_
   obtain rfl := si H
   exact ⟨(qB (sub a0 0 a1) (qe ((gt a0 a1).path))), (ku2 (ku4 kz rfl) rfl), rfl, e26, rfl⟩
  ·refine qj (cb q20) <| qq <| qf ?_
   obtain rfl := si H
   exact ⟨0, kz, rfl, er, rfl⟩
 ·rintro s28 w27 ⟨x6_19, K29, h32, e30, y31⟩
  rw [y31] at C18
  have H := C18
  refine qf <| qi ?_
  obtain ⟨c37, H⟩ := qa H
  obtain ⟨c40, H⟩ := qa H
  obtain ⟨c45, H⟩ := qa H
  obtain ⟨c48, H⟩ := qa H
  obtain ⟨c57, H⟩ := qa H
  obtain ⟨c66, H⟩ := qa H
  refine Yc [LEq (.int .i64 a1), LEq (.bool (decide (16 ≤ a1))), LEq (.iface 4 (.bool (decide (16 ≤ a1)))), LEq (.iface 3 (.int .i64 6)), LEq (.iface 4 (.bool true)), LEq (.agg #[(.int .i64 ((gt a0 a1).kind)), (S ((gt a0 a1).path)), (S ((gt a0 a1).body)), (.int .i64 ((gt a0 a1).mode)), (.bool ((gt a0 a1).opq))]), LEq (.bool (decide (qz (gt a0 a1) = 0))), LEq (.bool (!(decide (qz (gt a0 a1) = 0)))), LEq (.iface 4 (.bool (!(decide (qz (gt a0 a1) = 0))))), LEq (.agg #[(.int .i64 ((gt a0 a1).kind)), (S ((gt a0 a1).path)), (S ((gt a0 a1).body)), (.int .i64 ((gt a0 a1).mode)), (.bool ((gt a0 a1).opq))]), LEq (.int .i64 (qz (gt a0 a1))), LEq (.iface 3 (.int .i64 (qz (gt a0 a1)))), LEq (.int .i64 a1), LEq (.bool (decide (0 < a1))), LEq (.bool (decide (0 < a1))), LIf (decide (0 < a1)) (LEq v_a0), LIf (decide (0 < a1)) (LEq (.int .i64 a1)), LIf (decide (0 < a1)) (LEq (.int .i64 (IntKind.wrap .i64 (a1 - 1)))), LIf (decide (0 < a1)) (LEq (.int .i64 (qt.e2 a1))), LIf (decide (0 < a1)) (yY (qc (gt a0 (qt.e2 a1)))), LIf (decide (0 < a1)) (LAt 1 (qc (gt a0 (qt.e2 a1)))), LIf (decide (0 < a1)) (LEq (S ((gt a0 (qt.e2 a1)).path))), LIf (decide (0 < a1)) (LEq (.pointer (some ⟨b4, 1, none⟩))), LIf (decide (0 < a1)) (LEq (S ((gt a0 a1).path))), LIf (decide (0 < a1)) (LEq (.bool (decide (((gt a0 (qt.e2 a1)).path) = ((gt a0 a1).path))))), LEq (.bool ((decide (0 < a1)) && (decide (((gt a0 (qt.e2 a1)).path) = ((gt a0 a1).path))))), LEq (.iface 4 (.bool ((decide (0 < a1)) && (decide (((gt a0 (qt.e2 a1)).path) = ((gt a0 a1).path)))))), LEq (.iface 3 (.int .i64 18)), LEq (.int .i64 a1), LEq (.bool (decide (0 < a1))), LEq (.bool (decide (0 < a1))), LIf (decide (0 < a1)) (LEq v_a0), LIf (decide (0 < a1)) (LEq (.int .i64 a1)), LIf (decide (0 < a1)) (LEq (.int .i64 (IntKind.wrap .i64 (a1 - 1)))), LIf (decide (0 < a1)) (LEq (.int .i64 (qt.e2 a1))), LIf (decide (0 < a1)) (yY (qc (gt a0 (qt.e2 a1)))), LIf (decide (0 < a1)) (LAt 1 (qc (gt a0 (qt.e2 a1)))), LIf (decide (0 < a1)) (LEq (S ((gt a0 (qt.e2 a1)).path))), LIf (decide (0 < a1)) (LEq (.pointer (some ⟨b4, 1, none⟩))), LIf (decide (0 < a1)) (LEq (S ((gt a0 a1).path))), LIf (decide (0 < a1)) (LEq (.bool (y4 ((gt a0 (qt.e2 a1)).path) ((gt a0 a1).path)))), LIf (decide (0 < a1)) (LEq (.bool (!(y4 ((gt a0 (qt.e2 a1)).path) ((gt a0 a1).path))))), LEq (.bool ((decide (0 < a1)) && (!(y4 ((gt a0 (qt.e2 a1)).path) ((gt a0 a1).path))))), LEq (.iface 4 (.bool ((decide (0 < a1)) && (!(y4 ((gt a0 (qt.e2 a1)).path) ((gt a0 a1).path)))))), LEq (.iface 3 (.int .i64 11)), LEq (.int .i64 x6_19), LEq (.bool (decide (x6_19 < 0))), LEq (.iface 4 (.bool (decide (x6_19 < 0)))), LEq (.iface 3 (.int .i64 12)), LEq (.pointer (some ⟨b4, 1, none⟩)), LEq (S ((gt a0 a1).path)), LEq (S (qe ((gt a0 a1).path))), LEq (.bool (qt.e3 a0 a1)), LEq (.bool (qt.e3 a0 a1)), LIf (qt.e3 a0 a1) (LEq v_a0), LIf (qt.e3 a0 a1) (LEq (.int .i64 x6_19)), LIf (qt.e3 a0 a1) (LEq (.int .i64 (if (x6_19 < 0 : Prop) then 0 else x6_19))), LIf (qt.e3 a0 a1) (yY (qc (gt a0 (if (x6_19 < 0 : Prop) then 0 else x6_19)))), LIf (qt.e3 a0 a1) (LAt 0 (qc (gt a0 (if (x6_19 < 0 : Prop) then 0 else x6_19)))), LIf (qt.e3 a0 a1) (LEq (.int .i64 ((gt a0 (if (x6_19 < 0 : Prop) then 0 else x6_19)).kind))), LIf (qt.e3 a0 a1) (LEq (.bool (!decide (((gt a0 (if (x6_19 < 0 : Prop) then 0 else x6_19)).kind) = 3)))), LEq (.bool ((qt.e3 a0 a1) && (!decide (((gt a0 (if (x6_19 < 0 : Prop) then 0 else x6_19)).kind) = 3)))), LEq (.iface 4 (.bool ((qt.e3 a0 a1) && (!decide (((gt a0 (if (x6_19 < 0 : Prop) then 0 else x6_19)).kind) = 3))))), LEq (.iface 3 (.int .i64 13)), LRd 1 (Ve 4 3) (qt.e1 a0 a1 x6_19), LEq (.int .i64 (vO (qt.e1 a0 a1 x6_19))), LEq (.iface 3 (.int .i64 (vO (qt.e1 a0 a1 x6_19)))), LRd 1 (Ve 4 3) (qt.e4 a0 a1 x6_19), LEq (.int .i64 (vO (qt.e4 a0 a1 x6_19))), LEq (.int .i64 (vO (qt.e4 a0 a1 x6_19)))] (by kernel_rfl) (by kernel_rfl) ⟨qm, qm, qm, qm, qm, qm, qm, qm, qm, qm, qm, qm, qm, qm, qm, lm, lm, lm, lm, (LIf.mono yY.mono), (LIf.mono LAt.mono), lm, lm, lm, lm, qm, qm, qm, qm, qm, qm, lm, lm, lm, lm, (LIf.mono yY.mono), (LIf.mono LAt.mono), lm, lm, lm, lm, lm, qm, qm, qm, qm, qm, qm, qm, qm, qm, qm, qm, qm, lm, lm, lm, (LIf.mono yY.mono), (LIf.mono LAt.mono), lm, lm, qm, qm, qm, LRd.mono, qm, qm, LRd.mono, qm, qm, trivial⟩ ⟨?_, ?_, ?_, ?_, ?_, ?_, ?_, ?_, ?_, ?_, ?_, ?_, ?_, ?_, ?_, ?_, ?_, ?_, ?_, ?_, ?_, ?_, ?_, ?_, ?_, ?_, ?_, ?_, ?_, ?_, ?_, ?_, ?_, ?_, ?_, ?_, ?_, ?_, ?_, ?_, ?_, ?_, ?_, ?_, ?_, ?_, ?_, ?_, ?_, ?_, ?_, ?_, ?_, ?_, ?_, ?_, ?_, ?_, ?_, ?_, ?_, ?_, ?_, ?_, ?_, ?_, ?_, ?_, ?_, ?_, trivial⟩ ?_
  ·exact fun s x e f d u => lp rfl (xm (.int .i64 a1) ((f 1 rfl).trans (K29 1 rfl))) <| se rfl rfl
  ·exact fun s x e f d u => lp rfl (VS (d 0 rfl) rfl) <| se rfl rfl
  ·exact fun s x e f d u => lp rfl (vn Tryz.underlying4 rfl (d 1 rfl)) <| se rfl rfl
  ·exact fun s x e f d u => lp rfl (vn Tryz.underlying3 rfl rfl) <| se rfl rfl
  ·exact fun s x e f d u => lp rfl (vn Tryz.underlying4 rfl rfl) <| se rfl rfl
  ·exact fun s x e f d u => lp rfl (qZ Tryz.isAgg52 Tryz.sizeOf52 rfl ((f 5 rfl).trans (K29 5 rfl)) (Blk.at0 (Blk.ext k12 ((e15.t e30).t e)))) <| se rfl rfl
  ·exact fun s x e f d u => lc rfl rfl Tryz.call157 (QF.calls (w := x) (a0 := (gt a0 a1)) (GV.ext gv (Ext.trans (Ext.trans (Ext.trans (Below.trans e8 (Wr.below h11 (Nat.le_of_eq z6))) e15) e30) e))) (vu (d 5 rfl) rfl) <| fun w69 e70 => sx rfl e70 rfl
  ·exact fun s x e f d u => lp rfl (jm (d 6 rfl)) <| se rfl rfl
  ·exact fun s x e f d u => lp rfl (vn Tryz.underlying4 rfl (d 7 rfl)) <| se rfl rfl
  ·exact fun s x e f d u => lp rfl (qZ Tryz.isAgg52 Tryz.sizeOf52 rfl ((f 5 rfl).trans (K29 5 rfl)) (Blk.at0 (Blk.ext k12 ((e15.t e30).t e)))) <| se rfl rfl
  ·exact fun s x e f d u => lc rfl rfl Tryz.call211 (qk.calls (w := x) (a0 := (gt a0 a1)) (GV.ext gv (Ext.trans (Ext.trans (Ext.trans (Below.trans e8 (Wr.below h11 (Nat.le_of_eq z6))) e15) e30) e))) (vu (d 9 rfl) rfl) <| fun w71 e72 => sx rfl e72 rfl
  ·exact fun s x e f d u => lp rfl (vn Tryz.underlying3 rfl (d 10 rfl)) <| se rfl rfl
  ·exact fun s x e f d u => lp rfl (xm (.int .i64 a1) ((f 1 rfl).trans (K29 1 rfl))) <| se rfl rfl
  ·exact fun s x e f d u => lp rfl (Qp (d 12 rfl) rfl) <| se rfl rfl
  ·exact fun s x e f d u => lp rfl (qb (d 13 rfl)) <| se rfl rfl
  ·exact fun s x e f d u => gT rfl rfl rfl rfl (d 14 rfl) rfl fun b t => lt t rfl rfl (xm v_a0 ((f 0 rfl).trans (K29 0 rfl))) <| sg rfl rfl b rfl
  ·exact fun s x e f d u => gT rfl rfl rfl rfl (d 14 rfl) rfl fun b t => lt t rfl rfl (xm (.int .i64 a1) ((f 1 rfl).trans (K29 1 rfl))) <| sg rfl rfl b rfl
  ·exact fun s x e f d u => gT rfl rfl rfl rfl (d 14 rfl) rfl fun b t => lt t rfl rfl (QS ((d 16 rfl).1 b) rfl) <| sg rfl rfl b rfl
  ·exact fun s x e f d u => gT rfl rfl rfl rfl (d 14 rfl) rfl fun b t => lt t rfl rfl (X_max ((d 17 rfl).1 b) rfl) <| sg rfl rfl b rfl
  ·exact fun s x e f d u => gT rfl rfl rfl rfl (d 14 rfl) rfl fun b t => vk t rfl (ltb rfl) rfl Tryz.underlying35 Tryz.sizeOf52 ((d 15 rfl).1 b) (Rd.ext f_a0 (Ext.trans (Ext.trans (Ext.trans (Below.trans e8 (Wr.below h11 (Nat.le_of_eq z6))) e15) e30) e)) ((d 18 rfl).1 b) (yl b c40) <| fun p74 h75 => sg rfl rfl b ⟨_, rfl, h75⟩
  ·intro s x e f d u
   refine gT rfl rfl rfl rfl (d 14 rfl) rfl fun b t => ?_
   obtain ⟨p76, h77, h78⟩ := ((d 19 rfl).1 b)
   exact lt t rfl rfl (qd Tryz.underlying52 rfl Tryz.sizeOf9 rfl h77) <| sg rfl rfl b ⟨_, rfl, h78⟩
  ·intro s x e f d u
   refine gT rfl rfl rfl rfl (d 14 rfl) rfl fun b t => ?_
   obtain ⟨p79, h80, h81⟩ := ((d 20 rfl).1 b)
   exact lt t rfl rfl (yU Tryz.isAgg9 (j := 1) h81 h80 rfl) <| sg rfl rfl b rfl
  ·exact fun s x e f d u => gT rfl rfl rfl rfl (d 14 rfl) rfl fun b t => lt t rfl rfl (qd Tryz.underlying52 rfl Tryz.sizeOf9 rfl ((f 5 rfl).trans (K29 5 rfl))) <| sg rfl rfl b rfl
  ·exact fun s x e f d u => gT rfl rfl rfl rfl (d 14 rfl) rfl fun b t => lt t rfl rfl (qA Tryz.isAgg9 (Blk.ext k12 ((e15.t e30).t e)) ((d 22 rfl).1 b) rfl) <| sg rfl rfl b rfl
  ·exact fun s x e f d u => gT rfl rfl rfl rfl (d 14 rfl) rfl fun b t => lt t rfl rfl (VO ((d 21 rfl).1 b) ((d 23 rfl).1 b)) <| sg rfl rfl b rfl
  ·exact fun s x e f d u => lp rfl (Qk (d 14 rfl) rfl fun h => ((d 24 rfl).1 h)) <| se rfl rfl
  ·exact fun s x e f d u => lp rfl (vn Tryz.underlying4 rfl (d 25 rfl)) <| se rfl rfl
  ·exact fun s x e f d u => lp rfl (vn Tryz.underlying3 rfl rfl) <| se rfl rfl
  ·exact fun s x e f d u => lp rfl (xm (.int .i64 a1) ((f 1 rfl).trans (K29 1 rfl))) <| se rfl rfl
  ·exact fun s x e f d u => lp rfl (Qp (d 28 rfl) rfl) <| se rfl rfl
  ·exact fun s x e f d u => lp rfl (qb (d 29 rfl)) <| se rfl rfl
  ·exact fun s x e f d u => gT rfl rfl rfl rfl (d 30 rfl) rfl fun b t => lt t rfl rfl (xm v_a0 ((f 0 rfl).trans (K29 0 rfl))) <| sg rfl rfl b rfl
  ·exact fun s x e f d u => gT rfl rfl rfl rfl (d 30 rfl) rfl fun b t => lt t rfl rfl (xm (.int .i64 a1) ((f 1 rfl).trans (K29 1 rfl))) <| sg rfl rfl b rfl
  ·exact fun s x e f d u => gT rfl rfl rfl rfl (d 30 rfl) rfl fun b t => lt t rfl rfl (QS ((d 32 rfl).1 b) rfl) <| sg rfl rfl b rfl
  ·exact fun s x e f d u => gT rfl rfl rfl rfl (d 30 rfl) rfl fun b t => lt t rfl rfl (X_max ((d 33 rfl).1 b) rfl) <| sg rfl rfl b rfl
  ·exact fun s x e f d u => gT rfl rfl rfl rfl (d 30 rfl) rfl fun b t => vk t rfl (ltb rfl) rfl Tryz.underlying35 Tryz.sizeOf52 ((d 31 rfl).1 b) (Rd.ext f_a0 (Ext.trans (Ext.trans (Ext.trans (Below.trans e8 (Wr.below h11 (Nat.le_of_eq z6))) e15) e30) e)) ((d 34 rfl).1 b) (yl b c40) <| fun p83 h84 => sg rfl rfl b ⟨_, rfl, h84⟩
  ·intro s x e f d u
   refine gT rfl rfl rfl rfl (d 30 rfl) rfl fun b t => ?_
   obtain ⟨p85, h86, h87⟩ := ((d 35 rfl).1 b)
   exact lt t rfl rfl (qd Tryz.underlying52 rfl Tryz.sizeOf9 rfl h86) <| sg rfl rfl b ⟨_, rfl, h87⟩
  ·intro s x e f d u
   refine gT rfl rfl rfl rfl (d 30 rfl) rfl fun b t => ?_
   obtain ⟨p88, h89, h90⟩ := ((d 36 rfl).1 b)
   exact lt t rfl rfl (yU Tryz.isAgg9 (j := 1) h90 h89 rfl) <| sg rfl rfl b rfl
  ·exact fun s x e f d u => gT rfl rfl rfl rfl (d 30 rfl) rfl fun b t => lt t rfl rfl (qd Tryz.underlying52 rfl Tryz.sizeOf9 rfl ((f 5 rfl).trans (K29 5 rfl))) <| sg rfl rfl b rfl
  ·exact fun s x e f d u => gT rfl rfl rfl rfl (d 30 rfl) rfl fun b t => lt t rfl rfl (qA Tryz.isAgg9 (Blk.ext k12 ((e15.t e30).t e)) ((d 38 rfl).1 b) rfl) <| sg rfl rfl b rfl
  ·exact fun s x e f d u => gT rfl rfl rfl rfl (d 30 rfl) rfl fun b t => yW t rfl (ltb rfl) rfl Tryz.call37 (j7.calls (w := x) (a0 := (gt a0 (qt.e2 a1)).path) (a1 := (gt a0 a1).path) (GV.ext gv (Ext.trans (Ext.trans (Ext.trans (Below.trans e8 (Wr.below h11 (Nat.le_of_eq z6))) e15) e30) e))) (vu ((d 37 rfl).1 b) (vu ((d 39 rfl).1 b) rfl)) <| fun w91 e92 => sgx rfl rfl b e92 rfl
  ·exact fun s x e f d u => gT rfl rfl rfl rfl (d 30 rfl) rfl fun b t => lt t rfl rfl (jm ((d 40 rfl).1 b)) <| sg rfl rfl b rfl
  ·exact fun s x e f d u => lp rfl (Qk (d 30 rfl) rfl fun h => ((d 41 rfl).1 h)) <| se rfl rfl
  ·exact fun s x e f d u => lp rfl (vn Tryz.underlying4 rfl (d 42 rfl)) <| se rfl rfl
  ·exact fun s x e f d u => lp rfl (vn Tryz.underlying3 rfl rfl) <| se rfl rfl
  ·exact fun s x e f d u => lp rfl (xm (.int .i64 x6_19) ((f 6 rfl).trans h32)) <| se rfl rfl
  ·exact fun s x e f d u => lp rfl (vW (d 45 rfl) rfl) <| se rfl rfl
  ·exact fun s x e f d u => lp rfl (vn Tryz.underlying4 rfl (d 46 rfl)) <| se rfl rfl
  ·exact fun s x e f d u => lp rfl (vn Tryz.underlying3 rfl rfl) <| se rfl rfl
  ·exact fun s x e f d u => lp rfl (qd Tryz.underlying52 rfl Tryz.sizeOf9 rfl ((f 5 rfl).trans (K29 5 rfl))) <| se rfl rfl
  ·exact fun s x e f d u => lp rfl (qA Tryz.isAgg9 (Blk.ext k12 ((e15.t e30).t e)) (d 49 rfl) rfl) <| se rfl rfl
  ·exact fun s x e f d u => lc rfl rfl Tryz.call92 (jQ.calls (w := x) (a0 := (gt a0 a1).path) (od c45)) (vu (d 50 rfl) rfl) <| fun w94 e95 => sx rfl e95 rfl
  ·exact fun s x e f d u => lp rfl (VN (d 51 rfl) rfl) <| se rfl rfl
  ·exact fun s x e f d u => lp rfl (qb (d 52 rfl)) <| se rfl rfl
  ·exact fun s x e f d u => gT rfl rfl rfl rfl (d 53 rfl) rfl fun b t => lt t rfl rfl (xm v_a0 ((f 0 rfl).trans (K29 0 rfl))) <| sg rfl rfl b rfl
  ·exact fun s x e f d u => gT rfl rfl rfl rfl (d 53 rfl) rfl fun b t => lt t rfl rfl (xm (.int .i64 x6_19) ((f 6 rfl).trans h32)) <| sg rfl rfl b rfl
  ·exact fun s x e f d u => gT rfl rfl rfl rfl (d 53 rfl) rfl fun b t => lt t rfl rfl (X_max ((d 55 rfl).1 b) rfl) <| sg rfl rfl b rfl
  ·exact fun s x e f d u => gT rfl rfl rfl rfl (d 53 rfl) rfl fun b t => vk t rfl (ltb rfl) rfl Tryz.underlying35 Tryz.sizeOf52 ((d 54 rfl).1 b) (Rd.ext f_a0 (Ext.trans (Ext.trans (Ext.trans (Below.trans e8 (Wr.below h11 (Nat.le_of_eq z6))) e15) e30) e)) ((d 56 rfl).1 b) (yl b c48) <| fun p97 h98 => sg rfl rfl b ⟨_, rfl, h98⟩
  ·intro s x e f d u
   refine gT rfl rfl rfl rfl (d 53 rfl) rfl fun b t => ?_
   obtain ⟨p99, h100, h101⟩ := ((d 57 rfl).1 b)
   exact lt t rfl rfl (qd Tryz.underlying52 rfl Tryz.sizeOf3 rfl h100) <| sg rfl rfl b ⟨_, rfl, h101⟩
  ·intro s x e f d u
   refine gT rfl rfl rfl rfl (d 53 rfl) rfl fun b t => ?_
   obtain ⟨p102, h103, h104⟩ := ((d 58 rfl).1 b)
   exact lt t rfl rfl (yU Tryz.isAgg3 (j := 0) h104 h103 rfl) <| sg rfl rfl b rfl
  ·exact fun s x e f d u => gT rfl rfl rfl rfl (d 53 rfl) rfl fun b t => lt t rfl rfl (Qo ((d 59 rfl).1 b) rfl) <| sg rfl rfl b rfl
  ·exact fun s x e f d u => lp rfl (Qk (d 53 rfl) rfl fun h => ((d 60 rfl).1 h)) <| se rfl rfl
  ·exact fun s x e f d u => lp rfl (vn Tryz.underlying4 rfl (d 61 rfl)) <| se rfl rfl
  ·exact fun s x e f d u => lp rfl (vn Tryz.underlying3 rfl rfl) <| se rfl rfl
  ·exact fun s x e f d u => vC (.plain rfl) rfl (ltb rfl) rfl Tryz.underlying142 Tryz.sizeOf20 Tryz.zeroValue20 rfl rfl rfl (vs := [(.iface 4 (.bool (!(decide (qz (gt a0 a1) = 0))))), (.iface 3 (.int .i64 (qz (gt a0 a1)))), (.iface 4 (.bool ((decide (0 < a1)) && (decide (((gt a0 (qt.e2 a1)).path) = ((gt a0 a1).path)))))), (.iface 3 (.int .i64 18)), (.iface 4 (.bool ((decide (0 < a1)) && (!(y4 ((gt a0 (qt.e2 a1)).path) ((gt a0 a1).path)))))), (.iface 3 (.int .i64 11)), (.iface 4 (.bool (decide (x6_19 < 0)))), (.iface 3 (.int .i64 12)), (.iface 4 (.bool ((qt.e3 a0 a1) && (!decide (((gt a0 (if (x6_19 < 0 : Prop) then 0 else x6_19)).kind) = 3))))), (.iface 3 (.int .i64 13))]) (vu (d 8 rfl) (vu (d 11 rfl) (vu (d 26 rfl) (vu (d 27 rfl) (vu (d 43 rfl) (vu (d 44 rfl) (vu (d 47 rfl) (vu (d 48 rfl) (vu (d 62 rfl) (vu (d 63 rfl) rfl)))))))))) (qO rfl) <| fun b105 w106 z107 z108 e109 k110 => sx rfl e109 (Ow.rd (Ow.new (xs := [.inl (!(decide (qz (gt a0 a1) = 0))), .inr (qz (gt a0 a1)), .inl ((decide (0 < a1)) && (decide (((gt a0 (qt.e2 a1)).path) = ((gt a0 a1).path)))), .inr 18, .inl ((decide (0 < a1)) && (!(y4 ((gt a0 (qt.e2 a1)).path) ((gt a0 a1).path)))), .inr 11, .inl (decide (x6_19 < 0)), .inr 12, .inl ((qt.e3 a0 a1) && (!decide (((gt a0 (if (x6_19 < 0 : Prop) then 0 else x6_19)).kind) = 3))), .inr 13]) (sz := 1) (enc := (Ve 4 3)) (base := x.heap.size) k110 (Nat.le_of_eq z107) rfl (fun _ _ => by first | rfl | exact V9 _ _ _) (Nat.le_of_ble_eq_true rfl)))
  ·intro s x e f d u
   have d111 : Rd 1 (Ve 4 3) x (s 86) (qt.e1 a0 a1 x6_19) := (d 64 rfl)
   exact lc rfl rfl Tryz.call77 (yM.calls (w := x) (a0 := (qt.e1 a0 a1 x6_19)) d111 (od c57)) rfl <| fun w113 e114 => sx rfl e114 rfl
  ·exact fun s x e f d u => lp rfl (vn Tryz.underlying3 rfl (d 65 rfl)) <| se rfl rfl
  ·exact fun s x e f d u => vC (.plain rfl) rfl (ltb rfl) rfl Tryz.underlying142 Tryz.sizeOf20 Tryz.zeroValue20 rfl rfl rfl (vs := [(.iface 4 (.bool (decide (16 ≤ a1)))), (.iface 3 (.int .i64 6)), (.iface 4 (.bool true)), (.iface 3 (.int .i64 (vO (qt.e1 a0 a1 x6_19))))]) (vu (d 2 rfl) (vu (d 3 rfl) (vu (d 4 rfl) (vu (d 66 rfl) rfl)))) (qO rfl) <| fun b115 w116 z117 z118 e119 k120 => sx rfl e119 (Ow.rd (Ow.new (xs := [.inl (decide (16 ≤ a1)), .inr 6, .inl true, .inr (vO (qt.e1 a0 a1 x6_19))]) (sz := 1) (enc := (Ve 4 3)) (base := x.heap.size) k120 (Nat.le_of_eq z117) rfl (fun _ _ => by first | rfl | exact V9 _ _ _) (Nat.le_of_ble_eq_true rfl)))
  ·intro s x e f d u
   have d121 : Rd 1 (Ve 4 3) x (s 89) (qt.e4 a0 a1 x6_19) := (d 67 rfl)
   exact lc rfl rfl Tryz.call77 (yM.calls (w := x) (a0 := (qt.e4 a0 a1 x6_19)) d121 (od c66)) rfl <| fun w123 e124 => sx rfl e124 rfl
  ·exact fun s x e f d u => lp rfl (qp (d 68 rfl)) <| se rfl rfl
  intro s125 w126 e127 hf128 ha129
  have K130 := Kp.ofD (kp := [(4, 5), (22, 91)]) rfl hf128
  have d131 : s125 4 = (.int .i64 (vO (qt.e4 a0 a1 x6_19))) := ha129 69 rfl
  clear ha129 hf128
  refine qf <| qr <| qu ?_
  obtain rfl := si H
  exact vh d131 (Ext.trans (Ext.trans (Ext.trans (Below.trans e8 (Wr.below h11 (Nat.le_of_eq z6))) e15) e30) e127)
theorem qt.calls {w : World} {a0 : List Rec} {a1 : Int} (gv : GV 0 w) {v_a0 : Value} (f_a0 : Rd 5 qc w v_a0 a0) (h0 : a0.length ≤ 1048576) (h1 : ∀ x ∈ a0, x.path.length ≤ 1048576) (h2 : inR a1 a0.length = true) :
  Calls Tryz.prog 220 #[v_a0, .int .i64 a1] w (Rt (RP w (.int .i64 (faultAt a0 a1)))) := qt.walk gv f_a0 (qt.eq a0 a1 h0 h1 h2)
/-! impl.fault -/
theorem yF.walk {k : Nat} {w : World} {a0 : List Rec} (gv : GV 0 w) {v_a0 : Value} (f_a0 : Rd 5 qc w v_a0 a0) {r : Int × Int} (H : yF.sh k a0 = some r) :
  Calls Tryz.prog 185 #[v_a0] w (Rt (RP w (.tuple #[.int .i64 r.1, .int .i64 r.2]))) := by
 unfold yF.sh at H
 refine qg Tryz.func185 rfl (Nat.le_of_ble_eq_true rfl) Tryz.ntmps185 rfl ?_
 refine wr <| lp rfl (xa (.int .i64 0) rfl) <| lp rfl (xa (.int .i64 0) rfl) <| nx <| qi <| wr <| lp rfl (xm v_a0 rfl) <| lp rfl (va Tryz.underlying35 rfl f_a0) <| lp rfl (xm (.int .i64 0) rfl) <| nx ?_
 obtain ⟨z2, L3, C4⟩ := bind_some H
 clear H
 refine  vq (fun s0 sQ wQ => Kp [(2, 6), (8, 19)] s0 sQ ∧ Ext w wQ ∧ z2 = .inr ()) ?_ ?_
 ·refine qx <| vc (fun s0 kk sQ wQ => ∃ (x8_1 : Int), Kp [(2, 6), (8, 19)] s0 sQ ∧ sQ 8 = .int .i64 x8_1 ∧ Ext w wQ ∧ qn (yF.b1 a0) kk x8_1 = some z2) k ⟨0, kz, rfl, er, L3⟩ ?_
  rintro k9 s10 w11 ⟨x8_1, K12, h15, e13, L14⟩
  cases k9 with
  | zero => exact absurd L14 (by simp [qn])
  | succ k9 =>
   obtain ⟨t16, H, S17⟩ := qJ L14
   clear L14
   unfold yF.b1 at H
   refine wr <| lp rfl (vW h15 (K12 7 rfl)) <| nx <| qi ?_
   rcases qh H with ⟨q18, H⟩ | ⟨q18, H⟩
   ·refine qo (cb q18) <| qq <| qf <| qi <| qx <| wr <| lp rfl (qb h15) <| lp rfl (xa (.int .i64 x8_1) rfl) <| nx <| wr <| lp rfl (xm v_a0 (K12 0 rfl)) <| lp rfl (xm (.int .i64 x8_1) rfl) ?_
    obtain ⟨c19, H⟩ := qa H
    obtain ⟨c20, H⟩ := qa H
    obtain ⟨c21, H⟩ := qa H
    refine lc rfl rfl Tryz.call220 (qt.calls (w := w11) (a0 := a0) (a1 := x8_1) (GV.ext gv e13) (Rd.ext f_a0 e13) (od c19) (od c20) (od c21)) rfl <| fun w22 e23 => lp rfl (xa (.int .i64 (faultAt a0 x8_1)) rfl) <| nx <| wr <| lp rfl (xm (.int .i64 (faultAt a0 x8_1)) rfl) <| lp rfl (Qo rfl rfl) <| nx ?_
    rcases qh H with ⟨q24, H⟩ | ⟨q24, H⟩
    ·refine qo (cb q24) <| wr <| lp rfl (xm (.int .i64 x8_1) rfl) <| lp rfl (xm (.int .i64 (faultAt a0 x8_1)) rfl) <| lp rfl (xa (.int .i64 x8_1) rfl) <| lp rfl (xa (.int .i64 (faultAt a0 x8_1)) rfl) <| nx <| qr <| vJ <| qw <| qw <| vJ <| qw <| qw <| qu ?_
     obtain rfl := si H
     obtain rfl := si S17
     have H := C4
     obtain rfl := si H
     exact G0 rfl rfl (e13.t e23)
    ·refine qj (cb q24) <| qq <| vj <| qf <| qG <| lp rfl (qU h15 rfl) <| lp rfl (xm (.int .i64 (IntKind.wrap .i64 (x8_1 + 1))) rfl) <| nx ?_
     obtain rfl := si H
     exact ⟨_, Nat.lt_succ_self _, IntKind.wrap .i64 (x8_1 + 1), (ku3 (ku8 K12 rfl) rfl), rfl, (e13.t e23), S17⟩
   ·refine qj (cb q18) <| vt <| qN <| qN <| yu <| qf ?_
    obtain rfl := si H
    obtain rfl := si S17
    exact ⟨(ku1 K12 rfl), e13, rfl⟩
 ·rintro s6 w5 ⟨K7, e8, y25⟩
  rw [y25] at C4
  have H := C4
  replace H : _ = some _ := H
  refine qf <| wr <| lp rfl (xa (.int .i64 0) rfl) <| lp rfl (xa (.int .i64 0) rfl) <| nx <| qr <| qu ?_
  obtain rfl := si H
  exact G0 rfl rfl e8
theorem yF.calls {w : World} {a0 : List Rec} (gv : GV 0 w) {v_a0 : Value} (f_a0 : Rd 5 qc w v_a0 a0) (h0 : a0.length ≤ 1048576) (h1 : ∀ x ∈ a0, x.path.length ≤ 1048576) :
  Calls Tryz.prog 185 #[v_a0] w (Rt (RP w (.tuple #[.int .i64 ((qC a0).1), .int .i64 ((qC a0).2)]))) := by
 obtain ⟨k, h⟩ := yF.eq a0 h0 h1
 exact yF.walk gv f_a0 h
/-! impl.LayerFault -/
theorem yR.walk {w : World} {a0 : List Rec} (gv : GV 0 w) {v_a0 : Value} (f_a0 : Rd 5 qc w v_a0 a0) {r : Int × Int} (H : yR.sh a0 = some r) :
  Calls Tryz.prog 126 #[v_a0] w (Rt (RP w (.tuple #[.int .i64 r.1, .int .i64 r.2]))) := by
 unfold yR.sh at H
 refine qg Tryz.func126 rfl (Nat.le_of_ble_eq_true rfl) Tryz.ntmps126 rfl ?_
 refine wr <| lp rfl (xa (.int .i64 0) rfl) <| lp rfl (xa (.int .i64 0) rfl) <| nx <| qi <| wr <| lp rfl (xm v_a0 rfl) <| lc rfl rfl Tryz.call78 (jr.calls (w := w) (a0 := a0) f_a0) rfl <| fun w1 e2 => nx ?_
 rcases qh H with ⟨q3, H⟩ | ⟨q3, H⟩
 ·refine qo (cb q3) <| wr <| lp rfl (xa (.int .i64 0) rfl) <| lp rfl (xa (.int .i64 2) rfl) <| nx <| qr <| qw <| qu ?_
  obtain rfl := si H
  exact G0 rfl rfl e2
 ·refine qj (cb q3) <| qq <| qf <| wr <| lp rfl (xm v_a0 rfl) ?_
  obtain ⟨c4, H⟩ := qa H
  obtain ⟨c5, H⟩ := qa H
  refine lc rfl rfl Tryz.call185 (yF.calls (w := w1) (a0 := a0) (GV.ext gv e2) (Rd.ext f_a0 e2) (od c4) (od c5)) rfl <| fun w6 e7 => lp rfl (vV (v := (.int .i64 ((qC a0).1))) rfl rfl) <| lp rfl (vV (v := (.int .i64 ((qC a0).2))) rfl rfl) <| lp rfl (xa (.int .i64 ((qC a0).1)) rfl) <| lp rfl (xa (.int .i64 ((qC a0).2)) rfl) <| nx <| qr <| qu ?_
  obtain rfl := si H
  exact G0 rfl rfl (e2.t e7)
theorem yR.calls {w : World} {a0 : List Rec} (gv : GV 0 w) {v_a0 : Value} (f_a0 : Rd 5 qc w v_a0 a0) (h0 : a0.length ≤ 1048576) (h1 : ∀ x ∈ a0, x.path.length ≤ 1048576) :
  Calls Tryz.prog 126 #[v_a0] w (Rt (RP w (.tuple #[.int .i64 ((vU a0).1), .int .i64 ((vU a0).2)]))) := yR.walk gv f_a0 (yR.eq a0 h0 h1)
/-! spec.l03OK -/
theorem QX.calls {w : World} {a0 : List Rec} {v_a0 : Value} (f_a0 : Rd 5 qc w v_a0 a0) (h0 : a0.length ≤ 1048576) (h1 : ∀ x ∈ a0, x.path.length ≤ 1048576) :
  Calls Tryz.prog 74 #[v_a0] w (Rt (RP w (.bool (decide ((qC a0).2 = 0))))) := by
 have H := QX.eq a0 h0 h1
 generalize (decide ((qC a0).2 = 0)) = r at H ⊢
 unfold QX.sh at H
 refine qg Tryz.func74 rfl (Nat.le_of_ble_eq_true rfl) Tryz.ntmps74 rfl ?_
 refine wr <| lp rfl (xa (.bool false) rfl) <| nx <| wr <| lp rfl (xm v_a0 rfl) ?_
 obtain ⟨c1, H⟩ := qa H
 obtain ⟨c2, H⟩ := qa H
 refine lc rfl rfl Tryz.call133 (vG.calls (w := w) (a0 := a0) f_a0 (od c1) (od c2)) rfl <| fun w3 e4 => lp rfl (qb rfl) <| lp rfl (vV (v := (.int .i64 ((qC a0).1))) rfl rfl) <| lp rfl (vV (v := (.int .i64 ((qC a0).2))) rfl rfl) <| lp rfl (xa (.int .i64 ((qC a0).1)) rfl) <| lp rfl (xa (.int .i64 ((qC a0).2)) rfl) <| nx <| wr <| lp rfl (xm (.int .i64 ((qC a0).2)) rfl) <| lp rfl (yL rfl rfl) <| lp rfl (xa (.bool (decide (((qC a0).2) = 0))) rfl) <| nx <| qr <| qu ?_
 obtain rfl := si H
 exact vh rfl e4
/-! impl.LayerOK -/
theorem Qs.calls {w : World} {a0 : List Rec} (gv : GV 0 w) {v_a0 : Value} (f_a0 : Rd 5 qc w v_a0 a0) (h0 : a0.length ≤ 1048576) (h1 : ∀ x ∈ a0, x.path.length ≤ 1048576) :
  Calls Tryz.prog 68 #[v_a0] w (Rt (RP w (.bool (decide ((vU a0).2 = 0))))) := by
 have H := Qs.eq a0 h0 h1
 generalize (decide ((vU a0).2 = 0)) = r at H ⊢
 unfold Qs.sh at H
 refine qg Tryz.func68 rfl (Nat.le_of_ble_eq_true rfl) Tryz.ntmps68 rfl ?_
 refine wr <| lp rfl (xa (.bool false) rfl) <| nx <| wr <| lp rfl (xm v_a0 rfl) ?_
 obtain ⟨c1, H⟩ := qa H
 obtain ⟨c2, H⟩ := qa H
 refine lc rfl rfl Tryz.call126 (yR.calls (w := w) (a0 := a0) gv f_a0 (od c1) (od c2)) rfl <| fun w3 e4 => lp rfl (qb rfl) <| lp rfl (vV (v := (.int .i64 ((vU a0).1))) rfl rfl) <| lp rfl (vV (v := (.int .i64 ((vU a0).2))) rfl rfl) <| lp rfl (xa (.int .i64 ((vU a0).1)) rfl) <| lp rfl (xa (.int .i64 ((vU a0).2)) rfl) <| nx <| wr <| lp rfl (xm (.int .i64 ((vU a0).2)) rfl) <| lp rfl (yL rfl rfl) <| lp rfl (xa (.bool (decide (((vU a0).2) = 0))) rfl) <| nx <| qr <| qu ?_
 obtain rfl := si H
 exact vh rfl e4
/-! spec.l04At -/
theorem jf.calls {w : World} {a0 : List Nd} {a1 : List UInt8} {v_a0 : Value} (f_a0 : Rd 4 qv w v_a0 a0) (h0 : a0.length ≤ 1048576) :
  Calls Tryz.prog 155 #[v_a0, S a1] w (Rt (RP w (.int .i64 (vm a0 a1)))) := by
 obtain ⟨k, H⟩ := jf.eq a0 a1 h0
 generalize (vm a0 a1) = r at H ⊢
 unfold jf.sh at H
 refine qg Tryz.func155 rfl (Nat.le_of_ble_eq_true rfl) Tryz.ntmps155 rfl ?_
 refine wr <| lp rfl (xa (.int .i64 0) rfl) <| nx <| qi <| wr <| lp rfl (xa (.int .i64 0) rfl) <| nx ?_
 obtain ⟨z2, L3, C4⟩ := bind_some H
 clear H
 refine  vq (fun s0 sQ wQ => Kp [(4, 20)] s0 sQ ∧ Ext w wQ ∧ z2 = .inr ()) ?_ ?_
 ·refine qx <| vc (fun s0 kk sQ wQ => ∃ (x5_1 : Int), Kp [(4, 20)] s0 sQ ∧ sQ 5 = .int .i64 x5_1 ∧ Ext w wQ ∧ qn (jf.b1 a0 a1) kk x5_1 = some z2) k ⟨0, kz, rfl, er, L3⟩ ?_
  rintro k9 s10 w11 ⟨x5_1, K12, h15, e13, L14⟩
  cases k9 with
  | zero => exact absurd L14 (by simp [qn])
  | succ k9 =>
   obtain ⟨t16, H, S17⟩ := qJ L14
   clear L14
   unfold jf.b1 at H
   refine qi <| wr <| lp rfl (qb h15) <| lp rfl (xm v_a0 (K12 0 rfl)) <| lp rfl (va Tryz.underlying29 rfl (Rd.ext f_a0 e13)) <| lp rfl (vW rfl rfl) <| nx ?_
   rcases qh H with ⟨q18, H⟩ | ⟨q18, H⟩
   ·refine qo (cb q18) <| qq <| qf <| qi <| qx <| wr <| lp rfl (xm v_a0 (K12 0 rfl)) <| lp rfl (qb h15) ?_
    obtain ⟨c19, H⟩ := qa H
    refine vk (.plain rfl) rfl (ltb rfl) rfl Tryz.underlying29 Tryz.sizeOf91 rfl (Rd.ext f_a0 e13) rfl c19 <| fun p20 h21 => lp rfl (qd Tryz.underlying91 rfl Tryz.sizeOf9 rfl rfl) <| lp rfl (yU Tryz.isAgg9 (j := 1) h21 rfl rfl) <| lp rfl (xm (S a1) (K12 1 rfl)) <| lp rfl (VO rfl rfl) <| nx ?_
    rcases qh H with ⟨q22, H⟩ | ⟨q22, H⟩
    ·refine qo (cb q22) <| wr <| lp rfl (qb h15) <| lp rfl (xa (.int .i64 x5_1) rfl) <| nx <| qr <| vJ <| qw <| qw <| vJ <| qw <| qw <| qu ?_
     obtain rfl := si H
     obtain rfl := si S17
     have H := C4
     obtain rfl := si H
     exact vh rfl e13
    ·refine qj (cb q22) <| qq <| vj <| qf <| qG <| lp rfl (qb h15) <| lp rfl (qU rfl rfl) <| lp rfl (xa (.int .i64 (IntKind.wrap .i64 (x5_1 + 1))) rfl) <| nx ?_
     obtain rfl := si H
     exact ⟨_, Nat.lt_succ_self _, IntKind.wrap .i64 (x5_1 + 1), (ku2 (ku4 (ku8 K12 rfl) rfl) rfl), rfl, e13, S17⟩
   ·refine qj (cb q18) <| vt <| qN <| qN <| yu <| qf ?_
    obtain rfl := si H
    obtain rfl := si S17
    exact ⟨(ku4 K12 rfl), e13, rfl⟩
 ·rintro s6 w5 ⟨K7, e8, y23⟩
  rw [y23] at C4
  have H := C4
  replace H : _ = some _ := H
  refine qf <| wr <| lp rfl (xa (.int .i64 (-1)) rfl) <| nx <| qr <| qu ?_
  obtain rfl := si H
  exact vh rfl e8
/-! impl.at$1 -/
theorem VY.calls {w : World} {a0 : Nd} {a1 : List UInt8} {b_a1 : Nat} (k_a1 : Blk w b_a1 #[(S a1)] 9) :
  Calls Tryz.prog 202 #[.agg (qv a0).toArray, .pointer (some ⟨b_a1, 0, none⟩)] w (Rt (RP w (.bool (decide (a0.path = a1))))) := by
 have H := VY.eq a0 a1
 generalize (decide (a0.path = a1)) = r at H ⊢
 unfold VY.sh at H
 refine qg Tryz.func202 rfl (Nat.le_of_ble_eq_true rfl) Tryz.ntmps202 rfl ?_
 refine wr <| Qg (.plain rfl) rfl (ltb rfl) rfl rfl <| fun b1 w2 z3 z4 e5 k6 => lp rfl (xa (.bool false) rfl) <| nx <| wr <| lp rfl (qd Tryz.underlying91 rfl Tryz.sizeOf9 rfl rfl) <| lp rfl (qA Tryz.isAgg9 k6 rfl rfl) <| lp rfl (qA Tryz.isAgg9 (Blk.ext k_a1 e5) rfl rfl) <| lp rfl (VO rfl rfl) <| lp rfl (xa (.bool (decide (a0.path = a1))) rfl) <| nx <| qr <| qu ?_
 obtain rfl := si H
 exact vh rfl e5
/-! slices.IndexFunc(()impl.Node,impl.Node) -/
theorem qT.walk {k : Nat} {w : World} {a0 : List Nd} {a1 : Nd → Option Bool} {v_a0 : Value} (f_a0 : Rd 4 qv w v_a0 a0) {v_a1 : Value} (f_a1 : ∀ (x0 : Nd) (r : Bool), a1 x0 = some r → jb Tryz.prog w v_a1 [(.agg (qv x0).toArray)] (.bool r)) (g_a1 : v_a1.cells = #[v_a1]) {r : Int} (H : qT.sh k a0 a1 = some r) :
  Calls Tryz.prog 201 #[v_a0, v_a1] w (Rt (RP w (.int .i64 r))) := by
 unfold qT.sh at H
 refine qg Tryz.func201 rfl (Nat.le_of_ble_eq_true rfl) Tryz.ntmps201 rfl ?_
 refine wr <| lp rfl (xa (.int .i64 0) rfl) <| nx <| qi <| wr <| lp rfl (xm v_a0 rfl) <| lp rfl (va Tryz.underlying29 rfl f_a0) <| lp rfl (xm (.int .i64 0) rfl) <| nx ?_
 obtain ⟨z2, L3, C4⟩ := bind_some H
 clear H
 refine  vq (fun s0 sQ wQ => Kp [(4, 6), (8, 19)] s0 sQ ∧ Ext w wQ ∧ z2 = .inr ()) ?_ ?_
 ·refine qx <| vc (fun s0 kk sQ wQ => ∃ (x8_1 : Int), Kp [(4, 6), (8, 19)] s0 sQ ∧ sQ 8 = .int .i64 x8_1 ∧ Ext w wQ ∧ qn (qT.b1 a0 a1) kk x8_1 = some z2) k ⟨0, kz, rfl, er, L3⟩ ?_
  rintro k9 s10 w11 ⟨x8_1, K12, h15, e13, L14⟩
  cases k9 with
  | zero => exact absurd L14 (by simp [qn])
  | succ k9 =>
   obtain ⟨t16, H, S17⟩ := qJ L14
   clear L14
   unfold qT.b1 at H
   refine wr <| lp rfl (vW h15 (K12 7 rfl)) <| nx <| qi ?_
   rcases qh H with ⟨q18, H⟩ | ⟨q18, H⟩
   ·refine qo (cb q18) <| qq <| qf <| qi <| qx <| wr <| lp rfl (qb h15) <| lp rfl (xa (.int .i64 x8_1) rfl) <| nx <| wr <| lp rfl (xm v_a1 (K12 1 rfl)) <| lp rfl (xm v_a0 (K12 0 rfl)) <| lp rfl (xm (.int .i64 x8_1) rfl) ?_
    obtain ⟨c19, H⟩ := qa H
    refine vk (.plain rfl) rfl (ltb rfl) rfl Tryz.underlying29 Tryz.sizeOf91 rfl (Rd.ext f_a0 e13) rfl c19 <| fun p20 h21 => lp rfl (qZ Tryz.isAgg91 Tryz.sizeOf91 rfl rfl h21) ?_
    obtain ⟨z22, x23, H⟩ := bind_some H
    refine VG (.plain rfl) rfl (ltb rfl) rfl rfl (jb.ext (f_a1 _ _ x23) e13) rfl <| fun w24 e25 => nx ?_
    rcases qh H with ⟨q26, H⟩ | ⟨q26, H⟩
    ·refine qo (cb q26) <| wr <| lp rfl (xm (.int .i64 x8_1) rfl) <| lp rfl (xa (.int .i64 x8_1) rfl) <| nx <| qr <| vJ <| qw <| qw <| vJ <| qw <| qw <| qu ?_
     obtain rfl := si H
     obtain rfl := si S17
     have H := C4
     obtain rfl := si H
     exact vh rfl (e13.t e25)
    ·refine qj (cb q26) <| qq <| vj <| qf <| qG <| lp rfl (qU h15 rfl) <| lp rfl (xm (.int .i64 (IntKind.wrap .i64 (x8_1 + 1))) rfl) <| nx ?_
     obtain rfl := si H
     exact ⟨_, Nat.lt_succ_self _, IntKind.wrap .i64 (x8_1 + 1), (ku3 (ku8 K12 rfl) rfl), rfl, (e13.t e25), S17⟩
   ·refine qj (cb q18) <| vt <| qN <| qN <| yu <| qf ?_
    obtain rfl := si H
    obtain rfl := si S17
    exact ⟨(ku1 K12 rfl), e13, rfl⟩
 ·rintro s6 w5 ⟨K7, e8, y27⟩
  rw [y27] at C4
  have H := C4
  replace H : _ = some _ := H
  refine qf <| wr <| lp rfl (xa (.int .i64 (-1)) rfl) <| nx <| qr <| qu ?_
  obtain rfl := si H
  exact vh rfl e8
theorem qT.calls {w : World} {a0 : List Nd} {a1 : Nd → Option Bool} {r : Int} {v_a0 : Value} (f_a0 : Rd 4 qv w v_a0 a0) {v_a1 : Value} (f_a1 : ∀ (x0 : Nd) (r : Bool), a1 x0 = some r → jb Tryz.prog w v_a1 [(.agg (qv x0).toArray)] (.bool r)) (g_a1 : v_a1.cells = #[v_a1]) (h0 : a0.length ≤ 4611686018427387904) (H : (VV a1 a0) = some r) :
  Calls Tryz.prog 201 #[v_a0, v_a1] w (Rt (RP w (.int .i64 r))) := by
 obtain ⟨k, h⟩ := qT.eq a0 a1 h0 H
 exact qT.walk f_a0 f_a1 g_a1 h
/-! impl.at -/
theorem YQ.calls {w : World} {a0 : List Nd} {a1 : List UInt8} {v_a0 : Value} (f_a0 : Rd 4 qv w v_a0 a0) (h0 : a0.length ≤ 1048576) :
  Calls Tryz.prog 147 #[v_a0, S a1] w (Rt (RP w (.int .i64 (vm a0 a1)))) := by
 have H := YQ.eq a0 a1 h0
 generalize (vm a0 a1) = r at H ⊢
 unfold YQ.sh at H
 refine qg Tryz.func147 rfl (Nat.le_of_ble_eq_true rfl) Tryz.ntmps147 rfl ?_
 refine wr <| Qg (.plain rfl) rfl (ltb rfl) rfl rfl <| fun b1 w2 z3 z4 e5 k6 => lp rfl (xa (.int .i64 0) rfl) <| nx <| wr <| lp rfl (xm v_a0 rfl) <| lp rfl (VA (vs := #[]) (us := #[.pointer (some ⟨b1, 0, none⟩)]) rfl rfl) ?_
 obtain ⟨c11, H⟩ := qa H
 obtain ⟨z12, x13, H⟩ := bind_some H
 refine lc rfl rfl Tryz.call201 (qT.calls (w := w2) (a0 := a0) (a1 := (fun (x0_ : Nd) => some (decide (x0_.path = a1)))) (Rd.ext f_a0 e5) (fun x0_ r h => by have h := si h; subst h; exact jb.mk Tryz.call202 (by rfl) fun w9 k10 => VY.calls (w := w9) (a0 := x0_) (a1 := a1) (Blk.ext k6 k10)) rfl (od c11) x13) rfl <| fun w14 e15 => lp rfl (xa (.int .i64 z12) rfl) <| nx <| qr <| qu ?_
 obtain rfl := si H
 exact vh rfl (e5.t e15)
/-! spec.l03Under -/
theorem yw.calls {w : World} {a0 : List Rec} {a1 : List UInt8} {v_a0 : Value} (f_a0 : Rd 5 qc w v_a0 a0) (h0 : a0.length ≤ 1048576) (h1 : a1.length ≤ 1048576) :
  Calls Tryz.prog 134 #[v_a0, S a1] w (Rt (RP w (.bool (jg a0 a1)))) := by
 obtain ⟨k, H⟩ := yw.eq a0 a1 h0 h1
 generalize (jg a0 a1) = r at H ⊢
 unfold yw.sh at H
 refine qg Tryz.func134 rfl (Nat.le_of_ble_eq_true rfl) Tryz.ntmps134 rfl ?_
 refine wr <| lp rfl (xa (.bool false) rfl) <| nx <| qi <| wr <| lp rfl (xm (S a1) rfl) ?_
 obtain ⟨c1, H⟩ := qa H
 refine lc rfl rfl Tryz.call154 (vg.calls (w := w) (a0 := a1) (od c1)) rfl <| fun w2 e3 => lp rfl (xa (S (qe a1)) rfl) <| nx ?_
 obtain ⟨z5, L6, C7⟩ := bind_some H
 clear H
 refine  vq (fun s0 sQ wQ => Kp [(4, 7), (9, 25)] s0 sQ ∧ Ext w2 wQ ∧ z5 = .inr ()) ?_ ?_
 ·refine qx <| vc (fun s0 kk sQ wQ => ∃ (x5_4 : List UInt8), Kp [(4, 7), (9, 25)] s0 sQ ∧ sQ 5 = S x5_4 ∧ Ext w2 wQ ∧ qn (yw.b1 a0) kk x5_4 = some z5) k ⟨(qe a1), kz, rfl, er, L6⟩ ?_
  rintro k12 s13 w14 ⟨x5_4, K15, h18, e16, L17⟩
  cases k12 with
  | zero => exact absurd L17 (by simp [qn])
  | succ k12 =>
   obtain ⟨t19, H, S20⟩ := qJ L17
   clear L17
   unfold yw.b1 at H
   refine qi <| wr <| lp rfl (qb h18) <| lp rfl (VN rfl rfl) <| nx ?_
   rcases qh H with ⟨q21, H⟩ | ⟨q21, H⟩
   ·refine qo (cb q21) <| qq <| qf <| qi <| qx <| wr <| lp rfl (xm v_a0 (K15 0 rfl)) <| lp rfl (qb h18) ?_
    obtain ⟨c22, H⟩ := qa H
    refine lc rfl rfl Tryz.call162 (yQ.calls (w := w14) (a0 := a0) (a1 := x5_4) (Rd.ext f_a0 (e3.t e16)) (od c22)) rfl <| fun w23 e24 => lp rfl (xa (.int .i64 (qB a0 x5_4)) rfl) <| nx <| wr <| lp rfl (xm (.int .i64 (qB a0 x5_4)) rfl) <| lp rfl (VS rfl rfl) <| lp rfl (xm (.bool (decide (0 ≤ (qB a0 x5_4)))) rfl) ?_
    obtain ⟨z26, x27, H⟩ := bind_some H
    refine ja 6 [(19, 25)] 24 (fun q => q = z26) ?_ ?_
    ·rcases qh x27 with ⟨b24_, H⟩ | ⟨b24_, H⟩
     ·refine lg rfl rfl rfl rfl (cb b24_) (xm v_a0 (K15 0 rfl)) <| lg rfl rfl rfl rfl (cb b24_) (xm (.int .i64 (qB a0 x5_4)) rfl) ?_
      obtain ⟨c26, H⟩ := qa H
      refine vk (tg rfl rfl rfl (cb b24_)) rfl (ltb rfl) rfl Tryz.underlying35 Tryz.sizeOf52 rfl (Rd.ext f_a0 ((e3.t e16).t e24)) rfl c26 <| fun p27 h28 => lg rfl rfl rfl rfl (cb b24_) (qd Tryz.underlying52 rfl Tryz.sizeOf4 rfl rfl) <| lg rfl rfl rfl rfl (cb b24_) (yU Tryz.isAgg4 (j := 4) h28 rfl rfl) <| lp rfl (qy (b := true) (v := (.bool ((gt a0 (qB a0 x5_4)).opq))) (cb b24_) rfl) ?_
      obtain rfl := si H
      exact nx ⟨(ku2 (ku4 kz rfl) rfl), ⟨_, rfl, rfl⟩, er⟩
     ·refine ls rfl rfl rfl (cb b24_) rfl <| ls rfl rfl rfl (cb b24_) rfl <| ls rfl rfl rfl (cb b24_) rfl <| ls rfl rfl rfl (cb b24_) rfl <| ls rfl rfl rfl (cb b24_) rfl <| lp rfl (qy (b := false) (v := (.bool false)) (cb b24_) rfl) ?_
      obtain rfl := si H
      exact nx ⟨(ku2 (ku4 kz rfl) rfl), ⟨_, rfl, rfl⟩, er⟩
    intro s32 w28 z33 K29 hq h30 e31
    rw [hq] at h30; clear hq
    refine nx ?_
    rcases qh H with ⟨q34, H⟩ | ⟨q34, H⟩
    ·refine qo (h30.trans (cb q34)) <| wr <| lp rfl (xa (.bool true) rfl) <| nx <| qr <| vJ <| qw <| qw <| vJ <| qw <| qw <| qu ?_
     obtain rfl := si H
     obtain rfl := si S20
     have H := C7
     obtain rfl := si H
     exact vh rfl (((e3.t e16).t e24).t e31)
    ·refine qj (h30.trans (cb q34)) <| qq <| vj <| qf <| qG <| lp rfl (xm (S x5_4) ((K29 5 rfl).trans h18)) ?_
     obtain ⟨c35, H⟩ := qa H
     refine lc rfl rfl Tryz.call154 (vg.calls (w := w28) (a0 := x5_4) (od c35)) rfl <| fun w36 e37 => lp rfl (xa (S (qe x5_4)) rfl) <| nx ?_
     obtain rfl := si H
     exact ⟨_, Nat.lt_succ_self _, (qe x5_4), (ku3 (Kp.cut (ku1 (ku8 K15 rfl) rfl) K29 rfl) rfl), rfl, (((e16.t e24).t e31).t e37), S20⟩
   ·refine qj (cb q21) <| vt <| qN <| qN <| yu <| qf ?_
    obtain rfl := si H
    obtain rfl := si S20
    exact ⟨(ku2 K15 rfl), e16, rfl⟩
 ·rintro s9 w8 ⟨K10, e11, y38⟩
  rw [y38] at C7
  have H := C7
  replace H : _ = some _ := H
  refine qf <| wr <| lp rfl (xa (.bool false) rfl) <| nx <| qr <| qu ?_
  obtain rfl := si H
  exact vh rfl (e3.t e11)
/-! impl.ancestors -/
theorem vL.calls {w : World} {a0 : List UInt8} (h0 : a0.length ≤ 1048576) :
  Calls Tryz.prog 141 #[S a0] w (Rt (RO 9 1 jc w (jo a0))) := by
 obtain ⟨k, H⟩ := vL.eq a0 h0
 generalize (jo a0) = r at H ⊢
 unfold vL.sh at H
 refine qg Tryz.func141 rfl (Nat.le_of_ble_eq_true rfl) Tryz.ntmps141 rfl ?_
 refine wr <| lp rfl (xa (.slice none 0 0) rfl) <| nx <| wr <| vC (.plain rfl) rfl (ltb rfl) rfl Tryz.underlying44 Tryz.sizeOf9 Tryz.zeroValue9 rfl rfl rfl (vs := []) rfl (qO rfl) <| fun b1 w2 z3 z4 e5 k6 => lp rfl (xa (.slice (some ⟨b1, 0, none⟩) 0 0) rfl) <| nx <| qi <| wr <| lp rfl (xm (S a0) rfl) ?_
 obtain ⟨c7, H⟩ := qa H
 refine lc rfl rfl Tryz.call92 (jQ.calls (w := w2) (a0 := a0) (od c7)) rfl <| fun w8 e9 => lp rfl (xa (S (qe a0)) rfl) <| nx ?_
 obtain ⟨z13, L14, C15⟩ := bind_some H
 clear H
 refine  vq (fun s0 sQ wQ => ∃ (x3_16 : List (List UInt8)) (v17 : Value), Kp [(0, 1), (3, 4), (7, 15)] s0 sQ ∧ sQ 3 = v17 ∧ Ow 9 1 jc w8.heap.size wQ v17 x3_16 ∧ Ext w8 wQ ∧ z13 = .inr x3_16) ?_ ?_
 ·refine qx <| vc (fun s0 kk sQ wQ => ∃ (x0_10 : List UInt8) (x3_11 : List (List UInt8)) (v12 : Value), Kp [(0, 1), (3, 4), (7, 15)] s0 sQ ∧ sQ 0 = S x0_10 ∧ sQ 3 = v12 ∧ Ow 9 1 jc w8.heap.size wQ v12 x3_11 ∧ Ext w8 wQ ∧ qn (vL.b1) kk (x0_10, x3_11) = some z13) k ⟨(qe a0), ([] : List (List UInt8)), (.slice (some ⟨b1, 0, none⟩) 0 0), kz, rfl, rfl, (Ow.zero), er, L14⟩ ?_
  rintro k22 s23 w24 ⟨x0_10, x3_11, v12, K25, h28, h29, h30, e26, L27⟩
  cases k22 with
  | zero => exact absurd L27 (by simp [qn])
  | succ k22 =>
   obtain ⟨t31, H, S32⟩ := qJ L27
   clear L27
   unfold vL.b1 at H
   refine qi <| wr <| lp rfl (qb h28) <| lp rfl (VN rfl rfl) <| nx ?_
   rcases qh H with ⟨q33, H⟩ | ⟨q33, H⟩
   ·refine qo (cb q33) <| qq <| qf <| qi <| qx <| qG <| lp rfl (qb h29) <| lp rfl (qb h28) <| vC (.plain rfl) rfl (ltb rfl) rfl Tryz.underlying44 Tryz.sizeOf9 Tryz.zeroValue9 rfl rfl rfl (vs := [(S x0_10)]) rfl (qO rfl) <| fun b34 w35 z36 z37 e38 k39 => ?_
    obtain ⟨c40, H⟩ := qa H
    refine vP (enc := jc) (.plain rfl) rfl (ltb rfl) rfl El.t44 rfl rfl (Ow.ext h30 e38) (Ow.rd (Ow.new (xs := [x0_10]) (sz := 1) (enc := jc) (base := w24.heap.size) k39 (Nat.le_of_eq z36) rfl (fun _ _ => by rfl) (Nat.le_of_ble_eq_true rfl))) (ones_S _) (od c40) ((e26.t e38)).size <| fun v41 w42 o43 z44 g45 => lp rfl (xa v41 rfl) <| qH <| vj <| qf <| qG <| lp rfl (qb h28) ?_
    obtain ⟨c46, H⟩ := qa H
    refine lc rfl rfl Tryz.call92 (jQ.calls (w := w42) (a0 := x0_10) (od c46)) rfl <| fun w47 e48 => lp rfl (xa (S (qe x0_10)) rfl) <| nx ?_
    obtain rfl := si H
    exact ⟨_, Nat.lt_succ_self _, (qe x0_10), x3_11 ++ ([x0_10] : List (List UInt8)), v41, (ku2 (ku8 K25 rfl) rfl), rfl, rfl, (Ow.ext o43 e48), (Ext.trans (g45 _ (e26.t e38)) e48), S32⟩
   ·refine qj (cb q33) <| vt <| qN <| qN <| yu <| qf ?_
    obtain rfl := si H
    obtain rfl := si S32
    exact ⟨x3_11, v12, (ku2 K25 rfl), h29, h30, e26, rfl⟩
 ·rintro s19 w18 ⟨x3_16, v17, K20, h49, h50, e21, y51⟩
  rw [y51] at C15
  have H := C15
  replace H : _ = some _ := H
  refine qf <| wr <| lp rfl (qb h49) <| lp rfl (xa v17 rfl) <| nx <| qr <| qu ?_
  obtain rfl := si H
  exact jI rfl ((e5.t e9).t e21) h50 ((e5.t e9)).size
/-! impl.above$1 -/
theorem jw.walk {w : World} {a0 : List UInt8} {a1 : List Rec} {a2 : Rec → Option Bool} {v_a1 : Value} (f_a1 : Rd 5 qc w v_a1 a1) (g_a1 : v_a1.cells = #[v_a1]) {b_a1 : Nat} (k_a1 : Blk w b_a1 #[v_a1] 35) {v_a2 : Value} (f_a2 : ∀ (x0 : Rec) (r : Bool), a2 x0 = some r → jb Tryz.prog w v_a2 [(.agg (qc x0).toArray)] (.bool r)) (g_a2 : v_a2.cells = #[v_a2]) {b_a2 : Nat} (k_a2 : Blk w b_a2 #[v_a2] 148) {r : Bool} (H : jw.sh a0 a1 a2 = some r) :
  Calls Tryz.prog 221 #[S a0, .pointer (some ⟨b_a1, 0, none⟩), .pointer (some ⟨b_a2, 0, none⟩)] w (Rt (RP w (.bool r))) := by
 unfold jw.sh at H
 refine qg Tryz.func221 rfl (Nat.le_of_ble_eq_true rfl) Tryz.ntmps221 rfl ?_
 refine wr <| lp rfl (xa (.bool false) rfl) <| nx <| wr <| lp rfl (qA Tryz.isAgg35 k_a1 rfl rfl) <| lp rfl (xm (S a0) rfl) ?_
 obtain ⟨c1, H⟩ := qa H
 refine lc rfl rfl Tryz.call80 (QE.calls (w := w) (a0 := a1) (a1 := a0) f_a1 (od c1)) rfl <| fun w2 e3 => lp rfl (xa (.int .i64 (qB a1 a0)) rfl) <| nx <| qi ?_
 obtain ⟨c4, H⟩ := qa H
 obtain ⟨z7, x8, H⟩ := bind_some H
 refine Yc [LEq (.int .i64 (qB a1 a0)), LEq (.bool (decide (0 ≤ (qB a1 a0)))), LEq (.bool (decide (0 ≤ (qB a1 a0)))), LIf (decide (0 ≤ (qB a1 a0))) (LEq v_a2), LIf (decide (0 ≤ (qB a1 a0))) (LEq v_a1), LIf (decide (0 ≤ (qB a1 a0))) (LEq (.int .i64 (qB a1 a0))), LIf (decide (0 ≤ (qB a1 a0))) (yY (qc (gt a1 (qB a1 a0)))), LIf (decide (0 ≤ (qB a1 a0))) (LEq (.agg (qc (gt a1 (qB a1 a0))).toArray)), LIf (decide (0 ≤ (qB a1 a0))) (LEq (.bool z7)), LEq (.bool ((decide (0 ≤ (qB a1 a0))) && z7)), LEq (.bool ((decide (0 ≤ (qB a1 a0))) && z7))] (by kernel_rfl) (by kernel_rfl) ⟨qm, qm, qm, lm, lm, lm, (LIf.mono yY.mono), lm, lm, qm, qm, trivial⟩ ⟨?_, ?_, ?_, ?_, ?_, ?_, ?_, ?_, ?_, ?_, ?_, trivial⟩ ?_
 ·exact fun s x e f d u => lp rfl (xm (.int .i64 (qB a1 a0)) (f 5 rfl)) <| se rfl rfl
 ·exact fun s x e f d u => lp rfl (VS (d 0 rfl) rfl) <| se rfl rfl
 ·exact fun s x e f d u => lp rfl (qb (d 1 rfl)) <| se rfl rfl
 ·exact fun s x e f d u => gT rfl rfl rfl rfl (d 2 rfl) rfl fun b t => lt t rfl rfl (qA Tryz.isAgg148 (Blk.ext k_a2 (e3.t e)) (f 2 rfl) rfl) <| sg rfl rfl b rfl
 ·exact fun s x e f d u => gT rfl rfl rfl rfl (d 2 rfl) rfl fun b t => lt t rfl rfl (qA Tryz.isAgg35 (Blk.ext k_a1 (e3.t e)) (f 1 rfl) rfl) <| sg rfl rfl b rfl
 ·exact fun s x e f d u => gT rfl rfl rfl rfl (d 2 rfl) rfl fun b t => lt t rfl rfl (xm (.int .i64 (qB a1 a0)) (f 5 rfl)) <| sg rfl rfl b rfl
 ·exact fun s x e f d u => gT rfl rfl rfl rfl (d 2 rfl) rfl fun b t => vk t rfl (ltb rfl) rfl Tryz.underlying35 Tryz.sizeOf52 ((d 4 rfl).1 b) (Rd.ext f_a1 (e3.t e)) ((d 5 rfl).1 b) (yl b c4) <| fun p12 h13 => sg rfl rfl b ⟨_, rfl, h13⟩
 ·intro s x e f d u
  refine gT rfl rfl rfl rfl (d 2 rfl) rfl fun b t => ?_
  obtain ⟨p14, h15, h16⟩ := ((d 6 rfl).1 b)
  exact lt t rfl rfl (qZ Tryz.isAgg52 Tryz.sizeOf52 rfl h15 h16) <| sg rfl rfl b rfl
 ·exact fun s x e f d u => gT rfl rfl rfl rfl (d 2 rfl) rfl fun b t => VG t rfl (ltb rfl) rfl ((d 3 rfl).1 b) (jb.ext (f_a2 _ _ x8) (e3.t e)) (vu ((d 7 rfl).1 b) rfl) <| fun w19 e20 => sgx rfl rfl b e20 rfl
 ·exact fun s x e f d u => lp rfl (Qk (d 2 rfl) rfl fun h => ((d 8 rfl).1 h)) <| se rfl rfl
 ·exact fun s x e f d u => lp rfl (qp (d 9 rfl)) <| se rfl rfl
 intro s21 w22 e23 hf24 ha25
 have K26 := Kp.ofD (kp := [(4, 5), (9, 19)]) rfl hf24
 have d27 : s21 4 = (.bool ((decide (0 ≤ (qB a1 a0))) && z7)) := ha25 10 rfl
 clear ha25 hf24
 refine qf <| qr <| qu ?_
 obtain rfl := si H
 exact vh d27 (e3.t e23)
theorem jw.calls {w : World} {a0 : List UInt8} {a1 : List Rec} {a2 : Rec → Option Bool} {r : Bool} {v_a1 : Value} (f_a1 : Rd 5 qc w v_a1 a1) (g_a1 : v_a1.cells = #[v_a1]) {b_a1 : Nat} (k_a1 : Blk w b_a1 #[v_a1] 35) {v_a2 : Value} (f_a2 : ∀ (x0 : Rec) (r : Bool), a2 x0 = some r → jb Tryz.prog w v_a2 [(.agg (qc x0).toArray)] (.bool r)) (g_a2 : v_a2.cells = #[v_a2]) {b_a2 : Nat} (k_a2 : Blk w b_a2 #[v_a2] 148) (h0 : a1.length ≤ 1048576) (H : (Yt a1 a2 a0) = some r) :
  Calls Tryz.prog 221 #[S a0, .pointer (some ⟨b_a1, 0, none⟩), .pointer (some ⟨b_a2, 0, none⟩)] w (Rt (RP w (.bool r))) := jw.walk f_a1 g_a1 k_a1 f_a2 g_a2 k_a2 (jw.eq a0 a1 a2 h0 H)
/-! impl.above -/
theorem jV.walk {w : World} {a0 : List Rec} {a1 : List UInt8} {a2 : Rec → Option Bool} {v_a0 : Value} (f_a0 : Rd 5 qc w v_a0 a0) {v_a2 : Value} (f_a2 : ∀ (x0 : Rec) (r : Bool), a2 x0 = some r → jb Tryz.prog w v_a2 [(.agg (qc x0).toArray)] (.bool r)) (g_a2 : v_a2.cells = #[v_a2]) {r : Bool} (H : jV.sh a0 a1 a2 = some r) :
  Calls Tryz.prog 191 #[v_a0, S a1, v_a2] w (Rt (RP w (.bool r))) := by
 unfold jV.sh at H
 refine qg Tryz.func191 rfl (Nat.le_of_ble_eq_true rfl) Tryz.ntmps191 rfl ?_
 refine wr <| Qg (.plain rfl) rfl (ltb rfl) rfl rfl <| fun b1 w2 z3 z4 e5 k6 => Qg (.plain rfl) rfl (ltb rfl) rfl rfl <| fun b7 w8 z9 z10 e11 k12 => lp rfl (xa (.bool false) rfl) <| nx <| wr <| lp rfl (xm (S a1) rfl) ?_
 obtain ⟨c13, H⟩ := qa H
 refine vE (.plain rfl) rfl (ltb rfl) rfl Tryz.call141 (vL.calls (w := w8) (a0 := a1) (od c13)) rfl <| fun v16 w14 e15 o17 => lp rfl (VA (vs := #[]) (us := #[.pointer (some ⟨b1, 0, none⟩), .pointer (some ⟨b7, 0, none⟩)]) rfl rfl) ?_
 obtain ⟨c22, H⟩ := qa H
 obtain ⟨z23, x24, H⟩ := bind_some H
 refine lc rfl rfl Tryz.call215 (vz.calls (w := w14) (a0 := (jo a1)) (a1 := (fun (x0_ : List UInt8) => bif decide (a0.length ≤ 1048576) then (Yt a0 a2 x0_) else none)) (Ow.rd o17) (fun x0_ r h => by obtain ⟨q0, h⟩ := qa h; exact jb.mk Tryz.call221 (by rfl) fun w20 k21 => jw.calls (w := w20) (a0 := x0_) (a1 := a0) (a2 := a2) (Rd.ext f_a0 (((e5.t e11).t e15).t k21)) (Rd.cs (Rd.ext f_a0 e5)) (Blk.ext (Blk.cs k6 (Rd.cs (Rd.ext f_a0 e5))) ((e11.t e15).t k21)) (fun x0 r h => jb.ext (f_a2 x0 r h) (((e5.t e11).t e15).t k21)) g_a2 (Blk.ext (Blk.cs k12 g_a2) (e15.t k21)) (od q0) h) rfl (od c22) x24) rfl <| fun w25 e26 => lp rfl (xa (.bool z23) rfl) <| nx <| qr <| qu ?_
 obtain rfl := si H
 exact vh rfl (((e5.t e11).t e15).t e26)
theorem jV.calls {w : World} {a0 : List Rec} {a1 : List UInt8} {a2 : Rec → Option Bool} {r : Bool} {v_a0 : Value} (f_a0 : Rd 5 qc w v_a0 a0) {v_a2 : Value} (f_a2 : ∀ (x0 : Rec) (r : Bool), a2 x0 = some r → jb Tryz.prog w v_a2 [(.agg (qc x0).toArray)] (.bool r)) (g_a2 : v_a2.cells = #[v_a2]) (h0 : a0.length ≤ 1048576) (h1 : a1.length ≤ 1048576) (H : (VP (Yt a0 a2) (jo a1)) = some r) :
  Calls Tryz.prog 191 #[v_a0, S a1, v_a2] w (Rt (RP w (.bool r))) := jV.walk f_a0 f_a2 g_a2 (jV.eq a0 a1 a2 h0 h1 H)
/-! impl.underOpaque$1 -/
theorem yz.walk {w : World} {a0 : Rec} {r : Bool} (H : yz.sh a0 = some r) :
  Calls Tryz.prog 192 #[.agg (qc a0).toArray] w (Rt (RP w (.bool r))) := by
 unfold yz.sh at H
 refine qg Tryz.func192 rfl (Nat.le_of_ble_eq_true rfl) Tryz.ntmps192 rfl ?_
 refine wr <| Qg (.plain rfl) rfl (ltb rfl) rfl rfl <| fun b1 w2 z3 z4 e5 k6 => lp rfl (xa (.bool false) rfl) <| nx <| wr <| lp rfl (qd Tryz.underlying52 rfl Tryz.sizeOf4 rfl rfl) <| lp rfl (qA Tryz.isAgg4 k6 rfl rfl) <| lp rfl (xa (.bool a0.opq) rfl) <| nx <| qr <| qu ?_
 obtain rfl := si H
 exact vh rfl e5
theorem yz.calls {w : World} {a0 : Rec} :
  Calls Tryz.prog 192 #[.agg (qc a0).toArray] w (Rt (RP w (.bool a0.opq))) := yz.walk (yz.eq a0)
/-! impl.underOpaque -/
theorem ju.calls {w : World} {a0 : List Rec} {a1 : List UInt8} {v_a0 : Value} (f_a0 : Rd 5 qc w v_a0 a0) (h0 : a0.length ≤ 1048576) (h1 : a1.length ≤ 1048576) :
  Calls Tryz.prog 131 #[v_a0, S a1] w (Rt (RP w (.bool (jg a0 a1)))) := by
 have H := ju.eq a0 a1 h0 h1
 generalize (jg a0 a1) = r at H ⊢
 unfold ju.sh at H
 refine qg Tryz.func131 rfl (Nat.le_of_ble_eq_true rfl) Tryz.ntmps131 rfl ?_
 refine wr <| lp rfl (xa (.bool false) rfl) <| nx <| wr <| lp rfl (xm v_a0 rfl) <| lp rfl (xm (S a1) rfl) ?_
 obtain ⟨c5, H⟩ := qa H
 obtain ⟨c6, H⟩ := qa H
 obtain ⟨z7, x8, H⟩ := bind_some H
 refine lc rfl rfl Tryz.call191 (jV.calls (w := w) (a0 := a0) (a1 := a1) (a2 := (fun (x0_ : Rec) => some x0_.opq)) f_a0 (fun x0_ r h => by have h := si h; subst h; exact jb.mk Tryz.call192 (by rfl) fun w3 k4 => yz.calls (w := w3) (a0 := x0_)) rfl (od c5) (od c6) x8) rfl <| fun w9 e10 => lp rfl (xa (.bool z7) rfl) <| nx <| qr <| qu ?_
 obtain rfl := si H
 exact vh rfl e10
/-! spec.l06Stops -/
theorem Qf.calls {w : World} {a0 : Rec} :
  Calls Tryz.prog 163 #[.agg (qc a0).toArray] w (Rt (RP w (.bool (vB a0)))) := by
 have H := Qf.eq a0
 generalize (vB a0) = r at H ⊢
 unfold Qf.sh at H
 refine qg Tryz.func163 rfl (Nat.le_of_ble_eq_true rfl) Tryz.ntmps163 rfl ?_
 refine wr <| Qg (.plain rfl) rfl (ltb rfl) rfl rfl <| fun b1 w2 z3 z4 e5 k6 => lp rfl (xa (.bool false) rfl) <| nx <| wr <| lp rfl (qd Tryz.underlying52 rfl Tryz.sizeOf3 rfl rfl) <| lp rfl (qA Tryz.isAgg3 k6 rfl rfl) <| lp rfl (Qo rfl rfl) <| lp rfl (xm (.bool (!decide (a0.kind = 3))) rfl) <| jN 3 [(7, 10)] 9 (.bool ((!decide (a0.kind = 3)) || a0.opq)) ?_ ?_
 ·rcases ql (!decide (a0.kind = 3)) with b6_ | b6_
  ·exact ls rfl rfl rfl (cb b6_) rfl <| ls rfl rfl rfl (cb b6_) rfl <| lp rfl (qy (b := true) (v := (.bool true)) (cb b6_) rfl) <| nx ⟨(ku3 kz rfl), (J9 b6_), er⟩
  ·exact lg rfl rfl rfl rfl (cb b6_) (qd Tryz.underlying52 rfl Tryz.sizeOf4 rfl rfl) <| lg rfl rfl rfl rfl (cb b6_) (qA Tryz.isAgg4 k6 rfl rfl) <| lp rfl (qy (b := false) (v := (.bool a0.opq)) (cb b6_) rfl) <| nx ⟨(ku3 kz rfl), (JY b6_), er⟩
 intro s12 w8 K9 h10 e11
 refine lp rfl (qp h10) <| nx <| qr <| qu ?_
 obtain rfl := si H
 exact vh rfl (e5.t e11)
/-! spec.l06Cuts -/
theorem yI.calls {w : World} {a0 : List Rec} {a1 : List UInt8} {v_a0 : Value} (f_a0 : Rd 5 qc w v_a0 a0) (h0 : a0.length ≤ 1048576) (h1 : a1.length ≤ 1048576) :
  Calls Tryz.prog 166 #[v_a0, S a1] w (Rt (RP w (.bool (yc a0 a1)))) := by
 obtain ⟨k, H⟩ := yI.eq a0 a1 h0 h1
 generalize (yc a0 a1) = r at H ⊢
 unfold yI.sh at H
 refine qg Tryz.func166 rfl (Nat.le_of_ble_eq_true rfl) Tryz.ntmps166 rfl ?_
 refine wr <| lp rfl (xa (.bool false) rfl) <| nx <| qi <| wr <| lp rfl (xm (S a1) rfl) ?_
 obtain ⟨c1, H⟩ := qa H
 refine lc rfl rfl Tryz.call154 (vg.calls (w := w) (a0 := a1) (od c1)) rfl <| fun w2 e3 => lp rfl (xa (S (qe a1)) rfl) <| nx ?_
 obtain ⟨z5, L6, C7⟩ := bind_some H
 clear H
 refine  vq (fun s0 sQ wQ => Kp [(4, 7), (9, 25)] s0 sQ ∧ Ext w2 wQ ∧ z5 = .inr ()) ?_ ?_
 ·refine qx <| vc (fun s0 kk sQ wQ => ∃ (x5_4 : List UInt8), Kp [(4, 7), (9, 25)] s0 sQ ∧ sQ 5 = S x5_4 ∧ Ext w2 wQ ∧ qn (yI.b1 a0) kk x5_4 = some z5) k ⟨(qe a1), kz, rfl, er, L6⟩ ?_
  rintro k12 s13 w14 ⟨x5_4, K15, h18, e16, L17⟩
  cases k12 with
  | zero => exact absurd L17 (by simp [qn])
  | succ k12 =>
   obtain ⟨t19, H, S20⟩ := qJ L17
   clear L17
   unfold yI.b1 at H
   refine qi <| wr <| lp rfl (qb h18) <| lp rfl (VN rfl rfl) <| nx ?_
   rcases qh H with ⟨q21, H⟩ | ⟨q21, H⟩
   ·refine qo (cb q21) <| qq <| qf <| qi <| qx <| wr <| lp rfl (xm v_a0 (K15 0 rfl)) <| lp rfl (qb h18) ?_
    obtain ⟨c22, H⟩ := qa H
    refine lc rfl rfl Tryz.call162 (yQ.calls (w := w14) (a0 := a0) (a1 := x5_4) (Rd.ext f_a0 (e3.t e16)) (od c22)) rfl <| fun w23 e24 => lp rfl (xa (.int .i64 (qB a0 x5_4)) rfl) <| nx <| wr <| lp rfl (xm (.int .i64 (qB a0 x5_4)) rfl) <| lp rfl (VS rfl rfl) <| lp rfl (xm (.bool (decide (0 ≤ (qB a0 x5_4)))) rfl) ?_
    obtain ⟨z26, x27, H⟩ := bind_some H
    refine ja 6 [(19, 25)] 24 (fun q => q = z26) ?_ ?_
    ·rcases qh x27 with ⟨b24_, H⟩ | ⟨b24_, H⟩
     ·refine lg rfl rfl rfl rfl (cb b24_) (xm v_a0 (K15 0 rfl)) <| lg rfl rfl rfl rfl (cb b24_) (xm (.int .i64 (qB a0 x5_4)) rfl) ?_
      obtain ⟨c26, H⟩ := qa H
      refine vk (tg rfl rfl rfl (cb b24_)) rfl (ltb rfl) rfl Tryz.underlying35 Tryz.sizeOf52 rfl (Rd.ext f_a0 ((e3.t e16).t e24)) rfl c26 <| fun p27 h28 => lg rfl rfl rfl rfl (cb b24_) (qZ Tryz.isAgg52 Tryz.sizeOf52 rfl rfl h28) <| yW (tg rfl rfl rfl (cb b24_)) rfl (ltb rfl) rfl Tryz.call163 (Qf.calls (w := w23) (a0 := gt a0 (qB a0 x5_4))) rfl <| fun w29 e30 => lp rfl (qy (b := true) (v := (.bool (vB (gt a0 (qB a0 x5_4))))) (cb b24_) rfl) ?_
      obtain rfl := si H
      exact nx ⟨(ku2 (ku4 kz rfl) rfl), ⟨_, rfl, rfl⟩, e30⟩
     ·refine ls rfl rfl rfl (cb b24_) rfl <| ls rfl rfl rfl (cb b24_) rfl <| ls rfl rfl rfl (cb b24_) rfl <| ls rfl rfl rfl (cb b24_) rfl <| ls rfl rfl rfl (cb b24_) rfl <| lp rfl (qy (b := false) (v := (.bool false)) (cb b24_) rfl) ?_
      obtain rfl := si H
      exact nx ⟨(ku2 (ku4 kz rfl) rfl), ⟨_, rfl, rfl⟩, er⟩
    intro s32 w28 z33 K29 hq h30 e31
    rw [hq] at h30; clear hq
    refine nx ?_
    rcases qh H with ⟨q34, H⟩ | ⟨q34, H⟩
    ·refine qo (h30.trans (cb q34)) <| wr <| lp rfl (xa (.bool true) rfl) <| nx <| qr <| vJ <| qw <| qw <| vJ <| qw <| qw <| qu ?_
     obtain rfl := si H
     obtain rfl := si S20
     have H := C7
     obtain rfl := si H
     exact vh rfl (((e3.t e16).t e24).t e31)
    ·refine qj (h30.trans (cb q34)) <| qq <| vj <| qf <| qG <| lp rfl (xm (S x5_4) ((K29 5 rfl).trans h18)) ?_
     obtain ⟨c35, H⟩ := qa H
     refine lc rfl rfl Tryz.call154 (vg.calls (w := w28) (a0 := x5_4) (od c35)) rfl <| fun w36 e37 => lp rfl (xa (S (qe x5_4)) rfl) <| nx ?_
     obtain rfl := si H
     exact ⟨_, Nat.lt_succ_self _, (qe x5_4), (ku3 (Kp.cut (ku1 (ku8 K15 rfl) rfl) K29 rfl) rfl), rfl, (((e16.t e24).t e31).t e37), S20⟩
   ·refine qj (cb q21) <| vt <| qN <| qN <| yu <| qf ?_
    obtain rfl := si H
    obtain rfl := si S20
    exact ⟨(ku2 K15 rfl), e16, rfl⟩
 ·rintro s9 w8 ⟨K10, e11, y38⟩
  rw [y38] at C7
  have H := C7
  replace H : _ = some _ := H
  refine qf <| wr <| lp rfl (xa (.bool false) rfl) <| nx <| qr <| qu ?_
  obtain rfl := si H
  exact vh rfl (e3.t e11)
/-! impl.stops -/
theorem QW.calls {w : World} {a0 : Rec} :
  Calls Tryz.prog 160 #[.agg (qc a0).toArray] w (Rt (RP w (.bool (vB a0)))) := by
 have H := QW.eq a0
 generalize (vB a0) = r at H ⊢
 unfold QW.sh at H
 refine qg Tryz.func160 rfl (Nat.le_of_ble_eq_true rfl) Tryz.ntmps160 rfl ?_
 refine wr <| Qg (.plain rfl) rfl (ltb rfl) rfl rfl <| fun b1 w2 z3 z4 e5 k6 => lp rfl (xa (.bool false) rfl) <| nx <| wr <| lp rfl (qd Tryz.underlying52 rfl Tryz.sizeOf3 rfl rfl) <| lp rfl (qA Tryz.isAgg3 k6 rfl rfl) <| lp rfl (Qo rfl rfl) <| lp rfl (xm (.bool (!decide (a0.kind = 3))) rfl) <| jN 3 [(7, 10)] 9 (.bool ((!decide (a0.kind = 3)) || a0.opq)) ?_ ?_
 ·rcases ql (!decide (a0.kind = 3)) with b6_ | b6_
  ·exact ls rfl rfl rfl (cb b6_) rfl <| ls rfl rfl rfl (cb b6_) rfl <| lp rfl (qy (b := true) (v := (.bool true)) (cb b6_) rfl) <| nx ⟨(ku3 kz rfl), (J9 b6_), er⟩
  ·exact lg rfl rfl rfl rfl (cb b6_) (qd Tryz.underlying52 rfl Tryz.sizeOf4 rfl rfl) <| lg rfl rfl rfl rfl (cb b6_) (qA Tryz.isAgg4 k6 rfl rfl) <| lp rfl (qy (b := false) (v := (.bool a0.opq)) (cb b6_) rfl) <| nx ⟨(ku3 kz rfl), (JY b6_), er⟩
 intro s12 w8 K9 h10 e11
 refine lp rfl (qp h10) <| nx <| qr <| qu ?_
 obtain rfl := si H
 exact vh rfl (e5.t e11)
/-! impl.cuts -/
theorem Vz.calls {w : World} {a0 : List Rec} {a1 : List UInt8} {v_a0 : Value} (f_a0 : Rd 5 qc w v_a0 a0) (h0 : a0.length ≤ 1048576) (h1 : a1.length ≤ 1048576) :
  Calls Tryz.prog 165 #[v_a0, S a1] w (Rt (RP w (.bool (yc a0 a1)))) := by
 have H := Vz.eq a0 a1 h0 h1
 generalize (yc a0 a1) = r at H ⊢
 unfold Vz.sh at H
 refine qg Tryz.func165 rfl (Nat.le_of_ble_eq_true rfl) Tryz.ntmps165 rfl ?_
 refine wr <| lp rfl (xa (.bool false) rfl) <| nx <| wr <| lp rfl (xm v_a0 rfl) <| lp rfl (xm (S a1) rfl) ?_
 obtain ⟨c5, H⟩ := qa H
 obtain ⟨c6, H⟩ := qa H
 obtain ⟨z7, x8, H⟩ := bind_some H
 refine lc rfl rfl Tryz.call191 (jV.calls (w := w) (a0 := a0) (a1 := a1) (a2 := (fun (x0_ : Rec) => some (vB x0_))) f_a0 (fun x0_ r h => by have h := si h; subst h; exact jb.mk Tryz.call160 (by rfl) fun w3 k4 => QW.calls (w := w3) (a0 := x0_)) rfl (od c5) (od c6) x8) rfl <| fun w9 e10 => lp rfl (xa (.bool z7) rfl) <| nx <| qr <| qu ?_
 obtain rfl := si H
 exact vh rfl e10
/-! spec.l05Stack -/
theorem ye.calls {w : World} {a0 : List (List Rec)} {v_a0 : Value} (f_a0 : Rd2 5 qc w v_a0 a0) (h0 : a0.length ≤ 1048576) (h1 : ∀ l ∈ a0, l.length ≤ 1048576) (h2 : ∀ l ∈ a0, ∀ x ∈ l, x.path.length ≤ 1048576) :
  Calls Tryz.prog 60 #[v_a0] w (Rt (RP w (.bool (vi a0)))) := by
 obtain ⟨k, H⟩ := ye.eq a0 h0 h1 h2
 generalize (vi a0) = r at H ⊢
 unfold ye.sh at H
 refine qg Tryz.func60 rfl (Nat.le_of_ble_eq_true rfl) Tryz.ntmps60 rfl ?_
 refine wr <| lp rfl (xa (.bool false) rfl) <| nx <| qi <| wr <| lp rfl (xm v_a0 rfl) <| lp rfl (yK Tryz.underlying23 rfl f_a0) <| lp rfl (Qp rfl rfl) <| nx ?_
 rcases qh H with ⟨q1, H⟩ | ⟨q1, H⟩
 ·refine qo (cb q1) <| wr <| lp rfl (xa (.bool false) rfl) <| nx <| qr <| qw <| qu ?_
  obtain rfl := si H
  exact vh rfl er
 ·refine qj (cb q1) <| qq <| qf <| qi <| wr <| lp rfl (xa (.int .i64 0) rfl) <| nx ?_
  obtain ⟨z3, L4, C5⟩ := bind_some H
  clear H
  refine  vq (fun s0 sQ wQ => Kp [(2, 4), (7, 19)] s0 sQ ∧ Ext w wQ ∧ z3 = .inr ()) ?_ ?_
  ·refine qx <| vc (fun s0 kk sQ wQ => ∃ (x3_2 : Int), Kp [(2, 4), (7, 19)] s0 sQ ∧ sQ 3 = .int .i64 x3_2 ∧ Ext w wQ ∧ qn (ye.b1 a0) kk x3_2 = some z3) k ⟨0, kz, rfl, er, L4⟩ ?_
   rintro k10 s11 w12 ⟨x3_2, K13, h16, e14, L15⟩
   cases k10 with
   | zero => exact absurd L15 (by simp [qn])
   | succ k10 =>
    obtain ⟨t17, H, S18⟩ := qJ L15
    clear L15
    unfold ye.b1 at H
    refine qi <| wr <| lp rfl (qb h16) <| lp rfl (xm v_a0 (K13 0 rfl)) <| lp rfl (yK Tryz.underlying23 rfl (Rd2.ext f_a0 e14)) <| lp rfl (vW rfl rfl) <| nx ?_
    rcases qh H with ⟨q19, H⟩ | ⟨q19, H⟩
    ·refine qo (cb q19) <| qq <| qf <| qi <| qx <| wr <| lp rfl (xm v_a0 (K13 0 rfl)) <| lp rfl (qb h16) ?_
     obtain ⟨c20, H⟩ := qa H
     refine Vt (.plain rfl) rfl (ltb rfl) rfl Tryz.underlying23 Tryz.sizeOf35 rfl (Rd2.ext f_a0 e14) rfl c20 <| fun p21 v23 h22 h24 => lp rfl (vy Tryz.isAgg35 rfl h22 rfl) ?_
     obtain ⟨c25, H⟩ := qa H
     obtain ⟨c26, H⟩ := qa H
     refine lc rfl rfl Tryz.call74 (QX.calls (w := w12) (a0 := gt a0 x3_2) h24 (od c25) (od c26)) rfl <| fun w27 e28 => lp rfl (jm rfl) <| nx ?_
     rcases qh H with ⟨q29, H⟩ | ⟨q29, H⟩
     ·refine qo (cb q29) <| wr <| lp rfl (xa (.bool false) rfl) <| nx <| qr <| vJ <| qw <| qw <| vJ <| qw <| qw <| qu ?_
      obtain rfl := si H
      obtain rfl := si S18
      have H := C5
      obtain rfl := si H
      exact vh rfl (e14.t e28)
     ·refine qj (cb q29) <| qq <| vj <| qf <| qG <| lp rfl (qb h16) <| lp rfl (qU rfl rfl) <| lp rfl (xa (.int .i64 (IntKind.wrap .i64 (x3_2 + 1))) rfl) <| nx ?_
      obtain rfl := si H
      exact ⟨_, Nat.lt_succ_self _, IntKind.wrap .i64 (x3_2 + 1), (ku1 (ku4 (ku8 K13 rfl) rfl) rfl), rfl, (e14.t e28), S18⟩
    ·refine qj (cb q19) <| vt <| qN <| qN <| yu <| qf ?_
     obtain rfl := si H
     obtain rfl := si S18
     exact ⟨(ku4 K13 rfl), e14, rfl⟩
  ·rintro s7 w6 ⟨K8, e9, y30⟩
   rw [y30] at C5
   have H := C5
   replace H : _ = some _ := H
   refine qf <| wr <| lp rfl (xa (.bool true) rfl) <| nx <| qr <| qu ?_
   obtain rfl := si H
   exact vh rfl e9
/-! impl.all(()impl.Record)$1 -/
theorem jx.walk {w : World} {a0 : List Rec} {a1 : List Rec → Option Bool} {v_a0 : Value} (f_a0 : Rd 5 qc w v_a0 a0) {v_a1 : Value} (f_a1 : ∀ (x0 : List Rec) (r : Bool), a1 x0 = some r → ∀ (u0 : Value) (wR : World), Ext w wR → Rd 5 qc wR u0 x0 → jb Tryz.prog wR v_a1 [u0] (.bool r)) (g_a1 : v_a1.cells = #[v_a1]) {b_a1 : Nat} (k_a1 : Blk w b_a1 #[v_a1] 89) {r : Bool} (H : jx.sh a0 a1 = some r) :
  Calls Tryz.prog 125 #[v_a0, .pointer (some ⟨b_a1, 0, none⟩)] w (Rt (RP w (.bool r))) := by
 unfold jx.sh at H
 refine qg Tryz.func125 rfl (Nat.le_of_ble_eq_true rfl) Tryz.ntmps125 rfl ?_
 refine wr <| lp rfl (xa (.bool false) rfl) <| nx <| wr <| lp rfl (qA Tryz.isAgg89 k_a1 rfl rfl) <| lp rfl (xm v_a0 rfl) ?_
 obtain ⟨z1, x2, H⟩ := bind_some H
 refine VG (.plain rfl) rfl (ltb rfl) rfl rfl (f_a1 _ _ x2 v_a0 w er f_a0) rfl <| fun w3 e4 => lp rfl (jm rfl) <| lp rfl (xa (.bool (!z1)) rfl) <| nx <| qr <| qu ?_
 obtain rfl := si H
 exact vh rfl e4
theorem jx.calls {w : World} {a0 : List Rec} {a1 : List Rec → Option Bool} {r : Bool} {v_a0 : Value} (f_a0 : Rd 5 qc w v_a0 a0) {v_a1 : Value} (f_a1 : ∀ (x0 : List Rec) (r : Bool), a1 x0 = some r → ∀ (u0 : Value) (wR : World), Ext w wR → Rd 5 qc wR u0 x0 → jb Tryz.prog wR v_a1 [u0] (.bool r)) (g_a1 : v_a1.cells = #[v_a1]) {b_a1 : Nat} (k_a1 : Blk w b_a1 #[v_a1] 89) (H : ((a1 a0).map (!·)) = some r) :
  Calls Tryz.prog 125 #[v_a0, .pointer (some ⟨b_a1, 0, none⟩)] w (Rt (RP w (.bool r))) := jx.walk f_a0 f_a1 g_a1 k_a1 (jx.eq a0 a1 H)
/-! slices.IndexFunc(()()impl.Record,()impl.Record) -/
theorem qS.walk {k : Nat} {w : World} {a0 : List (List Rec)} {a1 : List Rec → Option Bool} {v_a0 : Value} (f_a0 : Rd2 5 qc w v_a0 a0) {v_a1 : Value} (f_a1 : ∀ (x0 : List Rec) (r : Bool), a1 x0 = some r → ∀ (u0 : Value) (wR : World), Ext w wR → Rd 5 qc wR u0 x0 → jb Tryz.prog wR v_a1 [u0] (.bool r)) (g_a1 : v_a1.cells = #[v_a1]) {r : Int} (H : qS.sh k a0 a1 = some r) :
  Calls Tryz.prog 184 #[v_a0, v_a1] w (Rt (RP w (.int .i64 r))) := by
 unfold qS.sh at H
 refine qg Tryz.func184 rfl (Nat.le_of_ble_eq_true rfl) Tryz.ntmps184 rfl ?_
 refine wr <| lp rfl (xa (.int .i64 0) rfl) <| nx <| qi <| wr <| lp rfl (xm v_a0 rfl) <| lp rfl (yK Tryz.underlying23 rfl f_a0) <| lp rfl (xm (.int .i64 0) rfl) <| nx ?_
 obtain ⟨z2, L3, C4⟩ := bind_some H
 clear H
 refine  vq (fun s0 sQ wQ => Kp [(4, 6), (8, 19)] s0 sQ ∧ Ext w wQ ∧ z2 = .inr ()) ?_ ?_
 ·refine qx <| vc (fun s0 kk sQ wQ => ∃ (x8_1 : Int), Kp [(4, 6), (8, 19)] s0 sQ ∧ sQ 8 = .int .i64 x8_1 ∧ Ext w wQ ∧ qn (qS.b1 a0 a1) kk x8_1 = some z2) k ⟨0, kz, rfl, er, L3⟩ ?_
  rintro k9 s10 w11 ⟨x8_1, K12, h15, e13, L14⟩
  cases k9 with
  | zero => exact absurd L14 (by simp [qn])
  | succ k9 =>
   obtain ⟨t16, H, S17⟩ := qJ L14
   clear L14
   unfold qS.b1 at H
   refine wr <| lp rfl (vW h15 (K12 7 rfl)) <| nx <| qi ?_
   rcases qh H with ⟨q18, H⟩ | ⟨q18, H⟩
   ·refine qo (cb q18) <| qq <| qf <| qi <| qx <| wr <| lp rfl (qb h15) <| lp rfl (xa (.int .i64 x8_1) rfl) <| nx <| wr <| lp rfl (xm v_a1 (K12 1 rfl)) <| lp rfl (xm v_a0 (K12 0 rfl)) <| lp rfl (xm (.int .i64 x8_1) rfl) ?_
    obtain ⟨c19, H⟩ := qa H
    refine Vt (.plain rfl) rfl (ltb rfl) rfl Tryz.underlying23 Tryz.sizeOf35 rfl (Rd2.ext f_a0 e13) rfl c19 <| fun p20 v22 h21 h23 => lp rfl (vy Tryz.isAgg35 rfl h21 rfl) ?_
    obtain ⟨z24, x25, H⟩ := bind_some H
    refine VG (.plain rfl) rfl (ltb rfl) rfl rfl (f_a1 _ _ x25 v22 w11 e13 h23) rfl <| fun w26 e27 => nx ?_
    rcases qh H with ⟨q28, H⟩ | ⟨q28, H⟩
    ·refine qo (cb q28) <| wr <| lp rfl (xm (.int .i64 x8_1) rfl) <| lp rfl (xa (.int .i64 x8_1) rfl) <| nx <| qr <| vJ <| qw <| qw <| vJ <| qw <| qw <| qu ?_
     obtain rfl := si H
     obtain rfl := si S17
     have H := C4
     obtain rfl := si H
     exact vh rfl (e13.t e27)
    ·refine qj (cb q28) <| qq <| vj <| qf <| qG <| lp rfl (qU h15 rfl) <| lp rfl (xm (.int .i64 (IntKind.wrap .i64 (x8_1 + 1))) rfl) <| nx ?_
     obtain rfl := si H
     exact ⟨_, Nat.lt_succ_self _, IntKind.wrap .i64 (x8_1 + 1), (ku3 (ku8 K12 rfl) rfl), rfl, (e13.t e27), S17⟩
   ·refine qj (cb q18) <| vt <| qN <| qN <| yu <| qf ?_
    obtain rfl := si H
    obtain rfl := si S17
    exact ⟨(ku1 K12 rfl), e13, rfl⟩
 ·rintro s6 w5 ⟨K7, e8, y29⟩
  rw [y29] at C4
  have H := C4
  replace H : _ = some _ := H
  refine qf <| wr <| lp rfl (xa (.int .i64 (-1)) rfl) <| nx <| qr <| qu ?_
  obtain rfl := si H
  exact vh rfl e8
theorem qS.calls {w : World} {a0 : List (List Rec)} {a1 : List Rec → Option Bool} {r : Int} {v_a0 : Value} (f_a0 : Rd2 5 qc w v_a0 a0) {v_a1 : Value} (f_a1 : ∀ (x0 : List Rec) (r : Bool), a1 x0 = some r → ∀ (u0 : Value) (wR : World), Ext w wR → Rd 5 qc wR u0 x0 → jb Tryz.prog wR v_a1 [u0] (.bool r)) (g_a1 : v_a1.cells = #[v_a1]) (h0 : a0.length ≤ 4611686018427387904) (H : (VV a1 a0) = some r) :
  Calls Tryz.prog 184 #[v_a0, v_a1] w (Rt (RP w (.int .i64 r))) := by
 obtain ⟨k, h⟩ := qS.eq a0 a1 h0 H
 exact qS.walk f_a0 f_a1 g_a1 h
/-! slices.ContainsFunc(()()impl.Record,()impl.Record) -/
theorem vH.walk {w : World} {a0 : List (List Rec)} {a1 : List Rec → Option Bool} {v_a0 : Value} (f_a0 : Rd2 5 qc w v_a0 a0) {v_a1 : Value} (f_a1 : ∀ (x0 : List Rec) (r : Bool), a1 x0 = some r → ∀ (u0 : Value) (wR : World), Ext w wR → Rd 5 qc wR u0 x0 → jb Tryz.prog wR v_a1 [u0] (.bool r)) (g_a1 : v_a1.cells = #[v_a1]) {r : Bool} (H : vH.sh a0 a1 = some r) :
  Calls Tryz.prog 124 #[v_a0, v_a1] w (Rt (RP w (.bool r))) := by
 unfold vH.sh at H
 refine qg Tryz.func124 rfl (Nat.le_of_ble_eq_true rfl) Tryz.ntmps124 rfl ?_
 refine wr <| lp rfl (xa (.bool false) rfl) <| nx <| wr <| lp rfl (xm v_a0 rfl) <| lp rfl (xm v_a1 rfl) ?_
 obtain ⟨c1, H⟩ := qa H
 obtain ⟨z2, x3, H⟩ := bind_some H
 refine lc rfl rfl Tryz.call184 (qS.calls (w := w) (a0 := a0) (a1 := a1) f_a0 (fun x0 r h u0 wR kR q0 => f_a1 x0 r h u0 wR (Ext.trans er kR) q0) g_a1 (od c1) x3) rfl <| fun w4 e5 => lp rfl (VS rfl rfl) <| lp rfl (xa (.bool (decide (0 ≤ z2))) rfl) <| nx <| qr <| qu ?_
 obtain rfl := si H
 exact vh rfl e5
theorem vH.calls {w : World} {a0 : List (List Rec)} {a1 : List Rec → Option Bool} {r : Bool} {v_a0 : Value} (f_a0 : Rd2 5 qc w v_a0 a0) {v_a1 : Value} (f_a1 : ∀ (x0 : List Rec) (r : Bool), a1 x0 = some r → ∀ (u0 : Value) (wR : World), Ext w wR → Rd 5 qc wR u0 x0 → jb Tryz.prog wR v_a1 [u0] (.bool r)) (g_a1 : v_a1.cells = #[v_a1]) (h0 : a0.length ≤ 4611686018427387904) (H : (VP a1 a0) = some r) :
  Calls Tryz.prog 124 #[v_a0, v_a1] w (Rt (RP w (.bool r))) := vH.walk f_a0 f_a1 g_a1 (vH.eq a0 a1 h0 H)
/-! impl.all(()impl.Record) -/
theorem Qe.walk {w : World} {a0 : List (List Rec)} {a1 : List Rec → Option Bool} {v_a0 : Value} (f_a0 : Rd2 5 qc w v_a0 a0) {v_a1 : Value} (f_a1 : ∀ (x0 : List Rec) (r : Bool), a1 x0 = some r → ∀ (u0 : Value) (wR : World), Ext w wR → Rd 5 qc wR u0 x0 → jb Tryz.prog wR v_a1 [u0] (.bool r)) (g_a1 : v_a1.cells = #[v_a1]) {r : Bool} (H : Qe.sh a0 a1 = some r) :
  Calls Tryz.prog 67 #[v_a0, v_a1] w (Rt (RP w (.bool r))) := by
 unfold Qe.sh at H
 refine qg Tryz.func67 rfl (Nat.le_of_ble_eq_true rfl) Tryz.ntmps67 rfl ?_
 refine wr <| Qg (.plain rfl) rfl (ltb rfl) rfl rfl <| fun b1 w2 z3 z4 e5 k6 => lp rfl (xa (.bool false) rfl) <| nx <| wr <| lp rfl (xm v_a0 rfl) <| lp rfl (VA (vs := #[]) (us := #[.pointer (some ⟨b1, 0, none⟩)]) rfl rfl) ?_
 obtain ⟨c11, H⟩ := qa H
 obtain ⟨z12, x13, H⟩ := bind_some H
 refine lc rfl rfl Tryz.call124 (vH.calls (w := w2) (a0 := a0) (a1 := (fun (x0_ : List Rec) => ((a1 x0_).map (!·)))) (Rd2.ext f_a0 e5) (fun x0_ r h ux0_ w7 k8 hx0_ => by exact jb.mk Tryz.call125 (by rfl) fun w9 k10 => jx.calls (w := w9) (a0 := x0_) (a1 := a1) (Rd.ext hx0_ k10) (fun x0 r h u0 wR kR q0 => f_a1 x0 r h u0 wR (((e5.t k8).t k10).t kR) q0) g_a1 (Blk.ext (Blk.cs k6 g_a1) (Ext.trans k8 k10)) h) rfl (od c11) x13) rfl <| fun w14 e15 => lp rfl (jm rfl) <| lp rfl (xa (.bool (!z12)) rfl) <| nx <| qr <| qu ?_
 obtain rfl := si H
 exact vh rfl (e5.t e15)
theorem Qe.calls {w : World} {a0 : List (List Rec)} {a1 : List Rec → Option Bool} {r : Bool} {v_a0 : Value} (f_a0 : Rd2 5 qc w v_a0 a0) {v_a1 : Value} (f_a1 : ∀ (x0 : List Rec) (r : Bool), a1 x0 = some r → ∀ (u0 : Value) (wR : World), Ext w wR → Rd 5 qc wR u0 x0 → jb Tryz.prog wR v_a1 [u0] (.bool r)) (g_a1 : v_a1.cells = #[v_a1]) (h0 : a0.length ≤ 4611686018427387904) (H : (GY a1 a0) = some r) :
  Calls Tryz.prog 67 #[v_a0, v_a1] w (Rt (RP w (.bool r))) := Qe.walk f_a0 f_a1 g_a1 (Qe.eq a0 a1 h0 H)
/-! impl.StackOK -/
theorem j6.calls {w : World} {a0 : List (List Rec)} (gv : GV 0 w) {v_a0 : Value} (f_a0 : Rd2 5 qc w v_a0 a0) (h0 : a0.length ≤ 1048576) (h1 : ∀ l ∈ a0, l.length ≤ 1048576) (h2 : ∀ l ∈ a0, ∀ x ∈ l, x.path.length ≤ 1048576) :
  Calls Tryz.prog 16 #[v_a0] w (Rt (RP w (.bool (vi a0)))) := by
 have H := j6.eq a0 h0 h1 h2
 generalize (vi a0) = r at H ⊢
 unfold j6.sh at H
 refine qg Tryz.func16 rfl (Nat.le_of_ble_eq_true rfl) Tryz.ntmps16 rfl ?_
 refine wr <| lp rfl (xa (.bool false) rfl) <| nx <| wr <| lp rfl (xm v_a0 rfl) <| lp rfl (yK Tryz.underlying23 rfl f_a0) <| lp rfl (Jv rfl rfl) <| lp rfl (xm (.bool (decide ((a0.length : Int) ≤ 5))) rfl) ?_
 obtain ⟨z2, x3, H⟩ := bind_some H
 refine ja 3 [(7, 10)] 9 (fun q => q = z2) ?_ ?_
 ·rcases qh x3 with ⟨b0_, H⟩ | ⟨b0_, H⟩
  ·refine lg rfl rfl rfl rfl (cb b0_) (xm v_a0 rfl) ?_
   obtain ⟨c6, H⟩ := qa H
   obtain ⟨z7, x8, H⟩ := bind_some H
   refine yW (tg rfl rfl rfl (cb b0_)) rfl (ltb rfl) rfl Tryz.call67 (Qe.calls (w := w) (a0 := a0) (a1 := (fun (x0_ : List Rec) => bif decide (x0_.length ≤ 1048576) then (bif decide (∀ x ∈ x0_, x.path.length ≤ 1048576) then (some (decide ((vU x0_).2 = 0))) else none) else none)) f_a0 (fun x0_ r h ux0_ w2 k3 hx0_ => by obtain ⟨q0, h⟩ := qa h; obtain ⟨q1, h⟩ := qa h; have h := si h; subst h; exact jb.mk Tryz.call68 (by rfl) fun w4 k5 => Qs.calls (w := w4) (a0 := x0_) (GV.ext gv (Ext.trans k3 k5)) (Rd.ext hx0_ k5) (od q0) (od q1)) rfl (od c6) x8) rfl <| fun w9 e10 => lp rfl (qy (b := true) (v := (.bool z7)) (cb b0_) rfl) ?_
   obtain rfl := si H
   exact nx ⟨(ku3 kz rfl), ⟨_, rfl, rfl⟩, e10⟩
  ·refine ls rfl rfl rfl (cb b0_) rfl <| ls rfl rfl rfl (cb b0_) rfl <| lp rfl (qy (b := false) (v := (.bool false)) (cb b0_) rfl) ?_
   obtain rfl := si H
   exact nx ⟨(ku3 kz rfl), ⟨_, rfl, rfl⟩, er⟩
 intro s11 w4 z12 K5 hq h6 e7
 rw [hq] at h6; clear hq
 refine lp rfl (qp h6) <| nx <| qr <| qu ?_
 obtain rfl := si H
 exact vh rfl e7
/-! spec.l03Canon -/
theorem yt.calls {w : World} {a0 : List Rec} {v_a0 : Value} (f_a0 : Rd 5 qc w v_a0 a0) (h0 : a0.length ≤ 1048576) (h1 : ∀ x ∈ a0, qE x.path = true) :
  Calls Tryz.prog 76 #[v_a0] w (Rt (RO 52 5 qc w (jY a0))) := by
 obtain ⟨k, H⟩ := yt.eq a0 h0 h1
 generalize (jY a0) = r at H ⊢
 unfold yt.sh at H
 refine qg Tryz.func76 rfl (Nat.le_of_ble_eq_true rfl) Tryz.ntmps76 rfl ?_
 refine wr <| lp rfl (xa (.slice none 0 0) rfl) <| nx <| wr <| vC (.plain rfl) rfl (ltb rfl) rfl Tryz.underlying35 Tryz.sizeOf52 Tryz.zeroValue52 rfl rfl rfl (vs := []) rfl (qO rfl) <| fun b1 w2 z3 z4 e5 k6 => lp rfl (xa (.slice (some ⟨b1, 0, none⟩) 0 0) rfl) <| nx <| qi <| wr <| lp rfl (xa (.int .i64 0) rfl) <| nx ?_
 obtain ⟨z10, L11, C12⟩ := bind_some H
 clear H
 refine  vq (fun s0 sQ wQ => ∃ (x3_13 : List Rec) (v14 : Value), Kp [(3, 6), (7, 44)] s0 sQ ∧ sQ 3 = v14 ∧ Ow 52 5 qc w2.heap.size wQ v14 x3_13 ∧ Ext w2 wQ ∧ z10 = .inr x3_13) ?_ ?_
 ·refine qx <| vc (fun s0 kk sQ wQ => ∃ (x3_7 : List Rec) (v8 : Value) (x4_9 : Int), Kp [(3, 6), (7, 44)] s0 sQ ∧ sQ 3 = v8 ∧ Ow 52 5 qc w2.heap.size wQ v8 x3_7 ∧ sQ 4 = .int .i64 x4_9 ∧ Ext w2 wQ ∧ qn (yt.b1 a0) kk (x3_7, x4_9) = some z10) k ⟨([] : List Rec), (.slice (some ⟨b1, 0, none⟩) 0 0), 0, kz, rfl, (Ow.zero), rfl, er, L11⟩ ?_
  rintro k19 s20 w21 ⟨x3_7, v8, x4_9, K22, h25, h26, h27, e23, L24⟩
  cases k19 with
  | zero => exact absurd L24 (by simp [qn])
  | succ k19 =>
   obtain ⟨t28, H, S29⟩ := qJ L24
   clear L24
   unfold yt.b1 at H
   refine qi <| wr <| lp rfl (qb h27) <| lp rfl (xm v_a0 (K22 0 rfl)) <| lp rfl (va Tryz.underlying35 rfl (Rd.ext f_a0 (e5.t e23))) <| lp rfl (vW rfl rfl) <| nx ?_
   rcases qh H with ⟨q30, H⟩ | ⟨q30, H⟩
   ·refine qo (cb q30) <| qq <| qf <| qi <| qx <| wr <| lp rfl (xm v_a0 (K22 0 rfl)) <| lp rfl (qb h27) ?_
    obtain ⟨c31, H⟩ := qa H
    refine vk (.plain rfl) rfl (ltb rfl) rfl Tryz.underlying35 Tryz.sizeOf52 rfl (Rd.ext f_a0 (e5.t e23)) rfl c31 <| fun p32 h33 => lp rfl (qZ Tryz.isAgg52 Tryz.sizeOf52 rfl rfl h33) <| Vf (.plain rfl) rfl (ltb rfl) rfl Tryz.zeroValue52 <| fun b34 w35 z36 z37 e38 k39 => jK (.plain rfl) rfl rfl Tryz.sizeOf52 rfl rfl rfl rfl rfl k39 <| fun w40 h41 k42 => nx <| qi <| wr <| lp rfl (xm v_a0 (K22 0 rfl)) <| lp rfl (qd Tryz.underlying52 rfl Tryz.sizeOf9 rfl rfl) <| lp rfl (qA Tryz.isAgg9 k42 rfl rfl) ?_
    obtain ⟨c43, H⟩ := qa H
    obtain ⟨c44, H⟩ := qa H
    refine lc rfl rfl Tryz.call134 (yw.calls (w := w40) (a0 := a0) (a1 := (gt a0 x4_9).path) (Rd.ext f_a0 ((e5.t e23).t (Below.trans e38 (Wr.below h41 (Nat.le_of_eq z36))))) (od c43) (od c44)) rfl <| fun w45 e46 => lp rfl (jm rfl) <| nx ?_
    rcases qh H with ⟨q47, H⟩ | ⟨q47, H⟩
    ·refine qo (cb q47) <| wr <| lp rfl (qd Tryz.underlying52 rfl Tryz.sizeOf4 rfl rfl) <| lp rfl (qA Tryz.isAgg4 (Blk.ext k42 e46) rfl rfl) <| lp rfl (xm (.bool ((gt a0 x4_9).opq)) rfl) ?_
     obtain ⟨z49, x50, H⟩ := bind_some H
     refine ja 6 [(25, 31)] 30 (fun q => q = z49) ?_ ?_
     ·rcases qh x50 with ⟨b47_, H⟩ | ⟨b47_, H⟩
      ·refine lg rfl rfl rfl rfl (cb b47_) (qd Tryz.underlying52 rfl Tryz.sizeOf9 rfl rfl) <| lg rfl rfl rfl rfl (cb b47_) (qA Tryz.isAgg9 (Blk.ext k42 e46) rfl rfl) ?_
       obtain ⟨c49, H⟩ := qa H
       refine vE (tg rfl rfl rfl (cb b47_)) rfl (ltb rfl) rfl Tryz.call135 (yE.calls (w := w45) (a0 := (gt a0 x4_9).path) (a1 := 47) (od c49)) rfl <| fun v52 w50 e51 o53 => lg rfl rfl rfl rfl (cb b47_) (va Tryz.underlying44 rfl (Ow.rd o53)) <| lg rfl rfl rfl rfl (cb b47_) (vW rfl rfl) <| lp rfl (qy (b := true) (v := (.bool (decide (((cut 47 ((gt a0 x4_9).path)).length : Int) < 4)))) (cb b47_) rfl) ?_
       obtain rfl := si H
       exact nx ⟨(ku2 (ku4 kz rfl) rfl), ⟨_, rfl, rfl⟩, e51⟩
      ·refine ls rfl rfl rfl (cb b47_) rfl <| ls rfl rfl rfl (cb b47_) rfl <| ls rfl rfl rfl (cb b47_) rfl <| ls rfl rfl rfl (cb b47_) rfl <| ls rfl rfl rfl (cb b47_) rfl <| lp rfl (qy (b := false) (v := (.bool false)) (cb b47_) rfl) ?_
       obtain rfl := si H
       exact nx ⟨(ku2 (ku4 kz rfl) rfl), ⟨_, rfl, rfl⟩, er⟩
     intro s55 w51 z56 K52 hq h53 e54
     rw [hq] at h53; clear hq
     refine lp rfl (qd Tryz.underlying52 rfl Tryz.sizeOf4 rfl (K52 5 rfl)) <| VI (.plain rfl) rfl rfl Tryz.sizeOf4 rfl h53 rfl (Blk.ext k42 (e46.t e54)) (ltb rfl) <| fun w57 h58 k59 => nx <| wr <| lp rfl (xm v8 ((K52 3 rfl).trans h25)) <| lp rfl (qZ Tryz.isAgg52 Tryz.sizeOf52 rfl (K52 5 rfl) (Blk.at0 k59)) <| vC (.plain rfl) rfl (ltb rfl) rfl Tryz.underlying35 Tryz.sizeOf52 Tryz.zeroValue52 rfl rfl rfl (vs := [(.agg #[(.int .i64 ((gt a0 x4_9).kind)), (S ((gt a0 x4_9).path)), (S ((gt a0 x4_9).body)), (.int .i64 ((gt a0 x4_9).mode)), (.bool z49)])]) rfl (qO rfl) <| fun b60 w61 z62 z63 e64 k65 => ?_
     obtain ⟨c66, H⟩ := qa H
     refine vP (enc := qc) (.plain rfl) rfl (ltb rfl) rfl El.t35 rfl rfl (Ow.ext h26 (Ext.trans (Below.trans (Ext.trans (Ext.trans (Below.trans e38 (Wr.below h41 (Nat.le_of_eq z36))) e46) e54) (Wr.below h58 (Nat.le_of_eq z36))) e64)) (Ow.rd (Ow.new (xs := [(⟨(gt a0 x4_9).kind, (gt a0 x4_9).path, (gt a0 x4_9).body, (gt a0 x4_9).mode, z49⟩ : Rec)]) (sz := 5) (enc := qc) (base := w57.heap.size) k65 (Nat.le_of_eq z62) rfl (fun _ _ => by rfl) (Nat.le_of_ble_eq_true rfl))) (jJ _) (od c66) (((e23.t (Below.trans (Ext.trans (Ext.trans (Below.trans e38 (Wr.below h41 (Nat.le_of_eq z36))) e46) e54) (Wr.below h58 (Nat.le_of_eq z36)))).t e64)).size <| fun v67 w68 o69 z70 g71 => lp rfl (xa v67 rfl) <| nx <| vt <| qN <| yu <| qf <| qG <| lp rfl (xm (.int .i64 x4_9) ((K52 4 rfl).trans h27)) <| lp rfl (qU rfl rfl) <| lp rfl (xa (.int .i64 (IntKind.wrap .i64 (x4_9 + 1))) rfl) <| nx ?_
     obtain rfl := si H
     exact ⟨_, Nat.lt_succ_self _, x3_7 ++ ([(⟨(gt a0 x4_9).kind, (gt a0 x4_9).path, (gt a0 x4_9).body, (gt a0 x4_9).mode, z49⟩ : Rec)] : List Rec), v67, IntKind.wrap .i64 (x4_9 + 1), (ku1 (ku8 (Kp.cut (ku1 (ku8 (ku8 K22 rfl) rfl) rfl) K52 rfl) rfl) rfl), rfl, o69, rfl, (g71 _ ((e23.t (Below.trans (Ext.trans (Ext.trans (Below.trans e38 (Wr.below h41 (Nat.le_of_eq z36))) e46) e54) (Wr.below h58 (Nat.le_of_eq z36)))).t e64)), S29⟩
    ·refine qj (cb q47) <| qq <| qf <| wr <| lp rfl (qd Tryz.underlying52 rfl Tryz.sizeOf4 rfl rfl) <| VI (.plain rfl) rfl rfl Tryz.sizeOf4 rfl rfl rfl (Blk.ext k42 e46) (ltb rfl) <| fun w72 h73 k74 => nx <| wr <| lp rfl (qd Tryz.underlying52 rfl Tryz.sizeOf3 rfl rfl) <| lp rfl (qA Tryz.isAgg3 k74 rfl rfl) <| lp rfl (Qo rfl rfl) <| nx ?_
     rcases qh H with ⟨q75, H⟩ | ⟨q75, H⟩
     ·refine qo (cb q75) <| qG <| lp rfl (qb h25) <| lp rfl (qZ Tryz.isAgg52 Tryz.sizeOf52 rfl rfl (Blk.at0 k74)) <| vC (.plain rfl) rfl (ltb rfl) rfl Tryz.underlying35 Tryz.sizeOf52 Tryz.zeroValue52 rfl rfl rfl (vs := [(.agg #[(.int .i64 ((gt a0 x4_9).kind)), (S ((gt a0 x4_9).path)), (S ((gt a0 x4_9).body)), (.int .i64 ((gt a0 x4_9).mode)), (.bool false)])]) rfl (qO rfl) <| fun b76 w77 z78 z79 e80 k81 => ?_
      obtain ⟨c82, H⟩ := qa H
      refine vP (enc := qc) (.plain rfl) rfl (ltb rfl) rfl El.t35 rfl rfl (Ow.ext h26 (Ext.trans (Below.trans (Ext.trans (Below.trans e38 (Wr.below h41 (Nat.le_of_eq z36))) e46) (Wr.below h73 (Nat.le_of_eq z36))) e80)) (Ow.rd (Ow.new (xs := [(⟨(gt a0 x4_9).kind, (gt a0 x4_9).path, (gt a0 x4_9).body, (gt a0 x4_9).mode, false⟩ : Rec)]) (sz := 5) (enc := qc) (base := w72.heap.size) k81 (Nat.le_of_eq z78) rfl (fun _ _ => by rfl) (Nat.le_of_ble_eq_true rfl))) (jJ _) (od c82) (((e23.t (Below.trans (Ext.trans (Below.trans e38 (Wr.below h41 (Nat.le_of_eq z36))) e46) (Wr.below h73 (Nat.le_of_eq z36)))).t e80)).size <| fun v83 w84 o85 z86 g87 => lp rfl (xa v83 rfl) <| qH <| vj <| qf <| qG <| lp rfl (qb h27) <| lp rfl (qU rfl rfl) <| lp rfl (xa (.int .i64 (IntKind.wrap .i64 (x4_9 + 1))) rfl) <| nx ?_
      obtain rfl := si H
      exact ⟨_, Nat.lt_succ_self _, x3_7 ++ ([(⟨(gt a0 x4_9).kind, (gt a0 x4_9).path, (gt a0 x4_9).body, (gt a0 x4_9).mode, false⟩ : Rec)] : List Rec), v83, IntKind.wrap .i64 (x4_9 + 1), (ku2 (ku8 (ku8 (ku8 K22 rfl) rfl) rfl) rfl), rfl, o85, rfl, (g87 _ ((e23.t (Below.trans (Ext.trans (Below.trans e38 (Wr.below h41 (Nat.le_of_eq z36))) e46) (Wr.below h73 (Nat.le_of_eq z36)))).t e80)), S29⟩
     ·refine qj (cb q75) <| qq <| vj <| qf <| qG <| lp rfl (qb h27) <| lp rfl (qU rfl rfl) <| lp rfl (xa (.int .i64 (IntKind.wrap .i64 (x4_9 + 1))) rfl) <| nx ?_
      obtain rfl := si H
      exact ⟨_, Nat.lt_succ_self _, x3_7, v8, IntKind.wrap .i64 (x4_9 + 1), (ku1 (ku4 (ku8 (ku8 K22 rfl) rfl) rfl) rfl), h25, (Ow.ext h26 (Below.trans (Ext.trans (Below.trans e38 (Wr.below h41 (Nat.le_of_eq z36))) e46) (Wr.below h73 (Nat.le_of_eq z36)))), rfl, (e23.t (Below.trans (Ext.trans (Below.trans e38 (Wr.below h41 (Nat.le_of_eq z36))) e46) (Wr.below h73 (Nat.le_of_eq z36)))), S29⟩
   ·refine qj (cb q30) <| vt <| qN <| qN <| yu <| qf ?_
    obtain rfl := si H
    obtain rfl := si S29
    exact ⟨x3_7, v8, (ku4 K22 rfl), h25, h26, e23, rfl⟩
 ·rintro s16 w15 ⟨x3_13, v14, K17, h88, h89, e18, y90⟩
  rw [y90] at C12
  have H := C12
  replace H : _ = some _ := H
  refine qf <| wr <| lp rfl (qb h88) <| lp rfl (xa v14 rfl) <| nx <| qr <| qu ?_
  obtain rfl := si H
  exact jI rfl (e5.t e18) h89 (e5).size
/-! impl.canonical -/
theorem vZ.calls {w : World} {a0 : List Rec} (gv : GV 0 w) {v_a0 : Value} (f_a0 : Rd 5 qc w v_a0 a0) (h0 : a0.length ≤ 1048576) (h1 : ∀ x ∈ a0, qE x.path = true) :
  Calls Tryz.prog 73 #[v_a0] w (Rt (RO 52 5 qc w (jY a0))) := by
 obtain ⟨k, H⟩ := vZ.eq a0 h0 h1
 generalize (jY a0) = r at H ⊢
 unfold vZ.sh at H
 refine qg Tryz.func73 rfl (Nat.le_of_ble_eq_true rfl) Tryz.ntmps73 rfl ?_
 refine wr <| lp rfl (xa (.slice none 0 0) rfl) <| nx <| wr <| vC (.plain rfl) rfl (ltb rfl) rfl Tryz.underlying35 Tryz.sizeOf52 Tryz.zeroValue52 rfl rfl rfl (vs := []) rfl (qO rfl) <| fun b1 w2 z3 z4 e5 k6 => lp rfl (xa (.slice (some ⟨b1, 0, none⟩) 0 0) rfl) <| nx <| qi <| wr <| lp rfl (xm v_a0 rfl) <| lp rfl (va Tryz.underlying35 rfl (Rd.ext f_a0 e5)) <| lp rfl (xm (.int .i64 0) rfl) <| nx ?_
 obtain ⟨z10, L11, C12⟩ := bind_some H
 clear H
 refine  vq (fun s0 sQ wQ => ∃ (x3_13 : List Rec) (v14 : Value), Kp [(3, 4), (5, 7), (10, 38)] s0 sQ ∧ sQ 3 = v14 ∧ Ow 52 5 qc w2.heap.size wQ v14 x3_13 ∧ Ext w2 wQ ∧ z10 = .inr x3_13) ?_ ?_
 ·refine qx <| vc (fun s0 kk sQ wQ => ∃ (x3_7 : List Rec) (v8 : Value) (x10_9 : Int), Kp [(3, 4), (5, 7), (10, 38)] s0 sQ ∧ sQ 3 = v8 ∧ Ow 52 5 qc w2.heap.size wQ v8 x3_7 ∧ sQ 10 = .int .i64 x10_9 ∧ Ext w2 wQ ∧ qn (vZ.b1 a0) kk (x3_7, x10_9) = some z10) k ⟨([] : List Rec), (.slice (some ⟨b1, 0, none⟩) 0 0), 0, kz, rfl, (Ow.zero), rfl, er, L11⟩ ?_
  rintro k19 s20 w21 ⟨x3_7, v8, x10_9, K22, h25, h26, h27, e23, L24⟩
  cases k19 with
  | zero => exact absurd L24 (by simp [qn])
  | succ k19 =>
   obtain ⟨t28, H, S29⟩ := qJ L24
   clear L24
   unfold vZ.b1 at H
   refine wr <| lp rfl (vW h27 (K22 9 rfl)) <| nx <| qi ?_
   rcases qh H with ⟨q30, H⟩ | ⟨q30, H⟩
   ·refine qo (cb q30) <| qq <| qf <| qi <| qx <| wr ?_
    obtain ⟨c31, H⟩ := qa H
    refine vk (.plain rfl) rfl (ltb rfl) rfl Tryz.underlying35 Tryz.sizeOf52 (K22 8 rfl) (Rd.ext f_a0 (e5.t e23)) h27 c31 <| fun p32 h33 => lp rfl (qZ Tryz.isAgg52 Tryz.sizeOf52 rfl rfl h33) <| Vf (.plain rfl) rfl (ltb rfl) rfl Tryz.zeroValue52 <| fun b34 w35 z36 z37 e38 k39 => jK (.plain rfl) rfl rfl Tryz.sizeOf52 rfl rfl rfl rfl rfl k39 <| fun w40 h41 k42 => nx <| wr <| lp rfl (xm v_a0 (K22 0 rfl)) <| lp rfl (qd Tryz.underlying52 rfl Tryz.sizeOf9 rfl rfl) <| lp rfl (qA Tryz.isAgg9 k42 rfl rfl) ?_
    obtain ⟨c43, H⟩ := qa H
    obtain ⟨c44, H⟩ := qa H
    refine lc rfl rfl Tryz.call131 (ju.calls (w := w40) (a0 := a0) (a1 := (gt a0 x10_9).path) (Rd.ext f_a0 ((e5.t e23).t (Below.trans e38 (Wr.below h41 (Nat.le_of_eq z36))))) (od c43) (od c44)) rfl <| fun w45 e46 => lp rfl (xa (.bool (jg a0 ((gt a0 x10_9).path))) rfl) <| nx <| qi <| wr <| lp rfl (xm (.bool (jg a0 ((gt a0 x10_9).path))) rfl) <| lp rfl (xm (.bool (jg a0 ((gt a0 x10_9).path))) rfl) <| jN 4 [(20, 24)] 23 (.bool ((jg a0 ((gt a0 x10_9).path)) && (decide (((gt a0 x10_9).kind) = 4)))) ?_ ?_
    ·rcases ql (jg a0 ((gt a0 x10_9).path)) with b46_ | b46_
     ·exact lg rfl rfl rfl rfl (cb b46_) (qd Tryz.underlying52 rfl Tryz.sizeOf3 rfl rfl) <| lg rfl rfl rfl rfl (cb b46_) (qA Tryz.isAgg3 (Blk.ext k42 e46) rfl rfl) <| lg rfl rfl rfl rfl (cb b46_) (yL rfl rfl) <| lp rfl (qy (b := true) (v := (.bool (decide (((gt a0 x10_9).kind) = 4)))) (cb b46_) rfl) <| nx ⟨(ku4 kz rfl), (Vm b46_), er⟩
     ·exact ls rfl rfl rfl (cb b46_) rfl <| ls rfl rfl rfl (cb b46_) rfl <| ls rfl rfl rfl (cb b46_) rfl <| lp rfl (qy (b := false) (v := (.bool false)) (cb b46_) rfl) <| nx ⟨(ku4 kz rfl), (Vn b46_), er⟩
    intro s52 w48 K49 h50 e51
    refine nx ?_
    rcases qh H with ⟨q53, H⟩ | ⟨q53, H⟩
    ·refine qo (h50.trans (cb q53)) <| vt <| qN <| yu <| qf <| qG <| lp rfl (qU ((K49 10 rfl).trans h27) rfl) <| lp rfl (xm (.int .i64 (IntKind.wrap .i64 (x10_9 + 1))) rfl) <| nx ?_
     obtain rfl := si H
     exact ⟨_, Nat.lt_succ_self _, x3_7, v8, IntKind.wrap .i64 (x10_9 + 1), (ku2 (Kp.cut (ku3 (ku8 K22 rfl) rfl) K49 rfl) rfl), ((K49 3 rfl).trans h25), (Ow.ext h26 (Ext.trans (Ext.trans (Below.trans e38 (Wr.below h41 (Nat.le_of_eq z36))) e46) e51)), rfl, (((e23.t (Below.trans e38 (Wr.below h41 (Nat.le_of_eq z36)))).t e46).t e51), S29⟩
    ·refine qj (h50.trans (cb q53)) <| qq <| qf <| qi <| wr <| lp rfl (xm (.bool (jg a0 ((gt a0 x10_9).path))) (K49 6 rfl)) <| lp rfl (xm (.bool (jg a0 ((gt a0 x10_9).path))) rfl) ?_
     obtain ⟨z55, x56, H⟩ := bind_some H
     refine ja 6 [(26, 32)] 31 (fun q => q = z55) ?_ ?_
     ·rcases qh x56 with ⟨b53_, H⟩ | ⟨b53_, H⟩
      ·refine ls rfl rfl rfl (cb b53_) rfl <| ls rfl rfl rfl (cb b53_) rfl <| ls rfl rfl rfl (cb b53_) rfl <| ls rfl rfl rfl (cb b53_) rfl <| ls rfl rfl rfl (cb b53_) rfl <| lp rfl (qy (b := true) (v := (.bool true)) (cb b53_) rfl) ?_
       obtain rfl := si H
       exact nx ⟨(ku2 (ku4 kz rfl) rfl), ⟨_, rfl, rfl⟩, er⟩
      ·refine lg rfl rfl rfl rfl (cb b53_) (qd Tryz.underlying52 rfl Tryz.sizeOf9 rfl (K49 5 rfl)) <| lg rfl rfl rfl rfl (cb b53_) (qA Tryz.isAgg9 (Blk.ext k42 (e46.t e51)) rfl rfl) ?_
       obtain ⟨c55, H⟩ := qa H
       refine vE (tg rfl rfl rfl (cb b53_)) rfl (ltb rfl) rfl Tryz.call132 (yn.calls (w := w48) (a0 := (gt a0 x10_9).path) (GV.ext gv ((((e5.t e23).t (Below.trans e38 (Wr.below h41 (Nat.le_of_eq z36)))).t e46).t e51)) (od c55)) rfl <| fun v58 w56 e57 o59 => lg rfl rfl rfl rfl (cb b53_) (va Tryz.underlying44 rfl (Ow.rd o59)) <| lg rfl rfl rfl rfl (cb b53_) (yL rfl rfl) <| lp rfl (qy (b := false) (v := (.bool (decide (((cut 47 ((gt a0 x10_9).path)).length : Int) = 4)))) (cb b53_) rfl) ?_
       obtain rfl := si H
       exact nx ⟨(ku2 (ku4 kz rfl) rfl), ⟨_, rfl, rfl⟩, e57⟩
     intro s61 w57 z62 K58 hq h59 e60
     rw [hq] at h59; clear hq
     refine nx ?_
     rcases qh H with ⟨q63, H⟩ | ⟨q63, H⟩
     ·refine qo (h59.trans (cb q63)) <| qG <| lp rfl (qd Tryz.underlying52 rfl Tryz.sizeOf4 rfl ((K58 5 rfl).trans (K49 5 rfl))) <| VI (.plain rfl) rfl rfl Tryz.sizeOf4 rfl rfl rfl (Blk.ext k42 ((e46.t e51).t e60)) (ltb rfl) <| fun w64 h65 k66 => nx <| qG <| lp rfl (xm v8 ((K58 3 rfl).trans ((K49 3 rfl).trans h25))) <| lp rfl (qZ Tryz.isAgg52 Tryz.sizeOf52 rfl ((K58 5 rfl).trans (K49 5 rfl)) (Blk.at0 k66)) <| vC (.plain rfl) rfl (ltb rfl) rfl Tryz.underlying35 Tryz.sizeOf52 Tryz.zeroValue52 rfl rfl rfl (vs := [(.agg #[(.int .i64 ((gt a0 x10_9).kind)), (S ((gt a0 x10_9).path)), (S ((gt a0 x10_9).body)), (.int .i64 ((gt a0 x10_9).mode)), (.bool false)])]) rfl (qO rfl) <| fun b67 w68 z69 z70 e71 k72 => ?_
      obtain ⟨c73, H⟩ := qa H
      refine vP (enc := qc) (.plain rfl) rfl (ltb rfl) rfl El.t35 rfl rfl (Ow.ext h26 (Ext.trans (Below.trans (Ext.trans (Ext.trans (Ext.trans (Below.trans e38 (Wr.below h41 (Nat.le_of_eq z36))) e46) e51) e60) (Wr.below h65 (Nat.le_of_eq z36))) e71)) (Ow.rd (Ow.new (xs := [(⟨(gt a0 x10_9).kind, (gt a0 x10_9).path, (gt a0 x10_9).body, (gt a0 x10_9).mode, false⟩ : Rec)]) (sz := 5) (enc := qc) (base := w64.heap.size) k72 (Nat.le_of_eq z69) rfl (fun _ _ => by rfl) (Nat.le_of_ble_eq_true rfl))) (jJ _) (od c73) (((e23.t (Below.trans (Ext.trans (Ext.trans (Ext.trans (Below.trans e38 (Wr.below h41 (Nat.le_of_eq z36))) e46) e51) e60) (Wr.below h65 (Nat.le_of_eq z36)))).t e71)).size <| fun v74 w75 o76 z77 g78 => lp rfl (xa v74 rfl) <| qH <| vj <| qf <| qG <| lp rfl (qU ((K58 10 rfl).trans ((K49 10 rfl).trans h27)) rfl) <| lp rfl (xm (.int .i64 (IntKind.wrap .i64 (x10_9 + 1))) rfl) <| nx ?_
      obtain rfl := si H
      exact ⟨_, Nat.lt_succ_self _, x3_7 ++ ([(⟨(gt a0 x10_9).kind, (gt a0 x10_9).path, (gt a0 x10_9).body, (gt a0 x10_9).mode, false⟩ : Rec)] : List Rec), v74, IntKind.wrap .i64 (x10_9 + 1), (ku8 (Kp.cut (ku2 (Kp.cut (ku3 (ku8 K22 rfl) rfl) K49 rfl) rfl) K58 rfl) rfl), rfl, o76, rfl, (g78 _ ((e23.t (Below.trans (Ext.trans (Ext.trans (Ext.trans (Below.trans e38 (Wr.below h41 (Nat.le_of_eq z36))) e46) e51) e60) (Wr.below h65 (Nat.le_of_eq z36)))).t e71)), S29⟩
     ·refine qj (h59.trans (cb q63)) <| qq <| qf <| qG <| lp rfl (xm v8 ((K58 3 rfl).trans ((K49 3 rfl).trans h25))) <| lp rfl (qZ Tryz.isAgg52 Tryz.sizeOf52 rfl ((K58 5 rfl).trans (K49 5 rfl)) (Blk.at0 (Blk.ext k42 ((e46.t e51).t e60)))) <| vC (.plain rfl) rfl (ltb rfl) rfl Tryz.underlying35 Tryz.sizeOf52 Tryz.zeroValue52 rfl rfl rfl (vs := [(.agg #[(.int .i64 ((gt a0 x10_9).kind)), (S ((gt a0 x10_9).path)), (S ((gt a0 x10_9).body)), (.int .i64 ((gt a0 x10_9).mode)), (.bool ((gt a0 x10_9).opq))])]) rfl (qO rfl) <| fun b79 w80 z81 z82 e83 k84 => ?_
      obtain ⟨c85, H⟩ := qa H
      refine vP (enc := qc) (.plain rfl) rfl (ltb rfl) rfl El.t35 rfl rfl (Ow.ext h26 (Ext.trans (Ext.trans (Ext.trans (Ext.trans (Below.trans e38 (Wr.below h41 (Nat.le_of_eq z36))) e46) e51) e60) e83)) (Ow.rd (Ow.new (xs := [(gt a0 x10_9)]) (sz := 5) (enc := qc) (base := w57.heap.size) k84 (Nat.le_of_eq z81) rfl (fun _ _ => by rfl) (Nat.le_of_ble_eq_true rfl))) (jJ _) (od c85) ((((((e23.t (Below.trans e38 (Wr.below h41 (Nat.le_of_eq z36)))).t e46).t e51).t e60).t e83)).size <| fun v86 w87 o88 z89 g90 => lp rfl (xa v86 rfl) <| qH <| vj <| qf <| qG <| lp rfl (qU ((K58 10 rfl).trans ((K49 10 rfl).trans h27)) rfl) <| lp rfl (xm (.int .i64 (IntKind.wrap .i64 (x10_9 + 1))) rfl) <| nx ?_
      obtain rfl := si H
      exact ⟨_, Nat.lt_succ_self _, x3_7 ++ ([(gt a0 x10_9)] : List Rec), v86, IntKind.wrap .i64 (x10_9 + 1), (ku3 (ku4 (Kp.cut (ku2 (Kp.cut (ku3 (ku8 K22 rfl) rfl) K49 rfl) rfl) K58 rfl) rfl) rfl), rfl, o88, rfl, (g90 _ (((((e23.t (Below.trans e38 (Wr.below h41 (Nat.le_of_eq z36)))).t e46).t e51).t e60).t e83)), S29⟩
   ·refine qj (cb q30) <| vt <| qN <| qN <| yu <| qf ?_
    obtain rfl := si H
    obtain rfl := si S29
    exact ⟨x3_7, v8, (ku1 K22 rfl), h25, h26, e23, rfl⟩
 ·rintro s16 w15 ⟨x3_13, v14, K17, h91, h92, e18, y93⟩
  rw [y93] at C12
  have H := C12
  replace H : _ = some _ := H
  refine qf <| wr <| lp rfl (qb h91) <| lp rfl (xa v14 rfl) <| nx <| qr <| qu ?_
  obtain rfl := si H
  exact jI rfl (e5.t e18) h92 (e5).size
/-! impl.isLongList(()impl.Record) -/
theorem jj.calls {w : World} {a0 : List (List Rec)} {v_a0 : Value} (f_a0 : Rd2 5 qc w v_a0 a0) :
  Calls Tryz.prog 116 #[v_a0] w (Rt (RP w (.bool (decide (4096 < a0.length))))) := by
 have H := jj.eq a0
 generalize (decide (4096 < a0.length)) = r at H ⊢
 unfold jj.sh at H
 refine qg Tryz.func116 rfl (Nat.le_of_ble_eq_true rfl) Tryz.ntmps116 rfl ?_
 refine wr <| lp rfl (xa (.bool false) rfl) <| nx <| wr <| lp rfl (xm v_a0 rfl) <| lp rfl (yK Tryz.underlying23 rfl f_a0) <| lp rfl (Qp rfl rfl) <| lp rfl (xa (.bool (decide (4096 < (a0.length : Int)))) rfl) <| nx <| qr <| qu ?_
 obtain rfl := si H
 exact vh rfl er
/-! impl.stackCode -/
theorem jz.calls {w : World} {a0 : List (List Rec)} (gv : GV 0 w) {v_a0 : Value} (f_a0 : Rd2 5 qc w v_a0 a0) (h0 : a0.length ≤ 1048576) (h1 : ∀ l ∈ a0, l.length ≤ 1048576) (h2 : ∀ l ∈ a0, ∀ x ∈ l, x.path.length ≤ 1048576) :
  Calls Tryz.prog 58 #[v_a0] w (Rt (RP w (.int .i64 (stackCode a0)))) := by
 have H := jz.eq a0 h0 h1 h2
 generalize (stackCode a0) = r at H ⊢
 unfold jz.sh at H
 refine qg Tryz.func58 rfl (Nat.le_of_ble_eq_true rfl) Tryz.ntmps58 rfl ?_
 refine wr <| lp rfl (xa (.int .i64 0) rfl) <| nx <| wr <| lp rfl (xm v_a0 rfl) <| lc rfl rfl Tryz.call116 (jj.calls (w := w) (a0 := a0) f_a0) rfl <| fun w1 e2 => lp rfl (vn Tryz.underlying4 rfl rfl) <| lp rfl (vn Tryz.underlying3 rfl rfl) <| lp rfl (xm v_a0 rfl) ?_
 obtain ⟨c3, H⟩ := qa H
 obtain ⟨c4, H⟩ := qa H
 obtain ⟨c5, H⟩ := qa H
 refine lc rfl rfl Tryz.call16 (j6.calls (w := w1) (a0 := a0) (GV.ext gv e2) (Rd2.ext f_a0 e2) (od c3) (od c4) (od c5)) rfl <| fun w6 e7 => lp rfl (jm rfl) <| lp rfl (vn Tryz.underlying4 rfl rfl) <| lp rfl (vn Tryz.underlying3 rfl rfl) <| vC (.plain rfl) rfl (ltb rfl) rfl Tryz.underlying142 Tryz.sizeOf20 Tryz.zeroValue20 rfl rfl rfl (vs := [(.iface 4 (.bool (decide (4096 < a0.length)))), (.iface 3 (.int .i64 2)), (.iface 4 (.bool (!(vi a0)))), (.iface 3 (.int .i64 1))]) rfl (qO rfl) <| fun b8 w9 z10 z11 e12 k13 => ?_
 obtain ⟨c14, H⟩ := qa H
 obtain ⟨z17, x18, H⟩ := bind_some H
 replace x18 := si x18
 refine lc rfl rfl Tryz.call77 (yM.calls (w := w9) (a0 := ([.inl (decide (4096 < a0.length)), .inr 2, .inl (!(vi a0)), .inr 1] : List (Bool ⊕ Int))) (Ow.rd (Ow.new (xs := [.inl (decide (4096 < a0.length)), .inr 2, .inl (!(vi a0)), .inr 1]) (sz := 1) (enc := (Ve 4 3)) (base := w6.heap.size) k13 (Nat.le_of_eq z10) rfl (fun _ _ => by first | rfl | exact V9 _ _ _) (Nat.le_of_ble_eq_true rfl))) (od c14)) rfl <| fun w15 e16 => lp rfl (xa (.int .i64 z17) (congrArg (Value.int .i64) x18)) <| nx <| qr <| qu ?_
 obtain rfl := si H
 exact vh rfl (((e2.t e7).t e12).t e16)
/-! spec.l04Without -/
theorem vI.calls {w : World} {a0 : List Nd} {a1 : List UInt8} {a2 : Bool} {v_a0 : Value} (f_a0 : Rd 4 qv w v_a0 a0) (h0 : a0.length ≤ 1048576) :
  Calls Tryz.prog 209 #[v_a0, S a1, .bool a2] w (Rt (RO 91 4 qv w (vT a0 a1 a2))) := by
 obtain ⟨k, H⟩ := vI.eq a0 a1 a2 h0
 generalize (vT a0 a1 a2) = r at H ⊢
 unfold vI.sh at H
 refine qg Tryz.func209 rfl (Nat.le_of_ble_eq_true rfl) Tryz.ntmps209 rfl ?_
 refine wr <| lp rfl (xa (.slice none 0 0) rfl) <| nx <| wr <| vC (.plain rfl) rfl (ltb rfl) rfl Tryz.underlying29 Tryz.sizeOf91 Tryz.zeroValue91 rfl rfl rfl (vs := []) rfl (qO rfl) <| fun b1 w2 z3 z4 e5 k6 => lp rfl (xa (.slice (some ⟨b1, 0, none⟩) 0 0) rfl) <| nx <| qi <| wr <| lp rfl (xa (.int .i64 0) rfl) <| nx ?_
 obtain ⟨z10, L11, C12⟩ := bind_some H
 clear H
 refine  vq (fun s0 sQ wQ => ∃ (x7_13 : List Nd) (v14 : Value), Kp [(7, 9), (10, 44)] s0 sQ ∧ sQ 7 = v14 ∧ Ow 91 4 qv w2.heap.size wQ v14 x7_13 ∧ Ext w2 wQ ∧ z10 = .inr x7_13) ?_ ?_
 ·refine qx <| vc (fun s0 kk sQ wQ => ∃ (x7_7 : List Nd) (v8 : Value) (x8_9 : Int), Kp [(7, 9), (10, 44)] s0 sQ ∧ sQ 7 = v8 ∧ Ow 91 4 qv w2.heap.size wQ v8 x7_7 ∧ sQ 8 = .int .i64 x8_9 ∧ Ext w2 wQ ∧ qn (vI.b1 a0 a1 a2) kk (x7_7, x8_9) = some z10) k ⟨([] : List Nd), (.slice (some ⟨b1, 0, none⟩) 0 0), 0, kz, rfl, (Ow.zero), rfl, er, L11⟩ ?_
  rintro k19 s20 w21 ⟨x7_7, v8, x8_9, K22, h25, h26, h27, e23, L24⟩
  cases k19 with
  | zero => exact absurd L24 (by simp [qn])
  | succ k19 =>
   obtain ⟨t28, H, S29⟩ := qJ L24
   clear L24
   unfold vI.b1 at H
   refine qi <| wr <| lp rfl (qb h27) <| lp rfl (xm v_a0 (K22 0 rfl)) <| lp rfl (va Tryz.underlying29 rfl (Rd.ext f_a0 (e5.t e23))) <| lp rfl (vW rfl rfl) <| nx ?_
   rcases qh H with ⟨q30, H⟩ | ⟨q30, H⟩
   ·refine qo (cb q30) <| qq <| qf <| qi <| qx <| wr <| lp rfl (xm v_a0 (K22 0 rfl)) <| lp rfl (qb h27) ?_
    obtain ⟨c31, H⟩ := qa H
    refine vk (.plain rfl) rfl (ltb rfl) rfl Tryz.underlying29 Tryz.sizeOf91 rfl (Rd.ext f_a0 (e5.t e23)) rfl c31 <| fun p32 h33 => lp rfl (qd Tryz.underlying91 rfl Tryz.sizeOf9 rfl rfl) <| lp rfl (yU Tryz.isAgg9 (j := 1) h33 rfl rfl) <| lp rfl (xm (S a1) (K22 1 rfl)) <| lc rfl rfl Tryz.call186 (jM.calls (w := w21) (a0 := (gt a0 x8_9).path) (a1 := a1)) rfl <| fun w34 e35 => lp rfl (jm rfl) <| lp rfl (qb rfl) ?_
    obtain ⟨z37, x38, H⟩ := bind_some H
    refine ja 12 [(25, 37)] 36 (fun q => q = z37) ?_ ?_
    ·rcases qh x38 with ⟨b35_, H⟩ | ⟨b35_, H⟩
     ·refine lg rfl rfl rfl rfl (cb b35_) (xm (.bool a2) (K22 2 rfl)) <| lg rfl rfl rfl rfl (cb b35_) (jm rfl) <| lg rfl rfl rfl rfl (cb b35_) (xm (.bool (!a2)) rfl) ?_
      obtain ⟨z38, x39, H⟩ := bind_some H
      refine ja 8 [(28, 36)] 35 (fun q => q = z38) ?_ ?_
      ·rcases qh x39 with ⟨b36_, H⟩ | ⟨b36_, H⟩
       ·refine ls rfl rfl rfl (cb b36_) rfl <| ls rfl rfl rfl (cb b36_) rfl <| ls rfl rfl rfl (cb b36_) rfl <| ls rfl rfl rfl (cb b36_) rfl <| ls rfl rfl rfl (cb b36_) rfl <| ls rfl rfl rfl (cb b36_) rfl <| ls rfl rfl rfl (cb b36_) rfl <| lg rfl rfl rfl rfl (cb b35_) (qy (b := true) (v := (.bool true)) (cb b36_) rfl) ?_
        obtain rfl := si H
        exact nx ⟨(ku8 kz rfl), ⟨_, rfl, rfl⟩, er⟩
       ·refine lg rfl rfl rfl rfl (cb b36_) (xm v_a0 (K22 0 rfl)) <| lg rfl rfl rfl rfl (cb b36_) (qb h27) ?_
        obtain ⟨c38, H⟩ := qa H
        refine vk (tg rfl rfl rfl (cb b36_)) rfl (ltb rfl) rfl Tryz.underlying29 Tryz.sizeOf91 rfl (Rd.ext f_a0 ((e5.t e23).t e35)) rfl c38 <| fun p39 h40 => lg rfl rfl rfl rfl (cb b36_) (qd Tryz.underlying91 rfl Tryz.sizeOf9 rfl rfl) <| lg rfl rfl rfl rfl (cb b36_) (yU Tryz.isAgg9 (j := 1) h40 rfl rfl) <| lg rfl rfl rfl rfl (cb b36_) (xm (S a1) (K22 1 rfl)) <| lg rfl rfl rfl rfl (cb b36_) (VN rfl rfl) <| lg rfl rfl rfl rfl (cb b35_) (qy (b := false) (v := (.bool (!decide (((gt a0 x8_9).path) = a1)))) (cb b36_) rfl) ?_
        obtain rfl := si H
        exact nx ⟨(ku8 kz rfl), ⟨_, rfl, rfl⟩, er⟩
      intro s44 w40 z45 K41 hq h42 e43
      rw [hq] at h42; clear hq
      refine lp rfl (qy (b := true) (v := (.bool z38)) ((K41 24 rfl).trans (cb b35_)) h42) ?_
      obtain rfl := si H
      exact nx ⟨(ku1 (Kp.cut (ku3 kz rfl) K41 rfl) rfl), ⟨_, rfl, rfl⟩, e43⟩
     ·refine ls rfl rfl rfl (cb b35_) rfl <| ls rfl rfl rfl (cb b35_) rfl <| ls rfl rfl rfl (cb b35_) rfl <| lu rfl rfl rfl rfl rfl <| lu rfl rfl rfl rfl rfl <| lu rfl rfl rfl rfl rfl <| lu rfl rfl rfl rfl rfl <| lu rfl rfl rfl rfl rfl <| lu rfl rfl rfl rfl rfl <| lu rfl rfl rfl rfl rfl <| ls rfl rfl rfl (cb b35_) rfl <| lp rfl (qy (b := false) (v := (.bool false)) (cb b35_) rfl) ?_
      obtain rfl := si H
      exact nx ⟨(ku4 (ku8 kz rfl) rfl), ⟨_, rfl, rfl⟩, er⟩
    intro s46 w39 z47 K40 hq h41 e42
    rw [hq] at h41; clear hq
    refine nx ?_
    rcases qh H with ⟨q48, H⟩ | ⟨q48, H⟩
    ·refine qo (h41.trans (cb q48)) <| qG <| lp rfl (xm v8 ((K40 7 rfl).trans h25)) <| lp rfl (xm v_a0 ((K40 0 rfl).trans (K22 0 rfl))) <| lp rfl (xm (.int .i64 x8_9) ((K40 8 rfl).trans h27)) ?_
     obtain ⟨c49, H⟩ := qa H
     refine vk (.plain rfl) rfl (ltb rfl) rfl Tryz.underlying29 Tryz.sizeOf91 rfl (Rd.ext f_a0 (((e5.t e23).t e35).t e42)) rfl c49 <| fun p50 h51 => lp rfl (qZ Tryz.isAgg91 Tryz.sizeOf91 rfl rfl h51) <| vC (.plain rfl) rfl (ltb rfl) rfl Tryz.underlying29 Tryz.sizeOf91 Tryz.zeroValue91 rfl rfl rfl (vs := [(.agg (qv (gt a0 x8_9)).toArray)]) rfl (qO rfl) <| fun b52 w53 z54 z55 e56 k57 => ?_
     obtain ⟨c58, H⟩ := qa H
     refine vP (enc := qv) (.plain rfl) rfl (ltb rfl) rfl El.t29 rfl rfl (Ow.ext h26 ((e35.t e42).t e56)) (Ow.rd (Ow.new (xs := [gt a0 x8_9]) (sz := 4) (enc := qv) (base := w39.heap.size) k57 (Nat.le_of_eq z54) rfl (fun _ _ => by rfl) (Nat.le_of_ble_eq_true rfl))) (QM _) (od c58) ((((e23.t e35).t e42).t e56)).size <| fun v59 w60 o61 z62 g63 => lp rfl (xa v59 rfl) <| qH <| vj <| qf <| qG <| lp rfl (xm (.int .i64 x8_9) ((K40 8 rfl).trans h27)) <| lp rfl (qU rfl rfl) <| lp rfl (xa (.int .i64 (IntKind.wrap .i64 (x8_9 + 1))) rfl) <| nx ?_
     obtain rfl := si H
     exact ⟨_, Nat.lt_succ_self _, x7_7 ++ ([gt a0 x8_9] : List Nd), v59, IntKind.wrap .i64 (x8_9 + 1), (ku3 (ku8 (Kp.cut (ku1 (ku4 (ku8 K22 rfl) rfl) rfl) K40 rfl) rfl) rfl), rfl, o61, rfl, (g63 _ (((e23.t e35).t e42).t e56)), S29⟩
    ·refine qj (h41.trans (cb q48)) <| qq <| vj <| qf <| qG <| lp rfl (xm (.int .i64 x8_9) ((K40 8 rfl).trans h27)) <| lp rfl (qU rfl rfl) <| lp rfl (xa (.int .i64 (IntKind.wrap .i64 (x8_9 + 1))) rfl) <| nx ?_
     obtain rfl := si H
     exact ⟨_, Nat.lt_succ_self _, x7_7, v8, IntKind.wrap .i64 (x8_9 + 1), (ku3 (Kp.cut (ku1 (ku4 (ku8 K22 rfl) rfl) rfl) K40 rfl) rfl), ((K40 7 rfl).trans h25), (Ow.ext h26 (e35.t e42)), rfl, ((e23.t e35).t e42), S29⟩
   ·refine qj (cb q30) <| vt <| qN <| qN <| yu <| qf ?_
    obtain rfl := si H
    obtain rfl := si S29
    exact ⟨x7_7, v8, (ku4 K22 rfl), h25, h26, e23, rfl⟩
 ·rintro s16 w15 ⟨x7_13, v14, K17, h64, h65, e18, y66⟩
  rw [y66] at C12
  have H := C12
  replace H : _ = some _ := H
  refine qf <| wr <| lp rfl (qb h64) <| lp rfl (xa v14 rfl) <| nx <| qr <| qu ?_
  obtain rfl := si H
  exact jI rfl (e5.t e18) h65 (e5).size
/-! slices.Clone(()impl.Node,impl.Node), by text -/
theorem VD.calls {w : World} {a0 : List Nd} {v_a0 : Value} (f_a0 : Rd 4 qv w v_a0 a0) (h0 : a0.length ≤ 1048576) :
    Calls Tryz.prog 123 #[v_a0] w (Rt (RO 91 4 qv w a0)) := by
  obtain ⟨A, c, hv⟩ := f_a0.shape
  refine qg Tryz.func123 rfl (Nat.le_of_ble_eq_true rfl) Tryz.ntmps123 rfl ?_
  refine wr <| lp rfl (qp (v := .slice none 0 0) rfl) <| nx <| qi <| wr <| lp rfl (xm v_a0 rfl) <| lp rfl (X_eqNil Tryz.underlying29 (by kernel_rfl) hv rfl) <| nx ?_
  cases A with
  | none =>
    have hn : a0 = [] := by
      obtain ⟨A', c', hv', ⟨hn, hz, _⟩, _⟩ := f_a0
      rw [hv] at hv'; injection hv' with e1 e2 e3
      have := hz e1.symm
      exact List.eq_nil_of_length_eq_zero (by omega)
    subst hn
    refine qo rfl <| wr <| lp rfl (qp (v := .slice none 0 0) rfl) <| nx <| qr <| qw <| qu ?_
    exact jI rfl er (Ow.zero (base := w.heap.size)) (Nat.le_refl _)
  | some a =>
    refine qj rfl <| qq <| qf <| wr <| vC (.plain rfl) rfl (ltb rfl) rfl Tryz.underlying29 Tryz.sizeOf91 Tryz.zeroValue91 rfl rfl rfl (vs := []) rfl (qO rfl) <| fun b w1 z1 z2 e1 k1 => lp rfl (xm v_a0 rfl) <|
      vP (enc := qv) (.plain rfl) rfl (ltb rfl) rfl El.t29 rfl rfl (Ow.zero (base := w1.heap.size) (w := w1)) (Rd.ext f_a0 e1) (QM _) (by simp; omega) (Nat.le_refl _) <| fun v2 w2 o2 z3 g2 => lp rfl (xa v2 rfl) <| nx <| qr <| qu ?_
    have e2 : Ext w w2 := Ext.trans e1 (g2 _ er)
    have o3 : Ow 91 4 qv w1.heap.size w2 v2 a0 := by simpa using o2
    exact jI rfl e2 o3 e1.size

/-! impl.removed$1 -/
theorem jX.calls {w : World} {a0 : Nd} {a1 : List UInt8} {b_a1 : Nat} (k_a1 : Blk w b_a1 #[(S a1)] 9) (h0 : a1.length ≤ 1048576) :
  Calls Tryz.prog 204 #[.agg (qv a0).toArray, .pointer (some ⟨b_a1, 0, none⟩)] w (Rt (RP w (.bool (decide (a0.path = a1) || (decide (a1 = []) || ve a0.path a1))))) := by
 have H := jX.eq a0 a1 h0
 generalize (decide (a0.path = a1) || (decide (a1 = []) || ve a0.path a1)) = r at H ⊢
 unfold jX.sh at H
 refine qg Tryz.func204 rfl (Nat.le_of_ble_eq_true rfl) Tryz.ntmps204 rfl ?_
 refine wr <| Qg (.plain rfl) rfl (ltb rfl) rfl rfl <| fun b1 w2 z3 z4 e5 k6 => lp rfl (xa (.bool false) rfl) <| nx <| wr <| lp rfl (qd Tryz.underlying91 rfl Tryz.sizeOf9 rfl rfl) <| lp rfl (qA Tryz.isAgg9 k6 rfl rfl) <| lp rfl (qA Tryz.isAgg9 (Blk.ext k_a1 e5) rfl rfl) <| lp rfl (VO rfl rfl) <| lp rfl (xm (.bool (decide (a0.path = a1))) rfl) ?_
 obtain ⟨z8, x9, H⟩ := bind_some H
 refine ja 5 [(9, 14)] 13 (fun q => q = z8) ?_ ?_
 ·rcases qh x9 with ⟨b6_, H⟩ | ⟨b6_, H⟩
  ·refine ls rfl rfl rfl (cb b6_) rfl <| ls rfl rfl rfl (cb b6_) rfl <| ls rfl rfl rfl (cb b6_) rfl <| ls rfl rfl rfl (cb b6_) rfl <| lp rfl (qy (b := true) (v := (.bool true)) (cb b6_) rfl) ?_
   obtain rfl := si H
   exact nx ⟨(ku1 (ku4 kz rfl) rfl), ⟨_, rfl, rfl⟩, er⟩
  ·refine lg rfl rfl rfl rfl (cb b6_) (qd Tryz.underlying91 rfl Tryz.sizeOf9 rfl rfl) <| lg rfl rfl rfl rfl (cb b6_) (qA Tryz.isAgg9 k6 rfl rfl) <| lg rfl rfl rfl rfl (cb b6_) (qA Tryz.isAgg9 (Blk.ext k_a1 e5) rfl rfl) ?_
   obtain ⟨c8, H⟩ := qa H
   refine yW (tg rfl rfl rfl (cb b6_)) rfl (ltb rfl) rfl Tryz.call205 (QV.calls (w := w2) (a0 := a0.path) (a1 := a1) (od c8)) rfl <| fun w9 e10 => lp rfl (qy (b := false) (v := (.bool (decide (a1 = []) || ve a0.path a1))) (cb b6_) rfl) ?_
   obtain rfl := si H
   exact nx ⟨(ku1 (ku4 kz rfl) rfl), ⟨_, rfl, rfl⟩, e10⟩
 intro s14 w10 z15 K11 hq h12 e13
 rw [hq] at h12; clear hq
 refine lp rfl (qp h12) <| nx <| qr <| qu ?_
 obtain rfl := si H
 exact vh rfl (e5.t e13)
end Go.Proofs.YtdhmlillkbjjjaaGreatDoor
