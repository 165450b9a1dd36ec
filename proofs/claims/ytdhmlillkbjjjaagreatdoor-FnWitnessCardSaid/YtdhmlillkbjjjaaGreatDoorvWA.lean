/- The walks,by program (wip/tools). -/
import Derived.Test.YtdhmlillkbjjjaaGreatDoorProg
import Derived.Test.YtdhmlillkbjjjaaGreatDoorKI
import Derived.Test.YtdhmlillkbjjjaaGreatDoorKJ
import Derived.Test.YtdhmlillkbjjjaaGreatDoorKL
import Derived.Test.YtdhmlillkbjjjaaGreatDoorvSrt
import Derived.Test.YtdhmlillkbjjjaaGreatDoorvH
set_option linter.unusedVariables false
set_option linter.unusedSimpArgs false
set_option maxRecDepth 10000
namespace Go.Proofs.YtdhmlillkbjjjaaGreatDoor
open Go.UL Go.RowKit
theorem El.t29 : ElemI Tryz.prog 29 91 4 48 (.agg #[.int .i64 0,.string ⟨#[]⟩,.string ⟨#[]⟩,.int .i64 0]):=ElemI.mk' Tryz.underlying29 (by kernel_rfl) rfl rfl rfl
theorem El.t35 : ElemI Tryz.prog 35 52 5 56 (.agg #[.int .i64 0,.string ⟨#[]⟩,.string ⟨#[]⟩,.int .i64 0,.bool false]):=ElemI.mk' Tryz.underlying35 (by kernel_rfl) rfl rfl rfl
theorem El.t44 : ElemI Tryz.prog 44 9 1 16 (.string ⟨#[]⟩):=ElemI.mk' Tryz.underlying44 (by kernel_rfl) rfl rfl rfl
theorem Eqg.t52 : Tryz.prog.eqGuardType Tryz.prog.depth 52 = false:=by kernel_rfl
theorem Eqs.t52 (a b : Rec) (w : World) : (Op.equal 52 (.agg (qj a).toArray) (.agg (qj b).toArray)).run Tryz.prog w = .ok (decide (a = b)) w:=run_eqRec (d:=9998) (ti:=3) (ts:=9) (tb:=4) Tryz.underlying52 rfl Tryz.underlying3 Tryz.underlying9 Tryz.underlying4 Tryz.isAgg3 Tryz.isAgg9 Tryz.isAgg4 (by kernel_rfl)
theorem Eqg.t91 : Tryz.prog.eqGuardType Tryz.prog.depth 91 = false:=by kernel_rfl
theorem Eqs.t91 (a b : Nd) (w : World) : (Op.equal 91 (.agg (qp a).toArray) (.agg (qp b).toArray)).run Tryz.prog w = .ok (decide (a = b)) w:=run_eqNd (d:=9998) (ti:=3) (ts:=9) Tryz.underlying91 rfl Tryz.underlying3 Tryz.underlying9 Tryz.isAgg3 Tryz.isAgg9 (by kernel_rfl)
/-! impl.within -/
theorem Qe.calls {w : World} {a0 : Int} {a1 : Int} {a2 : Int} :
  Calls Tryz.prog 117 #[.int .i64 a0,.int .i64 a1,.int .i64 a2] w (Rt (RP w (.bool (within a0 a1 a2)))):=by
 have H:=Qe.eq a0 a1 a2
 generalize (within a0 a1 a2) = r at H ⊢
 unfold Qe.sh at H
 refine qi Tryz.func117 rfl (Nat.le_of_ble_eq_true rfl) Tryz.ntmps117 rfl ?_
 refine wr<|lp rfl (xa (.bool false) rfl)<|nx<|wr<|lp rfl (xm (.int .i64 a1) rfl)<|lp rfl (xm (.int .i64 a0) rfl)<|lp rfl (JN rfl rfl)<|lp rfl (xm (.bool (decide (a1≤a0))) rfl)<|jj 4 [(11,15)] 14 (.bool ((decide (a1≤a0)) && (decide (a0≤a2)))) ?_ ?_
 ·rcases qo (decide (a1≤a0)) with b0_ | b0_
  ·exact lg rfl rfl rfl rfl (cb b0_) (xm (.int .i64 a0) rfl)<|lg rfl rfl rfl rfl (cb b0_) (xm (.int .i64 a2) rfl)<|lg rfl rfl rfl rfl (cb b0_) (JN rfl rfl)<|lp rfl (qq (b:=true) (v:=(.bool (decide (a0≤a2)))) (cb b0_) rfl)<|nx ⟨(ku4 kz rfl),(QP b0_),er⟩
  ·exact ls rfl rfl rfl (cb b0_) rfl<|ls rfl rfl rfl (cb b0_) rfl<|ls rfl rfl rfl (cb b0_) rfl<|lp rfl (qq (b:=false) (v:=(.bool false)) (cb b0_) rfl)<|nx ⟨(ku4 kz rfl),(QQ b0_),er⟩
 intro s6 w2 K3 h4 e5
 refine lp rfl (qA h4)<|nx<|qr<|qy ?_
 obtain rfl:=si H
 exact vt rfl e5
/-! spec.l01In -/
theorem QV.calls {w : World} {a0 : Int} {a1 : Int} {a2 : Int} :
  Calls Tryz.prog 61 #[.int .i64 a0,.int .i64 a1,.int .i64 a2] w (Rt (RP w (.bool (within a0 a1 a2)))):=by
 have H:=QV.eq a0 a1 a2
 generalize (within a0 a1 a2) = r at H ⊢
 unfold QV.sh at H
 refine qi Tryz.func61 rfl (Nat.le_of_ble_eq_true rfl) Tryz.ntmps61 rfl ?_
 refine wr<|lp rfl (xa (.bool false) rfl)<|nx<|wr<|lp rfl (xm (.int .i64 a0) rfl)<|lp rfl (xm (.int .i64 a1) rfl)<|lp rfl (Yd rfl rfl)<|lp rfl (xm (.bool (decide (a1≤a0))) rfl)<|jj 4 [(11,15)] 14 (.bool ((decide (a1≤a0)) && (decide (a0≤a2)))) ?_ ?_
 ·rcases qo (decide (a1≤a0)) with b0_ | b0_
  ·exact lg rfl rfl rfl rfl (cb b0_) (xm (.int .i64 a0) rfl)<|lg rfl rfl rfl rfl (cb b0_) (xm (.int .i64 a2) rfl)<|lg rfl rfl rfl rfl (cb b0_) (JN rfl rfl)<|lp rfl (qq (b:=true) (v:=(.bool (decide (a0≤a2)))) (cb b0_) rfl)<|nx ⟨(ku4 kz rfl),(QP b0_),er⟩
  ·exact ls rfl rfl rfl (cb b0_) rfl<|ls rfl rfl rfl (cb b0_) rfl<|ls rfl rfl rfl (cb b0_) rfl<|lp rfl (qq (b:=false) (v:=(.bool false)) (cb b0_) rfl)<|nx ⟨(ku4 kz rfl),(QQ b0_),er⟩
 intro s6 w2 K3 h4 e5
 refine lp rfl (qA h4)<|nx<|qr<|qy ?_
 obtain rfl:=si H
 exact vt rfl e5
/-! spec.l01Part -/
theorem yN.calls {w : World} {a0 : List UInt8} :
  Calls Tryz.prog 161 #[S a0] w (Rt (RP w (.bool (jh a0)))):=by
 obtain ⟨k,H⟩:=yN.eq a0
 generalize (jh a0) = r at H ⊢
 unfold yN.sh at H
 refine qi Tryz.func161 rfl (Nat.le_of_ble_eq_true rfl) Tryz.ntmps161 rfl ?_
 refine wr<|lp rfl (xa (.bool false) rfl)<|nx<|qk<|wr<|lp rfl (xm (S a0) rfl)<|lp rfl (Vi Tryz.underlying9 rfl)<|lc rfl rfl Tryz.call61 (QV.calls (w:=w) (a0:=(a0.length : Int)) (a1:=1) (a2:=8)) rfl<|fun w1 e2=>lp rfl (yR rfl)<|lp rfl (xm (.bool (!(within (a0.length : Int) 1 8))) rfl)<|jj 3 [(9,12)] 11 (.bool ((!(within (a0.length : Int) 1 8)) || (decide (a0 = ([46] : List UInt8))))) ?_ ?_
 ·rcases qo (!(within (a0.length : Int) 1 8)) with b2_ | b2_
  ·exact ls rfl rfl rfl (cb b2_) rfl<|ls rfl rfl rfl (cb b2_) rfl<|lp rfl (qq (b:=true) (v:=(.bool true)) (cb b2_) rfl)<|nx ⟨(ku3 kz rfl),(J6 b2_),er⟩
  ·exact lg rfl rfl rfl rfl (cb b2_) (xm (S a0) rfl)<|lg rfl rfl rfl rfl (cb b2_) (Vv rfl rfl)<|lp rfl (qq (b:=false) (v:=(.bool (decide (a0 = ([46] : List UInt8))))) (cb b2_) rfl)<|nx ⟨(ku3 kz rfl),(J7 b2_),er⟩
 intro s8 w4 K5 h6 e7
 refine lp rfl (qf h6)<|jj 3 [(13,16)] 15 (.bool (((!(within (a0.length : Int) 1 8)) || (decide (a0 = ([46] : List UInt8)))) || (decide (a0 = ([46,46] : List UInt8))))) ?_ ?_
 ·rcases qo ((!(within (a0.length : Int) 1 8)) || (decide (a0 = ([46] : List UInt8)))) with b8_ | b8_
  ·exact ls rfl rfl rfl (cb b8_) rfl<|ls rfl rfl rfl (cb b8_) rfl<|lp rfl (qq (b:=true) (v:=(.bool true)) (cb b8_) rfl)<|nx ⟨(ku3 kz rfl),(J6 b8_),er⟩
  ·exact lg rfl rfl rfl rfl (cb b8_) (xm (S a0) (K5 0 rfl))<|lg rfl rfl rfl rfl (cb b8_) (Vv rfl rfl)<|lp rfl (qq (b:=false) (v:=(.bool (decide (a0 = ([46,46] : List UInt8))))) (cb b8_) rfl)<|nx ⟨(ku3 kz rfl),(J7 b8_),er⟩
 intro s14 w10 K11 h12 e13
 refine nx ?_
 rcases qe H with ⟨q15,H⟩ | ⟨q15,H⟩
 ·refine ql (h12.trans (cb q15))<|wr<|lp rfl (xa (.bool false) rfl)<|nx<|qr<|qv<|qy ?_
  obtain rfl:=si H
  exact vt rfl ((e2.t e7).t e13)
 ·refine qh (h12.trans (cb q15))<|qw<|qg<|qk<|wr<|lp rfl (xa (.int .i64 0) rfl)<|nx ?_
  obtain ⟨z17,L18,C19⟩:=bind_some H
  clear H
  refine  vT (fun s0 sQ wQ=>Kp [(2,4),(16,38)] s0 sQ∧Ext w10 wQ∧z17 = .inr ()) ?_ ?_
  ·refine qF<|vA (fun s0 kk sQ wQ=>∃ (x3_16 : Int),Kp [(2,4),(16,38)] s0 sQ∧sQ 3 = .int .i64 x3_16∧Ext w10 wQ∧qt (yN.b1 a0) kk x3_16 = some z17) k ⟨0,kz,rfl,er,L18⟩ ?_
   rintro k24 s25 w26 ⟨x3_16,K27,h30,e28,L29⟩
   cases k24 with
   | zero=>exact absurd L29 (by simp [qt])
   | succ k24=>
    obtain ⟨t31,H,S32⟩:=qQ L29
    clear L29
    unfold yN.b1 at H
    refine qk<|wr<|lp rfl (qf h30)<|lp rfl (xm (S a0) ((K27 0 rfl).trans ((K11 0 rfl).trans (K5 0 rfl))))<|lp rfl (Vi Tryz.underlying9 rfl)<|lp rfl (ym rfl rfl)<|nx ?_
    rcases qe H with ⟨q33,H⟩ | ⟨q33,H⟩
    ·refine ql (cb q33)<|qw<|qg<|qk<|qF<|wr<|lp rfl (xm (S a0) ((K27 0 rfl).trans ((K11 0 rfl).trans (K5 0 rfl))))<|lp rfl (qf h30) ?_
     obtain ⟨c34,H⟩:=qa H
     refine lp rfl (V6 Tryz.underlying9 rfl rfl (Qv c34) (j9 c34))<|lp rfl (ym rfl rfl)<|lp rfl (xm (.bool (decide ((byt a0 x3_16) < 33))) rfl) ?_
     obtain ⟨z36,x37,H⟩:=bind_some H
     refine yf 5 [(27,32)] 31 (fun q=>q = z36) ?_ ?_
     ·rcases qe x37 with ⟨b34_,H⟩ | ⟨b34_,H⟩
      ·refine ls rfl rfl rfl (cb b34_) rfl<|ls rfl rfl rfl (cb b34_) rfl<|ls rfl rfl rfl (cb b34_) rfl<|ls rfl rfl rfl (cb b34_) rfl<|lp rfl (qq (b:=true) (v:=(.bool true)) (cb b34_) rfl) ?_
       obtain rfl:=si H
       exact nx ⟨(ku1 (ku4 kz rfl) rfl),⟨_,rfl,rfl⟩,er⟩
      ·refine lg rfl rfl rfl rfl (cb b34_) (xm (S a0) ((K27 0 rfl).trans ((K11 0 rfl).trans (K5 0 rfl))))<|lg rfl rfl rfl rfl (cb b34_) (qf h30) ?_
       obtain ⟨c36,H⟩:=qa H
       refine lg rfl rfl rfl rfl (cb b34_) (V6 Tryz.underlying9 rfl rfl (Qv c36) (j9 c36))<|lg rfl rfl rfl rfl (cb b34_) (j8 rfl rfl)<|lp rfl (qq (b:=false) (v:=(.bool (decide (126 < (byt a0 x3_16))))) (cb b34_) rfl) ?_
       obtain rfl:=si H
       exact nx ⟨(ku1 (ku4 kz rfl) rfl),⟨_,rfl,rfl⟩,er⟩
     intro s42 w38 z43 K39 hq h40 e41
     rw [hq] at h40; clear hq
     refine lp rfl (qf h40) ?_
     obtain ⟨z45,x46,H⟩:=bind_some H
     refine yf 5 [(33,38)] 37 (fun q=>q = z45) ?_ ?_
     ·rcases qe x46 with ⟨b43_,H⟩ | ⟨b43_,H⟩
      ·refine ls rfl rfl rfl (cb b43_) rfl<|ls rfl rfl rfl (cb b43_) rfl<|ls rfl rfl rfl (cb b43_) rfl<|ls rfl rfl rfl (cb b43_) rfl<|lp rfl (qq (b:=true) (v:=(.bool true)) (cb b43_) rfl) ?_
       obtain rfl:=si H
       exact nx ⟨(ku1 (ku4 kz rfl) rfl),⟨_,rfl,rfl⟩,er⟩
      ·refine lg rfl rfl rfl rfl (cb b43_) (xm (S a0) ((K39 0 rfl).trans ((K27 0 rfl).trans ((K11 0 rfl).trans (K5 0 rfl)))))<|lg rfl rfl rfl rfl (cb b43_) (xm (.int .i64 x3_16) ((K39 3 rfl).trans h30)) ?_
       obtain ⟨c45,H⟩:=qa H
       refine lg rfl rfl rfl rfl (cb b43_) (V6 Tryz.underlying9 rfl rfl (Qv c45) (j9 c45))<|lg rfl rfl rfl rfl (cb b43_) (vx rfl rfl)<|lp rfl (qq (b:=false) (v:=(.bool (decide ((byt a0 x3_16) = 47)))) (cb b43_) rfl) ?_
       obtain rfl:=si H
       exact nx ⟨(ku1 (ku4 kz rfl) rfl),⟨_,rfl,rfl⟩,er⟩
     intro s51 w47 z52 K48 hq h49 e50
     rw [hq] at h49; clear hq
     refine nx ?_
     rcases qe H with ⟨q53,H⟩ | ⟨q53,H⟩
     ·refine ql (h49.trans (cb q53))<|wr<|lp rfl (xa (.bool false) rfl)<|nx<|qr<|vc<|qv<|qv<|vc<|qv<|qv<|qy ?_
      obtain rfl:=si H
      obtain rfl:=si S32
      have H:=C19
      obtain rfl:=si H
      exact vt rfl (((((e2.t e7).t e13).t e28).t e41).t e50)
     ·refine qh (h49.trans (cb q53))<|qw<|vK<|qg<|qO<|lp rfl (xm (.int .i64 x3_16) ((K48 3 rfl).trans ((K39 3 rfl).trans h30)))<|lp rfl (vz rfl rfl)<|lp rfl (xa (.int .i64 (IntKind.wrap .i64 (x3_16 + 1))) rfl)<|nx ?_
      obtain rfl:=si H
      exact ⟨_,Nat.lt_succ_self _,IntKind.wrap .i64 (x3_16 + 1),(ku3 (Kp.cut (ku1 (Kp.cut (ku1 (ku8 K27 rfl) rfl) K39 rfl) rfl) K48 rfl) rfl),rfl,((e28.t e41).t e50),S32⟩
    ·refine qh (cb q33)<|yc<|vm<|vm<|yV<|qg ?_
     obtain rfl:=si H
     obtain rfl:=si S32
     exact ⟨(ku4 K27 rfl),e28,rfl⟩
  ·rintro s21 w20 ⟨K22,e23,y54⟩
   rw [y54] at C19
   have H:=C19
   replace H : _ = some _:=H
   refine qg<|wr<|lp rfl (xa (.bool true) rfl)<|nx<|qr<|qy ?_
   obtain rfl:=si H
   exact vt rfl (((e2.t e7).t e13).t e23)
/-! impl.PartOK -/
theorem y0.calls {w : World} {a0 : List UInt8} (h0 : a0.length≤4611686018427387904) :
  Calls Tryz.prog 168 #[S a0] w (Rt (RP w (.bool (jh a0)))):=by
 obtain ⟨k,H⟩:=y0.eq a0 h0
 generalize (jh a0) = r at H ⊢
 unfold y0.sh at H
 refine qi Tryz.func168 rfl (Nat.le_of_ble_eq_true rfl) Tryz.ntmps168 rfl ?_
 refine wr<|lp rfl (xa (.bool false) rfl)<|nx<|qk<|wr<|lp rfl (xm (S a0) rfl)<|lp rfl (Vi Tryz.underlying9 rfl)<|lp rfl (xm (.int .i64 0) rfl)<|nx ?_
 obtain ⟨z2,L3,C4⟩:=bind_some H
 clear H
 refine  vT (fun s0 sQ wQ=>Kp [(2,4),(6,22)] s0 sQ∧Ext w wQ∧z2 = .inr ()) ?_ ?_
 ·refine qF<|vA (fun s0 kk sQ wQ=>∃ (x6_1 : Int),Kp [(2,4),(6,22)] s0 sQ∧sQ 6 = .int .i64 x6_1∧Ext w wQ∧qt (y0.b1 a0) kk x6_1 = some z2) k ⟨0,kz,rfl,er,L3⟩ ?_
  rintro k9 s10 w11 ⟨x6_1,K12,h15,e13,L14⟩
  cases k9 with
  | zero=>exact absurd L14 (by simp [qt])
  | succ k9=>
   obtain ⟨t16,H,S17⟩:=qQ L14
   clear L14
   unfold y0.b1 at H
   refine wr<|lp rfl (ym h15 (K12 5 rfl))<|nx<|qk ?_
   rcases qe H with ⟨q18,H⟩ | ⟨q18,H⟩
   ·refine ql (cb q18)<|qw<|qg<|qk<|qF<|wr<|lp rfl (qf h15)<|lp rfl (xa (.int .i64 x6_1) rfl)<|nx<|wr<|lp rfl (xm (S a0) (K12 0 rfl))<|lp rfl (xm (.int .i64 x6_1) rfl) ?_
    obtain ⟨c19,H⟩:=qa H
    refine lp rfl (V6 Tryz.underlying9 rfl rfl (Qv c19) (j9 c19))<|lp rfl (QZ Tryz.underlying5 Tryz.underlying3 rfl)<|lc rfl rfl Tryz.call117 (Qe.calls (w:=w11) (a0:=IntKind.wrap .i64 (byt a0 x6_1)) (a1:=33) (a2:=126)) rfl<|fun w20 e21=>lp rfl (yR rfl)<|lp rfl (xm (.bool (!(within (IntKind.wrap .i64 (byt a0 x6_1)) 33 126))) rfl) ?_
    obtain ⟨z23,x24,H⟩:=bind_some H
    refine yf 5 [(16,21)] 20 (fun q=>q = z23) ?_ ?_
    ·rcases qe x24 with ⟨b21_,H⟩ | ⟨b21_,H⟩
     ·refine ls rfl rfl rfl (cb b21_) rfl<|ls rfl rfl rfl (cb b21_) rfl<|ls rfl rfl rfl (cb b21_) rfl<|ls rfl rfl rfl (cb b21_) rfl<|lp rfl (qq (b:=true) (v:=(.bool true)) (cb b21_) rfl) ?_
      obtain rfl:=si H
      exact nx ⟨(ku1 (ku4 kz rfl) rfl),⟨_,rfl,rfl⟩,er⟩
     ·refine lg rfl rfl rfl rfl (cb b21_) (xm (S a0) (K12 0 rfl))<|lg rfl rfl rfl rfl (cb b21_) (xm (.int .i64 x6_1) rfl) ?_
      obtain ⟨c23,H⟩:=qa H
      refine lg rfl rfl rfl rfl (cb b21_) (V6 Tryz.underlying9 rfl rfl (Qv c23) (j9 c23))<|lg rfl rfl rfl rfl (cb b21_) (vx rfl rfl)<|lp rfl (qq (b:=false) (v:=(.bool (decide ((byt a0 x6_1) = 47)))) (cb b21_) rfl) ?_
      obtain rfl:=si H
      exact nx ⟨(ku1 (ku4 kz rfl) rfl),⟨_,rfl,rfl⟩,er⟩
    intro s29 w25 z30 K26 hq h27 e28
    rw [hq] at h27; clear hq
    refine nx ?_
    rcases qe H with ⟨q31,H⟩ | ⟨q31,H⟩
    ·refine ql (h27.trans (cb q31))<|wr<|lp rfl (xa (.bool false) rfl)<|nx<|qr<|vc<|qv<|qv<|vc<|qv<|qv<|qy ?_
     obtain rfl:=si H
     obtain rfl:=si S17
     have H:=C4
     obtain rfl:=si H
     exact vt rfl ((e13.t e21).t e28)
    ·refine qh (h27.trans (cb q31))<|qw<|vK<|qg<|qO<|lp rfl (vz ((K26 6 rfl).trans h15) rfl)<|lp rfl (xm (.int .i64 (IntKind.wrap .i64 (x6_1 + 1))) rfl)<|nx ?_
     obtain rfl:=si H
     exact ⟨_,Nat.lt_succ_self _,IntKind.wrap .i64 (x6_1 + 1),(ku2 (Kp.cut (ku2 (ku8 K12 rfl) rfl) K26 rfl) rfl),rfl,((e13.t e21).t e28),S17⟩
   ·refine qh (cb q18)<|yc<|vm<|vm<|yV<|qg ?_
    obtain rfl:=si H
    obtain rfl:=si S17
    exact ⟨(ku1 K12 rfl),e13,rfl⟩
 ·rintro s6 w5 ⟨K7,e8,y32⟩
  rw [y32] at C4
  have H:=C4
  replace H : _ = some _:=H
  refine qg<|wr<|lp rfl (xm (S a0) (K7 0 rfl))<|lp rfl (Vi Tryz.underlying9 rfl)<|lc rfl rfl Tryz.call117 (Qe.calls (w:=w5) (a0:=(a0.length : Int)) (a1:=1) (a2:=8)) rfl<|fun w33 e34=>lp rfl (xm (.bool (within (a0.length : Int) 1 8)) rfl)<|jj 3 [(26,29)] 28 (.bool ((within (a0.length : Int) 1 8) && (!decide (a0 = ([46] : List UInt8))))) ?_ ?_
  ·rcases qo (within (a0.length : Int) 1 8) with b34_ | b34_
   ·exact lg rfl rfl rfl rfl (cb b34_) (xm (S a0) (K7 0 rfl))<|lg rfl rfl rfl rfl (cb b34_) (VL rfl rfl)<|lp rfl (qq (b:=true) (v:=(.bool (!decide (a0 = ([46] : List UInt8))))) (cb b34_) rfl)<|nx ⟨(ku3 kz rfl),(QP b34_),er⟩
   ·exact ls rfl rfl rfl (cb b34_) rfl<|ls rfl rfl rfl (cb b34_) rfl<|lp rfl (qq (b:=false) (v:=(.bool false)) (cb b34_) rfl)<|nx ⟨(ku3 kz rfl),(QQ b34_),er⟩
  intro s40 w36 K37 h38 e39
  refine lp rfl (qf h38)<|jj 3 [(30,33)] 32 (.bool (((within (a0.length : Int) 1 8) && (!decide (a0 = ([46] : List UInt8)))) && (!decide (a0 = ([46,46] : List UInt8))))) ?_ ?_
  ·rcases qo ((within (a0.length : Int) 1 8) && (!decide (a0 = ([46] : List UInt8)))) with b40_ | b40_
   ·exact lg rfl rfl rfl rfl (cb b40_) (xm (S a0) ((K37 0 rfl).trans (K7 0 rfl)))<|lg rfl rfl rfl rfl (cb b40_) (VL rfl rfl)<|lp rfl (qq (b:=true) (v:=(.bool (!decide (a0 = ([46,46] : List UInt8))))) (cb b40_) rfl)<|nx ⟨(ku3 kz rfl),(QP b40_),er⟩
   ·exact ls rfl rfl rfl (cb b40_) rfl<|ls rfl rfl rfl (cb b40_) rfl<|lp rfl (qq (b:=false) (v:=(.bool false)) (cb b40_) rfl)<|nx ⟨(ku3 kz rfl),(QQ b40_),er⟩
  intro s46 w42 K43 h44 e45
  refine lp rfl (qA h44)<|nx<|qr<|qy ?_
  obtain rfl:=si H
  exact vt rfl (((e8.t e34).t e39).t e45)
/-! spec.l00Cut -/
theorem yJ.calls {w : World} {a0 : List UInt8} {a1 : Int} (h0 : a0.length≤1048576) :
  Calls Tryz.prog 135 #[S a0,.int .u8 a1] w (Rt (RO 9 1 y4 w (cut a1 a0))):=by
 obtain ⟨k,H⟩:=yJ.eq a0 a1 h0
 generalize (cut a1 a0) = r at H ⊢
 unfold yJ.sh at H
 refine qi Tryz.func135 rfl (Nat.le_of_ble_eq_true rfl) Tryz.ntmps135 rfl ?_
 refine wr<|lp rfl (xa (.slice none 0 0) rfl)<|nx<|wr<|yt (.plain rfl) rfl (ltb rfl) rfl Tryz.underlying44 Tryz.sizeOf9 Tryz.zeroValue9 rfl rfl rfl (vs:=[]) rfl (qX rfl)<|fun b1 w2 z3 z4 e5 k6=>lp rfl (xa (.slice (some ⟨b1,0,none⟩) 0 0) rfl)<|nx<|wr<|lp rfl (xa (.int .i64 0) rfl)<|nx<|qk<|wr<|lp rfl (xa (.int .i64 0) rfl)<|nx ?_
 obtain ⟨z11,L12,C13⟩:=bind_some H
 clear H
 refine  vT (fun s0 sQ wQ=>∃ (x5_14 : List (List UInt8)) (v15 : Value) (x6_16 : Int),Kp [(5,8),(9,29)] s0 sQ∧sQ 5 = v15∧Ow 9 1 y4 w2.heap.size wQ v15 x5_14∧sQ 6 = .int .i64 x6_16∧Ext w2 wQ∧z11 = .inr (x5_14,x6_16)) ?_ ?_
 ·refine qF<|vA (fun s0 kk sQ wQ=>∃ (x5_7 : List (List UInt8)) (v8 : Value) (x6_9 : Int) (x7_10 : Int),Kp [(5,8),(9,29)] s0 sQ∧sQ 5 = v8∧Ow 9 1 y4 w2.heap.size wQ v8 x5_7∧sQ 6 = .int .i64 x6_9∧sQ 7 = .int .i64 x7_10∧Ext w2 wQ∧qt (yJ.b1 a0 a1) kk (x5_7,x6_9,x7_10) = some z11) k ⟨([] : List (List UInt8)),(.slice (some ⟨b1,0,none⟩) 0 0),0,0,kz,rfl,(Ow.zero),rfl,rfl,er,L12⟩ ?_
  rintro k21 s22 w23 ⟨x5_7,v8,x6_9,x7_10,K24,h27,h28,h29,h30,e25,L26⟩
  cases k21 with
  | zero=>exact absurd L26 (by simp [qt])
  | succ k21=>
   obtain ⟨t31,H,S32⟩:=qQ L26
   clear L26
   unfold yJ.b1 at H
   refine qk<|wr<|lp rfl (qf h30)<|lp rfl (xm (S a0) (K24 0 rfl))<|lp rfl (Vi Tryz.underlying9 rfl)<|lp rfl (ym rfl rfl)<|nx ?_
   rcases qe H with ⟨q33,H⟩ | ⟨q33,H⟩
   ·refine ql (cb q33)<|qw<|qg<|qk<|qF<|wr<|lp rfl (xm (S a0) (K24 0 rfl))<|lp rfl (qf h30) ?_
    obtain ⟨c34,H⟩:=qa H
    refine lp rfl (V6 Tryz.underlying9 rfl rfl (Qv c34) (j9 c34))<|lp rfl (xm (.int .u8 a1) (K24 1 rfl))<|lp rfl (vx rfl rfl)<|nx ?_
    rcases qe H with ⟨q35,H⟩ | ⟨q35,H⟩
    ·refine ql (cb q35)<|wr<|lp rfl (qf h27)<|lp rfl (xm (S a0) (K24 0 rfl))<|lp rfl (qf h29)<|lp rfl (qf h30) ?_
     obtain ⟨c36,H⟩:=qa H
     refine lp rfl (Y5 Tryz.underlying9 rfl (l:=x6_9) (h:=x7_10) ⟨_,rfl⟩ ⟨_,rfl⟩ (GB c36) (Gu c36) (GJ c36))<|yt (.plain rfl) rfl (ltb rfl) rfl Tryz.underlying44 Tryz.sizeOf9 Tryz.zeroValue9 rfl rfl rfl (vs:=[(S (sub a0 x6_9 x7_10))]) rfl (qX rfl)<|fun b37 w38 z39 z40 e41 k42=>?_
     obtain ⟨c43,H⟩:=qa H
     refine yP (enc:=y4) (.plain rfl) rfl (ltb rfl) rfl El.t44 rfl rfl (Ow.ext h28 e41) (Ow.rd (Ow.new (xs:=[sub a0 x6_9 x7_10]) (sz:=1) (enc:=y4) (base:=w23.heap.size) k42 (Nat.le_of_eq z39) rfl (fun _ _=>by rfl) (Nat.le_of_ble_eq_true rfl))) (ones_S _) (od c43) ((e25.t e41)).size<|fun v44 w45 o46 z47 g48=>lp rfl (xa v44 rfl)<|nx<|qO<|lp rfl (qf h30)<|lp rfl (vz rfl rfl)<|lp rfl (xa (.int .i64 (IntKind.wrap .i64 (x7_10 + 1))) rfl)<|qP<|vK<|qg<|qO<|lp rfl (qf h30)<|lp rfl (vz rfl rfl)<|lp rfl (xa (.int .i64 (IntKind.wrap .i64 (x7_10 + 1))) rfl)<|nx ?_
     obtain rfl:=si H
     exact ⟨_,Nat.lt_succ_self _,x5_7 ++ ([sub a0 x6_9 x7_10] : List (List UInt8)),v44,IntKind.wrap .i64 (x7_10 + 1),IntKind.wrap .i64 (x7_10 + 1),(ku3 (ku4 (ku8 (ku8 K24 rfl) rfl) rfl) rfl),rfl,o46,rfl,rfl,(g48 _ (e25.t e41)),S32⟩
    ·refine qh (cb q35)<|qw<|vK<|qg<|qO<|lp rfl (qf h30)<|lp rfl (vz rfl rfl)<|lp rfl (xa (.int .i64 (IntKind.wrap .i64 (x7_10 + 1))) rfl)<|nx ?_
     obtain rfl:=si H
     exact ⟨_,Nat.lt_succ_self _,x5_7,v8,x6_9,IntKind.wrap .i64 (x7_10 + 1),(ku4 (ku8 K24 rfl) rfl),h27,h28,h29,rfl,e25,S32⟩
   ·refine qh (cb q33)<|yc<|vm<|vm<|yV<|qg ?_
    obtain rfl:=si H
    obtain rfl:=si S32
    exact ⟨x5_7,v8,x6_9,(ku4 K24 rfl),h27,h28,h29,e25,rfl⟩
 ·rintro s18 w17 ⟨x5_14,v15,x6_16,K19,h49,h50,h51,e20,y52⟩
  rw [y52] at C13
  have H:=C13
  replace H : _ = some _:=H
  refine qg<|wr<|lp rfl (qf h49)<|lp rfl (xm (S a0) (K19 0 rfl))<|lp rfl (qf h51) ?_
  obtain ⟨c53,H⟩:=qa H
  refine lp rfl (Y5 Tryz.underlying9 rfl (l:=x6_16) (h:=(a0.length : Int)) ⟨_,rfl⟩ rfl (GB c53) (Gu c53) (GJ c53))<|yt (.plain rfl) rfl (ltb rfl) rfl Tryz.underlying44 Tryz.sizeOf9 Tryz.zeroValue9 rfl rfl rfl (vs:=[(S (sub a0 x6_16 (a0.length : Int)))]) rfl (qX rfl)<|fun b54 w55 z56 z57 e58 k59=>?_
  obtain ⟨c60,H⟩:=qa H
  refine yP (enc:=y4) (.plain rfl) rfl (ltb rfl) rfl El.t44 rfl rfl (Ow.ext h50 e58) (Ow.rd (Ow.new (xs:=[sub a0 x6_16 (a0.length : Int)]) (sz:=1) (enc:=y4) (base:=w17.heap.size) k59 (Nat.le_of_eq z56) rfl (fun _ _=>by rfl) (Nat.le_of_ble_eq_true rfl))) (ones_S _) (od c60) ((e20.t e58)).size<|fun v61 w62 o63 z64 g65=>lp rfl (xa v61 rfl)<|nx<|qr<|qy ?_
  obtain rfl:=si H
  exact QD rfl (e5.t (g65 _ (e20.t e58))) o63 (e5).size
/-! impl.parts -/
theorem yz.calls {w : World} {a0 : List UInt8} (gv : GV 0 w) (h0 : a0.length≤1048576) :
  Calls Tryz.prog 132 #[S a0] w (Rt (RO 9 1 y4 w (cut 47 a0))):=by
 have H:=yz.eq a0 h0
 generalize (cut 47 a0) = r at H ⊢
 unfold yz.sh at H
 refine qi Tryz.func132 rfl (Nat.le_of_ble_eq_true rfl) Tryz.ntmps132 rfl ?_
 refine wr<|lp rfl (xa (.slice none 0 0) rfl)<|nx<|wr<|lp rfl (xm (S a0) rfl) ?_
 obtain ⟨c1,H⟩:=qa H
 obtain ⟨c2,H⟩:=qa H
 refine vp (.plain rfl) rfl (ltb rfl) rfl Tryz.call193 (strings_Split.calls (w:=w) (a0:=a0) (a1:=([47] : List UInt8)) gv (od c1) (od c2)) rfl<|fun v5 w3 e4 o6=>lp rfl (xa v5 rfl)<|nx<|qr<|qy ?_
 obtain rfl:=si H
 exact QD rfl e4 o6 (er).size
/-! impl.all(string)$1 -/
theorem jW.walk {w : World} {a0 : List UInt8} {a1 : List UInt8→Option Bool} {v_a1 : Value} (f_a1 : ∀ (x0 : List UInt8) (r : Bool),a1 x0 = some r→jR Tryz.prog w v_a1 [(S x0)] (.bool r)) (g_a1 : v_a1.cells = #[v_a1]) {b_a1 : Nat} (k_a1 : Blk w b_a1 #[v_a1] 113) {r : Bool} (H : jW.sh a0 a1 = some r) :
  Calls Tryz.prog 216 #[S a0,.pointer (some ⟨b_a1,0,none⟩)] w (Rt (RP w (.bool r))):=by
 unfold jW.sh at H
 refine qi Tryz.func216 rfl (Nat.le_of_ble_eq_true rfl) Tryz.ntmps216 rfl ?_
 refine wr<|lp rfl (xa (.bool false) rfl)<|nx<|wr<|lp rfl (qz Tryz.isAgg113 k_a1 rfl rfl)<|lp rfl (xm (S a0) rfl) ?_
 obtain ⟨z1,x2,H⟩:=bind_some H
 refine YM (.plain rfl) rfl (ltb rfl) rfl rfl (jR.ext (f_a1 _ _ x2) er) rfl<|fun w3 e4=>lp rfl (yR rfl)<|lp rfl (xa (.bool (!z1)) rfl)<|nx<|qr<|qy ?_
 obtain rfl:=si H
 exact vt rfl e4
theorem jW.calls {w : World} {a0 : List UInt8} {a1 : List UInt8→Option Bool} {r : Bool} {v_a1 : Value} (f_a1 : ∀ (x0 : List UInt8) (r : Bool),a1 x0 = some r→jR Tryz.prog w v_a1 [(S x0)] (.bool r)) (g_a1 : v_a1.cells = #[v_a1]) {b_a1 : Nat} (k_a1 : Blk w b_a1 #[v_a1] 113) (H : ((a1 a0).map (!·)) = some r) :
  Calls Tryz.prog 216 #[S a0,.pointer (some ⟨b_a1,0,none⟩)] w (Rt (RP w (.bool r))):=jW.walk f_a1 g_a1 k_a1 (jW.eq a0 a1 H)
/-! slices.IndexFunc(()string,string) -/
theorem vi.walk {k : Nat} {w : World} {a0 : List (List UInt8)} {a1 : List UInt8→Option Bool} {v_a0 : Value} (f_a0 : Rd 1 y4 w v_a0 a0) {v_a1 : Value} (f_a1 : ∀ (x0 : List UInt8) (r : Bool),a1 x0 = some r→jR Tryz.prog w v_a1 [(S x0)] (.bool r)) (g_a1 : v_a1.cells = #[v_a1]) {r : Int} (H : vi.sh k a0 a1 = some r) :
  Calls Tryz.prog 241 #[v_a0,v_a1] w (Rt (RP w (.int .i64 r))):=by
 unfold vi.sh at H
 refine qi Tryz.func241 rfl (Nat.le_of_ble_eq_true rfl) Tryz.ntmps241 rfl ?_
 refine wr<|lp rfl (xa (.int .i64 0) rfl)<|nx<|qk<|wr<|lp rfl (xm v_a0 rfl)<|lp rfl (qS Tryz.underlying44 rfl f_a0)<|lp rfl (xm (.int .i64 0) rfl)<|nx ?_
 obtain ⟨z2,L3,C4⟩:=bind_some H
 clear H
 refine  vT (fun s0 sQ wQ=>Kp [(4,6),(8,19)] s0 sQ∧Ext w wQ∧z2 = .inr ()) ?_ ?_
 ·refine qF<|vA (fun s0 kk sQ wQ=>∃ (x8_1 : Int),Kp [(4,6),(8,19)] s0 sQ∧sQ 8 = .int .i64 x8_1∧Ext w wQ∧qt (vi.b1 a0 a1) kk x8_1 = some z2) k ⟨0,kz,rfl,er,L3⟩ ?_
  rintro k9 s10 w11 ⟨x8_1,K12,h15,e13,L14⟩
  cases k9 with
  | zero=>exact absurd L14 (by simp [qt])
  | succ k9=>
   obtain ⟨t16,H,S17⟩:=qQ L14
   clear L14
   unfold vi.b1 at H
   refine wr<|lp rfl (ym h15 (K12 7 rfl))<|nx<|qk ?_
   rcases qe H with ⟨q18,H⟩ | ⟨q18,H⟩
   ·refine ql (cb q18)<|qw<|qg<|qk<|qF<|wr<|lp rfl (qf h15)<|lp rfl (xa (.int .i64 x8_1) rfl)<|nx<|wr<|lp rfl (xm v_a1 (K12 1 rfl))<|lp rfl (xm v_a0 (K12 0 rfl))<|lp rfl (xm (.int .i64 x8_1) rfl) ?_
    obtain ⟨c19,H⟩:=qa H
    refine vg (.plain rfl) rfl (ltb rfl) rfl Tryz.underlying44 Tryz.sizeOf9 rfl (Rd.ext f_a0 e13) rfl c19<|fun p20 h21=>lp rfl (y8 Tryz.isAgg9 rfl h21 rfl) ?_
    obtain ⟨z22,x23,H⟩:=bind_some H
    refine YM (.plain rfl) rfl (ltb rfl) rfl rfl (jR.ext (f_a1 _ _ x23) e13) rfl<|fun w24 e25=>nx ?_
    rcases qe H with ⟨q26,H⟩ | ⟨q26,H⟩
    ·refine ql (cb q26)<|wr<|lp rfl (xm (.int .i64 x8_1) rfl)<|lp rfl (xa (.int .i64 x8_1) rfl)<|nx<|qr<|vc<|qv<|qv<|vc<|qv<|qv<|qy ?_
     obtain rfl:=si H
     obtain rfl:=si S17
     have H:=C4
     obtain rfl:=si H
     exact vt rfl (e13.t e25)
    ·refine qh (cb q26)<|qw<|vK<|qg<|qO<|lp rfl (vz h15 rfl)<|lp rfl (xm (.int .i64 (IntKind.wrap .i64 (x8_1 + 1))) rfl)<|nx ?_
     obtain rfl:=si H
     exact ⟨_,Nat.lt_succ_self _,IntKind.wrap .i64 (x8_1 + 1),(ku3 (ku8 K12 rfl) rfl),rfl,(e13.t e25),S17⟩
   ·refine qh (cb q18)<|yc<|vm<|vm<|yV<|qg ?_
    obtain rfl:=si H
    obtain rfl:=si S17
    exact ⟨(ku1 K12 rfl),e13,rfl⟩
 ·rintro s6 w5 ⟨K7,e8,y27⟩
  rw [y27] at C4
  have H:=C4
  replace H : _ = some _:=H
  refine qg<|wr<|lp rfl (xa (.int .i64 (-1)) rfl)<|nx<|qr<|qy ?_
  obtain rfl:=si H
  exact vt rfl e8
theorem vi.calls {w : World} {a0 : List (List UInt8)} {a1 : List UInt8→Option Bool} {r : Int} {v_a0 : Value} (f_a0 : Rd 1 y4 w v_a0 a0) {v_a1 : Value} (f_a1 : ∀ (x0 : List UInt8) (r : Bool),a1 x0 = some r→jR Tryz.prog w v_a1 [(S x0)] (.bool r)) (g_a1 : v_a1.cells = #[v_a1]) (h0 : a0.length≤4611686018427387904) (H : (YP a1 a0) = some r) :
  Calls Tryz.prog 241 #[v_a0,v_a1] w (Rt (RP w (.int .i64 r))):=by
 obtain ⟨k,h⟩:=vi.eq a0 a1 h0 H
 exact vi.walk f_a0 f_a1 g_a1 h
/-! slices.ContainsFunc(()string,string) -/
theorem vJ.walk {w : World} {a0 : List (List UInt8)} {a1 : List UInt8→Option Bool} {v_a0 : Value} (f_a0 : Rd 1 y4 w v_a0 a0) {v_a1 : Value} (f_a1 : ∀ (x0 : List UInt8) (r : Bool),a1 x0 = some r→jR Tryz.prog w v_a1 [(S x0)] (.bool r)) (g_a1 : v_a1.cells = #[v_a1]) {r : Bool} (H : vJ.sh a0 a1 = some r) :
  Calls Tryz.prog 215 #[v_a0,v_a1] w (Rt (RP w (.bool r))):=by
 unfold vJ.sh at H
 refine qi Tryz.func215 rfl (Nat.le_of_ble_eq_true rfl) Tryz.ntmps215 rfl ?_
 refine wr<|lp rfl (xa (.bool false) rfl)<|nx<|wr<|lp rfl (xm v_a0 rfl)<|lp rfl (xm v_a1 rfl) ?_
 obtain ⟨c1,H⟩:=qa H
 obtain ⟨z2,x3,H⟩:=bind_some H
 refine lc rfl rfl Tryz.call241 (vi.calls (w:=w) (a0:=a0) (a1:=a1) f_a0 (fun x0 r h=>jR.ext (f_a1 x0 r h) er) g_a1 (od c1) x3) rfl<|fun w4 e5=>lp rfl (Yd rfl rfl)<|lp rfl (xa (.bool (decide (0≤z2))) rfl)<|nx<|qr<|qy ?_
 obtain rfl:=si H
 exact vt rfl e5
theorem vJ.calls {w : World} {a0 : List (List UInt8)} {a1 : List UInt8→Option Bool} {r : Bool} {v_a0 : Value} (f_a0 : Rd 1 y4 w v_a0 a0) {v_a1 : Value} (f_a1 : ∀ (x0 : List UInt8) (r : Bool),a1 x0 = some r→jR Tryz.prog w v_a1 [(S x0)] (.bool r)) (g_a1 : v_a1.cells = #[v_a1]) (h0 : a0.length≤4611686018427387904) (H : (YQ a1 a0) = some r) :
  Calls Tryz.prog 215 #[v_a0,v_a1] w (Rt (RP w (.bool r))):=vJ.walk f_a0 f_a1 g_a1 (vJ.eq a0 a1 h0 H)
/-! impl.all(string) -/
theorem QM.walk {w : World} {a0 : List (List UInt8)} {a1 : List UInt8→Option Bool} {v_a0 : Value} (f_a0 : Rd 1 y4 w v_a0 a0) {v_a1 : Value} (f_a1 : ∀ (x0 : List UInt8) (r : Bool),a1 x0 = some r→jR Tryz.prog w v_a1 [(S x0)] (.bool r)) (g_a1 : v_a1.cells = #[v_a1]) {r : Bool} (H : QM.sh a0 a1 = some r) :
  Calls Tryz.prog 167 #[v_a0,v_a1] w (Rt (RP w (.bool r))):=by
 unfold QM.sh at H
 refine qi Tryz.func167 rfl (Nat.le_of_ble_eq_true rfl) Tryz.ntmps167 rfl ?_
 refine wr<|Qq (.plain rfl) rfl (ltb rfl) rfl rfl<|fun b1 w2 z3 z4 e5 k6=>lp rfl (xa (.bool false) rfl)<|nx<|wr<|lp rfl (xm v_a0 rfl)<|lp rfl (VN (vs:=#[]) (us:=#[.pointer (some ⟨b1,0,none⟩)]) rfl rfl) ?_
 obtain ⟨c11,H⟩:=qa H
 obtain ⟨z12,x13,H⟩:=bind_some H
 refine lc rfl rfl Tryz.call215 (vJ.calls (w:=w2) (a0:=a0) (a1:=(fun (x0_ : List UInt8)=>((a1 x0_).map (!·)))) (Rd.ext f_a0 e5) (fun x0_ r h=>by exact jR.mk Tryz.call216 (by rfl) fun w9 k10=>jW.calls (w:=w9) (a0:=x0_) (a1:=a1) (fun x0 r h=>jR.ext (f_a1 x0 r h) (e5.t k10)) g_a1 (Blk.ext (Blk.cs k6 g_a1) k10) h) rfl (od c11) x13) rfl<|fun w14 e15=>lp rfl (yR rfl)<|lp rfl (xa (.bool (!z12)) rfl)<|nx<|qr<|qy ?_
 obtain rfl:=si H
 exact vt rfl (e5.t e15)
theorem QM.calls {w : World} {a0 : List (List UInt8)} {a1 : List UInt8→Option Bool} {r : Bool} {v_a0 : Value} (f_a0 : Rd 1 y4 w v_a0 a0) {v_a1 : Value} (f_a1 : ∀ (x0 : List UInt8) (r : Bool),a1 x0 = some r→jR Tryz.prog w v_a1 [(S x0)] (.bool r)) (g_a1 : v_a1.cells = #[v_a1]) (h0 : a0.length≤4611686018427387904) (H : (allO a1 a0) = some r) :
  Calls Tryz.prog 167 #[v_a0,v_a1] w (Rt (RP w (.bool r))):=QM.walk f_a0 f_a1 g_a1 (QM.eq a0 a1 h0 H)
/-! impl.PathOK -/
theorem Qb.calls {w : World} {a0 : List UInt8} (gv : GV 0 w) :
  Calls Tryz.prog 101 #[S a0] w (Rt (RP w (.bool (qC a0)))):=by
 have H:=Qb.eq a0
 generalize (qC a0) = r at H ⊢
 unfold Qb.sh at H
 refine qi Tryz.func101 rfl (Nat.le_of_ble_eq_true rfl) Tryz.ntmps101 rfl ?_
 refine wr<|lp rfl (xa (.bool false) rfl)<|nx<|wr<|lp rfl (xm (S a0) rfl)<|lp rfl (Vi Tryz.underlying9 rfl)<|lp rfl (ym rfl rfl)<|lp rfl (xm (.bool (decide ((a0.length : Int) < 36))) rfl) ?_
 obtain ⟨z2,x3,H⟩:=bind_some H
 refine yf 5 [(7,12)] 11 (fun q=>q = z2) ?_ ?_
 ·rcases qe x3 with ⟨b0_,H⟩ | ⟨b0_,H⟩
  ·refine lg rfl rfl rfl rfl (cb b0_) (xm (S a0) rfl) ?_
   obtain ⟨c2,H⟩:=qa H
   refine vp (tg rfl rfl rfl (cb b0_)) rfl (ltb rfl) rfl Tryz.call132 (yz.calls (w:=w) (a0:=a0) gv (od c2)) rfl<|fun v5 w3 e4 o6=>lg rfl rfl rfl rfl (cb b0_) (qS Tryz.underlying44 rfl (Ow.rd o6))<|lg rfl rfl rfl rfl (cb b0_) (JN rfl rfl)<|lp rfl (qq (b:=true) (v:=(.bool (decide (((cut 47 a0).length : Int)≤4)))) (cb b0_) rfl) ?_
   obtain rfl:=si H
   exact nx ⟨(ku1 (ku4 kz rfl) rfl),⟨_,rfl,rfl⟩,e4⟩
  ·refine ls rfl rfl rfl (cb b0_) rfl<|ls rfl rfl rfl (cb b0_) rfl<|ls rfl rfl rfl (cb b0_) rfl<|ls rfl rfl rfl (cb b0_) rfl<|lp rfl (qq (b:=false) (v:=(.bool false)) (cb b0_) rfl) ?_
   obtain rfl:=si H
   exact nx ⟨(ku1 (ku4 kz rfl) rfl),⟨_,rfl,rfl⟩,er⟩
 intro s8 w4 z9 K5 hq h6 e7
 rw [hq] at h6; clear hq
 refine lp rfl (qf h6) ?_
 obtain ⟨z11,x12,H⟩:=bind_some H
 refine yf 4 [(13,17)] 16 (fun q=>q = z11) ?_ ?_
 ·rcases qe x12 with ⟨b9_,H⟩ | ⟨b9_,H⟩
  ·refine lg rfl rfl rfl rfl (cb b9_) (xm (S a0) (K5 0 rfl)) ?_
   obtain ⟨c11,H⟩:=qa H
   refine vp (tg rfl rfl rfl (cb b9_)) rfl (ltb rfl) rfl Tryz.call132 (yz.calls (w:=w4) (a0:=a0) (GV.ext gv e7) (od c11)) rfl<|fun v14 w12 e13 o15=>?_
   obtain ⟨c20,H⟩:=qa H
   obtain ⟨z21,x22,H⟩:=bind_some H
   refine vL (tg rfl rfl rfl (cb b9_)) rfl (ltb rfl) rfl Tryz.call167 (QM.calls (w:=w12) (a0:=(cut 47 a0)) (a1:=(fun (x0_ : List UInt8)=>bif decide (x0_.length≤4611686018427387904) then (some (jh x0_)) else none)) (Ow.rd o15) (fun x0_ r h=>by obtain ⟨q0,h⟩:=qa h; have h:=si h; subst h; exact jR.mk Tryz.call168 (by rfl) fun w18 k19=>y0.calls (w:=w18) (a0:=x0_) (od q0)) rfl (od c20) x22) rfl<|fun w23 e24=>lp rfl (qq (b:=true) (v:=(.bool z21)) (cb b9_) rfl) ?_
   obtain rfl:=si H
   exact nx ⟨(ku4 kz rfl),⟨_,rfl,rfl⟩,(e13.t e24)⟩
  ·refine ls rfl rfl rfl (cb b9_) rfl<|ls rfl rfl rfl (cb b9_) rfl<|ls rfl rfl rfl (cb b9_) rfl<|lp rfl (qq (b:=false) (v:=(.bool false)) (cb b9_) rfl) ?_
   obtain rfl:=si H
   exact nx ⟨(ku4 kz rfl),⟨_,rfl,rfl⟩,er⟩
 intro s25 w13 z26 K14 hq h15 e16
 rw [hq] at h15; clear hq
 refine lp rfl (qA h15)<|nx<|qr<|qy ?_
 obtain rfl:=si H
 exact vt rfl (e7.t e16)
/-! impl.first -/
theorem yL.calls {w : World} {a0 : List (Bool ⊕ Int)} {v_a0 : Value} (f_a0 : Rd 1 (Vc 4 3) w v_a0 a0) (h0 : a0.length≤4611686018427387904) :
  Calls Tryz.prog 77 #[v_a0] w (Rt (RP w (.int .i64 (vY a0)))):=by
 obtain ⟨k,H⟩:=yL.eq a0 h0
 generalize (vY a0) = r at H ⊢
 unfold yL.sh at H
 refine qi Tryz.func77 rfl (Nat.le_of_ble_eq_true rfl) Tryz.ntmps77 rfl ?_
 refine wr<|lp rfl (xa (.int .i64 0) rfl)<|nx<|qk<|wr<|lp rfl (xa (.int .i64 0) rfl)<|nx ?_
 obtain ⟨z2,L3,C4⟩:=bind_some H
 clear H
 refine  vT (fun s0 sQ wQ=>Kp [(2,34)] s0 sQ∧Ext w wQ∧z2 = .inr ()) ?_ ?_
 ·refine qF<|vA (fun s0 kk sQ wQ=>∃ (x3_1 : Int),Kp [(2,34)] s0 sQ∧sQ 3 = .int .i64 x3_1∧Ext w wQ∧qt (yL.b1 a0) kk x3_1 = some z2) k ⟨0,kz,rfl,er,L3⟩ ?_
  rintro k9 s10 w11 ⟨x3_1,K12,h15,e13,L14⟩
  cases k9 with
  | zero=>exact absurd L14 (by simp [qt])
  | succ k9=>
   obtain ⟨t16,H,S17⟩:=qQ L14
   clear L14
   unfold yL.b1 at H
   refine qk<|wr<|lp rfl (qf h15)<|lp rfl (vz rfl rfl)<|lp rfl (xm v_a0 (K12 0 rfl))<|lp rfl (qS Tryz.underlying142 rfl (Rd.ext f_a0 e13))<|lp rfl (ym rfl rfl)<|nx ?_
   rcases qe H with ⟨q18,H⟩ | ⟨q18,H⟩
   ·refine ql (cb q18)<|qw<|qg<|qk<|qF<|wr<|lp rfl (xm v_a0 (K12 0 rfl))<|lp rfl (qf h15) ?_
    obtain ⟨c19,H⟩:=qa H
    refine vg (.plain rfl) rfl (ltb rfl) rfl Tryz.underlying142 Tryz.sizeOf20 rfl (Rd.ext f_a0 e13) rfl c19<|fun p20 h21=>lp rfl (y8 Tryz.isAgg20 rfl h21 rfl)<|lp rfl (X_taB Tryz.underlying4 Tryz.zeroValue4 (by decide) rfl)<|lp rfl (xm (.tuple #[(.bool (XA (gt a0 x3_1))),(.bool (isB (gt a0 x3_1)))]) rfl)<|lp rfl (ve (v:=(.bool (XA (gt a0 x3_1)))) rfl rfl)<|lp rfl (ve (v:=(.bool (isB (gt a0 x3_1)))) rfl rfl)<|lp rfl (xa (.bool (XA (gt a0 x3_1))) rfl)<|lp rfl (xa (.bool (isB (gt a0 x3_1))) rfl)<|nx<|wr<|lp rfl (xm (.bool (XA (gt a0 x3_1))) rfl)<|nx ?_
    rcases qe H with ⟨q22,H⟩ | ⟨q22,H⟩
    ·refine ql (cb q22)<|wr<|lp rfl (xm v_a0 (K12 0 rfl))<|lp rfl (qf h15)<|lp rfl (vz rfl rfl) ?_
     obtain ⟨c23,H⟩:=qa H
     refine vg (.plain rfl) rfl (ltb rfl) rfl Tryz.underlying142 Tryz.sizeOf20 rfl (Rd.ext f_a0 e13) rfl c23<|fun p24 h25=>lp rfl (y8 Tryz.isAgg20 rfl h25 rfl)<|lp rfl (X_taI Tryz.underlying3 Tryz.zeroValue3 (by decide) rfl)<|lp rfl (qf rfl)<|lp rfl (ve (v:=(.int .i64 (anyI (gt a0 (IntKind.wrap .i64 (x3_1 + 1)))))) rfl rfl)<|lp rfl (ve (v:=(.bool (!isB (gt a0 (IntKind.wrap .i64 (x3_1 + 1)))))) rfl rfl)<|lp rfl (xa (.int .i64 (anyI (gt a0 (IntKind.wrap .i64 (x3_1 + 1))))) rfl)<|lp rfl (xa (.bool (!isB (gt a0 (IntKind.wrap .i64 (x3_1 + 1))))) rfl)<|nx<|wr<|lp rfl (xm (.int .i64 (anyI (gt a0 (IntKind.wrap .i64 (x3_1 + 1))))) rfl)<|lp rfl (xa (.int .i64 (anyI (gt a0 (IntKind.wrap .i64 (x3_1 + 1))))) rfl)<|nx<|qr<|vc<|qv<|qv<|vc<|qv<|qv<|qy ?_
     obtain rfl:=si H
     obtain rfl:=si S17
     have H:=C4
     obtain rfl:=si H
     exact vt rfl e13
    ·refine qh (cb q22)<|qw<|vK<|qg<|qO<|lp rfl (qf h15)<|lp rfl (vz rfl rfl)<|lp rfl (xa (.int .i64 (IntKind.wrap .i64 (x3_1 + 2))) rfl)<|nx ?_
     obtain rfl:=si H
     exact ⟨_,Nat.lt_succ_self _,IntKind.wrap .i64 (x3_1 + 2),(ku3 (ku8 (ku8 K12 rfl) rfl) rfl),rfl,e13,S17⟩
   ·refine qh (cb q18)<|yc<|vm<|vm<|yV<|qg ?_
    obtain rfl:=si H
    obtain rfl:=si S17
    exact ⟨(ku1 (ku4 K12 rfl) rfl),e13,rfl⟩
 ·rintro s6 w5 ⟨K7,e8,y26⟩
  rw [y26] at C4
  have H:=C4
  replace H : _ = some _:=H
  refine qg<|wr<|lp rfl (xa (.int .i64 0) rfl)<|nx<|qr<|qy ?_
  obtain rfl:=si H
  exact vt rfl e8
/-! spec.l01OK -/
theorem jd.calls {w : World} {a0 : List UInt8} :
  Calls Tryz.prog 97 #[S a0] w (Rt (RP w (.bool (qC a0)))):=by
 obtain ⟨k,H⟩:=jd.eq a0
 generalize (qC a0) = r at H ⊢
 unfold jd.sh at H
 refine qi Tryz.func97 rfl (Nat.le_of_ble_eq_true rfl) Tryz.ntmps97 rfl ?_
 refine wr<|lp rfl (xa (.bool false) rfl)<|nx<|qk<|wr<|lp rfl (xm (S a0) rfl)<|lp rfl (Vi Tryz.underlying9 rfl)<|lp rfl (j8 rfl rfl)<|nx ?_
 rcases qe H with ⟨q1,H⟩ | ⟨q1,H⟩
 ·refine ql (cb q1)<|wr<|lp rfl (xa (.bool false) rfl)<|nx<|qr<|qv<|qy ?_
  obtain rfl:=si H
  exact vt rfl er
 ·refine qh (cb q1)<|qw<|qg<|wr<|lp rfl (xm (S a0) rfl) ?_
  obtain ⟨c2,H⟩:=qa H
  refine vp (.plain rfl) rfl (ltb rfl) rfl Tryz.call135 (yJ.calls (w:=w) (a0:=a0) (a1:=47) (od c2)) rfl<|fun v5 w3 e4 o6=>lp rfl (xa v5 rfl)<|nx<|qk<|wr<|lp rfl (xm v5 rfl)<|lp rfl (qS Tryz.underlying44 rfl (Ow.rd o6))<|lp rfl (j8 rfl rfl)<|nx ?_
  rcases qe H with ⟨q7,H⟩ | ⟨q7,H⟩
  ·refine ql (cb q7)<|wr<|lp rfl (xa (.bool false) rfl)<|nx<|qr<|qv<|qy ?_
   obtain rfl:=si H
   exact vt rfl e4
  ·refine qh (cb q7)<|qw<|qg<|qk<|wr<|lp rfl (xa (.int .i64 0) rfl)<|nx ?_
   obtain ⟨z9,L10,C11⟩:=bind_some H
   clear H
   refine  vT (fun s0 sQ wQ=>Kp [(2,3),(4,5),(13,25)] s0 sQ∧Ext w3 wQ∧z9 = .inr ()) ?_ ?_
   ·refine qF<|vA (fun s0 kk sQ wQ=>∃ (x4_8 : Int),Kp [(2,3),(4,5),(13,25)] s0 sQ∧sQ 4 = .int .i64 x4_8∧Ext w3 wQ∧qt (jd.b1 a0) kk x4_8 = some z9) k ⟨0,kz,rfl,er,L10⟩ ?_
    rintro k16 s17 w18 ⟨x4_8,K19,h22,e20,L21⟩
    cases k16 with
    | zero=>exact absurd L21 (by simp [qt])
    | succ k16=>
     obtain ⟨t23,H,S24⟩:=qQ L21
     clear L21
     unfold jd.b1 at H
     refine qk<|wr<|lp rfl (qf h22)<|lp rfl (xm v5 (K19 3 rfl))<|lp rfl (qS Tryz.underlying44 rfl (Ow.rd (Ow.ext o6 e20)))<|lp rfl (ym rfl rfl)<|nx ?_
     rcases qe H with ⟨q25,H⟩ | ⟨q25,H⟩
     ·refine ql (cb q25)<|qw<|qg<|qk<|qF<|wr<|lp rfl (xm v5 (K19 3 rfl))<|lp rfl (qf h22) ?_
      obtain ⟨c26,H⟩:=qa H
      refine vg (.plain rfl) rfl (ltb rfl) rfl Tryz.underlying44 Tryz.sizeOf9 rfl (Ow.rd (Ow.ext o6 e20)) rfl c26<|fun p27 h28=>lp rfl (y8 Tryz.isAgg9 rfl h28 rfl)<|lc rfl rfl Tryz.call161 (yN.calls (w:=w18) (a0:=gt (cut 47 a0) x4_8)) rfl<|fun w29 e30=>lp rfl (yR rfl)<|nx ?_
      rcases qe H with ⟨q31,H⟩ | ⟨q31,H⟩
      ·refine ql (cb q31)<|wr<|lp rfl (xa (.bool false) rfl)<|nx<|qr<|vc<|qv<|qv<|vc<|qv<|qv<|qy ?_
       obtain rfl:=si H
       obtain rfl:=si S24
       have H:=C11
       obtain rfl:=si H
       exact vt rfl ((e4.t e20).t e30)
      ·refine qh (cb q31)<|qw<|vK<|qg<|qO<|lp rfl (qf h22)<|lp rfl (vz rfl rfl)<|lp rfl (xa (.int .i64 (IntKind.wrap .i64 (x4_8 + 1))) rfl)<|nx ?_
       obtain rfl:=si H
       exact ⟨_,Nat.lt_succ_self _,IntKind.wrap .i64 (x4_8 + 1),(ku1 (ku4 (ku8 K19 rfl) rfl) rfl),rfl,(e20.t e30),S24⟩
     ·refine qh (cb q25)<|yc<|vm<|vm<|yV<|qg ?_
      obtain rfl:=si H
      obtain rfl:=si S24
      exact ⟨(ku4 K19 rfl),e20,rfl⟩
   ·rintro s13 w12 ⟨K14,e15,y32⟩
    rw [y32] at C11
    have H:=C11
    replace H : _ = some _:=H
    refine qg<|wr<|lp rfl (xa (.bool true) rfl)<|nx<|qr<|qy ?_
    obtain rfl:=si H
    exact vt rfl (e4.t e15)
/-! spec.l02Fault -/
theorem jX.calls {w : World} {a0 : Rec} :
  Calls Tryz.prog 194 #[.agg (qj a0).toArray] w (Rt (RP w (.int .i64 (qx a0)))):=by
 have H:=jX.eq a0
 generalize (qx a0) = r at H ⊢
 unfold jX.sh at H
 refine qi Tryz.func194 rfl (Nat.le_of_ble_eq_true rfl) Tryz.ntmps194 rfl ?_
 refine wr<|Qq (.plain rfl) rfl (ltb rfl) rfl rfl<|fun b1 w2 z3 z4 e5 k6=>lp rfl (xa (.int .i64 0) rfl)<|nx<|wr<|lp rfl (qc Tryz.underlying52 rfl Tryz.sizeOf3 rfl rfl)<|lp rfl (qz Tryz.isAgg3 k6 rfl rfl)<|lp rfl (vx rfl rfl)<|lp rfl (xa (.bool (decide (a0.kind = 3))) rfl)<|nx<|qk<|qF<|wr<|lp rfl (qc Tryz.underlying52 rfl Tryz.sizeOf3 rfl rfl)<|lp rfl (qz Tryz.isAgg3 k6 rfl rfl)<|lc rfl rfl Tryz.call61 (QV.calls (w:=w2) (a0:=a0.kind) (a1:=1) (a2:=4)) rfl<|fun w7 e8=>lp rfl (yR rfl)<|lp rfl (xa (.bool (!(within a0.kind 1 4))) rfl)<|nx ?_
 rcases qe H with ⟨q9,H⟩ | ⟨q9,H⟩
 ·refine ql (cb q9)<|wr<|lp rfl (xa (.int .i64 9) rfl)<|nx<|qr<|vc<|qv<|qy ?_
  obtain rfl:=si H
  exact vt rfl (e5.t e8)
 ·refine qh (cb q9)<|wr<|lp rfl (qc Tryz.underlying52 rfl Tryz.sizeOf9 rfl rfl)<|lp rfl (qz Tryz.isAgg9 (Blk.ext k6 e8) rfl rfl)<|lc rfl rfl Tryz.call97 (jd.calls (w:=w7) (a0:=a0.path)) rfl<|fun w10 e11=>lp rfl (yR rfl)<|lp rfl (xa (.bool (!(qC a0.path))) rfl)<|nx ?_
  rcases qe H with ⟨q12,H⟩ | ⟨q12,H⟩
  ·refine ql (cb q12)<|wr<|lp rfl (xa (.int .i64 10) rfl)<|nx<|qr<|vc<|qv<|qy ?_
   obtain rfl:=si H
   exact vt rfl ((e5.t e8).t e11)
  ·refine qh (cb q12)<|wr<|lp rfl (qc Tryz.underlying52 rfl Tryz.sizeOf9 rfl rfl)<|lp rfl (qz Tryz.isAgg9 (Blk.ext k6 (e8.t e11)) rfl rfl)<|lp rfl (Vi Tryz.underlying9 rfl)<|lp rfl (j8 rfl rfl)<|lp rfl (xm (.bool (decide (20 < (a0.body.length : Int)))) rfl)<|jj 9 [(23,32)] 31 (.bool ((decide (20 < (a0.body.length : Int))) || ((decide (a0.kind = 2)) && (decide (a0.body = ([] : List UInt8)))))) ?_ ?_
   ·rcases qo (decide (20 < (a0.body.length : Int))) with b12_ | b12_
    ·exact ls rfl rfl rfl (cb b12_) rfl<|ls rfl rfl rfl (cb b12_) rfl<|ls rfl rfl rfl (cb b12_) rfl<|ls rfl rfl rfl (cb b12_) rfl<|lu rfl rfl rfl rfl rfl<|lu rfl rfl rfl rfl rfl<|lu rfl rfl rfl rfl rfl<|ls rfl rfl rfl (cb b12_) rfl<|lp rfl (qq (b:=true) (v:=(.bool true)) (cb b12_) rfl)<|nx ⟨(ku1 (ku8 kz rfl) rfl),(J6 b12_),er⟩
    ·refine lg rfl rfl rfl rfl (cb b12_) (qc Tryz.underlying52 rfl Tryz.sizeOf3 rfl rfl)<|lg rfl rfl rfl rfl (cb b12_) (qz Tryz.isAgg3 (Blk.ext k6 (e8.t e11)) rfl rfl)<|lg rfl rfl rfl rfl (cb b12_) (vx rfl rfl)<|lg rfl rfl rfl rfl (cb b12_) (xm (.bool (decide (a0.kind = 2))) rfl)<|jj 4 [(27,31)] 30 (.bool ((decide (a0.kind = 2)) && (decide (a0.body = ([] : List UInt8))))) ?_ ?_
     ·rcases qo (decide (a0.kind = 2)) with b13_ | b13_
      ·exact lg rfl rfl rfl rfl (cb b13_) (qc Tryz.underlying52 rfl Tryz.sizeOf9 rfl rfl)<|lg rfl rfl rfl rfl (cb b13_) (qz Tryz.isAgg9 (Blk.ext k6 (e8.t e11)) rfl rfl)<|lg rfl rfl rfl rfl (cb b13_) (Vv rfl rfl)<|lg rfl rfl rfl rfl (cb b12_) (qq (b:=true) (v:=(.bool (decide (a0.body = ([] : List UInt8))))) (cb b13_) rfl)<|nx ⟨(ku4 kz rfl),(QP b13_),er⟩
      ·exact ls rfl rfl rfl (cb b13_) rfl<|ls rfl rfl rfl (cb b13_) rfl<|ls rfl rfl rfl (cb b13_) rfl<|lg rfl rfl rfl rfl (cb b12_) (qq (b:=false) (v:=(.bool false)) (cb b13_) rfl)<|nx ⟨(ku4 kz rfl),(QQ b13_),er⟩
     intro s19 w15 K16 h17 e18
     exact lp rfl (qq (b:=false) (v:=(.bool ((decide (a0.kind = 2)) && (decide (a0.body = ([] : List UInt8)))))) ((K16 22 rfl).trans (cb b12_)) h17)<|nx ⟨(ku1 (Kp.cut (ku4 kz rfl) K16 rfl) rfl),(J7 b12_),e18⟩
   intro s20 w14 K15 h16 e17
   refine lp rfl (qA h16)<|nx ?_
   rcases qe H with ⟨q21,H⟩ | ⟨q21,H⟩
   ·refine ql (cb q21)<|wr<|lp rfl (xa (.int .i64 8) rfl)<|nx<|qr<|vc<|qv<|qy ?_
    obtain rfl:=si H
    exact vt rfl (((e5.t e8).t e11).t e17)
   ·refine qh (cb q21)<|wr<|lp rfl (qc Tryz.underlying52 rfl Tryz.sizeOf9 rfl (K15 1 rfl))<|lp rfl (qz Tryz.isAgg9 (Blk.ext k6 ((e8.t e11).t e17)) rfl rfl)<|lp rfl (VL rfl rfl)<|lp rfl (xm (.bool (!decide (a0.body = ([] : List UInt8)))) rfl)<|jj 7 [(37,44)] 43 (.bool ((!decide (a0.body = ([] : List UInt8))) && ((decide (a0.kind = 3)) || (decide (a0.kind = 4))))) ?_ ?_
    ·rcases qo (!decide (a0.body = ([] : List UInt8))) with b21_ | b21_
     ·refine lg rfl rfl rfl rfl (cb b21_) (xm (.bool (decide (a0.kind = 3))) (K15 3 rfl))<|lg rfl rfl rfl rfl (cb b21_) (xm (.bool (decide (a0.kind = 3))) rfl)<|jj 4 [(39,43)] 42 (.bool ((decide (a0.kind = 3)) || (decide (a0.kind = 4)))) ?_ ?_
      ·rcases qo (decide (a0.kind = 3)) with b22_ | b22_
       ·exact ls rfl rfl rfl (cb b22_) rfl<|ls rfl rfl rfl (cb b22_) rfl<|ls rfl rfl rfl (cb b22_) rfl<|lg rfl rfl rfl rfl (cb b21_) (qq (b:=true) (v:=(.bool true)) (cb b22_) rfl)<|nx ⟨(ku4 kz rfl),(J6 b22_),er⟩
       ·exact lg rfl rfl rfl rfl (cb b22_) (qc Tryz.underlying52 rfl Tryz.sizeOf3 rfl (K15 1 rfl))<|lg rfl rfl rfl rfl (cb b22_) (qz Tryz.isAgg3 (Blk.ext k6 ((e8.t e11).t e17)) rfl rfl)<|lg rfl rfl rfl rfl (cb b22_) (vx rfl rfl)<|lg rfl rfl rfl rfl (cb b21_) (qq (b:=false) (v:=(.bool (decide (a0.kind = 4)))) (cb b22_) rfl)<|nx ⟨(ku4 kz rfl),(J7 b22_),er⟩
      intro s28 w24 K25 h26 e27
      exact lp rfl (qq (b:=true) (v:=(.bool ((decide (a0.kind = 3)) || (decide (a0.kind = 4))))) ((K25 36 rfl).trans (cb b21_)) h26)<|nx ⟨(ku1 (Kp.cut (ku2 kz rfl) K25 rfl) rfl),(QP b21_),e27⟩
     ·exact ls rfl rfl rfl (cb b21_) rfl<|ls rfl rfl rfl (cb b21_) rfl<|lu rfl rfl rfl rfl rfl<|lu rfl rfl rfl rfl rfl<|lu rfl rfl rfl rfl rfl<|ls rfl rfl rfl (cb b21_) rfl<|lp rfl (qq (b:=false) (v:=(.bool false)) (cb b21_) rfl)<|nx ⟨(ku3 (ku4 kz rfl) rfl),(QQ b21_),er⟩
    intro s29 w23 K24 h25 e26
    refine lp rfl (qf h25)<|jj 7 [(45,52)] 51 (.bool (((!decide (a0.body = ([] : List UInt8))) && ((decide (a0.kind = 3)) || (decide (a0.kind = 4)))) || (a0.opq && (!(decide (a0.kind = 3)))))) ?_ ?_
    ·rcases qo ((!decide (a0.body = ([] : List UInt8))) && ((decide (a0.kind = 3)) || (decide (a0.kind = 4)))) with b29_ | b29_
     ·exact ls rfl rfl rfl (cb b29_) rfl<|ls rfl rfl rfl (cb b29_) rfl<|ls rfl rfl rfl (cb b29_) rfl<|lu rfl rfl rfl rfl rfl<|lu rfl rfl rfl rfl rfl<|ls rfl rfl rfl (cb b29_) rfl<|lp rfl (qq (b:=true) (v:=(.bool true)) (cb b29_) rfl)<|nx ⟨(ku3 (ku4 kz rfl) rfl),(J6 b29_),er⟩
     ·refine lg rfl rfl rfl rfl (cb b29_) (qc Tryz.underlying52 rfl Tryz.sizeOf4 rfl ((K24 1 rfl).trans (K15 1 rfl)))<|lg rfl rfl rfl rfl (cb b29_) (qz Tryz.isAgg4 (Blk.ext k6 (((e8.t e11).t e17).t e26)) rfl rfl)<|lg rfl rfl rfl rfl (cb b29_) (xm (.bool a0.opq) rfl)<|jj 3 [(48,51)] 50 (.bool (a0.opq && (!(decide (a0.kind = 3))))) ?_ ?_
      ·rcases qo a0.opq with b30_ | b30_
       ·exact lg rfl rfl rfl rfl (cb b30_) (xm (.bool (decide (a0.kind = 3))) ((K24 3 rfl).trans (K15 3 rfl)))<|lg rfl rfl rfl rfl (cb b30_) (yR rfl)<|lg rfl rfl rfl rfl (cb b29_) (qq (b:=true) (v:=(.bool (!(decide (a0.kind = 3))))) (cb b30_) rfl)<|nx ⟨(ku3 kz rfl),(QP b30_),er⟩
       ·exact ls rfl rfl rfl (cb b30_) rfl<|ls rfl rfl rfl (cb b30_) rfl<|lg rfl rfl rfl rfl (cb b29_) (qq (b:=false) (v:=(.bool false)) (cb b30_) rfl)<|nx ⟨(ku3 kz rfl),(QQ b30_),er⟩
      intro s36 w32 K33 h34 e35
      exact lp rfl (qq (b:=false) (v:=(.bool (a0.opq && (!(decide (a0.kind = 3)))))) ((K33 44 rfl).trans (cb b29_)) h34)<|nx ⟨(ku1 (Kp.cut (ku3 kz rfl) K33 rfl) rfl),(J7 b29_),e35⟩
    intro s37 w31 K32 h33 e34
    refine lp rfl (qA h33)<|nx ?_
    rcases qe H with ⟨q38,H⟩ | ⟨q38,H⟩
    ·refine ql (cb q38)<|wr<|lp rfl (xa (.int .i64 3) rfl)<|nx<|qr<|vc<|qv<|qy ?_
     obtain rfl:=si H
     exact vt rfl (((((e5.t e8).t e11).t e17).t e26).t e34)
    ·refine qh (cb q38)<|wr<|lp rfl (qc Tryz.underlying52 rfl Tryz.sizeOf3 rfl ((K32 1 rfl).trans ((K24 1 rfl).trans (K15 1 rfl))))<|lp rfl (qz Tryz.isAgg3 (Blk.ext k6 ((((e8.t e11).t e17).t e26).t e34)) rfl rfl)<|lc rfl rfl Tryz.call61 (QV.calls (w:=w31) (a0:=a0.mode) (a1:=0) (a2:=511)) rfl<|fun w39 e40=>lp rfl (yR rfl)<|lp rfl (xm (.bool (!(within a0.mode 0 511))) rfl)<|jj 14 [(58,72)] 71 (.bool ((!(within a0.mode 0 511)) || ((!decide (a0.mode = 0)) && ((decide (a0.kind = 4)) || (decide (a0.kind = 2)))))) ?_ ?_
     ·rcases qo (!(within a0.mode 0 511)) with b40_ | b40_
      ·exact ls rfl rfl rfl (cb b40_) rfl<|ls rfl rfl rfl (cb b40_) rfl<|ls rfl rfl rfl (cb b40_) rfl<|ls rfl rfl rfl (cb b40_) rfl<|lu rfl rfl rfl rfl rfl<|lu rfl rfl rfl rfl rfl<|lu rfl rfl rfl rfl rfl<|lu rfl rfl rfl rfl rfl<|lu rfl rfl rfl rfl rfl<|lu rfl rfl rfl rfl rfl<|lu rfl rfl rfl rfl rfl<|lu rfl rfl rfl rfl rfl<|ls rfl rfl rfl (cb b40_) rfl<|lp rfl (qq (b:=true) (v:=(.bool true)) (cb b40_) rfl)<|nx ⟨(ku2 (ku4 (ku8 kz rfl) rfl) rfl),(J6 b40_),er⟩
      ·refine lg rfl rfl rfl rfl (cb b40_) (qc Tryz.underlying52 rfl Tryz.sizeOf3 rfl ((K32 1 rfl).trans ((K24 1 rfl).trans (K15 1 rfl))))<|lg rfl rfl rfl rfl (cb b40_) (qz Tryz.isAgg3 (Blk.ext k6 (((((e8.t e11).t e17).t e26).t e34).t e40)) rfl rfl)<|lg rfl rfl rfl rfl (cb b40_) (QJ rfl rfl)<|lg rfl rfl rfl rfl (cb b40_) (xm (.bool (!decide (a0.mode = 0))) rfl)<|jj 9 [(62,71)] 70 (.bool ((!decide (a0.mode = 0)) && ((decide (a0.kind = 4)) || (decide (a0.kind = 2))))) ?_ ?_
       ·rcases qo (!decide (a0.mode = 0)) with b41_ | b41_
        ·refine lg rfl rfl rfl rfl (cb b41_) (qc Tryz.underlying52 rfl Tryz.sizeOf3 rfl ((K32 1 rfl).trans ((K24 1 rfl).trans (K15 1 rfl))))<|lg rfl rfl rfl rfl (cb b41_) (qz Tryz.isAgg3 (Blk.ext k6 (((((e8.t e11).t e17).t e26).t e34).t e40)) rfl rfl)<|lg rfl rfl rfl rfl (cb b41_) (vx rfl rfl)<|lg rfl rfl rfl rfl (cb b41_) (xm (.bool (decide (a0.kind = 4))) rfl)<|jj 4 [(66,70)] 69 (.bool ((decide (a0.kind = 4)) || (decide (a0.kind = 2)))) ?_ ?_
         ·rcases qo (decide (a0.kind = 4)) with b42_ | b42_
          ·exact ls rfl rfl rfl (cb b42_) rfl<|ls rfl rfl rfl (cb b42_) rfl<|ls rfl rfl rfl (cb b42_) rfl<|lg rfl rfl rfl rfl (cb b41_) (qq (b:=true) (v:=(.bool true)) (cb b42_) rfl)<|nx ⟨(ku4 kz rfl),(J6 b42_),er⟩
          ·exact lg rfl rfl rfl rfl (cb b42_) (qc Tryz.underlying52 rfl Tryz.sizeOf3 rfl ((K32 1 rfl).trans ((K24 1 rfl).trans (K15 1 rfl))))<|lg rfl rfl rfl rfl (cb b42_) (qz Tryz.isAgg3 (Blk.ext k6 (((((e8.t e11).t e17).t e26).t e34).t e40)) rfl rfl)<|lg rfl rfl rfl rfl (cb b42_) (vx rfl rfl)<|lg rfl rfl rfl rfl (cb b41_) (qq (b:=false) (v:=(.bool (decide (a0.kind = 2)))) (cb b42_) rfl)<|nx ⟨(ku4 kz rfl),(J7 b42_),er⟩
         intro s48 w44 K45 h46 e47
         exact lg rfl rfl rfl rfl ((K45 57 rfl).trans (cb b40_)) (qq (b:=true) (v:=(.bool ((decide (a0.kind = 4)) || (decide (a0.kind = 2))))) ((K45 61 rfl).trans (cb b41_)) h46)<|nx ⟨(ku1 (Kp.cut (ku4 kz rfl) K45 rfl) rfl),(QP b41_),e47⟩
        ·exact ls rfl rfl rfl (cb b41_) rfl<|ls rfl rfl rfl (cb b41_) rfl<|ls rfl rfl rfl (cb b41_) rfl<|ls rfl rfl rfl (cb b41_) rfl<|lu rfl rfl rfl rfl rfl<|lu rfl rfl rfl rfl rfl<|lu rfl rfl rfl rfl rfl<|ls rfl rfl rfl (cb b41_) rfl<|lg rfl rfl rfl rfl (cb b40_) (qq (b:=false) (v:=(.bool false)) (cb b41_) rfl)<|nx ⟨(ku1 (ku8 kz rfl) rfl),(QQ b41_),er⟩
       intro s49 w43 K44 h45 e46
       exact lp rfl (qq (b:=false) (v:=(.bool ((!decide (a0.mode = 0)) && ((decide (a0.kind = 4)) || (decide (a0.kind = 2)))))) ((K44 57 rfl).trans (cb b40_)) h45)<|nx ⟨(ku1 (Kp.cut (ku4 kz rfl) K44 rfl) rfl),(J7 b40_),e46⟩
     intro s50 w42 K43 h44 e45
     refine lp rfl (qA h44)<|nx ?_
     rcases qe H with ⟨q51,H⟩ | ⟨q51,H⟩
     ·refine ql (cb q51)<|wr<|lp rfl (xa (.int .i64 4) rfl)<|nx<|qr<|vc<|qv<|qy ?_
      obtain rfl:=si H
      exact vt rfl (((((((e5.t e8).t e11).t e17).t e26).t e34).t e40).t e45)
     ·refine qh (cb q51)<|qw<|vK<|qg<|wr<|lp rfl (xa (.int .i64 0) rfl)<|nx<|qr<|qy ?_
      obtain rfl:=si H
      exact vt rfl (((((((e5.t e8).t e11).t e17).t e26).t e34).t e40).t e45)
/-! spec.l02OK -/
theorem VY.calls {w : World} {a0 : Rec} :
  Calls Tryz.prog 151 #[.agg (qj a0).toArray] w (Rt (RP w (.bool (decide (qx a0 = 0))))):=by
 have H:=VY.eq a0
 generalize (decide (qx a0 = 0)) = r at H ⊢
 unfold VY.sh at H
 refine qi Tryz.func151 rfl (Nat.le_of_ble_eq_true rfl) Tryz.ntmps151 rfl ?_
 refine wr<|Qq (.plain rfl) rfl (ltb rfl) rfl rfl<|fun b1 w2 z3 z4 e5 k6=>lp rfl (xa (.bool false) rfl)<|nx<|wr<|lp rfl (qW Tryz.isAgg52 Tryz.sizeOf52 rfl rfl (Blk.at0 k6))<|lc rfl rfl Tryz.call194 (jX.calls (w:=w2) (a0:=a0)) rfl<|fun w7 e8=>lp rfl (vx rfl rfl)<|lp rfl (xa (.bool (decide ((qx a0) = 0))) rfl)<|nx<|qr<|qy ?_
 obtain rfl:=si H
 exact vt rfl (e5.t e8)
/-! impl.RecordFault -/
abbrev qu.e1 (a0 : Rec):=([.inl (!(within a0.kind 1 4)),.inr 9,.inl (!(qC a0.path)),.inr 10,.inl ((decide (20 < (a0.body.length : Int))) || ((decide (a0.kind = 2)) && (decide (a0.body = ([] : List UInt8))))),.inr 8,.inl ((((decide (a0.kind = 3)) || (decide (a0.kind = 4))) && (!decide (a0.body = ([] : List UInt8)))) || ((!decide (a0.kind = 3)) && a0.opq)),.inr 3,.inl ((!(within a0.mode 0 511)) || (((decide (a0.kind = 2)) || (decide (a0.kind = 4))) && (!decide (a0.mode = 0)))),.inr 4] : List (Bool ⊕ Int))
abbrev qu.e2 (a0 : Rec):=(((decide (a0.kind = 3)) || (decide (a0.kind = 4))) && (!decide (a0.body = ([] : List UInt8))))
abbrev qu.e3 (a0 : Rec):=((decide (a0.kind = 2)) || (decide (a0.kind = 4)))
abbrev qu.e4 (a0 : Rec):=((decide (20 < (a0.body.length : Int))) || ((decide (a0.kind = 2)) && (decide (a0.body = ([] : List UInt8)))))
theorem qu.walk {w : World} {a0 : Rec} (gv : GV 0 w) {r : Int} (H : qu.sh a0 = some r) :
  Calls Tryz.prog 211 #[.agg (qj a0).toArray] w (Rt (RP w (.int .i64 r))):=by
 unfold qu.sh at H
 refine qi Tryz.func211 rfl (Nat.le_of_ble_eq_true rfl) Tryz.ntmps211 rfl ?_
 refine wr<|Qq (.plain rfl) rfl (ltb rfl) rfl rfl<|fun b1 w2 z3 z4 e5 k6=>lp rfl (xa (.int .i64 0) rfl)<|nx<|wr<|lp rfl (qc Tryz.underlying52 rfl Tryz.sizeOf3 rfl rfl)<|lp rfl (qz Tryz.isAgg3 k6 rfl rfl)<|lp rfl (vx rfl rfl)<|lp rfl (xm (.bool (decide (a0.kind = 3))) rfl)<|jj 4 [(8,12)] 11 (.bool ((decide (a0.kind = 3)) || (decide (a0.kind = 4)))) ?_ ?_
 ·rcases qo (decide (a0.kind = 3)) with b6_ | b6_
  ·exact ls rfl rfl rfl (cb b6_) rfl<|ls rfl rfl rfl (cb b6_) rfl<|ls rfl rfl rfl (cb b6_) rfl<|lp rfl (qq (b:=true) (v:=(.bool true)) (cb b6_) rfl)<|nx ⟨(ku4 kz rfl),(J6 b6_),er⟩
  ·exact lg rfl rfl rfl rfl (cb b6_) (qc Tryz.underlying52 rfl Tryz.sizeOf3 rfl rfl)<|lg rfl rfl rfl rfl (cb b6_) (qz Tryz.isAgg3 k6 rfl rfl)<|lg rfl rfl rfl rfl (cb b6_) (vx rfl rfl)<|lp rfl (qq (b:=false) (v:=(.bool (decide (a0.kind = 4)))) (cb b6_) rfl)<|nx ⟨(ku4 kz rfl),(J7 b6_),er⟩
 intro s12 w8 K9 h10 e11
 refine lp rfl (qA h10)<|nx<|qk ?_
 obtain ⟨c25,H⟩:=qa H
 refine Yi [LEq (.pointer (some ⟨b1,0,none⟩)),LEq (.int .i64 a0.kind),LEq (.bool (within a0.kind 1 4)),LEq (.bool (!(within a0.kind 1 4))),LEq (.iface 4 (.bool (!(within a0.kind 1 4)))),LEq (.iface 3 (.int .i64 9)),LEq (.pointer (some ⟨b1,1,none⟩)),LEq (S a0.path),LEq (.bool (qC a0.path)),LEq (.bool (!(qC a0.path))),LEq (.iface 4 (.bool (!(qC a0.path)))),LEq (.iface 3 (.int .i64 10)),LEq (.pointer (some ⟨b1,2,none⟩)),LEq (S a0.body),LEq (.int .i64 (a0.body.length : Int)),LEq (.bool (decide (20 < (a0.body.length : Int)))),LEq (.bool (decide (20 < (a0.body.length : Int)))),LIf (!(decide (20 < (a0.body.length : Int)))) (LEq (.pointer (some ⟨b1,0,none⟩))),LIf (!(decide (20 < (a0.body.length : Int)))) (LEq (.int .i64 a0.kind)),LIf (!(decide (20 < (a0.body.length : Int)))) (LEq (.bool (decide (a0.kind = 2)))),LIf (!(decide (20 < (a0.body.length : Int)))) (LEq (.bool (decide (a0.kind = 2)))),LIf ((!(decide (20 < (a0.body.length : Int)))) && (decide (a0.kind = 2))) (LEq (.pointer (some ⟨b1,2,none⟩))),LIf ((!(decide (20 < (a0.body.length : Int)))) && (decide (a0.kind = 2))) (LEq (S a0.body)),LIf ((!(decide (20 < (a0.body.length : Int)))) && (decide (a0.kind = 2))) (LEq (.bool (decide (a0.body = ([] : List UInt8))))),LIf (!(decide (20 < (a0.body.length : Int)))) (LEq (.bool ((decide (a0.kind = 2)) && (decide (a0.body = ([] : List UInt8)))))),LEq (.bool (qu.e4 a0)),LEq (.iface 4 (.bool (qu.e4 a0))),LEq (.iface 3 (.int .i64 8)),LEq (.bool ((decide (a0.kind = 3)) || (decide (a0.kind = 4)))),LEq (.bool ((decide (a0.kind = 3)) || (decide (a0.kind = 4)))),LIf ((decide (a0.kind = 3)) || (decide (a0.kind = 4))) (LEq (.pointer (some ⟨b1,2,none⟩))),LIf ((decide (a0.kind = 3)) || (decide (a0.kind = 4))) (LEq (S a0.body)),LIf ((decide (a0.kind = 3)) || (decide (a0.kind = 4))) (LEq (.bool (!decide (a0.body = ([] : List UInt8))))),LEq (.bool (qu.e2 a0)),LEq (.bool (qu.e2 a0)),LIf (!(qu.e2 a0)) (LEq (.pointer (some ⟨b1,0,none⟩))),LIf (!(qu.e2 a0)) (LEq (.int .i64 a0.kind)),LIf (!(qu.e2 a0)) (LEq (.bool (!decide (a0.kind = 3)))),LIf (!(qu.e2 a0)) (LEq (.bool (!decide (a0.kind = 3)))),LIf ((!(qu.e2 a0)) && (!decide (a0.kind = 3))) (LEq (.pointer (some ⟨b1,4,none⟩))),LIf ((!(qu.e2 a0)) && (!decide (a0.kind = 3))) (LEq (.bool a0.opq)),LIf (!(qu.e2 a0)) (LEq (.bool ((!decide (a0.kind = 3)) && a0.opq))),LEq (.bool ((qu.e2 a0) || ((!decide (a0.kind = 3)) && a0.opq))),LEq (.iface 4 (.bool ((qu.e2 a0) || ((!decide (a0.kind = 3)) && a0.opq)))),LEq (.iface 3 (.int .i64 3)),LEq (.pointer (some ⟨b1,3,none⟩)),LEq (.int .i64 a0.mode),LEq (.bool (within a0.mode 0 511)),LEq (.bool (!(within a0.mode 0 511))),LEq (.bool (!(within a0.mode 0 511))),LIf (!(!(within a0.mode 0 511))) (LEq (.pointer (some ⟨b1,0,none⟩))),LIf (!(!(within a0.mode 0 511))) (LEq (.int .i64 a0.kind)),LIf (!(!(within a0.mode 0 511))) (LEq (.bool (decide (a0.kind = 2)))),LIf (!(!(within a0.mode 0 511))) (LEq (.bool (decide (a0.kind = 2)))),LIf ((!(!(within a0.mode 0 511))) && (!(decide (a0.kind = 2)))) (LEq (.pointer (some ⟨b1,0,none⟩))),LIf ((!(!(within a0.mode 0 511))) && (!(decide (a0.kind = 2)))) (LEq (.int .i64 a0.kind)),LIf ((!(!(within a0.mode 0 511))) && (!(decide (a0.kind = 2)))) (LEq (.bool (decide (a0.kind = 4)))),LIf (!(!(within a0.mode 0 511))) (LEq (.bool (qu.e3 a0))),LIf (!(!(within a0.mode 0 511))) (LEq (.bool (qu.e3 a0))),LIf ((!(!(within a0.mode 0 511))) && (qu.e3 a0)) (LEq (.pointer (some ⟨b1,3,none⟩))),LIf ((!(!(within a0.mode 0 511))) && (qu.e3 a0)) (LEq (.int .i64 a0.mode)),LIf ((!(!(within a0.mode 0 511))) && (qu.e3 a0)) (LEq (.bool (!decide (a0.mode = 0)))),LIf (!(!(within a0.mode 0 511))) (LEq (.bool ((qu.e3 a0) && (!decide (a0.mode = 0))))),LEq (.bool ((!(within a0.mode 0 511)) || ((qu.e3 a0) && (!decide (a0.mode = 0))))),LEq (.iface 4 (.bool ((!(within a0.mode 0 511)) || ((qu.e3 a0) && (!decide (a0.mode = 0)))))),LEq (.iface 3 (.int .i64 4)),LRd 1 (Vc 4 3) (qu.e1 a0),LEq (.int .i64 (vY (qu.e1 a0))),LEq (.int .i64 (vY (qu.e1 a0)))] (by kernel_rfl) (by kernel_rfl) ⟨qm,qm,qm,qm,qm,qm,qm,qm,qm,qm,qm,qm,qm,qm,qm,qm,qm,lm,lm,lm,lm,lm,lm,lm,lm,qm,qm,qm,qm,qm,lm,lm,lm,qm,qm,lm,lm,lm,lm,lm,lm,lm,qm,qm,qm,qm,qm,qm,qm,qm,lm,lm,lm,lm,lm,lm,lm,lm,lm,lm,lm,lm,lm,qm,qm,qm,LRd.mono,qm,qm,trivial⟩ ⟨?_,?_,?_,?_,?_,?_,?_,?_,?_,?_,?_,?_,?_,?_,?_,?_,?_,?_,?_,?_,?_,?_,?_,?_,?_,?_,?_,?_,?_,?_,?_,?_,?_,?_,?_,?_,?_,?_,?_,?_,?_,?_,?_,?_,?_,?_,?_,?_,?_,?_,?_,?_,?_,?_,?_,?_,?_,?_,?_,?_,?_,?_,?_,?_,?_,?_,?_,?_,?_,trivial⟩ ?_
 ·exact fun s x e f d u=>lp rfl (qc Tryz.underlying52 rfl Tryz.sizeOf3 rfl ((f 1 rfl).trans (K9 1 rfl)))<|se rfl rfl
 ·exact fun s x e f d u=>lp rfl (qz Tryz.isAgg3 (Blk.ext k6 (e11.t e)) (d 0 rfl) rfl)<|se rfl rfl
 ·exact fun s x e f d u=>lc rfl rfl Tryz.call117 (Qe.calls (w:=x) (a0:=a0.kind) (a1:=1) (a2:=4)) (va (d 1 rfl) (va rfl (va rfl rfl)))<|fun w28 e29=>sx rfl e29 rfl
 ·exact fun s x e f d u=>lp rfl (yR (d 2 rfl))<|se rfl rfl
 ·exact fun s x e f d u=>lp rfl (vo Tryz.underlying4 rfl (d 3 rfl))<|se rfl rfl
 ·exact fun s x e f d u=>lp rfl (vo Tryz.underlying3 rfl rfl)<|se rfl rfl
 ·exact fun s x e f d u=>lp rfl (qc Tryz.underlying52 rfl Tryz.sizeOf9 rfl ((f 1 rfl).trans (K9 1 rfl)))<|se rfl rfl
 ·exact fun s x e f d u=>lp rfl (qz Tryz.isAgg9 (Blk.ext k6 (e11.t e)) (d 6 rfl) rfl)<|se rfl rfl
 ·exact fun s x e f d u=>lc rfl rfl Tryz.call101 (Qb.calls (w:=x) (a0:=a0.path) (GV.ext gv ((e5.t e11).t e))) (va (d 7 rfl) rfl)<|fun w30 e31=>sx rfl e31 rfl
 ·exact fun s x e f d u=>lp rfl (yR (d 8 rfl))<|se rfl rfl
 ·exact fun s x e f d u=>lp rfl (vo Tryz.underlying4 rfl (d 9 rfl))<|se rfl rfl
 ·exact fun s x e f d u=>lp rfl (vo Tryz.underlying3 rfl rfl)<|se rfl rfl
 ·exact fun s x e f d u=>lp rfl (qc Tryz.underlying52 rfl Tryz.sizeOf9 rfl ((f 1 rfl).trans (K9 1 rfl)))<|se rfl rfl
 ·exact fun s x e f d u=>lp rfl (qz Tryz.isAgg9 (Blk.ext k6 (e11.t e)) (d 12 rfl) rfl)<|se rfl rfl
 ·exact fun s x e f d u=>lp rfl (Vi Tryz.underlying9 (d 13 rfl))<|se rfl rfl
 ·exact fun s x e f d u=>lp rfl (j8 (d 14 rfl) rfl)<|se rfl rfl
 ·exact fun s x e f d u=>lp rfl (qf (d 15 rfl))<|se rfl rfl
 ·exact fun s x e f d u=>gF rfl rfl rfl rfl (d 16 rfl) rfl fun b t=>lt t rfl rfl (qc Tryz.underlying52 rfl Tryz.sizeOf3 rfl ((f 1 rfl).trans (K9 1 rfl)))<|sg rfl rfl b rfl
 ·exact fun s x e f d u=>gF rfl rfl rfl rfl (d 16 rfl) rfl fun b t=>lt t rfl rfl (qz Tryz.isAgg3 (Blk.ext k6 (e11.t e)) ((d 17 rfl).1 (qI (vh b))) rfl)<|sg rfl rfl b rfl
 ·exact fun s x e f d u=>gF rfl rfl rfl rfl (d 16 rfl) rfl fun b t=>lt t rfl rfl (vx ((d 18 rfl).1 (qI (vh b))) rfl)<|sg rfl rfl b rfl
 ·exact fun s x e f d u=>gF rfl rfl rfl rfl (d 16 rfl) rfl fun b t=>lt t rfl rfl (xm (.bool (decide (a0.kind = 2))) ((d 19 rfl).1 (qI (vh b))))<|sg rfl rfl b rfl
 ·exact fun s x e f d u=>hT rfl rfl rfl rfl (d 20 rfl) rfl fun b t=>lt t rfl rfl (qc Tryz.underlying52 rfl Tryz.sizeOf9 rfl ((f 1 rfl).trans (K9 1 rfl)))<|sg rfl rfl b rfl
 ·exact fun s x e f d u=>hT rfl rfl rfl rfl (d 20 rfl) rfl fun b t=>lt t rfl rfl (qz Tryz.isAgg9 (Blk.ext k6 (e11.t e)) ((d 21 rfl).1 (qY (qI (vh (jB b))) (jC b))) rfl)<|sg rfl rfl b rfl
 ·exact fun s x e f d u=>hT rfl rfl rfl rfl (d 20 rfl) rfl fun b t=>lt t rfl rfl (Vv ((d 22 rfl).1 (qY (qI (vh (jB b))) (jC b))) rfl)<|sg rfl rfl b rfl
 ·exact fun s x e f d u=>gF rfl rfl rfl rfl (d 16 rfl) rfl fun b t=>lt t rfl rfl (jT ((d 20 rfl).1 (qI (vh b))) rfl fun h=>((d 23 rfl).1 (qY (qI (vh b)) h)))<|sg rfl rfl b rfl
 ·exact fun s x e f d u=>lp rfl (VI (d 16 rfl) rfl fun h=>((d 24 rfl).1 (qI h)))<|se rfl rfl
 ·exact fun s x e f d u=>lp rfl (vo Tryz.underlying4 rfl (d 25 rfl))<|se rfl rfl
 ·exact fun s x e f d u=>lp rfl (vo Tryz.underlying3 rfl rfl)<|se rfl rfl
 ·exact fun s x e f d u=>lp rfl (xm (.bool ((decide (a0.kind = 3)) || (decide (a0.kind = 4)))) (f 3 rfl))<|se rfl rfl
 ·exact fun s x e f d u=>lp rfl (qf (d 28 rfl))<|se rfl rfl
 ·exact fun s x e f d u=>gT rfl rfl rfl rfl (d 29 rfl) rfl fun b t=>lt t rfl rfl (qc Tryz.underlying52 rfl Tryz.sizeOf9 rfl ((f 1 rfl).trans (K9 1 rfl)))<|sg rfl rfl b rfl
 ·exact fun s x e f d u=>gT rfl rfl rfl rfl (d 29 rfl) rfl fun b t=>lt t rfl rfl (qz Tryz.isAgg9 (Blk.ext k6 (e11.t e)) ((d 30 rfl).1 b) rfl)<|sg rfl rfl b rfl
 ·exact fun s x e f d u=>gT rfl rfl rfl rfl (d 29 rfl) rfl fun b t=>lt t rfl rfl (VL ((d 31 rfl).1 b) rfl)<|sg rfl rfl b rfl
 ·exact fun s x e f d u=>lp rfl (jT (d 29 rfl) rfl fun h=>((d 32 rfl).1 h))<|se rfl rfl
 ·exact fun s x e f d u=>lp rfl (qf (d 33 rfl))<|se rfl rfl
 ·exact fun s x e f d u=>gF rfl rfl rfl rfl (d 34 rfl) rfl fun b t=>lt t rfl rfl (qc Tryz.underlying52 rfl Tryz.sizeOf3 rfl ((f 1 rfl).trans (K9 1 rfl)))<|sg rfl rfl b rfl
 ·exact fun s x e f d u=>gF rfl rfl rfl rfl (d 34 rfl) rfl fun b t=>lt t rfl rfl (qz Tryz.isAgg3 (Blk.ext k6 (e11.t e)) ((d 35 rfl).1 (qI (vh b))) rfl)<|sg rfl rfl b rfl
 ·exact fun s x e f d u=>gF rfl rfl rfl rfl (d 34 rfl) rfl fun b t=>lt t rfl rfl (QJ ((d 36 rfl).1 (qI (vh b))) rfl)<|sg rfl rfl b rfl
 ·exact fun s x e f d u=>gF rfl rfl rfl rfl (d 34 rfl) rfl fun b t=>lt t rfl rfl (xm (.bool (!decide (a0.kind = 3))) ((d 37 rfl).1 (qI (vh b))))<|sg rfl rfl b rfl
 ·exact fun s x e f d u=>hT rfl rfl rfl rfl (d 38 rfl) rfl fun b t=>lt t rfl rfl (qc Tryz.underlying52 rfl Tryz.sizeOf4 rfl ((f 1 rfl).trans (K9 1 rfl)))<|sg rfl rfl b rfl
 ·exact fun s x e f d u=>hT rfl rfl rfl rfl (d 38 rfl) rfl fun b t=>lt t rfl rfl (qz Tryz.isAgg4 (Blk.ext k6 (e11.t e)) ((d 39 rfl).1 (qY (qI (vh (jB b))) (jC b))) rfl)<|sg rfl rfl b rfl
 ·exact fun s x e f d u=>gF rfl rfl rfl rfl (d 34 rfl) rfl fun b t=>lt t rfl rfl (jT ((d 38 rfl).1 (qI (vh b))) rfl fun h=>((d 40 rfl).1 (qY (qI (vh b)) h)))<|sg rfl rfl b rfl
 ·exact fun s x e f d u=>lp rfl (VI (d 34 rfl) rfl fun h=>((d 41 rfl).1 (qI h)))<|se rfl rfl
 ·exact fun s x e f d u=>lp rfl (vo Tryz.underlying4 rfl (d 42 rfl))<|se rfl rfl
 ·exact fun s x e f d u=>lp rfl (vo Tryz.underlying3 rfl rfl)<|se rfl rfl
 ·exact fun s x e f d u=>lp rfl (qc Tryz.underlying52 rfl Tryz.sizeOf3 rfl ((f 1 rfl).trans (K9 1 rfl)))<|se rfl rfl
 ·exact fun s x e f d u=>lp rfl (qz Tryz.isAgg3 (Blk.ext k6 (e11.t e)) (d 45 rfl) rfl)<|se rfl rfl
 ·exact fun s x e f d u=>lc rfl rfl Tryz.call117 (Qe.calls (w:=x) (a0:=a0.mode) (a1:=0) (a2:=511)) (va (d 46 rfl) (va rfl (va rfl rfl)))<|fun w32 e33=>sx rfl e33 rfl
 ·exact fun s x e f d u=>lp rfl (yR (d 47 rfl))<|se rfl rfl
 ·exact fun s x e f d u=>lp rfl (qf (d 48 rfl))<|se rfl rfl
 ·exact fun s x e f d u=>gF rfl rfl rfl rfl (d 49 rfl) rfl fun b t=>lt t rfl rfl (qc Tryz.underlying52 rfl Tryz.sizeOf3 rfl ((f 1 rfl).trans (K9 1 rfl)))<|sg rfl rfl b rfl
 ·exact fun s x e f d u=>gF rfl rfl rfl rfl (d 49 rfl) rfl fun b t=>lt t rfl rfl (qz Tryz.isAgg3 (Blk.ext k6 (e11.t e)) ((d 50 rfl).1 (qI (vh b))) rfl)<|sg rfl rfl b rfl
 ·exact fun s x e f d u=>gF rfl rfl rfl rfl (d 49 rfl) rfl fun b t=>lt t rfl rfl (vx ((d 51 rfl).1 (qI (vh b))) rfl)<|sg rfl rfl b rfl
 ·exact fun s x e f d u=>gF rfl rfl rfl rfl (d 49 rfl) rfl fun b t=>lt t rfl rfl (xm (.bool (decide (a0.kind = 2))) ((d 52 rfl).1 (qI (vh b))))<|sg rfl rfl b rfl
 ·exact fun s x e f d u=>hF rfl rfl rfl rfl (d 53 rfl) rfl fun b t=>lt t rfl rfl (qc Tryz.underlying52 rfl Tryz.sizeOf3 rfl ((f 1 rfl).trans (K9 1 rfl)))<|sg rfl rfl b rfl
 ·exact fun s x e f d u=>hF rfl rfl rfl rfl (d 53 rfl) rfl fun b t=>lt t rfl rfl (qz Tryz.isAgg3 (Blk.ext k6 (e11.t e)) ((d 54 rfl).1 (qY (qI (vh (jB b))) (qI (vh (jC b))))) rfl)<|sg rfl rfl b rfl
 ·exact fun s x e f d u=>hF rfl rfl rfl rfl (d 53 rfl) rfl fun b t=>lt t rfl rfl (vx ((d 55 rfl).1 (qY (qI (vh (jB b))) (qI (vh (jC b))))) rfl)<|sg rfl rfl b rfl
 ·exact fun s x e f d u=>gF rfl rfl rfl rfl (d 49 rfl) rfl fun b t=>lt t rfl rfl (VI ((d 53 rfl).1 (qI (vh b))) rfl fun h=>((d 56 rfl).1 (qY (qI (vh b)) (qI h))))<|sg rfl rfl b rfl
 ·exact fun s x e f d u=>gF rfl rfl rfl rfl (d 49 rfl) rfl fun b t=>lt t rfl rfl (xm (.bool (qu.e3 a0)) ((d 57 rfl).1 (qI (vh b))))<|sg rfl rfl b rfl
 ·exact fun s x e f d u=>hT rfl rfl rfl rfl (d 58 rfl) rfl fun b t=>lt t rfl rfl (qc Tryz.underlying52 rfl Tryz.sizeOf3 rfl ((f 1 rfl).trans (K9 1 rfl)))<|sg rfl rfl b rfl
 ·exact fun s x e f d u=>hT rfl rfl rfl rfl (d 58 rfl) rfl fun b t=>lt t rfl rfl (qz Tryz.isAgg3 (Blk.ext k6 (e11.t e)) ((d 59 rfl).1 (qY (qI (vh (jB b))) (jC b))) rfl)<|sg rfl rfl b rfl
 ·exact fun s x e f d u=>hT rfl rfl rfl rfl (d 58 rfl) rfl fun b t=>lt t rfl rfl (QJ ((d 60 rfl).1 (qY (qI (vh (jB b))) (jC b))) rfl)<|sg rfl rfl b rfl
 ·exact fun s x e f d u=>gF rfl rfl rfl rfl (d 49 rfl) rfl fun b t=>lt t rfl rfl (jT ((d 58 rfl).1 (qI (vh b))) rfl fun h=>((d 61 rfl).1 (qY (qI (vh b)) h)))<|sg rfl rfl b rfl
 ·exact fun s x e f d u=>lp rfl (VI (d 49 rfl) rfl fun h=>((d 62 rfl).1 (qI h)))<|se rfl rfl
 ·exact fun s x e f d u=>lp rfl (vo Tryz.underlying4 rfl (d 63 rfl))<|se rfl rfl
 ·exact fun s x e f d u=>lp rfl (vo Tryz.underlying3 rfl rfl)<|se rfl rfl
 ·exact fun s x e f d u=>yt (.plain rfl) rfl (ltb rfl) rfl Tryz.underlying142 Tryz.sizeOf20 Tryz.zeroValue20 rfl rfl rfl (vs:=[(.iface 4 (.bool (!(within a0.kind 1 4)))),(.iface 3 (.int .i64 9)),(.iface 4 (.bool (!(qC a0.path)))),(.iface 3 (.int .i64 10)),(.iface 4 (.bool (qu.e4 a0))),(.iface 3 (.int .i64 8)),(.iface 4 (.bool ((qu.e2 a0) || ((!decide (a0.kind = 3)) && a0.opq)))),(.iface 3 (.int .i64 3)),(.iface 4 (.bool ((!(within a0.mode 0 511)) || ((qu.e3 a0) && (!decide (a0.mode = 0)))))),(.iface 3 (.int .i64 4))]) (va (d 4 rfl) (va (d 5 rfl) (va (d 10 rfl) (va (d 11 rfl) (va (d 26 rfl) (va (d 27 rfl) (va (d 43 rfl) (va (d 44 rfl) (va (d 64 rfl) (va (d 65 rfl) rfl)))))))))) (qX rfl)<|fun b34 w35 z36 z37 e38 k39=>sx rfl e38 (Ow.rd (Ow.new (xs:=[.inl (!(within a0.kind 1 4)),.inr 9,.inl (!(qC a0.path)),.inr 10,.inl (qu.e4 a0),.inr 8,.inl ((qu.e2 a0) || ((!decide (a0.kind = 3)) && a0.opq)),.inr 3,.inl ((!(within a0.mode 0 511)) || ((qu.e3 a0) && (!decide (a0.mode = 0)))),.inr 4]) (sz:=1) (enc:=(Vc 4 3)) (base:=x.heap.size) k39 (Nat.le_of_eq z36) rfl (fun _ _=>by first | rfl | exact VT _ _ _) (Nat.le_of_ble_eq_true rfl)))
 ·intro s x e f d u
  have d40 : Rd 1 (Vc 4 3) x (s 78) (qu.e1 a0):=(d 66 rfl)
  exact lc rfl rfl Tryz.call77 (yL.calls (w:=x) (a0:=(qu.e1 a0)) d40 (od c25)) rfl<|fun w42 e43=>sx rfl e43 rfl
 ·exact fun s x e f d u=>lp rfl (qA (d 67 rfl))<|se rfl rfl
 intro s44 w45 e46 hf47 ha48
 have K49:=Kp.ofD (kp:=[(2,3),(12,80)]) rfl hf47
 have d50 : s44 2 = (.int .i64 (vY (qu.e1 a0))):=ha48 68 rfl
 clear ha48 hf47
 refine qg<|qr<|qy ?_
 obtain rfl:=si H
 exact vt d50 ((e5.t e11).t e46)
theorem qu.calls {w : World} {a0 : Rec} (gv : GV 0 w) :
  Calls Tryz.prog 211 #[.agg (qj a0).toArray] w (Rt (RP w (.int .i64 (qx a0)))):=qu.walk gv (qu.eq a0)
/-! impl.RecordOK -/
theorem Qm.calls {w : World} {a0 : Rec} (gv : GV 0 w) :
  Calls Tryz.prog 157 #[.agg (qj a0).toArray] w (Rt (RP w (.bool (decide (qx a0 = 0))))):=by
 have H:=Qm.eq a0
 generalize (decide (qx a0 = 0)) = r at H ⊢
 unfold Qm.sh at H
 refine qi Tryz.func157 rfl (Nat.le_of_ble_eq_true rfl) Tryz.ntmps157 rfl ?_
 refine wr<|Qq (.plain rfl) rfl (ltb rfl) rfl rfl<|fun b1 w2 z3 z4 e5 k6=>lp rfl (xa (.bool false) rfl)<|nx<|wr<|lp rfl (qW Tryz.isAgg52 Tryz.sizeOf52 rfl rfl (Blk.at0 k6))<|lc rfl rfl Tryz.call211 (qu.calls (w:=w2) (a0:=a0) (GV.ext gv e5)) rfl<|fun w7 e8=>lp rfl (vx rfl rfl)<|lp rfl (xa (.bool (decide ((qx a0) = 0))) rfl)<|nx<|qr<|qy ?_
 obtain rfl:=si H
 exact vt rfl (e5.t e8)
/-! spec.l01Below -/
theorem jY.calls {w : World} {a0 : List UInt8} {a1 : List UInt8} :
  Calls Tryz.prog 186 #[S a0,S a1] w (Rt (RP w (.bool ((decide (a1 = []) && !decide (a0 = [])) || vw a0 a1)))):=by
 have H:=jY.eq a0 a1
 generalize ((decide (a1 = []) && !decide (a0 = [])) || vw a0 a1) = r at H ⊢
 unfold jY.sh at H
 refine qi Tryz.func186 rfl (Nat.le_of_ble_eq_true rfl) Tryz.ntmps186 rfl ?_
 refine wr<|lp rfl (xa (.bool false) rfl)<|nx<|wr<|lp rfl (xm (S a1) rfl)<|lp rfl (Vi Tryz.underlying9 rfl)<|lp rfl (xa (.int .i64 (a1.length : Int)) rfl)<|nx<|wr<|lp rfl (xm (S a1) rfl)<|lp rfl (Vv rfl rfl)<|lp rfl (xm (.bool (decide (a1 = ([] : List UInt8)))) rfl)<|jj 3 [(11,14)] 13 (.bool ((decide (a1 = ([] : List UInt8))) && (!decide (a0 = ([] : List UInt8))))) ?_ ?_
 ·rcases qo (decide (a1 = ([] : List UInt8))) with b0_ | b0_
  ·exact lg rfl rfl rfl rfl (cb b0_) (xm (S a0) rfl)<|lg rfl rfl rfl rfl (cb b0_) (VL rfl rfl)<|lp rfl (qq (b:=true) (v:=(.bool (!decide (a0 = ([] : List UInt8))))) (cb b0_) rfl)<|nx ⟨(ku3 kz rfl),(QP b0_),er⟩
  ·exact ls rfl rfl rfl (cb b0_) rfl<|ls rfl rfl rfl (cb b0_) rfl<|lp rfl (qq (b:=false) (v:=(.bool false)) (cb b0_) rfl)<|nx ⟨(ku3 kz rfl),(QQ b0_),er⟩
 intro s6 w2 K3 h4 e5
 refine lp rfl (qf h4) ?_
 obtain ⟨z8,x9,H⟩:=bind_some H
 refine yf 18 [(15,33)] 32 (fun q=>q = z8) ?_ ?_
 ·rcases qe x9 with ⟨b6_,H⟩ | ⟨b6_,H⟩
  ·refine ls rfl rfl rfl (cb b6_) rfl<|ls rfl rfl rfl (cb b6_) rfl<|ls rfl rfl rfl (cb b6_) rfl<|ls rfl rfl rfl (cb b6_) rfl<|ls rfl rfl rfl (cb b6_) rfl<|lu rfl rfl rfl rfl rfl<|lu rfl rfl rfl rfl rfl<|lu rfl rfl rfl rfl rfl<|lu rfl rfl rfl rfl rfl<|lu rfl rfl rfl rfl rfl<|ls rfl rfl rfl (cb b6_) rfl<|ls rfl rfl rfl (cb b6_) rfl<|lu rfl rfl rfl rfl rfl<|lu rfl rfl rfl rfl rfl<|lu rfl rfl rfl rfl rfl<|lu rfl rfl rfl rfl rfl<|ls rfl rfl rfl (cb b6_) rfl<|lp rfl (qq (b:=true) (v:=(.bool true)) (cb b6_) rfl) ?_
   obtain rfl:=si H
   exact nx ⟨(ku2 (ku8 (ku8 kz rfl) rfl) rfl),⟨_,rfl,rfl⟩,er⟩
  ·refine lg rfl rfl rfl rfl (cb b6_) (xm (S a0) (K3 0 rfl))<|lg rfl rfl rfl rfl (cb b6_) (Vi Tryz.underlying9 rfl)<|lg rfl rfl rfl rfl (cb b6_) (xm (.int .i64 (a1.length : Int)) (K3 5 rfl))<|lg rfl rfl rfl rfl (cb b6_) (j8 rfl rfl)<|lg rfl rfl rfl rfl (cb b6_) (xm (.bool (decide ((a1.length : Int) < (a0.length : Int)))) rfl) ?_
   obtain ⟨z9,x10,H⟩:=bind_some H
   refine yf 6 [(20,26)] 25 (fun q=>q = z9) ?_ ?_
   ·rcases qe x10 with ⟨b7_,H⟩ | ⟨b7_,H⟩
    ·refine lg rfl rfl rfl rfl (cb b7_) (xm (S a0) (K3 0 rfl))<|lg rfl rfl rfl rfl (cb b7_) (xm (.int .i64 (a1.length : Int)) (K3 5 rfl)) ?_
     obtain ⟨c9,H⟩:=qa H
     refine lg rfl rfl rfl rfl (cb b7_) (Y5 Tryz.underlying9 rfl (l:=0) (h:=(a1.length : Int)) rfl ⟨_,rfl⟩ (GB c9) (Gu c9) (GJ c9))<|lg rfl rfl rfl rfl (cb b7_) (xm (S a1) (K3 1 rfl))<|lg rfl rfl rfl rfl (cb b7_) (Vv rfl rfl)<|lg rfl rfl rfl rfl (cb b6_) (qq (b:=true) (v:=(.bool (decide ((sub a0 0 (a1.length : Int)) = a1)))) (cb b7_) rfl) ?_
     obtain rfl:=si H
     exact nx ⟨(ku2 (ku4 kz rfl) rfl),⟨_,rfl,rfl⟩,er⟩
    ·refine ls rfl rfl rfl (cb b7_) rfl<|ls rfl rfl rfl (cb b7_) rfl<|ls rfl rfl rfl (cb b7_) rfl<|ls rfl rfl rfl (cb b7_) rfl<|ls rfl rfl rfl (cb b7_) rfl<|lg rfl rfl rfl rfl (cb b6_) (qq (b:=false) (v:=(.bool false)) (cb b7_) rfl) ?_
     obtain rfl:=si H
     exact nx ⟨(ku2 (ku4 kz rfl) rfl),⟨_,rfl,rfl⟩,er⟩
   intro s15 w11 z16 K12 hq h13 e14
   rw [hq] at h13; clear hq
   refine lg rfl rfl rfl rfl ((K12 14 rfl).trans (cb b6_)) (qf h13) ?_
   obtain ⟨z18,x19,H⟩:=bind_some H
   refine yf 5 [(27,32)] 31 (fun q=>q = z18) ?_ ?_
   ·rcases qe x19 with ⟨b16_,H⟩ | ⟨b16_,H⟩
    ·refine lg rfl rfl rfl rfl (cb b16_) (xm (S a0) ((K12 0 rfl).trans (K3 0 rfl)))<|lg rfl rfl rfl rfl (cb b16_) (xm (.int .i64 (a1.length : Int)) ((K12 5 rfl).trans (K3 5 rfl))) ?_
     obtain ⟨c18,H⟩:=qa H
     refine lg rfl rfl rfl rfl (cb b16_) (V6 Tryz.underlying9 rfl rfl (Qv c18) (j9 c18))<|lg rfl rfl rfl rfl (cb b16_) (vx rfl rfl)<|lg rfl rfl rfl rfl ((K12 14 rfl).trans (cb b6_)) (qq (b:=true) (v:=(.bool (decide ((byt a0 (a1.length : Int)) = 47)))) (cb b16_) rfl) ?_
     obtain rfl:=si H
     exact nx ⟨(ku1 (ku4 kz rfl) rfl),⟨_,rfl,rfl⟩,er⟩
    ·refine ls rfl rfl rfl (cb b16_) rfl<|ls rfl rfl rfl (cb b16_) rfl<|ls rfl rfl rfl (cb b16_) rfl<|ls rfl rfl rfl (cb b16_) rfl<|lg rfl rfl rfl rfl ((K12 14 rfl).trans (cb b6_)) (qq (b:=false) (v:=(.bool false)) (cb b16_) rfl) ?_
     obtain rfl:=si H
     exact nx ⟨(ku1 (ku4 kz rfl) rfl),⟨_,rfl,rfl⟩,er⟩
   intro s24 w20 z25 K21 hq h22 e23
   rw [hq] at h22; clear hq
   refine lp rfl (qq (b:=false) (v:=(.bool z18)) (((K21 14 rfl).trans (K12 14 rfl)).trans (cb b6_)) h22) ?_
   obtain rfl:=si H
   exact nx ⟨(ku1 (Kp.cut (ku1 (Kp.cut (ku1 (ku4 kz rfl) rfl) K12 rfl) rfl) K21 rfl) rfl),⟨_,rfl,rfl⟩,(e14.t e23)⟩
 intro s26 w10 z27 K11 hq h12 e13
 rw [hq] at h12; clear hq
 refine lp rfl (qA h12)<|nx<|qr<|qy ?_
 obtain rfl:=si H
 exact vt rfl (e5.t e13)
/-! internal/stringslite.HasPrefix -/
theorem jc.calls {w : World} {a0 : List UInt8} {a1 : List UInt8} :
  Calls Tryz.prog 263 #[S a0,S a1] w (Rt (RP w (.bool (List.isPrefixOf a1 a0)))):=by
 have H:=jc.eq a0 a1
 generalize (List.isPrefixOf a1 a0) = r at H ⊢
 unfold jc.sh at H
 refine qi Tryz.func263 rfl (Nat.le_of_ble_eq_true rfl) Tryz.ntmps263 rfl ?_
 refine wr<|lp rfl (xa (.bool false) rfl)<|nx<|wr<|lp rfl (xm (S a0) rfl)<|lp rfl (Vi Tryz.underlying9 rfl)<|lp rfl (xm (S a1) rfl)<|lp rfl (Vi Tryz.underlying9 rfl)<|lp rfl (Yd rfl rfl)<|lp rfl (xm (.bool (decide ((a1.length : Int)≤(a0.length : Int)))) rfl) ?_
 obtain ⟨z2,x3,H⟩:=bind_some H
 refine yf 7 [(11,18)] 17 (fun q=>q = z2) ?_ ?_
 ·rcases qe x3 with ⟨b0_,H⟩ | ⟨b0_,H⟩
  ·refine lg rfl rfl rfl rfl (cb b0_) (xm (S a0) rfl)<|lg rfl rfl rfl rfl (cb b0_) (xm (S a1) rfl)<|lg rfl rfl rfl rfl (cb b0_) (Vi Tryz.underlying9 rfl) ?_
   obtain ⟨c2,H⟩:=qa H
   refine lg rfl rfl rfl rfl (cb b0_) (Y5 Tryz.underlying9 rfl (l:=0) (h:=(a1.length : Int)) rfl ⟨_,rfl⟩ (GB c2) (Gu c2) (GJ c2))<|lg rfl rfl rfl rfl (cb b0_) (xm (S a1) rfl)<|lg rfl rfl rfl rfl (cb b0_) (Vv rfl rfl)<|lp rfl (qq (b:=true) (v:=(.bool (decide ((sub a0 0 (a1.length : Int)) = a1)))) (cb b0_) rfl) ?_
   obtain rfl:=si H
   exact nx ⟨(ku3 (ku4 kz rfl) rfl),⟨_,rfl,rfl⟩,er⟩
  ·refine ls rfl rfl rfl (cb b0_) rfl<|ls rfl rfl rfl (cb b0_) rfl<|ls rfl rfl rfl (cb b0_) rfl<|ls rfl rfl rfl (cb b0_) rfl<|ls rfl rfl rfl (cb b0_) rfl<|ls rfl rfl rfl (cb b0_) rfl<|lp rfl (qq (b:=false) (v:=(.bool false)) (cb b0_) rfl) ?_
   obtain rfl:=si H
   exact nx ⟨(ku3 (ku4 kz rfl) rfl),⟨_,rfl,rfl⟩,er⟩
 intro s8 w4 z9 K5 hq h6 e7
 rw [hq] at h6; clear hq
 refine lp rfl (qA h6)<|nx<|qr<|qy ?_
 obtain rfl:=si H
 exact vt rfl e7
/-! strings.HasPrefix -/
theorem jK.calls {w : World} {a0 : List UInt8} {a1 : List UInt8} :
  Calls Tryz.prog 237 #[S a0,S a1] w (Rt (RP w (.bool (List.isPrefixOf a1 a0)))):=by
 have H:=jK.eq a0 a1
 generalize (List.isPrefixOf a1 a0) = r at H ⊢
 unfold jK.sh at H
 refine qi Tryz.func237 rfl (Nat.le_of_ble_eq_true rfl) Tryz.ntmps237 rfl ?_
 refine wr<|lp rfl (xa (.bool false) rfl)<|nx<|wr<|lp rfl (xm (S a0) rfl)<|lp rfl (xm (S a1) rfl)<|lc rfl rfl Tryz.call263 (jc.calls (w:=w) (a0:=a0) (a1:=a1)) rfl<|fun w1 e2=>lp rfl (xa (.bool (List.isPrefixOf a1 a0)) rfl)<|nx<|qr<|qy ?_
 obtain rfl:=si H
 exact vt rfl e2
/-! impl.below -/
theorem Vg.calls {w : World} {a0 : List UInt8} {a1 : List UInt8} (h0 : a1.length≤1048576) :
  Calls Tryz.prog 205 #[S a0,S a1] w (Rt (RP w (.bool (decide (a1 = []) || vw a0 a1)))):=by
 have H:=Vg.eq a0 a1 h0
 generalize (decide (a1 = []) || vw a0 a1) = r at H ⊢
 unfold Vg.sh at H
 refine qi Tryz.func205 rfl (Nat.le_of_ble_eq_true rfl) Tryz.ntmps205 rfl ?_
 refine wr<|lp rfl (xa (.bool false) rfl)<|nx<|wr<|lp rfl (xm (S a1) rfl)<|lp rfl (Vv rfl rfl)<|lp rfl (xm (.bool (decide (a1 = ([] : List UInt8)))) rfl) ?_
 obtain ⟨z2,x3,H⟩:=bind_some H
 refine yf 5 [(8,13)] 12 (fun q=>q = z2) ?_ ?_
 ·rcases qe x3 with ⟨b0_,H⟩ | ⟨b0_,H⟩
  ·refine ls rfl rfl rfl (cb b0_) rfl<|ls rfl rfl rfl (cb b0_) rfl<|ls rfl rfl rfl (cb b0_) rfl<|ls rfl rfl rfl (cb b0_) rfl<|lp rfl (qq (b:=true) (v:=(.bool true)) (cb b0_) rfl) ?_
   obtain rfl:=si H
   exact nx ⟨(ku1 (ku4 kz rfl) rfl),⟨_,rfl,rfl⟩,er⟩
  ·refine lg rfl rfl rfl rfl (cb b0_) (xm (S a0) rfl)<|lg rfl rfl rfl rfl (cb b0_) (xm (S a1) rfl) ?_
   obtain ⟨c2,H⟩:=qa H
   refine lg rfl rfl rfl rfl (cb b0_) (Y2 rfl rfl (od c2))<|vL (tg rfl rfl rfl (cb b0_)) rfl (ltb rfl) rfl Tryz.call237 (jK.calls (w:=w) (a0:=a0) (a1:=a1 ++ ([47] : List UInt8))) rfl<|fun w3 e4=>lp rfl (qq (b:=false) (v:=(.bool (List.isPrefixOf (a1 ++ ([47] : List UInt8)) a0))) (cb b0_) rfl) ?_
   obtain rfl:=si H
   exact nx ⟨(ku1 (ku4 kz rfl) rfl),⟨_,rfl,rfl⟩,e4⟩
 intro s8 w4 z9 K5 hq h6 e7
 rw [hq] at h6; clear hq
 refine lp rfl (qA h6)<|nx<|qr<|qy ?_
 obtain rfl:=si H
 exact vt rfl e7
/-! spec.l01Join -/
theorem QI.calls {w : World} {a0 : List UInt8} {a1 : List UInt8} (h0 : a0.length≤1048576) (h1 : a1.length≤1048576) :
  Calls Tryz.prog 199 #[S a0,S a1] w (Rt (RP w (S (j4 a0 a1)))):=by
 have H:=QI.eq a0 a1 h0 h1
 generalize (j4 a0 a1) = r at H ⊢
 unfold QI.sh at H
 refine qi Tryz.func199 rfl (Nat.le_of_ble_eq_true rfl) Tryz.ntmps199 rfl ?_
 refine wr<|lp rfl (xa (S ([] : List UInt8)) rfl)<|nx<|qk<|wr<|lp rfl (xm (S a0) rfl)<|lp rfl (Vv rfl rfl)<|nx ?_
 rcases qe H with ⟨q1,H⟩ | ⟨q1,H⟩
 ·refine ql (cb q1)<|wr<|lp rfl (xm (S a1) rfl)<|lp rfl (xa (S a1) rfl)<|nx<|qr<|qv<|qy ?_
  obtain rfl:=si H
  exact vt rfl er
 ·refine qh (cb q1)<|qw<|qg<|wr<|lp rfl (xm (S a0) rfl) ?_
  obtain ⟨c2,H⟩:=qa H
  refine lp rfl (Y2 rfl rfl (od c2))<|lp rfl (xm (S a1) rfl) ?_
  obtain ⟨c3,H⟩:=qa H
  refine lp rfl (Y2 rfl rfl (od c3))<|lp rfl (xa (S ((a0 ++ ([47] : List UInt8)) ++ a1)) rfl)<|nx<|qr<|qy ?_
  obtain rfl:=si H
  exact vt rfl er
/-! impl.join -/
theorem VP.calls {w : World} {a0 : List UInt8} {a1 : List UInt8} (h0 : a0.length≤1048576) (h1 : a1.length≤1048576) :
  Calls Tryz.prog 82 #[S a0,S a1] w (Rt (RP w (S (j4 a0 a1)))):=by
 have H:=VP.eq a0 a1 h0 h1
 generalize (j4 a0 a1) = r at H ⊢
 unfold VP.sh at H
 refine qi Tryz.func82 rfl (Nat.le_of_ble_eq_true rfl) Tryz.ntmps82 rfl ?_
 refine wr<|lp rfl (xa (S ([] : List UInt8)) rfl)<|nx<|qk<|wr<|lp rfl (xm (S a0) rfl)<|lp rfl (Vv rfl rfl)<|nx ?_
 rcases qe H with ⟨q1,H⟩ | ⟨q1,H⟩
 ·refine ql (cb q1)<|wr<|lp rfl (xm (S a1) rfl)<|lp rfl (xa (S a1) rfl)<|nx<|qr<|qv<|qy ?_
  obtain rfl:=si H
  exact vt rfl er
 ·refine qh (cb q1)<|qw<|qg<|wr<|lp rfl (xm (S a0) rfl) ?_
  obtain ⟨c2,H⟩:=qa H
  refine lp rfl (Y2 rfl rfl (od c2))<|lp rfl (xm (S a1) rfl) ?_
  obtain ⟨c3,H⟩:=qa H
  refine lp rfl (Y2 rfl rfl (od c3))<|lp rfl (xa (S ((a0 ++ ([47] : List UInt8)) ++ a1)) rfl)<|nx<|qr<|qy ?_
  obtain rfl:=si H
  exact vt rfl er
/-! spec.l01Less -/
theorem vN.calls {w : World} {a0 : List UInt8} {a1 : List UInt8} (h0 : a0.length≤1048576) (h1 : a1.length≤1048576) :
  Calls Tryz.prog 153 #[S a0,S a1] w (Rt (RP w (.bool (vy (cut 47 a0) (cut 47 a1))))):=by
 obtain ⟨k,H⟩:=vN.eq a0 a1 h0 h1
 generalize (vy (cut 47 a0) (cut 47 a1)) = r at H ⊢
 unfold vN.sh at H
 refine qi Tryz.func153 rfl (Nat.le_of_ble_eq_true rfl) Tryz.ntmps153 rfl ?_
 refine wr<|lp rfl (xa (.bool false) rfl)<|nx<|wr<|lp rfl (xm (S a0) rfl) ?_
 obtain ⟨c1,H⟩:=qa H
 refine vp (.plain rfl) rfl (ltb rfl) rfl Tryz.call135 (yJ.calls (w:=w) (a0:=a0) (a1:=47) (od c1)) rfl<|fun v4 w2 e3 o5=>lp rfl (xa v4 rfl)<|nx<|wr<|lp rfl (xm (S a1) rfl) ?_
 obtain ⟨c6,H⟩:=qa H
 refine vp (.plain rfl) rfl (ltb rfl) rfl Tryz.call135 (yJ.calls (w:=w2) (a0:=a1) (a1:=47) (od c6)) rfl<|fun v9 w7 e8 o10=>lp rfl (xa v9 rfl)<|nx<|qk<|wr<|lp rfl (xa (.int .i64 0) rfl)<|nx ?_
 obtain ⟨z12,L13,C14⟩:=bind_some H
 clear H
 refine  vT (fun s0 sQ wQ=>Kp [(4,5),(7,8),(12,42)] s0 sQ∧Ext w7 wQ∧z12 = .inr ()) ?_ ?_
 ·refine qF<|vA (fun s0 kk sQ wQ=>∃ (x7_11 : Int),Kp [(4,5),(7,8),(12,42)] s0 sQ∧sQ 7 = .int .i64 x7_11∧Ext w7 wQ∧qt (vN.b1 a0 a1) kk x7_11 = some z12) k ⟨0,kz,rfl,er,L13⟩ ?_
  rintro k19 s20 w21 ⟨x7_11,K22,h25,e23,L24⟩
  cases k19 with
  | zero=>exact absurd L24 (by simp [qt])
  | succ k19=>
   obtain ⟨t26,H,S27⟩:=qQ L24
   clear L24
   unfold vN.b1 at H
   refine qk<|wr<|lp rfl (qf h25)<|lp rfl (xm v4 (K22 5 rfl))<|lp rfl (qS Tryz.underlying44 rfl (Ow.rd (Ow.ext o5 (e8.t e23))))<|lp rfl (ym rfl rfl)<|lp rfl (xm (.bool (decide (x7_11 < ((cut 47 a0).length : Int)))) rfl)<|jj 5 [(17,22)] 21 (.bool ((decide (x7_11 < ((cut 47 a0).length : Int))) && (decide (x7_11 < ((cut 47 a1).length : Int))))) ?_ ?_
   ·rcases qo (decide (x7_11 < ((cut 47 a0).length : Int))) with b27_ | b27_
    ·exact lg rfl rfl rfl rfl (cb b27_) (qf h25)<|lg rfl rfl rfl rfl (cb b27_) (xm v9 (K22 6 rfl))<|lg rfl rfl rfl rfl (cb b27_) (qS Tryz.underlying44 rfl (Ow.rd (Ow.ext o10 e23)))<|lg rfl rfl rfl rfl (cb b27_) (ym rfl rfl)<|lp rfl (qq (b:=true) (v:=(.bool (decide (x7_11 < ((cut 47 a1).length : Int))))) (cb b27_) rfl)<|nx ⟨(ku1 (ku4 kz rfl) rfl),(QP b27_),er⟩
    ·exact ls rfl rfl rfl (cb b27_) rfl<|ls rfl rfl rfl (cb b27_) rfl<|ls rfl rfl rfl (cb b27_) rfl<|ls rfl rfl rfl (cb b27_) rfl<|lp rfl (qq (b:=false) (v:=(.bool false)) (cb b27_) rfl)<|nx ⟨(ku1 (ku4 kz rfl) rfl),(QQ b27_),er⟩
   intro s33 w29 K30 h31 e32
   refine nx ?_
   rcases qe H with ⟨q34,H⟩ | ⟨q34,H⟩
   ·refine ql (h31.trans (cb q34))<|qw<|qg<|qk<|qF<|qk ?_
    obtain ⟨c35,H⟩:=qa H
    obtain ⟨c38,H⟩:=qa H
    refine Yi [LEq v4,LEq (.int .i64 x7_11),yv (y4 (gt (cut 47 a0) x7_11)),LEq (S (gt (cut 47 a0) x7_11)),LEq v9,LEq (.int .i64 x7_11),yv (y4 (gt (cut 47 a1) x7_11)),LEq (S (gt (cut 47 a1) x7_11)),LEq (.bool (!decide ((gt (cut 47 a0) x7_11) = (gt (cut 47 a1) x7_11))))] (by kernel_rfl) (by kernel_rfl) ⟨qm,qm,yv.mono,qm,qm,qm,yv.mono,qm,qm,trivial⟩ ⟨?_,?_,?_,?_,?_,?_,?_,?_,?_,trivial⟩ ?_
    ·exact fun s x e f d u=>lp rfl (xm v4 ((f 5 rfl).trans ((K30 5 rfl).trans (K22 5 rfl))))<|se rfl rfl
    ·exact fun s x e f d u=>lp rfl (xm (.int .i64 x7_11) ((f 7 rfl).trans ((K30 7 rfl).trans h25)))<|se rfl rfl
    ·exact fun s x e f d u=>vg (.plain rfl) rfl (ltb rfl) rfl Tryz.underlying44 Tryz.sizeOf9 (d 0 rfl) (Ow.rd (Ow.ext o5 (((e8.t e23).t e32).t e))) (d 1 rfl) c35<|fun p42 h43=>se rfl ⟨_,rfl,h43⟩
    ·intro s x e f d u
     obtain ⟨p44,h45,h46⟩:=(d 2 rfl)
     exact lp rfl (y8 Tryz.isAgg9 h45 h46 rfl)<|se rfl rfl
    ·exact fun s x e f d u=>lp rfl (xm v9 ((f 6 rfl).trans ((K30 6 rfl).trans (K22 6 rfl))))<|se rfl rfl
    ·exact fun s x e f d u=>lp rfl (xm (.int .i64 x7_11) ((f 7 rfl).trans ((K30 7 rfl).trans h25)))<|se rfl rfl
    ·exact fun s x e f d u=>vg (.plain rfl) rfl (ltb rfl) rfl Tryz.underlying44 Tryz.sizeOf9 (d 4 rfl) (Ow.rd (Ow.ext o10 ((e23.t e32).t e))) (d 5 rfl) c38<|fun p48 h49=>se rfl ⟨_,rfl,h49⟩
    ·intro s x e f d u
     obtain ⟨p50,h51,h52⟩:=(d 6 rfl)
     exact lp rfl (y8 Tryz.isAgg9 h51 h52 rfl)<|se rfl rfl
    ·exact fun s x e f d u=>lp rfl (VL (d 3 rfl) (d 7 rfl))<|se rfl rfl
    intro s53 w54 e55 hf56 ha57
    have K58:=Kp.ofD (kp:=[(24,33)]) rfl hf56
    have d59 : s53 32 = (.bool (!decide ((gt (cut 47 a0) x7_11) = (gt (cut 47 a1) x7_11)))):=ha57 8 rfl
    clear ha57 hf56
    refine qg ?_
    rcases qe H with ⟨q60,H⟩ | ⟨q60,H⟩
    ·refine ql (d59.trans (cb q60))<|qk ?_
     obtain ⟨c61,H⟩:=qa H
     obtain ⟨c64,H⟩:=qa H
     refine Yi [LEq v4,LEq (.int .i64 x7_11),yv (y4 (gt (cut 47 a0) x7_11)),LEq (S (gt (cut 47 a0) x7_11)),LEq v9,LEq (.int .i64 x7_11),yv (y4 (gt (cut 47 a1) x7_11)),LEq (S (gt (cut 47 a1) x7_11)),LEq (.bool (lt8 (gt (cut 47 a0) x7_11) (gt (cut 47 a1) x7_11))),LEq (.bool (lt8 (gt (cut 47 a0) x7_11) (gt (cut 47 a1) x7_11)))] (by kernel_rfl) (by kernel_rfl) ⟨qm,qm,yv.mono,qm,qm,qm,yv.mono,qm,qm,qm,trivial⟩ ⟨?_,?_,?_,?_,?_,?_,?_,?_,?_,?_,trivial⟩ ?_
     ·exact fun s x e f d u=>lp rfl (xm v4 ((f 5 rfl).trans ((K58 5 rfl).trans ((K30 5 rfl).trans (K22 5 rfl)))))<|se rfl rfl
     ·exact fun s x e f d u=>lp rfl (xm (.int .i64 x7_11) ((f 7 rfl).trans ((K58 7 rfl).trans ((K30 7 rfl).trans h25))))<|se rfl rfl
     ·exact fun s x e f d u=>vg (.plain rfl) rfl (ltb rfl) rfl Tryz.underlying44 Tryz.sizeOf9 (d 0 rfl) (Ow.rd (Ow.ext o5 ((((e8.t e23).t e32).t e55).t e))) (d 1 rfl) c61<|fun p68 h69=>se rfl ⟨_,rfl,h69⟩
     ·intro s x e f d u
      obtain ⟨p70,h71,h72⟩:=(d 2 rfl)
      exact lp rfl (y8 Tryz.isAgg9 h71 h72 rfl)<|se rfl rfl
     ·exact fun s x e f d u=>lp rfl (xm v9 ((f 6 rfl).trans ((K58 6 rfl).trans ((K30 6 rfl).trans (K22 6 rfl)))))<|se rfl rfl
     ·exact fun s x e f d u=>lp rfl (xm (.int .i64 x7_11) ((f 7 rfl).trans ((K58 7 rfl).trans ((K30 7 rfl).trans h25))))<|se rfl rfl
     ·exact fun s x e f d u=>vg (.plain rfl) rfl (ltb rfl) rfl Tryz.underlying44 Tryz.sizeOf9 (d 4 rfl) (Ow.rd (Ow.ext o10 (((e23.t e32).t e55).t e))) (d 5 rfl) c64<|fun p74 h75=>se rfl ⟨_,rfl,h75⟩
     ·intro s x e f d u
      obtain ⟨p76,h77,h78⟩:=(d 6 rfl)
      exact lp rfl (y8 Tryz.isAgg9 h77 h78 rfl)<|se rfl rfl
     ·exact fun s x e f d u=>lp rfl (X_slt (d 3 rfl) (d 7 rfl))<|se rfl rfl
     ·exact fun s x e f d u=>lp rfl (qA (d 8 rfl))<|se rfl rfl
     intro s79 w80 e81 hf82 ha83
     have K84:=Kp.ofD (kp:=[(4,5),(33,42)]) rfl hf82
     have d85 : s79 4 = (.bool (lt8 (gt (cut 47 a0) x7_11) (gt (cut 47 a1) x7_11))):=ha83 9 rfl
     clear ha83 hf82
     refine qg<|qr<|vc<|qv<|qv<|vc<|qv<|qv<|qy ?_
     obtain rfl:=si H
     obtain rfl:=si S27
     have H:=C14
     obtain rfl:=si H
     exact vt d85 (((((e3.t e8).t e23).t e32).t e55).t e81)
    ·refine qh (d59.trans (cb q60))<|qw<|vK<|qg<|qO<|lp rfl (xm (.int .i64 x7_11) ((K58 7 rfl).trans ((K30 7 rfl).trans h25)))<|lp rfl (vz rfl rfl)<|lp rfl (xa (.int .i64 (IntKind.wrap .i64 (x7_11 + 1))) rfl)<|nx ?_
     obtain rfl:=si H
     exact ⟨_,Nat.lt_succ_self _,IntKind.wrap .i64 (x7_11 + 1),(ku3 (Kp.cut (Kp.cut (ku1 (ku4 K22 rfl) rfl) K30 rfl) K58 rfl) rfl),rfl,((e23.t e32).t e55),S27⟩
   ·refine qh (h31.trans (cb q34))<|yc<|vm<|vm<|yV<|qg ?_
    obtain rfl:=si H
    obtain rfl:=si S27
    exact ⟨(Kp.cut (ku1 (ku4 K22 rfl) rfl) K30 rfl),(e23.t e32),rfl⟩
 ·rintro s16 w15 ⟨K17,e18,y86⟩
  rw [y86] at C14
  have H:=C14
  replace H : _ = some _:=H
  refine qg<|wr<|lp rfl (xm v4 (K17 5 rfl))<|lp rfl (qS Tryz.underlying44 rfl (Ow.rd (Ow.ext o5 (e8.t e18))))<|lp rfl (xm v9 (K17 6 rfl))<|lp rfl (qS Tryz.underlying44 rfl (Ow.rd (Ow.ext o10 e18)))<|lp rfl (ym rfl rfl)<|lp rfl (qA rfl)<|nx<|qr<|qy ?_
  obtain rfl:=si H
  exact vt rfl ((e3.t e8).t e18)
/-! cmp.isNaN(string) -/
theorem yb.walk {w : World} {a0 : List UInt8} {r : Bool} (H : yb.sh a0 = some r) :
  Calls Tryz.prog 242 #[S a0] w (Rt (RP w (.bool r))):=by
 unfold yb.sh at H
 refine qi Tryz.func242 rfl (Nat.le_of_ble_eq_true rfl) Tryz.ntmps242 rfl ?_
 refine wr<|lp rfl (xa (.bool false) rfl)<|nx<|wr<|lp rfl (xm (S a0) rfl)<|lp rfl (xm (S a0) rfl)<|lp rfl (VL rfl rfl)<|lp rfl (xa (.bool (!decide (a0 = a0))) rfl)<|nx<|qr<|qy ?_
 obtain rfl:=si H
 exact vt rfl er
theorem yb.calls {w : World} {a0 : List UInt8} :
  Calls Tryz.prog 242 #[S a0] w (Rt (RP w (.bool false))):=yb.walk (yb.eq a0)
/-! cmp.Compare(string) -/
theorem yG.calls {w : World} {a0 : List UInt8} {a1 : List UInt8} :
  Calls Tryz.prog 217 #[S a0,S a1] w (Rt (RP w (.int .i64 (cmpS a0 a1)))):=by
 have H:=yG.eq a0 a1
 generalize (cmpS a0 a1) = r at H ⊢
 unfold yG.sh at H
 refine qi Tryz.func217 rfl (Nat.le_of_ble_eq_true rfl) Tryz.ntmps217 rfl ?_
 refine wr<|lp rfl (xa (.int .i64 0) rfl)<|nx<|wr<|lp rfl (xm (S a0) rfl)<|lc rfl rfl Tryz.call242 (yb.calls (w:=w) (a0:=a0)) rfl<|fun w1 e2=>lp rfl (xa (.bool false) rfl)<|nx<|wr<|lp rfl (xm (S a1) rfl)<|lc rfl rfl Tryz.call242 (yb.calls (w:=w1) (a0:=a1)) rfl<|fun w3 e4=>lp rfl (xa (.bool false) rfl)<|nx<|qk<|wr<|lp rfl (xm (.bool false) rfl)<|nx ?_
 rcases qe H with ⟨q5,H⟩ | ⟨q5,H⟩
 ·refine ql (cb q5)<|qk<|wr<|lp rfl (xm (.bool false) rfl)<|nx ?_
  rcases qe H with ⟨q6,H⟩ | ⟨q6,H⟩
  ·refine ql (cb q6)<|wr<|lp rfl (xa (.int .i64 0) rfl)<|nx<|qr<|qv<|qv<|qy ?_
   obtain rfl:=si H
   exact vt rfl (e2.t e4)
  ·refine qh (cb q6)<|qw<|qg<|wr<|lp rfl (xa (.int .i64 (-1)) rfl)<|nx<|qr<|qv<|qy ?_
   obtain rfl:=si H
   exact vt rfl (e2.t e4)
 ·refine qh (cb q5)<|qw<|qg<|qk<|wr<|lp rfl (xm (.bool false) rfl)<|nx ?_
  rcases qe H with ⟨q7,H⟩ | ⟨q7,H⟩
  ·refine ql (cb q7)<|wr<|lp rfl (xa (.int .i64 1) rfl)<|nx<|qr<|qv<|qy ?_
   obtain rfl:=si H
   exact vt rfl (e2.t e4)
  ·refine qh (cb q7)<|qw<|qg<|qk<|wr<|lp rfl (xm (S a0) rfl)<|lp rfl (xm (S a1) rfl)<|lp rfl (X_slt rfl rfl)<|nx ?_
   rcases qe H with ⟨q8,H⟩ | ⟨q8,H⟩
   ·refine ql (cb q8)<|wr<|lp rfl (xa (.int .i64 (-1)) rfl)<|nx<|qr<|qv<|qy ?_
    obtain rfl:=si H
    exact vt rfl (e2.t e4)
   ·refine qh (cb q8)<|qw<|qg<|qk<|wr<|lp rfl (xm (S a0) rfl)<|lp rfl (xm (S a1) rfl)<|lp rfl (X_sgt rfl rfl)<|nx ?_
    rcases qe H with ⟨q9,H⟩ | ⟨q9,H⟩
    ·refine ql (cb q9)<|wr<|lp rfl (xa (.int .i64 1) rfl)<|nx<|qr<|qv<|qy ?_
     obtain rfl:=si H
     exact vt rfl (e2.t e4)
    ·refine qh (cb q9)<|qw<|qg<|wr<|lp rfl (xa (.int .i64 0) rfl)<|nx<|qr<|qy ?_
     obtain rfl:=si H
     exact vt rfl (e2.t e4)
/-! slices.Compare(()string,string) -/
theorem qH.calls {w : World} {a0 : List (List UInt8)} {a1 : List (List UInt8)} {v_a0 : Value} (f_a0 : Rd 1 y4 w v_a0 a0) {v_a1 : Value} (f_a1 : Rd 1 y4 w v_a1 a1) (h0 : a0.length≤4611686018427387904) (h1 : a1.length≤4611686018427387904) :
  Calls Tryz.prog 169 #[v_a0,v_a1] w (Rt (RP w (.int .i64 (cmpL a0 a1)))):=by
 obtain ⟨k,H⟩:=qH.eq a0 a1 h0 h1
 generalize (cmpL a0 a1) = r at H ⊢
 unfold qH.sh at H
 refine qi Tryz.func169 rfl (Nat.le_of_ble_eq_true rfl) Tryz.ntmps169 rfl ?_
 refine wr<|lp rfl (xa (.int .i64 0) rfl)<|nx<|qk<|wr<|lp rfl (xm v_a0 rfl)<|lp rfl (qS Tryz.underlying44 rfl f_a0)<|lp rfl (xm (.int .i64 0) rfl)<|nx ?_
 obtain ⟨z2,L3,C4⟩:=bind_some H
 clear H
 refine  vT (fun s0 sQ wQ=>Kp [(4,9),(11,31)] s0 sQ∧Ext w wQ∧z2 = .inr ()) ?_ ?_
 ·refine qF<|vA (fun s0 kk sQ wQ=>∃ (x11_1 : Int),Kp [(4,9),(11,31)] s0 sQ∧sQ 11 = .int .i64 x11_1∧Ext w wQ∧qt (qH.b1 a0 a1) kk x11_1 = some z2) k ⟨0,kz,rfl,er,L3⟩ ?_
  rintro k9 s10 w11 ⟨x11_1,K12,h15,e13,L14⟩
  cases k9 with
  | zero=>exact absurd L14 (by simp [qt])
  | succ k9=>
   obtain ⟨t16,H,S17⟩:=qQ L14
   clear L14
   unfold qH.b1 at H
   refine wr<|lp rfl (ym h15 (K12 10 rfl))<|nx<|qk ?_
   rcases qe H with ⟨q18,H⟩ | ⟨q18,H⟩
   ·refine ql (cb q18)<|qw<|qg<|qk<|qF<|wr<|lp rfl (qf h15) ?_
    obtain ⟨c19,H⟩:=qa H
    refine vg (.plain rfl) rfl (ltb rfl) rfl Tryz.underlying44 Tryz.sizeOf9 (K12 9 rfl) (Rd.ext f_a0 e13) h15 c19<|fun p20 h21=>lp rfl (y8 Tryz.isAgg9 rfl h21 rfl)<|lp rfl (xa (.int .i64 x11_1) rfl)<|lp rfl (xa (S (gt a0 x11_1)) rfl)<|nx<|qk<|wr<|lp rfl (xm (.int .i64 x11_1) rfl)<|lp rfl (xm v_a1 (K12 1 rfl))<|lp rfl (qS Tryz.underlying44 rfl (Rd.ext f_a1 e13))<|lp rfl (Yd rfl rfl)<|nx ?_
    rcases qe H with ⟨q22,H⟩ | ⟨q22,H⟩
    ·refine ql (cb q22)<|wr<|lp rfl (xa (.int .i64 1) rfl)<|nx<|qr<|qv<|vc<|qv<|qv<|vc<|qv<|qv<|qy ?_
     obtain rfl:=si H
     obtain rfl:=si S17
     have H:=C4
     obtain rfl:=si H
     exact vt rfl e13
    ·refine qh (cb q22)<|qw<|qg<|wr<|lp rfl (xm v_a1 (K12 1 rfl))<|lp rfl (xm (.int .i64 x11_1) rfl) ?_
     obtain ⟨c23,H⟩:=qa H
     refine vg (.plain rfl) rfl (ltb rfl) rfl Tryz.underlying44 Tryz.sizeOf9 rfl (Rd.ext f_a1 e13) rfl c23<|fun p24 h25=>lp rfl (y8 Tryz.isAgg9 rfl h25 rfl)<|lp rfl (xa (S (gt a1 x11_1)) rfl)<|nx<|wr<|lp rfl (xm (S (gt a0 x11_1)) rfl)<|lp rfl (xm (S (gt a1 x11_1)) rfl)<|lc rfl rfl Tryz.call217 (yG.calls (w:=w11) (a0:=gt a0 x11_1) (a1:=gt a1 x11_1)) rfl<|fun w26 e27=>lp rfl (xa (.int .i64 (cmpS (gt a0 x11_1) (gt a1 x11_1))) rfl)<|nx<|wr<|lp rfl (xm (.int .i64 (cmpS (gt a0 x11_1) (gt a1 x11_1))) rfl)<|lp rfl (QJ rfl rfl)<|nx ?_
     rcases qe H with ⟨q28,H⟩ | ⟨q28,H⟩
     ·refine ql (cb q28)<|wr<|lp rfl (xm (.int .i64 (cmpS (gt a0 x11_1) (gt a1 x11_1))) rfl)<|lp rfl (xa (.int .i64 (cmpS (gt a0 x11_1) (gt a1 x11_1))) rfl)<|nx<|qr<|vc<|qv<|qv<|vc<|qv<|qv<|qy ?_
      obtain rfl:=si H
      obtain rfl:=si S17
      have H:=C4
      obtain rfl:=si H
      exact vt rfl (e13.t e27)
     ·refine qh (cb q28)<|qw<|vK<|qg<|qO<|lp rfl (vz h15 rfl)<|lp rfl (xm (.int .i64 (IntKind.wrap .i64 (x11_1 + 1))) rfl)<|nx ?_
      obtain rfl:=si H
      exact ⟨_,Nat.lt_succ_self _,IntKind.wrap .i64 (x11_1 + 1),(ku3 (ku4 (ku8 (ku8 K12 rfl) rfl) rfl) rfl),rfl,(e13.t e27),S17⟩
   ·refine qh (cb q18)<|yc<|vm<|vm<|yV<|qg ?_
    obtain rfl:=si H
    obtain rfl:=si S17
    exact ⟨(ku1 K12 rfl),e13,rfl⟩
 ·rintro s6 w5 ⟨K7,e8,y29⟩
  rw [y29] at C4
  have H:=C4
  replace H : _ = some _:=H
  refine qg<|qk<|wr<|lp rfl (xm v_a0 (K7 0 rfl))<|lp rfl (qS Tryz.underlying44 rfl (Rd.ext f_a0 e8))<|lp rfl (xm v_a1 (K7 1 rfl))<|lp rfl (qS Tryz.underlying44 rfl (Rd.ext f_a1 e8))<|lp rfl (ym rfl rfl)<|nx ?_
  rcases qe H with ⟨q30,H⟩ | ⟨q30,H⟩
  ·refine ql (cb q30)<|wr<|lp rfl (xa (.int .i64 (-1)) rfl)<|nx<|qr<|qv<|qy ?_
   obtain rfl:=si H
   exact vt rfl e8
  ·refine qh (cb q30)<|qw<|qg<|wr<|lp rfl (xa (.int .i64 0) rfl)<|nx<|qr<|qy ?_
   obtain rfl:=si H
   exact vt rfl e8
/-! impl.compare -/
theorem impl_compare.calls {w : World} {a0 : List UInt8} {a1 : List UInt8} (gv : GV 0 w) (h0 : a0.length≤1048576) (h1 : a1.length≤1048576) :
  Calls Tryz.prog 102 #[S a0,S a1] w (Rt (RP w (.int .i64 (cmpL (cut 47 a0) (cut 47 a1))))):=by
 have H:=impl_compare.eq a0 a1 h0 h1
 generalize (cmpL (cut 47 a0) (cut 47 a1)) = r at H ⊢
 unfold impl_compare.sh at H
 refine qi Tryz.func102 rfl (Nat.le_of_ble_eq_true rfl) Tryz.ntmps102 rfl ?_
 refine wr<|lp rfl (xa (.int .i64 0) rfl)<|nx<|wr<|lp rfl (xm (S a0) rfl) ?_
 obtain ⟨c1,H⟩:=qa H
 refine vp (.plain rfl) rfl (ltb rfl) rfl Tryz.call132 (yz.calls (w:=w) (a0:=a0) gv (od c1)) rfl<|fun v4 w2 e3 o5=>lp rfl (xm (S a1) rfl) ?_
 obtain ⟨c6,H⟩:=qa H
 refine vp (.plain rfl) rfl (ltb rfl) rfl Tryz.call132 (yz.calls (w:=w2) (a0:=a1) (GV.ext gv e3) (od c6)) rfl<|fun v9 w7 e8 o10=>?_
 obtain ⟨c11,H⟩:=qa H
 obtain ⟨c12,H⟩:=qa H
 refine lc rfl rfl Tryz.call169 (qH.calls (w:=w7) (a0:=(cut 47 a0)) (a1:=(cut 47 a1)) (Ow.rd (Ow.ext o5 e8)) (Ow.rd o10) (od c11) (od c12)) rfl<|fun w13 e14=>lp rfl (xa (.int .i64 (cmpL (cut 47 a0) (cut 47 a1))) rfl)<|nx<|qr<|qy ?_
 obtain rfl:=si H
 exact vt rfl ((e3.t e8).t e14)
/-! impl.PathLess -/
theorem jZ.calls {w : World} {a0 : List UInt8} {a1 : List UInt8} (gv : GV 0 w) :
  Calls Tryz.prog 37 #[S a0,S a1] w (Rt (RP w (.bool (vO a0 a1)))):=by
 have H:=jZ.eq a0 a1
 generalize (vO a0 a1) = r at H ⊢
 unfold jZ.sh at H
 refine qi Tryz.func37 rfl (Nat.le_of_ble_eq_true rfl) Tryz.ntmps37 rfl ?_
 refine wr<|lp rfl (xa (.bool false) rfl)<|nx<|wr<|lp rfl (xm (S a0) rfl)<|lc rfl rfl Tryz.call101 (Qb.calls (w:=w) (a0:=a0) gv) rfl<|fun w1 e2=>lp rfl (xm (.bool (qC a0)) rfl)<|jj 3 [(8,11)] 10 (.bool ((qC a0) && (qC a1))) ?_ ?_
 ·rcases qo (qC a0) with b2_ | b2_
  ·exact lg rfl rfl rfl rfl (cb b2_) (xm (S a1) rfl)<|vL (tg rfl rfl rfl (cb b2_)) rfl (ltb rfl) rfl Tryz.call101 (Qb.calls (w:=w1) (a0:=a1) (GV.ext gv e2)) rfl<|fun w4 e5=>lp rfl (qq (b:=true) (v:=(.bool (qC a1))) (cb b2_) rfl)<|nx ⟨(ku3 kz rfl),(QP b2_),e5⟩
  ·exact ls rfl rfl rfl (cb b2_) rfl<|ls rfl rfl rfl (cb b2_) rfl<|lp rfl (qq (b:=false) (v:=(.bool false)) (cb b2_) rfl)<|nx ⟨(ku3 kz rfl),(QQ b2_),er⟩
 intro s8 w4 K5 h6 e7
 refine lp rfl (qf h6) ?_
 obtain ⟨z10,x11,H⟩:=bind_some H
 refine yf 5 [(12,17)] 16 (fun q=>q = z10) ?_ ?_
 ·rcases qe x11 with ⟨b8_,H⟩ | ⟨b8_,H⟩
  ·refine lg rfl rfl rfl rfl (cb b8_) (xm (S a0) (K5 0 rfl))<|lg rfl rfl rfl rfl (cb b8_) (xm (S a1) (K5 1 rfl)) ?_
   obtain ⟨c10,H⟩:=qa H
   obtain ⟨c11,H⟩:=qa H
   refine vL (tg rfl rfl rfl (cb b8_)) rfl (ltb rfl) rfl Tryz.call102 (impl_compare.calls (w:=w4) (a0:=a0) (a1:=a1) (GV.ext gv (e2.t e7)) (od c10) (od c11)) rfl<|fun w12 e13=>lg rfl rfl rfl rfl (cb b8_) (ym rfl rfl)<|lp rfl (qq (b:=true) (v:=(.bool (decide ((cmpL (cut 47 a0) (cut 47 a1)) < 0)))) (cb b8_) rfl) ?_
   obtain rfl:=si H
   exact nx ⟨(ku1 (ku4 kz rfl) rfl),⟨_,rfl,rfl⟩,e13⟩
  ·refine ls rfl rfl rfl (cb b8_) rfl<|ls rfl rfl rfl (cb b8_) rfl<|ls rfl rfl rfl (cb b8_) rfl<|ls rfl rfl rfl (cb b8_) rfl<|lp rfl (qq (b:=false) (v:=(.bool false)) (cb b8_) rfl) ?_
   obtain rfl:=si H
   exact nx ⟨(ku1 (ku4 kz rfl) rfl),⟨_,rfl,rfl⟩,er⟩
 intro s16 w12 z17 K13 hq h14 e15
 rw [hq] at h14; clear hq
 refine lp rfl (qA h14)<|nx<|qr<|qy ?_
 obtain rfl:=si H
 exact vt rfl ((e2.t e7).t e15)
/-! spec.l01Parent -/
theorem vr.calls {w : World} {a0 : List UInt8} (h0 : a0.length≤4611686018427387904) :
  Calls Tryz.prog 154 #[S a0] w (Rt (RP w (S (qd a0)))):=by
 obtain ⟨k,H⟩:=vr.eq a0 h0
 generalize (qd a0) = r at H ⊢
 unfold vr.sh at H
 refine qi Tryz.func154 rfl (Nat.le_of_ble_eq_true rfl) Tryz.ntmps154 rfl ?_
 refine wr<|lp rfl (xa (S ([] : List UInt8)) rfl)<|nx<|qk<|wr<|lp rfl (xm (S a0) rfl)<|lp rfl (Vi Tryz.underlying9 rfl)<|lp rfl (Q3 rfl rfl)<|lp rfl (xa (.int .i64 (IntKind.wrap .i64 ((a0.length : Int) - 1))) rfl)<|nx ?_
 obtain ⟨z2,L3,C4⟩:=bind_some H
 clear H
 refine  vT (fun s0 sQ wQ=>Kp [(2,4),(7,18)] s0 sQ∧Ext w wQ∧z2 = .inr ()) ?_ ?_
 ·refine qF<|vA (fun s0 kk sQ wQ=>∃ (x3_1 : Int),Kp [(2,4),(7,18)] s0 sQ∧sQ 3 = .int .i64 x3_1∧Ext w wQ∧qt (vr.b1 a0) kk x3_1 = some z2) k ⟨IntKind.wrap .i64 ((a0.length : Int) - 1),kz,rfl,er,L3⟩ ?_
  rintro k9 s10 w11 ⟨x3_1,K12,h15,e13,L14⟩
  cases k9 with
  | zero=>exact absurd L14 (by simp [qt])
  | succ k9=>
   obtain ⟨t16,H,S17⟩:=qQ L14
   clear L14
   unfold vr.b1 at H
   refine qk<|wr<|lp rfl (qf h15)<|lp rfl (Yd rfl rfl)<|nx ?_
   rcases qe H with ⟨q18,H⟩ | ⟨q18,H⟩
   ·refine ql (cb q18)<|qw<|qg<|qk<|qF<|wr<|lp rfl (xm (S a0) (K12 0 rfl))<|lp rfl (qf h15) ?_
    obtain ⟨c19,H⟩:=qa H
    refine lp rfl (V6 Tryz.underlying9 rfl rfl (Qv c19) (j9 c19))<|lp rfl (vx rfl rfl)<|nx ?_
    rcases qe H with ⟨q20,H⟩ | ⟨q20,H⟩
    ·refine ql (cb q20)<|wr<|lp rfl (xm (S a0) (K12 0 rfl))<|lp rfl (qf h15) ?_
     obtain ⟨c21,H⟩:=qa H
     refine lp rfl (Y5 Tryz.underlying9 rfl (l:=0) (h:=x3_1) rfl ⟨_,rfl⟩ (GB c21) (Gu c21) (GJ c21))<|lp rfl (xa (S (sub a0 0 x3_1)) rfl)<|nx<|qr<|vc<|qv<|qv<|vc<|qv<|qv<|qy ?_
     obtain rfl:=si H
     obtain rfl:=si S17
     have H:=C4
     obtain rfl:=si H
     exact vt rfl e13
    ·refine qh (cb q20)<|qw<|vK<|qg<|qO<|lp rfl (qf h15)<|lp rfl (Q3 rfl rfl)<|lp rfl (xa (.int .i64 (IntKind.wrap .i64 (x3_1 - 1))) rfl)<|nx ?_
     obtain rfl:=si H
     exact ⟨_,Nat.lt_succ_self _,IntKind.wrap .i64 (x3_1 - 1),(ku1 (ku8 K12 rfl) rfl),rfl,e13,S17⟩
   ·refine qh (cb q18)<|yc<|vm<|vm<|yV<|qg ?_
    obtain rfl:=si H
    obtain rfl:=si S17
    exact ⟨(ku2 K12 rfl),e13,rfl⟩
 ·rintro s6 w5 ⟨K7,e8,y22⟩
  rw [y22] at C4
  have H:=C4
  replace H : _ = some _:=H
  refine qg<|wr<|lp rfl (xa (S ([] : List UInt8)) rfl)<|nx<|qr<|qy ?_
  obtain rfl:=si H
  exact vt rfl e8
/-! impl.parent -/
theorem jG.calls {w : World} {a0 : List UInt8} (h0 : a0.length≤1048576) :
  Calls Tryz.prog 92 #[S a0] w (Rt (RP w (S (qd a0)))):=by
 have H:=jG.eq a0 h0
 generalize (qd a0) = r at H ⊢
 unfold jG.sh at H
 refine qi Tryz.func92 rfl (Nat.le_of_ble_eq_true rfl) Tryz.ntmps92 rfl ?_
 refine wr<|lp rfl (xa (S ([] : List UInt8)) rfl)<|nx<|wr<|lp rfl (xm (S a0) rfl)<|lp rfl (xm (S a0) rfl) ?_
 obtain ⟨c1,H⟩:=qa H
 obtain ⟨c2,H⟩:=qa H
 refine lc rfl rfl Tryz.call159 (GN.calls (w:=w) (a0:=a0) (a1:=([47] : List UInt8)) (od c1) (od c2)) rfl<|fun w3 e4=>lp rfl (X_max rfl rfl) ?_
 obtain ⟨c5,H⟩:=qa H
 refine lp rfl (Y5 Tryz.underlying9 rfl (l:=0) (h:=(if ((vB a0) < 0 : Prop) then 0 else (vB a0))) rfl ⟨_,rfl⟩ (GB c5) (Gu c5) (GJ c5))<|lp rfl (qA rfl)<|nx<|qr<|qy ?_
 obtain rfl:=si H
 exact vt rfl e4
/-! spec.l03At -/
theorem yK.calls {w : World} {a0 : List Rec} {a1 : List UInt8} {v_a0 : Value} (f_a0 : Rd 5 qj w v_a0 a0) (h0 : a0.length≤1048576) :
  Calls Tryz.prog 162 #[v_a0,S a1] w (Rt (RP w (.int .i64 (qJ a0 a1)))):=by
 obtain ⟨k,H⟩:=yK.eq a0 a1 h0
 generalize (qJ a0 a1) = r at H ⊢
 unfold yK.sh at H
 refine qi Tryz.func162 rfl (Nat.le_of_ble_eq_true rfl) Tryz.ntmps162 rfl ?_
 refine wr<|lp rfl (xa (.int .i64 0) rfl)<|nx<|qk<|wr<|lp rfl (xa (.int .i64 0) rfl)<|nx ?_
 obtain ⟨z2,L3,C4⟩:=bind_some H
 clear H
 refine  vT (fun s0 sQ wQ=>Kp [(4,20)] s0 sQ∧Ext w wQ∧z2 = .inr ()) ?_ ?_
 ·refine qF<|vA (fun s0 kk sQ wQ=>∃ (x5_1 : Int),Kp [(4,20)] s0 sQ∧sQ 5 = .int .i64 x5_1∧Ext w wQ∧qt (yK.b1 a0 a1) kk x5_1 = some z2) k ⟨0,kz,rfl,er,L3⟩ ?_
  rintro k9 s10 w11 ⟨x5_1,K12,h15,e13,L14⟩
  cases k9 with
  | zero=>exact absurd L14 (by simp [qt])
  | succ k9=>
   obtain ⟨t16,H,S17⟩:=qQ L14
   clear L14
   unfold yK.b1 at H
   refine qk<|wr<|lp rfl (qf h15)<|lp rfl (xm v_a0 (K12 0 rfl))<|lp rfl (qS Tryz.underlying35 rfl (Rd.ext f_a0 e13))<|lp rfl (ym rfl rfl)<|nx ?_
   rcases qe H with ⟨q18,H⟩ | ⟨q18,H⟩
   ·refine ql (cb q18)<|qw<|qg<|qk<|qF<|wr<|lp rfl (xm v_a0 (K12 0 rfl))<|lp rfl (qf h15) ?_
    obtain ⟨c19,H⟩:=qa H
    refine vg (.plain rfl) rfl (ltb rfl) rfl Tryz.underlying35 Tryz.sizeOf52 rfl (Rd.ext f_a0 e13) rfl c19<|fun p20 h21=>lp rfl (qc Tryz.underlying52 rfl Tryz.sizeOf9 rfl rfl)<|lp rfl (yd Tryz.isAgg9 (j:=1) h21 rfl rfl)<|lp rfl (xm (S a1) (K12 1 rfl))<|lp rfl (Vv rfl rfl)<|nx ?_
    rcases qe H with ⟨q22,H⟩ | ⟨q22,H⟩
    ·refine ql (cb q22)<|wr<|lp rfl (qf h15)<|lp rfl (xa (.int .i64 x5_1) rfl)<|nx<|qr<|vc<|qv<|qv<|vc<|qv<|qv<|qy ?_
     obtain rfl:=si H
     obtain rfl:=si S17
     have H:=C4
     obtain rfl:=si H
     exact vt rfl e13
    ·refine qh (cb q22)<|qw<|vK<|qg<|qO<|lp rfl (qf h15)<|lp rfl (vz rfl rfl)<|lp rfl (xa (.int .i64 (IntKind.wrap .i64 (x5_1 + 1))) rfl)<|nx ?_
     obtain rfl:=si H
     exact ⟨_,Nat.lt_succ_self _,IntKind.wrap .i64 (x5_1 + 1),(ku2 (ku4 (ku8 K12 rfl) rfl) rfl),rfl,e13,S17⟩
   ·refine qh (cb q18)<|yc<|vm<|vm<|yV<|qg ?_
    obtain rfl:=si H
    obtain rfl:=si S17
    exact ⟨(ku4 K12 rfl),e13,rfl⟩
 ·rintro s6 w5 ⟨K7,e8,y23⟩
  rw [y23] at C4
  have H:=C4
  replace H : _ = some _:=H
  refine qg<|wr<|lp rfl (xa (.int .i64 (-1)) rfl)<|nx<|qr<|qy ?_
  obtain rfl:=si H
  exact vt rfl e8
/-! spec.l03Fault -/
theorem vP.walk {k : Nat} {w : World} {a0 : List Rec} {v_a0 : Value} (f_a0 : Rd 5 qj w v_a0 a0) {r : Int × Int} (H : vP.sh k a0 = some r) :
  Calls Tryz.prog 133 #[v_a0] w (Rt (RP w (.tuple #[.int .i64 r.1,.int .i64 r.2]))):=by
 unfold vP.sh at H
 refine qi Tryz.func133 rfl (Nat.le_of_ble_eq_true rfl) Tryz.ntmps133 rfl ?_
 refine wr<|lp rfl (xa (.int .i64 0) rfl)<|lp rfl (xa (.int .i64 0) rfl)<|nx<|qk<|wr<|lp rfl (xa (.int .i64 0) rfl)<|nx ?_
 obtain ⟨z2,L3,C4⟩:=bind_some H
 clear H
 refine  vT (fun s0 sQ wQ=>Kp [(2,84)] s0 sQ∧Ext w wQ∧z2 = .inr ()) ?_ ?_
 ·refine qF<|vA (fun s0 kk sQ wQ=>∃ (x4_1 : Int),Kp [(2,84)] s0 sQ∧sQ 4 = .int .i64 x4_1∧Ext w wQ∧qt (vP.b1 a0) kk x4_1 = some z2) k ⟨0,kz,rfl,er,L3⟩ ?_
  rintro k9 s10 w11 ⟨x4_1,K12,h15,e13,L14⟩
  cases k9 with
  | zero=>exact absurd L14 (by simp [qt])
  | succ k9=>
   obtain ⟨t16,H,S17⟩:=qQ L14
   clear L14
   unfold vP.b1 at H
   refine qk<|wr<|lp rfl (qf h15)<|lp rfl (xm v_a0 (K12 0 rfl))<|lp rfl (qS Tryz.underlying35 rfl (Rd.ext f_a0 e13))<|lp rfl (ym rfl rfl)<|nx ?_
   rcases qe H with ⟨q18,H⟩ | ⟨q18,H⟩
   ·refine ql (cb q18)<|qw<|qg<|qk<|qF<|qk<|wr<|lp rfl (qf h15)<|lp rfl (vx rfl rfl)<|nx ?_
    rcases qe H with ⟨q19,H⟩ | ⟨q19,H⟩
    ·refine ql (cb q19)<|wr<|lp rfl (qf h15)<|lp rfl (xa (.int .i64 x4_1) rfl)<|lp rfl (xa (.int .i64 6) rfl)<|nx<|qr<|qv<|vc<|qv<|qv<|vc<|qv<|qv<|qy ?_
     obtain rfl:=si H
     obtain rfl:=si S17
     have H:=C4
     obtain rfl:=si H
     exact JF rfl rfl e13
    ·refine qh (cb q19)<|qw<|qg<|qk<|wr<|lp rfl (xm v_a0 (K12 0 rfl))<|lp rfl (qf h15) ?_
     obtain ⟨c20,H⟩:=qa H
     refine vg (.plain rfl) rfl (ltb rfl) rfl Tryz.underlying35 Tryz.sizeOf52 rfl (Rd.ext f_a0 e13) rfl c20<|fun p21 h22=>lp rfl (qW Tryz.isAgg52 Tryz.sizeOf52 rfl rfl h22)<|lc rfl rfl Tryz.call194 (jX.calls (w:=w11) (a0:=gt a0 x4_1)) rfl<|fun w23 e24=>lp rfl (xa (.int .i64 (qx (gt a0 x4_1))) rfl)<|nx<|wr<|lp rfl (xm (.int .i64 (qx (gt a0 x4_1))) rfl)<|lp rfl (QJ rfl rfl)<|nx ?_
     rcases qe H with ⟨q25,H⟩ | ⟨q25,H⟩
     ·refine ql (cb q25)<|wr<|lp rfl (qf h15)<|lp rfl (xm (.int .i64 (qx (gt a0 x4_1))) rfl)<|lp rfl (xa (.int .i64 x4_1) rfl)<|lp rfl (xa (.int .i64 (qx (gt a0 x4_1))) rfl)<|nx<|qr<|qv<|vc<|qv<|qv<|vc<|qv<|qv<|qy ?_
      obtain rfl:=si H
      obtain rfl:=si S17
      have H:=C4
      obtain rfl:=si H
      exact JF rfl rfl (e13.t e24)
     ·refine qh (cb q25)<|qw<|qg<|qk<|qk ?_
      obtain ⟨c26,H⟩:=qa H
      obtain ⟨c29,H⟩:=qa H
      refine Yi [LEq (.int .i64 x4_1),LEq (.bool (decide (0 < x4_1))),LEq (.bool (decide (0 < x4_1))),LIf (decide (0 < x4_1)) (LEq v_a0),LIf (decide (0 < x4_1)) (LEq (.int .i64 x4_1)),LIf (decide (0 < x4_1)) (yv (qj (gt a0 x4_1))),LIf (decide (0 < x4_1)) (LAt 1 (qj (gt a0 x4_1))),LIf (decide (0 < x4_1)) (LEq (S ((gt a0 x4_1).path))),LIf (decide (0 < x4_1)) (LEq v_a0),LIf (decide (0 < x4_1)) (LEq (.int .i64 x4_1)),LIf (decide (0 < x4_1)) (LEq (.int .i64 (IntKind.wrap .i64 (x4_1 - 1)))),LIf (decide (0 < x4_1)) (yv (qj (gt a0 (IntKind.wrap .i64 (x4_1 - 1))))),LIf (decide (0 < x4_1)) (LAt 1 (qj (gt a0 (IntKind.wrap .i64 (x4_1 - 1))))),LIf (decide (0 < x4_1)) (LEq (S ((gt a0 (IntKind.wrap .i64 (x4_1 - 1))).path))),LIf (decide (0 < x4_1)) (LEq (.bool (decide (((gt a0 x4_1).path) = ((gt a0 (IntKind.wrap .i64 (x4_1 - 1))).path))))),LEq (.bool ((decide (0 < x4_1)) && (decide (((gt a0 x4_1).path) = ((gt a0 (IntKind.wrap .i64 (x4_1 - 1))).path)))))] (by kernel_rfl) (by kernel_rfl) ⟨qm,qm,qm,lm,lm,(LIf.mono yv.mono),(LIf.mono LAt.mono),lm,lm,lm,lm,(LIf.mono yv.mono),(LIf.mono LAt.mono),lm,lm,qm,trivial⟩ ⟨?_,?_,?_,?_,?_,?_,?_,?_,?_,?_,?_,?_,?_,?_,?_,?_,trivial⟩ ?_
      ·exact fun s x e f d u=>lp rfl (xm (.int .i64 x4_1) ((f 4 rfl).trans h15))<|se rfl rfl
      ·exact fun s x e f d u=>lp rfl (j8 (d 0 rfl) rfl)<|se rfl rfl
      ·exact fun s x e f d u=>lp rfl (qf (d 1 rfl))<|se rfl rfl
      ·exact fun s x e f d u=>gT rfl rfl rfl rfl (d 2 rfl) rfl fun b t=>lt t rfl rfl (xm v_a0 ((f 0 rfl).trans (K12 0 rfl)))<|sg rfl rfl b rfl
      ·exact fun s x e f d u=>gT rfl rfl rfl rfl (d 2 rfl) rfl fun b t=>lt t rfl rfl (xm (.int .i64 x4_1) ((f 4 rfl).trans h15))<|sg rfl rfl b rfl
      ·exact fun s x e f d u=>gT rfl rfl rfl rfl (d 2 rfl) rfl fun b t=>vg t rfl (ltb rfl) rfl Tryz.underlying35 Tryz.sizeOf52 ((d 3 rfl).1 b) (Rd.ext f_a0 ((e13.t e24).t e)) ((d 4 rfl).1 b) (vM b c26)<|fun p33 h34=>sg rfl rfl b ⟨_,rfl,h34⟩
      ·intro s x e f d u
       refine gT rfl rfl rfl rfl (d 2 rfl) rfl fun b t=>?_
       obtain ⟨p35,h36,h37⟩:=((d 5 rfl).1 b)
       exact lt t rfl rfl (qc Tryz.underlying52 rfl Tryz.sizeOf9 rfl h36)<|sg rfl rfl b ⟨_,rfl,h37⟩
      ·intro s x e f d u
       refine gT rfl rfl rfl rfl (d 2 rfl) rfl fun b t=>?_
       obtain ⟨p38,h39,h40⟩:=((d 6 rfl).1 b)
       exact lt t rfl rfl (yd Tryz.isAgg9 (j:=1) h40 h39 rfl)<|sg rfl rfl b rfl
      ·exact fun s x e f d u=>gT rfl rfl rfl rfl (d 2 rfl) rfl fun b t=>lt t rfl rfl (xm v_a0 ((f 0 rfl).trans (K12 0 rfl)))<|sg rfl rfl b rfl
      ·exact fun s x e f d u=>gT rfl rfl rfl rfl (d 2 rfl) rfl fun b t=>lt t rfl rfl (xm (.int .i64 x4_1) ((f 4 rfl).trans h15))<|sg rfl rfl b rfl
      ·exact fun s x e f d u=>gT rfl rfl rfl rfl (d 2 rfl) rfl fun b t=>lt t rfl rfl (Q3 ((d 9 rfl).1 b) rfl)<|sg rfl rfl b rfl
      ·exact fun s x e f d u=>gT rfl rfl rfl rfl (d 2 rfl) rfl fun b t=>vg t rfl (ltb rfl) rfl Tryz.underlying35 Tryz.sizeOf52 ((d 8 rfl).1 b) (Rd.ext f_a0 ((e13.t e24).t e)) ((d 10 rfl).1 b) (vM b c29)<|fun p42 h43=>sg rfl rfl b ⟨_,rfl,h43⟩
      ·intro s x e f d u
       refine gT rfl rfl rfl rfl (d 2 rfl) rfl fun b t=>?_
       obtain ⟨p44,h45,h46⟩:=((d 11 rfl).1 b)
       exact lt t rfl rfl (qc Tryz.underlying52 rfl Tryz.sizeOf9 rfl h45)<|sg rfl rfl b ⟨_,rfl,h46⟩
      ·intro s x e f d u
       refine gT rfl rfl rfl rfl (d 2 rfl) rfl fun b t=>?_
       obtain ⟨p47,h48,h49⟩:=((d 12 rfl).1 b)
       exact lt t rfl rfl (yd Tryz.isAgg9 (j:=1) h49 h48 rfl)<|sg rfl rfl b rfl
      ·exact fun s x e f d u=>gT rfl rfl rfl rfl (d 2 rfl) rfl fun b t=>lt t rfl rfl (Vv ((d 7 rfl).1 b) ((d 13 rfl).1 b))<|sg rfl rfl b rfl
      ·exact fun s x e f d u=>lp rfl (jT (d 2 rfl) rfl fun h=>((d 14 rfl).1 h))<|se rfl rfl
      intro s50 w51 e52 hf53 ha54
      have K55:=Kp.ofD (kp:=[(26,42)]) rfl hf53
      have d56 : s50 41 = (.bool ((decide (0 < x4_1)) && (decide (((gt a0 x4_1).path) = ((gt a0 (IntKind.wrap .i64 (x4_1 - 1))).path))))):=ha54 15 rfl
      clear ha54 hf53
      refine qg ?_
      rcases qe H with ⟨q57,H⟩ | ⟨q57,H⟩
      ·refine ql (d56.trans (cb q57))<|wr<|lp rfl (xm (.int .i64 x4_1) ((K55 4 rfl).trans h15))<|lp rfl (xa (.int .i64 x4_1) rfl)<|lp rfl (xa (.int .i64 18) rfl)<|nx<|qr<|qv<|vc<|qv<|qv<|vc<|qv<|qv<|qy ?_
       obtain rfl:=si H
       obtain rfl:=si S17
       have H:=C4
       obtain rfl:=si H
       exact JF rfl rfl ((e13.t e24).t e52)
      ·refine qh (d56.trans (cb q57))<|qw<|qg<|qk<|qk ?_
       obtain ⟨c58,H⟩:=qa H
       obtain ⟨c61,H⟩:=qa H
       obtain ⟨c64,H⟩:=qa H
       obtain ⟨c65,H⟩:=qa H
       refine Yi [LEq (.int .i64 x4_1),LEq (.bool (decide (0 < x4_1))),LEq (.bool (decide (0 < x4_1))),LIf (decide (0 < x4_1)) (LEq v_a0),LIf (decide (0 < x4_1)) (LEq (.int .i64 x4_1)),LIf (decide (0 < x4_1)) (LEq (.int .i64 (IntKind.wrap .i64 (x4_1 - 1)))),LIf (decide (0 < x4_1)) (yv (qj (gt a0 (IntKind.wrap .i64 (x4_1 - 1))))),LIf (decide (0 < x4_1)) (LAt 1 (qj (gt a0 (IntKind.wrap .i64 (x4_1 - 1))))),LIf (decide (0 < x4_1)) (LEq (S ((gt a0 (IntKind.wrap .i64 (x4_1 - 1))).path))),LIf (decide (0 < x4_1)) (LEq v_a0),LIf (decide (0 < x4_1)) (LEq (.int .i64 x4_1)),LIf (decide (0 < x4_1)) (yv (qj (gt a0 x4_1))),LIf (decide (0 < x4_1)) (LAt 1 (qj (gt a0 x4_1))),LIf (decide (0 < x4_1)) (LEq (S ((gt a0 x4_1).path))),LIf (decide (0 < x4_1)) (LEq (.bool (vy (cut 47 ((gt a0 (IntKind.wrap .i64 (x4_1 - 1))).path)) (cut 47 ((gt a0 x4_1).path))))),LIf (decide (0 < x4_1)) (LEq (.bool (!(vy (cut 47 ((gt a0 (IntKind.wrap .i64 (x4_1 - 1))).path)) (cut 47 ((gt a0 x4_1).path)))))),LEq (.bool ((decide (0 < x4_1)) && (!(vy (cut 47 ((gt a0 (IntKind.wrap .i64 (x4_1 - 1))).path)) (cut 47 ((gt a0 x4_1).path))))))] (by kernel_rfl) (by kernel_rfl) ⟨qm,qm,qm,lm,lm,lm,(LIf.mono yv.mono),(LIf.mono LAt.mono),lm,lm,lm,(LIf.mono yv.mono),(LIf.mono LAt.mono),lm,lm,lm,qm,trivial⟩ ⟨?_,?_,?_,?_,?_,?_,?_,?_,?_,?_,?_,?_,?_,?_,?_,?_,?_,trivial⟩ ?_
       ·exact fun s x e f d u=>lp rfl (xm (.int .i64 x4_1) ((f 4 rfl).trans ((K55 4 rfl).trans h15)))<|se rfl rfl
       ·exact fun s x e f d u=>lp rfl (j8 (d 0 rfl) rfl)<|se rfl rfl
       ·exact fun s x e f d u=>lp rfl (qf (d 1 rfl))<|se rfl rfl
       ·exact fun s x e f d u=>gT rfl rfl rfl rfl (d 2 rfl) rfl fun b t=>lt t rfl rfl (xm v_a0 ((f 0 rfl).trans ((K55 0 rfl).trans (K12 0 rfl))))<|sg rfl rfl b rfl
       ·exact fun s x e f d u=>gT rfl rfl rfl rfl (d 2 rfl) rfl fun b t=>lt t rfl rfl (xm (.int .i64 x4_1) ((f 4 rfl).trans ((K55 4 rfl).trans h15)))<|sg rfl rfl b rfl
       ·exact fun s x e f d u=>gT rfl rfl rfl rfl (d 2 rfl) rfl fun b t=>lt t rfl rfl (Q3 ((d 4 rfl).1 b) rfl)<|sg rfl rfl b rfl
       ·exact fun s x e f d u=>gT rfl rfl rfl rfl (d 2 rfl) rfl fun b t=>vg t rfl (ltb rfl) rfl Tryz.underlying35 Tryz.sizeOf52 ((d 3 rfl).1 b) (Rd.ext f_a0 (((e13.t e24).t e52).t e)) ((d 5 rfl).1 b) (vM b c58)<|fun p69 h70=>sg rfl rfl b ⟨_,rfl,h70⟩
       ·intro s x e f d u
        refine gT rfl rfl rfl rfl (d 2 rfl) rfl fun b t=>?_
        obtain ⟨p71,h72,h73⟩:=((d 6 rfl).1 b)
        exact lt t rfl rfl (qc Tryz.underlying52 rfl Tryz.sizeOf9 rfl h72)<|sg rfl rfl b ⟨_,rfl,h73⟩
       ·intro s x e f d u
        refine gT rfl rfl rfl rfl (d 2 rfl) rfl fun b t=>?_
        obtain ⟨p74,h75,h76⟩:=((d 7 rfl).1 b)
        exact lt t rfl rfl (yd Tryz.isAgg9 (j:=1) h76 h75 rfl)<|sg rfl rfl b rfl
       ·exact fun s x e f d u=>gT rfl rfl rfl rfl (d 2 rfl) rfl fun b t=>lt t rfl rfl (xm v_a0 ((f 0 rfl).trans ((K55 0 rfl).trans (K12 0 rfl))))<|sg rfl rfl b rfl
       ·exact fun s x e f d u=>gT rfl rfl rfl rfl (d 2 rfl) rfl fun b t=>lt t rfl rfl (xm (.int .i64 x4_1) ((f 4 rfl).trans ((K55 4 rfl).trans h15)))<|sg rfl rfl b rfl
       ·exact fun s x e f d u=>gT rfl rfl rfl rfl (d 2 rfl) rfl fun b t=>vg t rfl (ltb rfl) rfl Tryz.underlying35 Tryz.sizeOf52 ((d 9 rfl).1 b) (Rd.ext f_a0 (((e13.t e24).t e52).t e)) ((d 10 rfl).1 b) (vM b c61)<|fun p78 h79=>sg rfl rfl b ⟨_,rfl,h79⟩
       ·intro s x e f d u
        refine gT rfl rfl rfl rfl (d 2 rfl) rfl fun b t=>?_
        obtain ⟨p80,h81,h82⟩:=((d 11 rfl).1 b)
        exact lt t rfl rfl (qc Tryz.underlying52 rfl Tryz.sizeOf9 rfl h81)<|sg rfl rfl b ⟨_,rfl,h82⟩
       ·intro s x e f d u
        refine gT rfl rfl rfl rfl (d 2 rfl) rfl fun b t=>?_
        obtain ⟨p83,h84,h85⟩:=((d 12 rfl).1 b)
        exact lt t rfl rfl (yd Tryz.isAgg9 (j:=1) h85 h84 rfl)<|sg rfl rfl b rfl
       ·exact fun s x e f d u=>gT rfl rfl rfl rfl (d 2 rfl) rfl fun b t=>vL t rfl (ltb rfl) rfl Tryz.call153 (vN.calls (w:=x) (a0:=(gt a0 (IntKind.wrap .i64 (x4_1 - 1))).path) (a1:=(gt a0 x4_1).path) (od (vM b c64)) (od (vM b c65))) (va ((d 8 rfl).1 b) (va ((d 13 rfl).1 b) rfl))<|fun w88 e89=>sgx rfl rfl b e89 rfl
       ·exact fun s x e f d u=>gT rfl rfl rfl rfl (d 2 rfl) rfl fun b t=>lt t rfl rfl (yR ((d 14 rfl).1 b))<|sg rfl rfl b rfl
       ·exact fun s x e f d u=>lp rfl (jT (d 2 rfl) rfl fun h=>((d 15 rfl).1 h))<|se rfl rfl
       intro s90 w91 e92 hf93 ha94
       have K95:=Kp.ofD (kp:=[(43,60)]) rfl hf93
       have d96 : s90 59 = (.bool ((decide (0 < x4_1)) && (!(vy (cut 47 ((gt a0 (IntKind.wrap .i64 (x4_1 - 1))).path)) (cut 47 ((gt a0 x4_1).path)))))):=ha94 16 rfl
       clear ha94 hf93
       refine qg ?_
       rcases qe H with ⟨q97,H⟩ | ⟨q97,H⟩
       ·refine ql (d96.trans (cb q97))<|wr<|lp rfl (xm (.int .i64 x4_1) ((K95 4 rfl).trans ((K55 4 rfl).trans h15)))<|lp rfl (xa (.int .i64 x4_1) rfl)<|lp rfl (xa (.int .i64 11) rfl)<|nx<|qr<|qv<|vc<|qv<|qv<|vc<|qv<|qv<|qy ?_
        obtain rfl:=si H
        obtain rfl:=si S17
        have H:=C4
        obtain rfl:=si H
        exact JF rfl rfl (((e13.t e24).t e52).t e92)
       ·refine qh (d96.trans (cb q97))<|qw<|qg<|wr<|lp rfl (xm v_a0 ((K95 0 rfl).trans ((K55 0 rfl).trans (K12 0 rfl))))<|lp rfl (xm (.int .i64 x4_1) ((K95 4 rfl).trans ((K55 4 rfl).trans h15))) ?_
        obtain ⟨c98,H⟩:=qa H
        refine vg (.plain rfl) rfl (ltb rfl) rfl Tryz.underlying35 Tryz.sizeOf52 rfl (Rd.ext f_a0 (((e13.t e24).t e52).t e92)) rfl c98<|fun p99 h100=>lp rfl (qc Tryz.underlying52 rfl Tryz.sizeOf9 rfl rfl)<|lp rfl (yd Tryz.isAgg9 (j:=1) h100 rfl rfl) ?_
        obtain ⟨c101,H⟩:=qa H
        refine lc rfl rfl Tryz.call154 (vr.calls (w:=w91) (a0:=(gt a0 x4_1).path) (od c101)) rfl<|fun w102 e103=>lp rfl (xa (S (qd ((gt a0 x4_1).path))) rfl)<|nx<|qk<|wr<|lp rfl (xm (S (qd ((gt a0 x4_1).path))) rfl)<|lp rfl (Vv rfl rfl)<|nx ?_
        rcases qe H with ⟨q104,H⟩ | ⟨q104,H⟩
        ·refine ql (cb q104)<|yc<|vm<|yV<|qg<|qO<|lp rfl (xm (.int .i64 x4_1) ((K95 4 rfl).trans ((K55 4 rfl).trans h15)))<|lp rfl (vz rfl rfl)<|lp rfl (xa (.int .i64 (IntKind.wrap .i64 (x4_1 + 1))) rfl)<|nx ?_
         obtain rfl:=si H
         exact ⟨_,Nat.lt_succ_self _,IntKind.wrap .i64 (x4_1 + 1),(ku4 (ku8 (Kp.cut (Kp.cut (ku2 (ku4 (ku8 K12 rfl) rfl) rfl) K55 rfl) K95 rfl) rfl) rfl),rfl,((((e13.t e24).t e52).t e92).t e103),S17⟩
        ·refine qh (cb q104)<|qw<|qg<|wr<|lp rfl (xm v_a0 ((K95 0 rfl).trans ((K55 0 rfl).trans (K12 0 rfl))))<|lp rfl (xm (.int .i64 x4_1) ((K95 4 rfl).trans ((K55 4 rfl).trans h15))) ?_
         obtain ⟨c105,H⟩:=qa H
         refine Xw (.plain rfl) rfl (ltb rfl) rfl Tryz.underlying35 Tryz.sizeOf52 rfl (Rd.ext f_a0 ((((e13.t e24).t e52).t e92).t e103)) (l:=0) (h:=x4_1) rfl ⟨_,rfl⟩ c105<|fun v106 h107=>lp rfl (xm (S (qd ((gt a0 x4_1).path))) rfl) ?_
         obtain ⟨c108,H⟩:=qa H
         refine lc rfl rfl Tryz.call162 (yK.calls (w:=w102) (a0:=sub a0 0 x4_1) (a1:=(qd ((gt a0 x4_1).path))) h107 (od c108)) rfl<|fun w109 e110=>lp rfl (xa (.int .i64 (qJ (sub a0 0 x4_1) (qd ((gt a0 x4_1).path)))) rfl)<|nx<|qk<|wr<|lp rfl (xm (.int .i64 (qJ (sub a0 0 x4_1) (qd ((gt a0 x4_1).path)))) rfl)<|lp rfl (ym rfl rfl)<|nx ?_
         rcases qe H with ⟨q111,H⟩ | ⟨q111,H⟩
         ·refine ql (cb q111)<|wr<|lp rfl (xm (.int .i64 x4_1) ((K95 4 rfl).trans ((K55 4 rfl).trans h15)))<|lp rfl (xa (.int .i64 x4_1) rfl)<|lp rfl (xa (.int .i64 12) rfl)<|nx<|qr<|qv<|vc<|qv<|qv<|vc<|qv<|qv<|qy ?_
          obtain rfl:=si H
          obtain rfl:=si S17
          have H:=C4
          obtain rfl:=si H
          exact JF rfl rfl (((((e13.t e24).t e52).t e92).t e103).t e110)
         ·refine qh (cb q111)<|qw<|qg<|wr<|lp rfl (xm v_a0 ((K95 0 rfl).trans ((K55 0 rfl).trans (K12 0 rfl))))<|lp rfl (xm (.int .i64 (qJ (sub a0 0 x4_1) (qd ((gt a0 x4_1).path)))) rfl) ?_
          obtain ⟨c112,H⟩:=qa H
          refine vg (.plain rfl) rfl (ltb rfl) rfl Tryz.underlying35 Tryz.sizeOf52 rfl (Rd.ext f_a0 (((((e13.t e24).t e52).t e92).t e103).t e110)) rfl c112<|fun p113 h114=>lp rfl (qc Tryz.underlying52 rfl Tryz.sizeOf3 rfl rfl)<|lp rfl (yd Tryz.isAgg3 (j:=0) h114 rfl rfl)<|lp rfl (QJ rfl rfl)<|nx ?_
          rcases qe H with ⟨q115,H⟩ | ⟨q115,H⟩
          ·refine ql (cb q115)<|wr<|lp rfl (xm (.int .i64 x4_1) ((K95 4 rfl).trans ((K55 4 rfl).trans h15)))<|lp rfl (xa (.int .i64 x4_1) rfl)<|lp rfl (xa (.int .i64 13) rfl)<|nx<|qr<|vc<|qv<|qv<|vc<|qv<|qv<|qy ?_
           obtain rfl:=si H
           obtain rfl:=si S17
           have H:=C4
           obtain rfl:=si H
           exact JF rfl rfl (((((e13.t e24).t e52).t e92).t e103).t e110)
          ·refine qh (cb q115)<|qw<|vK<|qg<|qO<|lp rfl (xm (.int .i64 x4_1) ((K95 4 rfl).trans ((K55 4 rfl).trans h15)))<|lp rfl (vz rfl rfl)<|lp rfl (xa (.int .i64 (IntKind.wrap .i64 (x4_1 + 1))) rfl)<|nx ?_
           obtain rfl:=si H
           exact ⟨_,Nat.lt_succ_self _,IntKind.wrap .i64 (x4_1 + 1),(ku2 (ku8 (ku8 (ku8 (Kp.cut (Kp.cut (ku2 (ku4 (ku8 K12 rfl) rfl) rfl) K55 rfl) K95 rfl) rfl) rfl) rfl) rfl),rfl,(((((e13.t e24).t e52).t e92).t e103).t e110),S17⟩
   ·refine qh (cb q18)<|yc<|vm<|vm<|yV<|qg ?_
    obtain rfl:=si H
    obtain rfl:=si S17
    exact ⟨(ku4 K12 rfl),e13,rfl⟩
 ·rintro s6 w5 ⟨K7,e8,y116⟩
  rw [y116] at C4
  have H:=C4
  replace H : _ = some _:=H
  refine qg<|wr<|lp rfl (xa (.int .i64 0) rfl)<|lp rfl (xa (.int .i64 0) rfl)<|nx<|qr<|qy ?_
  obtain rfl:=si H
  exact JF rfl rfl e8
theorem vP.calls {w : World} {a0 : List Rec} {v_a0 : Value} (f_a0 : Rd 5 qj w v_a0 a0) (h0 : a0.length≤1048576) (h1 : ∀ x ∈ a0,x.path.length≤1048576) :
  Calls Tryz.prog 133 #[v_a0] w (Rt (RP w (.tuple #[.int .i64 ((qn a0).1),.int .i64 ((qn a0).2)]))):=by
 obtain ⟨k,h⟩:=vP.eq a0 h0 h1
 exact vP.walk f_a0 h
/-! impl.isLongList(impl.Record) -/
theorem yk.calls {w : World} {a0 : List Rec} {v_a0 : Value} (f_a0 : Rd 5 qj w v_a0 a0) :
  Calls Tryz.prog 78 #[v_a0] w (Rt (RP w (.bool (decide (4096 < a0.length))))):=by
 have H:=yk.eq a0
 generalize (decide (4096 < a0.length)) = r at H ⊢
 unfold yk.sh at H
 refine qi Tryz.func78 rfl (Nat.le_of_ble_eq_true rfl) Tryz.ntmps78 rfl ?_
 refine wr<|lp rfl (xa (.bool false) rfl)<|nx<|wr<|lp rfl (xm v_a0 rfl)<|lp rfl (qS Tryz.underlying35 rfl f_a0)<|lp rfl (j8 rfl rfl)<|lp rfl (xa (.bool (decide (4096 < (a0.length : Int)))) rfl)<|nx<|qr<|qy ?_
 obtain rfl:=si H
 exact vt rfl er
/-! impl.find$1 -/
theorem Vu.calls {w : World} {a0 : Rec} {a1 : List UInt8} {b_a1 : Nat} (k_a1 : Blk w b_a1 #[(S a1)] 9) :
  Calls Tryz.prog 139 #[.agg (qj a0).toArray,.pointer (some ⟨b_a1,0,none⟩)] w (Rt (RP w (.bool (decide (a0.path = a1))))):=by
 have H:=Vu.eq a0 a1
 generalize (decide (a0.path = a1)) = r at H ⊢
 unfold Vu.sh at H
 refine qi Tryz.func139 rfl (Nat.le_of_ble_eq_true rfl) Tryz.ntmps139 rfl ?_
 refine wr<|Qq (.plain rfl) rfl (ltb rfl) rfl rfl<|fun b1 w2 z3 z4 e5 k6=>lp rfl (xa (.bool false) rfl)<|nx<|wr<|lp rfl (qc Tryz.underlying52 rfl Tryz.sizeOf9 rfl rfl)<|lp rfl (qz Tryz.isAgg9 k6 rfl rfl)<|lp rfl (qz Tryz.isAgg9 (Blk.ext k_a1 e5) rfl rfl)<|lp rfl (Vv rfl rfl)<|lp rfl (xa (.bool (decide (a0.path = a1))) rfl)<|nx<|qr<|qy ?_
 obtain rfl:=si H
 exact vt rfl e5
/-! slices.IndexFunc(()impl.Record,impl.Record) -/
theorem vk.walk {k : Nat} {w : World} {a0 : List Rec} {a1 : Rec→Option Bool} {v_a0 : Value} (f_a0 : Rd 5 qj w v_a0 a0) {v_a1 : Value} (f_a1 : ∀ (x0 : Rec) (r : Bool),a1 x0 = some r→jR Tryz.prog w v_a1 [(.agg (qj x0).toArray)] (.bool r)) (g_a1 : v_a1.cells = #[v_a1]) {r : Int} (H : vk.sh k a0 a1 = some r) :
  Calls Tryz.prog 138 #[v_a0,v_a1] w (Rt (RP w (.int .i64 r))):=by
 unfold vk.sh at H
 refine qi Tryz.func138 rfl (Nat.le_of_ble_eq_true rfl) Tryz.ntmps138 rfl ?_
 refine wr<|lp rfl (xa (.int .i64 0) rfl)<|nx<|qk<|wr<|lp rfl (xm v_a0 rfl)<|lp rfl (qS Tryz.underlying35 rfl f_a0)<|lp rfl (xm (.int .i64 0) rfl)<|nx ?_
 obtain ⟨z2,L3,C4⟩:=bind_some H
 clear H
 refine  vT (fun s0 sQ wQ=>Kp [(4,6),(8,19)] s0 sQ∧Ext w wQ∧z2 = .inr ()) ?_ ?_
 ·refine qF<|vA (fun s0 kk sQ wQ=>∃ (x8_1 : Int),Kp [(4,6),(8,19)] s0 sQ∧sQ 8 = .int .i64 x8_1∧Ext w wQ∧qt (vk.b1 a0 a1) kk x8_1 = some z2) k ⟨0,kz,rfl,er,L3⟩ ?_
  rintro k9 s10 w11 ⟨x8_1,K12,h15,e13,L14⟩
  cases k9 with
  | zero=>exact absurd L14 (by simp [qt])
  | succ k9=>
   obtain ⟨t16,H,S17⟩:=qQ L14
   clear L14
   unfold vk.b1 at H
   refine wr<|lp rfl (ym h15 (K12 7 rfl))<|nx<|qk ?_
   rcases qe H with ⟨q18,H⟩ | ⟨q18,H⟩
   ·refine ql (cb q18)<|qw<|qg<|qk<|qF<|wr<|lp rfl (qf h15)<|lp rfl (xa (.int .i64 x8_1) rfl)<|nx<|wr<|lp rfl (xm v_a1 (K12 1 rfl))<|lp rfl (xm v_a0 (K12 0 rfl))<|lp rfl (xm (.int .i64 x8_1) rfl) ?_
    obtain ⟨c19,H⟩:=qa H
    refine vg (.plain rfl) rfl (ltb rfl) rfl Tryz.underlying35 Tryz.sizeOf52 rfl (Rd.ext f_a0 e13) rfl c19<|fun p20 h21=>lp rfl (qW Tryz.isAgg52 Tryz.sizeOf52 rfl rfl h21) ?_
    obtain ⟨z22,x23,H⟩:=bind_some H
    refine YM (.plain rfl) rfl (ltb rfl) rfl rfl (jR.ext (f_a1 _ _ x23) e13) rfl<|fun w24 e25=>nx ?_
    rcases qe H with ⟨q26,H⟩ | ⟨q26,H⟩
    ·refine ql (cb q26)<|wr<|lp rfl (xm (.int .i64 x8_1) rfl)<|lp rfl (xa (.int .i64 x8_1) rfl)<|nx<|qr<|vc<|qv<|qv<|vc<|qv<|qv<|qy ?_
     obtain rfl:=si H
     obtain rfl:=si S17
     have H:=C4
     obtain rfl:=si H
     exact vt rfl (e13.t e25)
    ·refine qh (cb q26)<|qw<|vK<|qg<|qO<|lp rfl (vz h15 rfl)<|lp rfl (xm (.int .i64 (IntKind.wrap .i64 (x8_1 + 1))) rfl)<|nx ?_
     obtain rfl:=si H
     exact ⟨_,Nat.lt_succ_self _,IntKind.wrap .i64 (x8_1 + 1),(ku3 (ku8 K12 rfl) rfl),rfl,(e13.t e25),S17⟩
   ·refine qh (cb q18)<|yc<|vm<|vm<|yV<|qg ?_
    obtain rfl:=si H
    obtain rfl:=si S17
    exact ⟨(ku1 K12 rfl),e13,rfl⟩
 ·rintro s6 w5 ⟨K7,e8,y27⟩
  rw [y27] at C4
  have H:=C4
  replace H : _ = some _:=H
  refine qg<|wr<|lp rfl (xa (.int .i64 (-1)) rfl)<|nx<|qr<|qy ?_
  obtain rfl:=si H
  exact vt rfl e8
theorem vk.calls {w : World} {a0 : List Rec} {a1 : Rec→Option Bool} {r : Int} {v_a0 : Value} (f_a0 : Rd 5 qj w v_a0 a0) {v_a1 : Value} (f_a1 : ∀ (x0 : Rec) (r : Bool),a1 x0 = some r→jR Tryz.prog w v_a1 [(.agg (qj x0).toArray)] (.bool r)) (g_a1 : v_a1.cells = #[v_a1]) (h0 : a0.length≤4611686018427387904) (H : (YP a1 a0) = some r) :
  Calls Tryz.prog 138 #[v_a0,v_a1] w (Rt (RP w (.int .i64 r))):=by
 obtain ⟨k,h⟩:=vk.eq a0 a1 h0 H
 exact vk.walk f_a0 f_a1 g_a1 h
/-! impl.find -/
theorem Qa.calls {w : World} {a0 : List Rec} {a1 : List UInt8} {v_a0 : Value} (f_a0 : Rd 5 qj w v_a0 a0) (h0 : a0.length≤1048576) :
  Calls Tryz.prog 80 #[v_a0,S a1] w (Rt (RP w (.int .i64 (qJ a0 a1)))):=by
 have H:=Qa.eq a0 a1 h0
 generalize (qJ a0 a1) = r at H ⊢
 unfold Qa.sh at H
 refine qi Tryz.func80 rfl (Nat.le_of_ble_eq_true rfl) Tryz.ntmps80 rfl ?_
 refine wr<|Qq (.plain rfl) rfl (ltb rfl) rfl rfl<|fun b1 w2 z3 z4 e5 k6=>lp rfl (xa (.int .i64 0) rfl)<|nx<|wr<|lp rfl (xm v_a0 rfl)<|lp rfl (VN (vs:=#[]) (us:=#[.pointer (some ⟨b1,0,none⟩)]) rfl rfl) ?_
 obtain ⟨c11,H⟩:=qa H
 obtain ⟨z12,x13,H⟩:=bind_some H
 refine lc rfl rfl Tryz.call138 (vk.calls (w:=w2) (a0:=a0) (a1:=(fun (x0_ : Rec)=>some (decide (x0_.path = a1)))) (Rd.ext f_a0 e5) (fun x0_ r h=>by have h:=si h; subst h; exact jR.mk Tryz.call139 (by rfl) fun w9 k10=>Vu.calls (w:=w9) (a0:=x0_) (a1:=a1) (Blk.ext k6 k10)) rfl (od c11) x13) rfl<|fun w14 e15=>lp rfl (xa (.int .i64 z12) rfl)<|nx<|qr<|qy ?_
 obtain rfl:=si H
 exact vt rfl (e5.t e15)
/-! impl.faultAt -/
abbrev qB.e1 (a0 : List Rec) (a1 : Int) (x6_19 : Int):=([.inl (!(decide (qx (gt a0 a1) = 0))),.inr (qx (gt a0 a1)),.inl ((decide (0 < a1)) && (decide (((gt a0 (if ((IntKind.wrap .i64 (a1 - 1)) < 0 : Prop) then 0 else (IntKind.wrap .i64 (a1 - 1)))).path) = ((gt a0 a1).path)))),.inr 18,.inl ((decide (0 < a1)) && (!(vO ((gt a0 (if ((IntKind.wrap .i64 (a1 - 1)) < 0 : Prop) then 0 else (IntKind.wrap .i64 (a1 - 1)))).path) ((gt a0 a1).path)))),.inr 11,.inl (decide (x6_19 < 0)),.inr 12,.inl ((!decide ((qd ((gt a0 a1).path)) = ([] : List UInt8))) && (!decide (((gt a0 (if (x6_19 < 0 : Prop) then 0 else x6_19)).kind) = 3))),.inr 13] : List (Bool ⊕ Int))
abbrev qB.e2 (a1 : Int):=(if ((IntKind.wrap .i64 (a1 - 1)) < 0 : Prop) then 0 else (IntKind.wrap .i64 (a1 - 1)))
abbrev qB.e3 (a0 : List Rec) (a1 : Int):=(!decide ((qd ((gt a0 a1).path)) = ([] : List UInt8)))
abbrev qB.e4 (a0 : List Rec) (a1 : Int) (x6_19 : Int):=([.inl (decide (16≤a1)),.inr 6,.inl true,.inr (vY (qB.e1 a0 a1 x6_19))] : List (Bool ⊕ Int))
theorem qB.walk {w : World} {a0 : List Rec} {a1 : Int} (gv : GV 0 w) {v_a0 : Value} (f_a0 : Rd 5 qj w v_a0 a0) {r : Int} (H : qB.sh a0 a1 = some r) :
  Calls Tryz.prog 220 #[v_a0,.int .i64 a1] w (Rt (RP w (.int .i64 r))):=by
 unfold qB.sh at H
 refine qi Tryz.func220 rfl (Nat.le_of_ble_eq_true rfl) Tryz.ntmps220 rfl ?_
 refine wr<|lp rfl (xa (.int .i64 0) rfl)<|nx<|wr<|lp rfl (xm v_a0 rfl)<|lp rfl (xm (.int .i64 a1) rfl) ?_
 obtain ⟨c1,H⟩:=qa H
 refine vg (.plain rfl) rfl (ltb rfl) rfl Tryz.underlying35 Tryz.sizeOf52 rfl f_a0 rfl c1<|fun p2 h3=>lp rfl (qW Tryz.isAgg52 Tryz.sizeOf52 rfl rfl h3)<|jU (.plain rfl) rfl (ltb rfl) rfl Tryz.zeroValue52<|fun b4 w5 z6 z7 e8 k9=>vU (.plain rfl) rfl rfl Tryz.sizeOf52 rfl rfl rfl rfl rfl k9<|fun w10 h11 k12=>lp rfl (xa (.int .i64 0) rfl)<|nx<|qk<|wr<|lp rfl (qc Tryz.underlying52 rfl Tryz.sizeOf9 rfl rfl)<|lp rfl (qz Tryz.isAgg9 k12 rfl rfl) ?_
 obtain ⟨c13,H⟩:=qa H
 refine lc rfl rfl Tryz.call92 (jG.calls (w:=w10) (a0:=(gt a0 a1).path) (od c13)) rfl<|fun w14 e15=>lp rfl (xa (S (qd ((gt a0 a1).path))) rfl)<|nx<|wr<|lp rfl (xm (S (qd ((gt a0 a1).path))) rfl)<|lp rfl (VL rfl rfl)<|nx ?_
 obtain ⟨z16,L17,C18⟩:=bind_some H
 clear H
 refine vT (fun s0 sQ wQ=>∃ (x6_19 : Int),Kp [(6,7),(17,22)] s0 sQ∧sQ 6 = .int .i64 x6_19∧Ext w14 wQ∧z16 = .inr x6_19) ?_ ?_
 ·have H:=L17
  rcases qe H with ⟨q20,H⟩ | ⟨q20,H⟩
  ·refine ql (cb q20)<|qO<|lp rfl (xm v_a0 rfl)<|lp rfl (xm (.int .i64 a1) rfl) ?_
   obtain ⟨c21,H⟩:=qa H
   refine Xw (.plain rfl) rfl (ltb rfl) rfl Tryz.underlying35 Tryz.sizeOf52 rfl (Rd.ext f_a0 (Ext.trans (Below.trans e8 (Wr.below h11 (Nat.le_of_eq z6))) e15)) (l:=0) (h:=a1) rfl ⟨_,rfl⟩ c21<|fun v22 h23=>lp rfl (xm (S (qd ((gt a0 a1).path))) rfl) ?_
   obtain ⟨c24,H⟩:=qa H
   refine lc rfl rfl Tryz.call80 (Qa.calls (w:=w14) (a0:=sub a0 0 a1) (a1:=(qd ((gt a0 a1).path))) h23 (od c24)) rfl<|fun w25 e26=>lp rfl (xa (.int .i64 (qJ (sub a0 0 a1) (qd ((gt a0 a1).path)))) rfl)<|nx ?_
   obtain rfl:=si H
   exact ⟨(qJ (sub a0 0 a1) (qd ((gt a0 a1).path))),(ku2 (ku4 kz rfl) rfl),rfl,e26,rfl⟩
  ·refine qh (cb q20)<|qw<|qg ?_
   obtain rfl:=si H
   exact ⟨0,kz,rfl,er,rfl⟩
 ·rintro s28 w27 ⟨x6_19,K29,h32,e30,y31⟩
  rw [y31] at C18
  have H:=C18
  refine qg<|qk ?_
  obtain ⟨c37,H⟩:=qa H
  obtain ⟨c40,H⟩:=qa H
  obtain ⟨c45,H⟩:=qa H
  obtain ⟨c48,H⟩:=qa H
  obtain ⟨c57,H⟩:=qa H
  obtain ⟨c66,H⟩:=qa H
  refine Yi [LEq (.int .i64 a1),LEq (.bool (decide (16≤a1))),LEq (.iface 4 (.bool (decide (16≤a1)))),LEq (.iface 3 (.int .i64 6)),LEq (.iface 4 (.bool true)),LEq (.agg #[(.int .i64 ((gt a0 a1).kind)),(S ((gt a0 a1).path)),(S ((gt a0 a1).body)),(.int .i64 ((gt a0 a1).mode)),(.bool ((gt a0 a1).opq))]),LEq (.bool (decide (qx (gt a0 a1) = 0))),LEq (.bool (!(decide (qx (gt a0 a1) = 0)))),LEq (.iface 4 (.bool (!(decide (qx (gt a0 a1) = 0))))),LEq (.agg #[(.int .i64 ((gt a0 a1).kind)),(S ((gt a0 a1).path)),(S ((gt a0 a1).body)),(.int .i64 ((gt a0 a1).mode)),(.bool ((gt a0 a1).opq))]),LEq (.int .i64 (qx (gt a0 a1))),LEq (.iface 3 (.int .i64 (qx (gt a0 a1)))),LEq (.int .i64 a1),LEq (.bool (decide (0 < a1))),LEq (.bool (decide (0 < a1))),LIf (decide (0 < a1)) (LEq v_a0),LIf (decide (0 < a1)) (LEq (.int .i64 a1)),LIf (decide (0 < a1)) (LEq (.int .i64 (IntKind.wrap .i64 (a1 - 1)))),LIf (decide (0 < a1)) (LEq (.int .i64 (qB.e2 a1))),LIf (decide (0 < a1)) (yv (qj (gt a0 (qB.e2 a1)))),LIf (decide (0 < a1)) (LAt 1 (qj (gt a0 (qB.e2 a1)))),LIf (decide (0 < a1)) (LEq (S ((gt a0 (qB.e2 a1)).path))),LIf (decide (0 < a1)) (LEq (.pointer (some ⟨b4,1,none⟩))),LIf (decide (0 < a1)) (LEq (S ((gt a0 a1).path))),LIf (decide (0 < a1)) (LEq (.bool (decide (((gt a0 (qB.e2 a1)).path) = ((gt a0 a1).path))))),LEq (.bool ((decide (0 < a1)) && (decide (((gt a0 (qB.e2 a1)).path) = ((gt a0 a1).path))))),LEq (.iface 4 (.bool ((decide (0 < a1)) && (decide (((gt a0 (qB.e2 a1)).path) = ((gt a0 a1).path)))))),LEq (.iface 3 (.int .i64 18)),LEq (.int .i64 a1),LEq (.bool (decide (0 < a1))),LEq (.bool (decide (0 < a1))),LIf (decide (0 < a1)) (LEq v_a0),LIf (decide (0 < a1)) (LEq (.int .i64 a1)),LIf (decide (0 < a1)) (LEq (.int .i64 (IntKind.wrap .i64 (a1 - 1)))),LIf (decide (0 < a1)) (LEq (.int .i64 (qB.e2 a1))),LIf (decide (0 < a1)) (yv (qj (gt a0 (qB.e2 a1)))),LIf (decide (0 < a1)) (LAt 1 (qj (gt a0 (qB.e2 a1)))),LIf (decide (0 < a1)) (LEq (S ((gt a0 (qB.e2 a1)).path))),LIf (decide (0 < a1)) (LEq (.pointer (some ⟨b4,1,none⟩))),LIf (decide (0 < a1)) (LEq (S ((gt a0 a1).path))),LIf (decide (0 < a1)) (LEq (.bool (vO ((gt a0 (qB.e2 a1)).path) ((gt a0 a1).path)))),LIf (decide (0 < a1)) (LEq (.bool (!(vO ((gt a0 (qB.e2 a1)).path) ((gt a0 a1).path))))),LEq (.bool ((decide (0 < a1)) && (!(vO ((gt a0 (qB.e2 a1)).path) ((gt a0 a1).path))))),LEq (.iface 4 (.bool ((decide (0 < a1)) && (!(vO ((gt a0 (qB.e2 a1)).path) ((gt a0 a1).path)))))),LEq (.iface 3 (.int .i64 11)),LEq (.int .i64 x6_19),LEq (.bool (decide (x6_19 < 0))),LEq (.iface 4 (.bool (decide (x6_19 < 0)))),LEq (.iface 3 (.int .i64 12)),LEq (.pointer (some ⟨b4,1,none⟩)),LEq (S ((gt a0 a1).path)),LEq (S (qd ((gt a0 a1).path))),LEq (.bool (qB.e3 a0 a1)),LEq (.bool (qB.e3 a0 a1)),LIf (qB.e3 a0 a1) (LEq v_a0),LIf (qB.e3 a0 a1) (LEq (.int .i64 x6_19)),LIf (qB.e3 a0 a1) (LEq (.int .i64 (if (x6_19 < 0 : Prop) then 0 else x6_19))),LIf (qB.e3 a0 a1) (yv (qj (gt a0 (if (x6_19 < 0 : Prop) then 0 else x6_19)))),LIf (qB.e3 a0 a1) (LAt 0 (qj (gt a0 (if (x6_19 < 0 : Prop) then 0 else x6_19)))),LIf (qB.e3 a0 a1) (LEq (.int .i64 ((gt a0 (if (x6_19 < 0 : Prop) then 0 else x6_19)).kind))),LIf (qB.e3 a0 a1) (LEq (.bool (!decide (((gt a0 (if (x6_19 < 0 : Prop) then 0 else x6_19)).kind) = 3)))),LEq (.bool ((qB.e3 a0 a1) && (!decide (((gt a0 (if (x6_19 < 0 : Prop) then 0 else x6_19)).kind) = 3)))),LEq (.iface 4 (.bool ((qB.e3 a0 a1) && (!decide (((gt a0 (if (x6_19 < 0 : Prop) then 0 else x6_19)).kind) = 3))))),LEq (.iface 3 (.int .i64 13)),LRd 1 (Vc 4 3) (qB.e1 a0 a1 x6_19),LEq (.int .i64 (vY (qB.e1 a0 a1 x6_19))),LEq (.iface 3 (.int .i64 (vY (qB.e1 a0 a1 x6_19)))),LRd 1 (Vc 4 3) (qB.e4 a0 a1 x6_19),LEq (.int .i64 (vY (qB.e4 a0 a1 x6_19))),LEq (.int .i64 (vY (qB.e4 a0 a1 x6_19)))] (by kernel_rfl) (by kernel_rfl) ⟨qm,qm,qm,qm,qm,qm,qm,qm,qm,qm,qm,qm,qm,qm,qm,lm,lm,lm,lm,(LIf.mono yv.mono),(LIf.mono LAt.mono),lm,lm,lm,lm,qm,qm,qm,qm,qm,qm,lm,lm,lm,lm,(LIf.mono yv.mono),(LIf.mono LAt.mono),lm,lm,lm,lm,lm,qm,qm,qm,qm,qm,qm,qm,qm,qm,qm,qm,qm,lm,lm,lm,(LIf.mono yv.mono),(LIf.mono LAt.mono),lm,lm,qm,qm,qm,LRd.mono,qm,qm,LRd.mono,qm,qm,trivial⟩ ⟨?_,?_,?_,?_,?_,?_,?_,?_,?_,?_,?_,?_,?_,?_,?_,?_,?_,?_,?_,?_,?_,?_,?_,?_,?_,?_,?_,?_,?_,?_,?_,?_,?_,?_,?_,?_,?_,?_,?_,?_,?_,?_,?_,?_,?_,?_,?_,?_,?_,?_,?_,?_,?_,?_,?_,?_,?_,?_,?_,?_,?_,?_,?_,?_,?_,?_,?_,?_,?_,?_,trivial⟩ ?_
  ·exact fun s x e f d u=>lp rfl (xm (.int .i64 a1) ((f 1 rfl).trans (K29 1 rfl)))<|se rfl rfl
  ·exact fun s x e f d u=>lp rfl (Yd (d 0 rfl) rfl)<|se rfl rfl
  ·exact fun s x e f d u=>lp rfl (vo Tryz.underlying4 rfl (d 1 rfl))<|se rfl rfl
  ·exact fun s x e f d u=>lp rfl (vo Tryz.underlying3 rfl rfl)<|se rfl rfl
  ·exact fun s x e f d u=>lp rfl (vo Tryz.underlying4 rfl rfl)<|se rfl rfl
  ·exact fun s x e f d u=>lp rfl (qW Tryz.isAgg52 Tryz.sizeOf52 rfl ((f 5 rfl).trans (K29 5 rfl)) (Blk.at0 (Blk.ext k12 ((e15.t e30).t e))))<|se rfl rfl
  ·exact fun s x e f d u=>lc rfl rfl Tryz.call157 (Qm.calls (w:=x) (a0:=(gt a0 a1)) (GV.ext gv (Ext.trans (Ext.trans (Ext.trans (Below.trans e8 (Wr.below h11 (Nat.le_of_eq z6))) e15) e30) e))) (va (d 5 rfl) rfl)<|fun w69 e70=>sx rfl e70 rfl
  ·exact fun s x e f d u=>lp rfl (yR (d 6 rfl))<|se rfl rfl
  ·exact fun s x e f d u=>lp rfl (vo Tryz.underlying4 rfl (d 7 rfl))<|se rfl rfl
  ·exact fun s x e f d u=>lp rfl (qW Tryz.isAgg52 Tryz.sizeOf52 rfl ((f 5 rfl).trans (K29 5 rfl)) (Blk.at0 (Blk.ext k12 ((e15.t e30).t e))))<|se rfl rfl
  ·exact fun s x e f d u=>lc rfl rfl Tryz.call211 (qu.calls (w:=x) (a0:=(gt a0 a1)) (GV.ext gv (Ext.trans (Ext.trans (Ext.trans (Below.trans e8 (Wr.below h11 (Nat.le_of_eq z6))) e15) e30) e))) (va (d 9 rfl) rfl)<|fun w71 e72=>sx rfl e72 rfl
  ·exact fun s x e f d u=>lp rfl (vo Tryz.underlying3 rfl (d 10 rfl))<|se rfl rfl
  ·exact fun s x e f d u=>lp rfl (xm (.int .i64 a1) ((f 1 rfl).trans (K29 1 rfl)))<|se rfl rfl
  ·exact fun s x e f d u=>lp rfl (j8 (d 12 rfl) rfl)<|se rfl rfl
  ·exact fun s x e f d u=>lp rfl (qf (d 13 rfl))<|se rfl rfl
  ·exact fun s x e f d u=>gT rfl rfl rfl rfl (d 14 rfl) rfl fun b t=>lt t rfl rfl (xm v_a0 ((f 0 rfl).trans (K29 0 rfl)))<|sg rfl rfl b rfl
  ·exact fun s x e f d u=>gT rfl rfl rfl rfl (d 14 rfl) rfl fun b t=>lt t rfl rfl (xm (.int .i64 a1) ((f 1 rfl).trans (K29 1 rfl)))<|sg rfl rfl b rfl
  ·exact fun s x e f d u=>gT rfl rfl rfl rfl (d 14 rfl) rfl fun b t=>lt t rfl rfl (Q3 ((d 16 rfl).1 b) rfl)<|sg rfl rfl b rfl
  ·exact fun s x e f d u=>gT rfl rfl rfl rfl (d 14 rfl) rfl fun b t=>lt t rfl rfl (X_max ((d 17 rfl).1 b) rfl)<|sg rfl rfl b rfl
  ·exact fun s x e f d u=>gT rfl rfl rfl rfl (d 14 rfl) rfl fun b t=>vg t rfl (ltb rfl) rfl Tryz.underlying35 Tryz.sizeOf52 ((d 15 rfl).1 b) (Rd.ext f_a0 (Ext.trans (Ext.trans (Ext.trans (Below.trans e8 (Wr.below h11 (Nat.le_of_eq z6))) e15) e30) e)) ((d 18 rfl).1 b) (vM b c40)<|fun p74 h75=>sg rfl rfl b ⟨_,rfl,h75⟩
  ·intro s x e f d u
   refine gT rfl rfl rfl rfl (d 14 rfl) rfl fun b t=>?_
   obtain ⟨p76,h77,h78⟩:=((d 19 rfl).1 b)
   exact lt t rfl rfl (qc Tryz.underlying52 rfl Tryz.sizeOf9 rfl h77)<|sg rfl rfl b ⟨_,rfl,h78⟩
  ·intro s x e f d u
   refine gT rfl rfl rfl rfl (d 14 rfl) rfl fun b t=>?_
   obtain ⟨p79,h80,h81⟩:=((d 20 rfl).1 b)
   exact lt t rfl rfl (yd Tryz.isAgg9 (j:=1) h81 h80 rfl)<|sg rfl rfl b rfl
  ·exact fun s x e f d u=>gT rfl rfl rfl rfl (d 14 rfl) rfl fun b t=>lt t rfl rfl (qc Tryz.underlying52 rfl Tryz.sizeOf9 rfl ((f 5 rfl).trans (K29 5 rfl)))<|sg rfl rfl b rfl
  ·exact fun s x e f d u=>gT rfl rfl rfl rfl (d 14 rfl) rfl fun b t=>lt t rfl rfl (qz Tryz.isAgg9 (Blk.ext k12 ((e15.t e30).t e)) ((d 22 rfl).1 b) rfl)<|sg rfl rfl b rfl
  ·exact fun s x e f d u=>gT rfl rfl rfl rfl (d 14 rfl) rfl fun b t=>lt t rfl rfl (Vv ((d 21 rfl).1 b) ((d 23 rfl).1 b))<|sg rfl rfl b rfl
  ·exact fun s x e f d u=>lp rfl (jT (d 14 rfl) rfl fun h=>((d 24 rfl).1 h))<|se rfl rfl
  ·exact fun s x e f d u=>lp rfl (vo Tryz.underlying4 rfl (d 25 rfl))<|se rfl rfl
  ·exact fun s x e f d u=>lp rfl (vo Tryz.underlying3 rfl rfl)<|se rfl rfl
  ·exact fun s x e f d u=>lp rfl (xm (.int .i64 a1) ((f 1 rfl).trans (K29 1 rfl)))<|se rfl rfl
  ·exact fun s x e f d u=>lp rfl (j8 (d 28 rfl) rfl)<|se rfl rfl
  ·exact fun s x e f d u=>lp rfl (qf (d 29 rfl))<|se rfl rfl
  ·exact fun s x e f d u=>gT rfl rfl rfl rfl (d 30 rfl) rfl fun b t=>lt t rfl rfl (xm v_a0 ((f 0 rfl).trans (K29 0 rfl)))<|sg rfl rfl b rfl
  ·exact fun s x e f d u=>gT rfl rfl rfl rfl (d 30 rfl) rfl fun b t=>lt t rfl rfl (xm (.int .i64 a1) ((f 1 rfl).trans (K29 1 rfl)))<|sg rfl rfl b rfl
  ·exact fun s x e f d u=>gT rfl rfl rfl rfl (d 30 rfl) rfl fun b t=>lt t rfl rfl (Q3 ((d 32 rfl).1 b) rfl)<|sg rfl rfl b rfl
  ·exact fun s x e f d u=>gT rfl rfl rfl rfl (d 30 rfl) rfl fun b t=>lt t rfl rfl (X_max ((d 33 rfl).1 b) rfl)<|sg rfl rfl b rfl
  ·exact fun s x e f d u=>gT rfl rfl rfl rfl (d 30 rfl) rfl fun b t=>vg t rfl (ltb rfl) rfl Tryz.underlying35 Tryz.sizeOf52 ((d 31 rfl).1 b) (Rd.ext f_a0 (Ext.trans (Ext.trans (Ext.trans (Below.trans e8 (Wr.below h11 (Nat.le_of_eq z6))) e15) e30) e)) ((d 34 rfl).1 b) (vM b c40)<|fun p83 h84=>sg rfl rfl b ⟨_,rfl,h84⟩
  ·intro s x e f d u
   refine gT rfl rfl rfl rfl (d 30 rfl) rfl fun b t=>?_
   obtain ⟨p85,h86,h87⟩:=((d 35 rfl).1 b)
   exact lt t rfl rfl (qc Tryz.underlying52 rfl Tryz.sizeOf9 rfl h86)<|sg rfl rfl b ⟨_,rfl,h87⟩
  ·intro s x e f d u
   refine gT rfl rfl rfl rfl (d 30 rfl) rfl fun b t=>?_
   obtain ⟨p88,h89,h90⟩:=((d 36 rfl).1 b)
   exact lt t rfl rfl (yd Tryz.isAgg9 (j:=1) h90 h89 rfl)<|sg rfl rfl b rfl
  ·exact fun s x e f d u=>gT rfl rfl rfl rfl (d 30 rfl) rfl fun b t=>lt t rfl rfl (qc Tryz.underlying52 rfl Tryz.sizeOf9 rfl ((f 5 rfl).trans (K29 5 rfl)))<|sg rfl rfl b rfl
  ·exact fun s x e f d u=>gT rfl rfl rfl rfl (d 30 rfl) rfl fun b t=>lt t rfl rfl (qz Tryz.isAgg9 (Blk.ext k12 ((e15.t e30).t e)) ((d 38 rfl).1 b) rfl)<|sg rfl rfl b rfl
  ·exact fun s x e f d u=>gT rfl rfl rfl rfl (d 30 rfl) rfl fun b t=>vL t rfl (ltb rfl) rfl Tryz.call37 (jZ.calls (w:=x) (a0:=(gt a0 (qB.e2 a1)).path) (a1:=(gt a0 a1).path) (GV.ext gv (Ext.trans (Ext.trans (Ext.trans (Below.trans e8 (Wr.below h11 (Nat.le_of_eq z6))) e15) e30) e))) (va ((d 37 rfl).1 b) (va ((d 39 rfl).1 b) rfl))<|fun w91 e92=>sgx rfl rfl b e92 rfl
  ·exact fun s x e f d u=>gT rfl rfl rfl rfl (d 30 rfl) rfl fun b t=>lt t rfl rfl (yR ((d 40 rfl).1 b))<|sg rfl rfl b rfl
  ·exact fun s x e f d u=>lp rfl (jT (d 30 rfl) rfl fun h=>((d 41 rfl).1 h))<|se rfl rfl
  ·exact fun s x e f d u=>lp rfl (vo Tryz.underlying4 rfl (d 42 rfl))<|se rfl rfl
  ·exact fun s x e f d u=>lp rfl (vo Tryz.underlying3 rfl rfl)<|se rfl rfl
  ·exact fun s x e f d u=>lp rfl (xm (.int .i64 x6_19) ((f 6 rfl).trans h32))<|se rfl rfl
  ·exact fun s x e f d u=>lp rfl (ym (d 45 rfl) rfl)<|se rfl rfl
  ·exact fun s x e f d u=>lp rfl (vo Tryz.underlying4 rfl (d 46 rfl))<|se rfl rfl
  ·exact fun s x e f d u=>lp rfl (vo Tryz.underlying3 rfl rfl)<|se rfl rfl
  ·exact fun s x e f d u=>lp rfl (qc Tryz.underlying52 rfl Tryz.sizeOf9 rfl ((f 5 rfl).trans (K29 5 rfl)))<|se rfl rfl
  ·exact fun s x e f d u=>lp rfl (qz Tryz.isAgg9 (Blk.ext k12 ((e15.t e30).t e)) (d 49 rfl) rfl)<|se rfl rfl
  ·exact fun s x e f d u=>lc rfl rfl Tryz.call92 (jG.calls (w:=x) (a0:=(gt a0 a1).path) (od c45)) (va (d 50 rfl) rfl)<|fun w94 e95=>sx rfl e95 rfl
  ·exact fun s x e f d u=>lp rfl (VL (d 51 rfl) rfl)<|se rfl rfl
  ·exact fun s x e f d u=>lp rfl (qf (d 52 rfl))<|se rfl rfl
  ·exact fun s x e f d u=>gT rfl rfl rfl rfl (d 53 rfl) rfl fun b t=>lt t rfl rfl (xm v_a0 ((f 0 rfl).trans (K29 0 rfl)))<|sg rfl rfl b rfl
  ·exact fun s x e f d u=>gT rfl rfl rfl rfl (d 53 rfl) rfl fun b t=>lt t rfl rfl (xm (.int .i64 x6_19) ((f 6 rfl).trans h32))<|sg rfl rfl b rfl
  ·exact fun s x e f d u=>gT rfl rfl rfl rfl (d 53 rfl) rfl fun b t=>lt t rfl rfl (X_max ((d 55 rfl).1 b) rfl)<|sg rfl rfl b rfl
  ·exact fun s x e f d u=>gT rfl rfl rfl rfl (d 53 rfl) rfl fun b t=>vg t rfl (ltb rfl) rfl Tryz.underlying35 Tryz.sizeOf52 ((d 54 rfl).1 b) (Rd.ext f_a0 (Ext.trans (Ext.trans (Ext.trans (Below.trans e8 (Wr.below h11 (Nat.le_of_eq z6))) e15) e30) e)) ((d 56 rfl).1 b) (vM b c48)<|fun p97 h98=>sg rfl rfl b ⟨_,rfl,h98⟩
  ·intro s x e f d u
   refine gT rfl rfl rfl rfl (d 53 rfl) rfl fun b t=>?_
   obtain ⟨p99,h100,h101⟩:=((d 57 rfl).1 b)
   exact lt t rfl rfl (qc Tryz.underlying52 rfl Tryz.sizeOf3 rfl h100)<|sg rfl rfl b ⟨_,rfl,h101⟩
  ·intro s x e f d u
   refine gT rfl rfl rfl rfl (d 53 rfl) rfl fun b t=>?_
   obtain ⟨p102,h103,h104⟩:=((d 58 rfl).1 b)
   exact lt t rfl rfl (yd Tryz.isAgg3 (j:=0) h104 h103 rfl)<|sg rfl rfl b rfl
  ·exact fun s x e f d u=>gT rfl rfl rfl rfl (d 53 rfl) rfl fun b t=>lt t rfl rfl (QJ ((d 59 rfl).1 b) rfl)<|sg rfl rfl b rfl
  ·exact fun s x e f d u=>lp rfl (jT (d 53 rfl) rfl fun h=>((d 60 rfl).1 h))<|se rfl rfl
  ·exact fun s x e f d u=>lp rfl (vo Tryz.underlying4 rfl (d 61 rfl))<|se rfl rfl
  ·exact fun s x e f d u=>lp rfl (vo Tryz.underlying3 rfl rfl)<|se rfl rfl
  ·exact fun s x e f d u=>yt (.plain rfl) rfl (ltb rfl) rfl Tryz.underlying142 Tryz.sizeOf20 Tryz.zeroValue20 rfl rfl rfl (vs:=[(.iface 4 (.bool (!(decide (qx (gt a0 a1) = 0))))),(.iface 3 (.int .i64 (qx (gt a0 a1)))),(.iface 4 (.bool ((decide (0 < a1)) && (decide (((gt a0 (qB.e2 a1)).path) = ((gt a0 a1).path)))))),(.iface 3 (.int .i64 18)),(.iface 4 (.bool ((decide (0 < a1)) && (!(vO ((gt a0 (qB.e2 a1)).path) ((gt a0 a1).path)))))),(.iface 3 (.int .i64 11)),(.iface 4 (.bool (decide (x6_19 < 0)))),(.iface 3 (.int .i64 12)),(.iface 4 (.bool ((qB.e3 a0 a1) && (!decide (((gt a0 (if (x6_19 < 0 : Prop) then 0 else x6_19)).kind) = 3))))),(.iface 3 (.int .i64 13))]) (va (d 8 rfl) (va (d 11 rfl) (va (d 26 rfl) (va (d 27 rfl) (va (d 43 rfl) (va (d 44 rfl) (va (d 47 rfl) (va (d 48 rfl) (va (d 62 rfl) (va (d 63 rfl) rfl)))))))))) (qX rfl)<|fun b105 w106 z107 z108 e109 k110=>sx rfl e109 (Ow.rd (Ow.new (xs:=[.inl (!(decide (qx (gt a0 a1) = 0))),.inr (qx (gt a0 a1)),.inl ((decide (0 < a1)) && (decide (((gt a0 (qB.e2 a1)).path) = ((gt a0 a1).path)))),.inr 18,.inl ((decide (0 < a1)) && (!(vO ((gt a0 (qB.e2 a1)).path) ((gt a0 a1).path)))),.inr 11,.inl (decide (x6_19 < 0)),.inr 12,.inl ((qB.e3 a0 a1) && (!decide (((gt a0 (if (x6_19 < 0 : Prop) then 0 else x6_19)).kind) = 3))),.inr 13]) (sz:=1) (enc:=(Vc 4 3)) (base:=x.heap.size) k110 (Nat.le_of_eq z107) rfl (fun _ _=>by first | rfl | exact VT _ _ _) (Nat.le_of_ble_eq_true rfl)))
  ·intro s x e f d u
   have d111 : Rd 1 (Vc 4 3) x (s 86) (qB.e1 a0 a1 x6_19):=(d 64 rfl)
   exact lc rfl rfl Tryz.call77 (yL.calls (w:=x) (a0:=(qB.e1 a0 a1 x6_19)) d111 (od c57)) rfl<|fun w113 e114=>sx rfl e114 rfl
  ·exact fun s x e f d u=>lp rfl (vo Tryz.underlying3 rfl (d 65 rfl))<|se rfl rfl
  ·exact fun s x e f d u=>yt (.plain rfl) rfl (ltb rfl) rfl Tryz.underlying142 Tryz.sizeOf20 Tryz.zeroValue20 rfl rfl rfl (vs:=[(.iface 4 (.bool (decide (16≤a1)))),(.iface 3 (.int .i64 6)),(.iface 4 (.bool true)),(.iface 3 (.int .i64 (vY (qB.e1 a0 a1 x6_19))))]) (va (d 2 rfl) (va (d 3 rfl) (va (d 4 rfl) (va (d 66 rfl) rfl)))) (qX rfl)<|fun b115 w116 z117 z118 e119 k120=>sx rfl e119 (Ow.rd (Ow.new (xs:=[.inl (decide (16≤a1)),.inr 6,.inl true,.inr (vY (qB.e1 a0 a1 x6_19))]) (sz:=1) (enc:=(Vc 4 3)) (base:=x.heap.size) k120 (Nat.le_of_eq z117) rfl (fun _ _=>by first | rfl | exact VT _ _ _) (Nat.le_of_ble_eq_true rfl)))
  ·intro s x e f d u
   have d121 : Rd 1 (Vc 4 3) x (s 89) (qB.e4 a0 a1 x6_19):=(d 67 rfl)
   exact lc rfl rfl Tryz.call77 (yL.calls (w:=x) (a0:=(qB.e4 a0 a1 x6_19)) d121 (od c66)) rfl<|fun w123 e124=>sx rfl e124 rfl
  ·exact fun s x e f d u=>lp rfl (qA (d 68 rfl))<|se rfl rfl
  intro s125 w126 e127 hf128 ha129
  have K130:=Kp.ofD (kp:=[(4,5),(22,91)]) rfl hf128
  have d131 : s125 4 = (.int .i64 (vY (qB.e4 a0 a1 x6_19))):=ha129 69 rfl
  clear ha129 hf128
  refine qg<|qr<|qy ?_
  obtain rfl:=si H
  exact vt d131 (Ext.trans (Ext.trans (Ext.trans (Below.trans e8 (Wr.below h11 (Nat.le_of_eq z6))) e15) e30) e127)
theorem qB.calls {w : World} {a0 : List Rec} {a1 : Int} (gv : GV 0 w) {v_a0 : Value} (f_a0 : Rd 5 qj w v_a0 a0) (h0 : a0.length≤1048576) (h1 : ∀ x ∈ a0,x.path.length≤1048576) (h2 : inR a1 a0.length = true) :
  Calls Tryz.prog 220 #[v_a0,.int .i64 a1] w (Rt (RP w (.int .i64 (faultAt a0 a1)))):=qB.walk gv f_a0 (qB.eq a0 a1 h0 h1 h2)
/-! impl.fault -/
theorem yM.walk {k : Nat} {w : World} {a0 : List Rec} (gv : GV 0 w) {v_a0 : Value} (f_a0 : Rd 5 qj w v_a0 a0) {r : Int × Int} (H : yM.sh k a0 = some r) :
  Calls Tryz.prog 185 #[v_a0] w (Rt (RP w (.tuple #[.int .i64 r.1,.int .i64 r.2]))):=by
 unfold yM.sh at H
 refine qi Tryz.func185 rfl (Nat.le_of_ble_eq_true rfl) Tryz.ntmps185 rfl ?_
 refine wr<|lp rfl (xa (.int .i64 0) rfl)<|lp rfl (xa (.int .i64 0) rfl)<|nx<|qk<|wr<|lp rfl (xm v_a0 rfl)<|lp rfl (qS Tryz.underlying35 rfl f_a0)<|lp rfl (xm (.int .i64 0) rfl)<|nx ?_
 obtain ⟨z2,L3,C4⟩:=bind_some H
 clear H
 refine  vT (fun s0 sQ wQ=>Kp [(2,6),(8,19)] s0 sQ∧Ext w wQ∧z2 = .inr ()) ?_ ?_
 ·refine qF<|vA (fun s0 kk sQ wQ=>∃ (x8_1 : Int),Kp [(2,6),(8,19)] s0 sQ∧sQ 8 = .int .i64 x8_1∧Ext w wQ∧qt (yM.b1 a0) kk x8_1 = some z2) k ⟨0,kz,rfl,er,L3⟩ ?_
  rintro k9 s10 w11 ⟨x8_1,K12,h15,e13,L14⟩
  cases k9 with
  | zero=>exact absurd L14 (by simp [qt])
  | succ k9=>
   obtain ⟨t16,H,S17⟩:=qQ L14
   clear L14
   unfold yM.b1 at H
   refine wr<|lp rfl (ym h15 (K12 7 rfl))<|nx<|qk ?_
   rcases qe H with ⟨q18,H⟩ | ⟨q18,H⟩
   ·refine ql (cb q18)<|qw<|qg<|qk<|qF<|wr<|lp rfl (qf h15)<|lp rfl (xa (.int .i64 x8_1) rfl)<|nx<|wr<|lp rfl (xm v_a0 (K12 0 rfl))<|lp rfl (xm (.int .i64 x8_1) rfl) ?_
    obtain ⟨c19,H⟩:=qa H
    obtain ⟨c20,H⟩:=qa H
    obtain ⟨c21,H⟩:=qa H
    refine lc rfl rfl Tryz.call220 (qB.calls (w:=w11) (a0:=a0) (a1:=x8_1) (GV.ext gv e13) (Rd.ext f_a0 e13) (od c19) (od c20) (od c21)) rfl<|fun w22 e23=>lp rfl (xa (.int .i64 (faultAt a0 x8_1)) rfl)<|nx<|wr<|lp rfl (xm (.int .i64 (faultAt a0 x8_1)) rfl)<|lp rfl (QJ rfl rfl)<|nx ?_
    rcases qe H with ⟨q24,H⟩ | ⟨q24,H⟩
    ·refine ql (cb q24)<|wr<|lp rfl (xm (.int .i64 x8_1) rfl)<|lp rfl (xm (.int .i64 (faultAt a0 x8_1)) rfl)<|lp rfl (xa (.int .i64 x8_1) rfl)<|lp rfl (xa (.int .i64 (faultAt a0 x8_1)) rfl)<|nx<|qr<|vc<|qv<|qv<|vc<|qv<|qv<|qy ?_
     obtain rfl:=si H
     obtain rfl:=si S17
     have H:=C4
     obtain rfl:=si H
     exact JF rfl rfl (e13.t e23)
    ·refine qh (cb q24)<|qw<|vK<|qg<|qO<|lp rfl (vz h15 rfl)<|lp rfl (xm (.int .i64 (IntKind.wrap .i64 (x8_1 + 1))) rfl)<|nx ?_
     obtain rfl:=si H
     exact ⟨_,Nat.lt_succ_self _,IntKind.wrap .i64 (x8_1 + 1),(ku3 (ku8 K12 rfl) rfl),rfl,(e13.t e23),S17⟩
   ·refine qh (cb q18)<|yc<|vm<|vm<|yV<|qg ?_
    obtain rfl:=si H
    obtain rfl:=si S17
    exact ⟨(ku1 K12 rfl),e13,rfl⟩
 ·rintro s6 w5 ⟨K7,e8,y25⟩
  rw [y25] at C4
  have H:=C4
  replace H : _ = some _:=H
  refine qg<|wr<|lp rfl (xa (.int .i64 0) rfl)<|lp rfl (xa (.int .i64 0) rfl)<|nx<|qr<|qy ?_
  obtain rfl:=si H
  exact JF rfl rfl e8
theorem yM.calls {w : World} {a0 : List Rec} (gv : GV 0 w) {v_a0 : Value} (f_a0 : Rd 5 qj w v_a0 a0) (h0 : a0.length≤1048576) (h1 : ∀ x ∈ a0,x.path.length≤1048576) :
  Calls Tryz.prog 185 #[v_a0] w (Rt (RP w (.tuple #[.int .i64 ((qn a0).1),.int .i64 ((qn a0).2)]))):=by
 obtain ⟨k,h⟩:=yM.eq a0 h0 h1
 exact yM.walk gv f_a0 h
/-! impl.LayerFault -/
theorem yY.walk {w : World} {a0 : List Rec} (gv : GV 0 w) {v_a0 : Value} (f_a0 : Rd 5 qj w v_a0 a0) {r : Int × Int} (H : yY.sh a0 = some r) :
  Calls Tryz.prog 126 #[v_a0] w (Rt (RP w (.tuple #[.int .i64 r.1,.int .i64 r.2]))):=by
 unfold yY.sh at H
 refine qi Tryz.func126 rfl (Nat.le_of_ble_eq_true rfl) Tryz.ntmps126 rfl ?_
 refine wr<|lp rfl (xa (.int .i64 0) rfl)<|lp rfl (xa (.int .i64 0) rfl)<|nx<|qk<|wr<|lp rfl (xm v_a0 rfl)<|lc rfl rfl Tryz.call78 (yk.calls (w:=w) (a0:=a0) f_a0) rfl<|fun w1 e2=>nx ?_
 rcases qe H with ⟨q3,H⟩ | ⟨q3,H⟩
 ·refine ql (cb q3)<|wr<|lp rfl (xa (.int .i64 0) rfl)<|lp rfl (xa (.int .i64 2) rfl)<|nx<|qr<|qv<|qy ?_
  obtain rfl:=si H
  exact JF rfl rfl e2
 ·refine qh (cb q3)<|qw<|qg<|wr<|lp rfl (xm v_a0 rfl) ?_
  obtain ⟨c4,H⟩:=qa H
  obtain ⟨c5,H⟩:=qa H
  refine lc rfl rfl Tryz.call185 (yM.calls (w:=w1) (a0:=a0) (GV.ext gv e2) (Rd.ext f_a0 e2) (od c4) (od c5)) rfl<|fun w6 e7=>lp rfl (ve (v:=(.int .i64 ((qn a0).1))) rfl rfl)<|lp rfl (ve (v:=(.int .i64 ((qn a0).2))) rfl rfl)<|lp rfl (xa (.int .i64 ((qn a0).1)) rfl)<|lp rfl (xa (.int .i64 ((qn a0).2)) rfl)<|nx<|qr<|qy ?_
  obtain rfl:=si H
  exact JF rfl rfl (e2.t e7)
theorem yY.calls {w : World} {a0 : List Rec} (gv : GV 0 w) {v_a0 : Value} (f_a0 : Rd 5 qj w v_a0 a0) (h0 : a0.length≤1048576) (h1 : ∀ x ∈ a0,x.path.length≤1048576) :
  Calls Tryz.prog 126 #[v_a0] w (Rt (RP w (.tuple #[.int .i64 ((vf a0).1),.int .i64 ((vf a0).2)]))):=yY.walk gv f_a0 (yY.eq a0 h0 h1)
/-! spec.l03OK -/
theorem j7.calls {w : World} {a0 : List Rec} {v_a0 : Value} (f_a0 : Rd 5 qj w v_a0 a0) (h0 : a0.length≤1048576) (h1 : ∀ x ∈ a0,x.path.length≤1048576) :
  Calls Tryz.prog 74 #[v_a0] w (Rt (RP w (.bool (decide ((qn a0).2 = 0))))):=by
 have H:=j7.eq a0 h0 h1
 generalize (decide ((qn a0).2 = 0)) = r at H ⊢
 unfold j7.sh at H
 refine qi Tryz.func74 rfl (Nat.le_of_ble_eq_true rfl) Tryz.ntmps74 rfl ?_
 refine wr<|lp rfl (xa (.bool false) rfl)<|nx<|wr<|lp rfl (xm v_a0 rfl) ?_
 obtain ⟨c1,H⟩:=qa H
 obtain ⟨c2,H⟩:=qa H
 refine lc rfl rfl Tryz.call133 (vP.calls (w:=w) (a0:=a0) f_a0 (od c1) (od c2)) rfl<|fun w3 e4=>lp rfl (qf rfl)<|lp rfl (ve (v:=(.int .i64 ((qn a0).1))) rfl rfl)<|lp rfl (ve (v:=(.int .i64 ((qn a0).2))) rfl rfl)<|lp rfl (xa (.int .i64 ((qn a0).1)) rfl)<|lp rfl (xa (.int .i64 ((qn a0).2)) rfl)<|nx<|wr<|lp rfl (xm (.int .i64 ((qn a0).2)) rfl)<|lp rfl (vx rfl rfl)<|lp rfl (xa (.bool (decide (((qn a0).2) = 0))) rfl)<|nx<|qr<|qy ?_
 obtain rfl:=si H
 exact vt rfl e4
/-! impl.LayerOK -/
theorem jm.calls {w : World} {a0 : List Rec} (gv : GV 0 w) {v_a0 : Value} (f_a0 : Rd 5 qj w v_a0 a0) (h0 : a0.length≤1048576) (h1 : ∀ x ∈ a0,x.path.length≤1048576) :
  Calls Tryz.prog 68 #[v_a0] w (Rt (RP w (.bool (decide ((vf a0).2 = 0))))):=by
 have H:=jm.eq a0 h0 h1
 generalize (decide ((vf a0).2 = 0)) = r at H ⊢
 unfold jm.sh at H
 refine qi Tryz.func68 rfl (Nat.le_of_ble_eq_true rfl) Tryz.ntmps68 rfl ?_
 refine wr<|lp rfl (xa (.bool false) rfl)<|nx<|wr<|lp rfl (xm v_a0 rfl) ?_
 obtain ⟨c1,H⟩:=qa H
 obtain ⟨c2,H⟩:=qa H
 refine lc rfl rfl Tryz.call126 (yY.calls (w:=w) (a0:=a0) gv f_a0 (od c1) (od c2)) rfl<|fun w3 e4=>lp rfl (qf rfl)<|lp rfl (ve (v:=(.int .i64 ((vf a0).1))) rfl rfl)<|lp rfl (ve (v:=(.int .i64 ((vf a0).2))) rfl rfl)<|lp rfl (xa (.int .i64 ((vf a0).1)) rfl)<|lp rfl (xa (.int .i64 ((vf a0).2)) rfl)<|nx<|wr<|lp rfl (xm (.int .i64 ((vf a0).2)) rfl)<|lp rfl (vx rfl rfl)<|lp rfl (xa (.bool (decide (((vf a0).2) = 0))) rfl)<|nx<|qr<|qy ?_
 obtain rfl:=si H
 exact vt rfl e4
/-! spec.l03Same -/
theorem yQ.calls {w : World} {a0 : List Rec} {a1 : List Rec} {v_a0 : Value} (f_a0 : Rd 5 qj w v_a0 a0) {v_a1 : Value} (f_a1 : Rd 5 qj w v_a1 a1) (h0 : a0.length≤1048576) :
  Calls Tryz.prog 75 #[v_a0,v_a1] w (Rt (RP w (.bool (decide (a0 = a1))))):=by
 obtain ⟨k,H⟩:=yQ.eq a0 a1 h0
 generalize (decide (a0 = a1)) = r at H ⊢
 unfold yQ.sh at H
 refine qi Tryz.func75 rfl (Nat.le_of_ble_eq_true rfl) Tryz.ntmps75 rfl ?_
 refine wr<|lp rfl (xa (.bool false) rfl)<|nx<|qk<|wr<|lp rfl (xm v_a0 rfl)<|lp rfl (qS Tryz.underlying35 rfl f_a0)<|lp rfl (xm v_a1 rfl)<|lp rfl (qS Tryz.underlying35 rfl f_a1)<|lp rfl (QJ rfl rfl)<|nx ?_
 rcases qe H with ⟨q1,H⟩ | ⟨q1,H⟩
 ·refine ql (cb q1)<|wr<|lp rfl (xa (.bool false) rfl)<|nx<|qr<|qv<|qy ?_
  obtain rfl:=si H
  exact vt rfl er
 ·refine qh (cb q1)<|qw<|qg<|qk<|wr<|lp rfl (xa (.int .i64 0) rfl)<|nx ?_
  obtain ⟨z3,L4,C5⟩:=bind_some H
  clear H
  refine  vT (fun s0 sQ wQ=>Kp [(4,6),(11,26)] s0 sQ∧Ext w wQ∧z3 = .inr ()) ?_ ?_
  ·refine qF<|vA (fun s0 kk sQ wQ=>∃ (x5_2 : Int),Kp [(4,6),(11,26)] s0 sQ∧sQ 5 = .int .i64 x5_2∧Ext w wQ∧qt (yQ.b1 a0 a1) kk x5_2 = some z3) k ⟨0,kz,rfl,er,L4⟩ ?_
   rintro k10 s11 w12 ⟨x5_2,K13,h16,e14,L15⟩
   cases k10 with
   | zero=>exact absurd L15 (by simp [qt])
   | succ k10=>
    obtain ⟨t17,H,S18⟩:=qQ L15
    clear L15
    unfold yQ.b1 at H
    refine qk<|wr<|lp rfl (qf h16)<|lp rfl (xm v_a0 (K13 0 rfl))<|lp rfl (qS Tryz.underlying35 rfl (Rd.ext f_a0 e14))<|lp rfl (ym rfl rfl)<|nx ?_
    rcases qe H with ⟨q19,H⟩ | ⟨q19,H⟩
    ·refine ql (cb q19)<|qw<|qg<|qk<|qF<|qk ?_
     obtain ⟨c20,H⟩:=qa H
     obtain ⟨c23,H⟩:=qa H
     refine Yi [LEq v_a0,LEq (.int .i64 x5_2),yv (qj (gt a0 x5_2)),LEq (.agg (qj (gt a0 x5_2)).toArray),LEq v_a1,LEq (.int .i64 x5_2),yv (qj (gt a1 x5_2)),LEq (.agg (qj (gt a1 x5_2)).toArray),LEq (.bool (!decide ((gt a0 x5_2) = (gt a1 x5_2))))] (by kernel_rfl) (by kernel_rfl) ⟨qm,qm,yv.mono,qm,qm,qm,yv.mono,qm,qm,trivial⟩ ⟨?_,?_,?_,?_,?_,?_,?_,?_,?_,trivial⟩ ?_
     ·exact fun s x e f d u=>lp rfl (xm v_a0 ((f 0 rfl).trans (K13 0 rfl)))<|se rfl rfl
     ·exact fun s x e f d u=>lp rfl (xm (.int .i64 x5_2) ((f 5 rfl).trans h16))<|se rfl rfl
     ·exact fun s x e f d u=>vg (.plain rfl) rfl (ltb rfl) rfl Tryz.underlying35 Tryz.sizeOf52 (d 0 rfl) (Rd.ext f_a0 (e14.t e)) (d 1 rfl) c20<|fun p27 h28=>se rfl ⟨_,rfl,h28⟩
     ·intro s x e f d u
      obtain ⟨p29,h30,h31⟩:=(d 2 rfl)
      exact lp rfl (qW Tryz.isAgg52 Tryz.sizeOf52 rfl h30 h31)<|se rfl rfl
     ·exact fun s x e f d u=>lp rfl (xm v_a1 ((f 1 rfl).trans (K13 1 rfl)))<|se rfl rfl
     ·exact fun s x e f d u=>lp rfl (xm (.int .i64 x5_2) ((f 5 rfl).trans h16))<|se rfl rfl
     ·exact fun s x e f d u=>vg (.plain rfl) rfl (ltb rfl) rfl Tryz.underlying35 Tryz.sizeOf52 (d 4 rfl) (Rd.ext f_a1 (e14.t e)) (d 5 rfl) c23<|fun p33 h34=>se rfl ⟨_,rfl,h34⟩
     ·intro s x e f d u
      obtain ⟨p35,h36,h37⟩:=(d 6 rfl)
      exact lp rfl (qW Tryz.isAgg52 Tryz.sizeOf52 rfl h36 h37)<|se rfl rfl
     ·exact fun s x e f d u=>lp rfl (X_neA Eqg.t52 (Eqs.t52 (gt a0 x5_2) (gt a1 x5_2)) (d 3 rfl) (d 7 rfl))<|se rfl rfl
     intro s38 w39 e40 hf41 ha42
     have K43:=Kp.ofD (kp:=[(17,26)]) rfl hf41
     have d44 : s38 25 = (.bool (!decide ((gt a0 x5_2) = (gt a1 x5_2)))):=ha42 8 rfl
     clear ha42 hf41
     refine qg ?_
     rcases qe H with ⟨q45,H⟩ | ⟨q45,H⟩
     ·refine ql (d44.trans (cb q45))<|wr<|lp rfl (xa (.bool false) rfl)<|nx<|qr<|vc<|qv<|qv<|vc<|qv<|qv<|qy ?_
      obtain rfl:=si H
      obtain rfl:=si S18
      have H:=C5
      obtain rfl:=si H
      exact vt rfl (e14.t e40)
     ·refine qh (d44.trans (cb q45))<|qw<|vK<|qg<|qO<|lp rfl (xm (.int .i64 x5_2) ((K43 5 rfl).trans h16))<|lp rfl (vz rfl rfl)<|lp rfl (xa (.int .i64 (IntKind.wrap .i64 (x5_2 + 1))) rfl)<|nx ?_
      obtain rfl:=si H
      exact ⟨_,Nat.lt_succ_self _,IntKind.wrap .i64 (x5_2 + 1),(ku3 (Kp.cut (ku4 K13 rfl) K43 rfl) rfl),rfl,(e14.t e40),S18⟩
    ·refine qh (cb q19)<|yc<|vm<|vm<|yV<|qg ?_
     obtain rfl:=si H
     obtain rfl:=si S18
     exact ⟨(ku4 K13 rfl),e14,rfl⟩
  ·rintro s7 w6 ⟨K8,e9,y46⟩
   rw [y46] at C5
   have H:=C5
   replace H : _ = some _:=H
   refine qg<|wr<|lp rfl (xa (.bool true) rfl)<|nx<|qr<|qy ?_
   obtain rfl:=si H
   exact vt rfl e9
/-! slices.Equal(()impl.Record,impl.Record) -/
theorem yE.calls {w : World} {a0 : List Rec} {a1 : List Rec} {v_a0 : Value} (f_a0 : Rd 5 qj w v_a0 a0) {v_a1 : Value} (f_a1 : Rd 5 qj w v_a1 a1) (h0 : a0.length≤1048576) :
  Calls Tryz.prog 72 #[v_a0,v_a1] w (Rt (RP w (.bool (decide (a0 = a1))))):=by
 obtain ⟨k,H⟩:=yE.eq a0 a1 h0
 generalize (decide (a0 = a1)) = r at H ⊢
 unfold yE.sh at H
 refine qi Tryz.func72 rfl (Nat.le_of_ble_eq_true rfl) Tryz.ntmps72 rfl ?_
 refine wr<|lp rfl (xa (.bool false) rfl)<|nx<|qk<|wr<|lp rfl (xm v_a0 rfl)<|lp rfl (qS Tryz.underlying35 rfl f_a0)<|lp rfl (xm v_a1 rfl)<|lp rfl (qS Tryz.underlying35 rfl f_a1)<|lp rfl (QJ rfl rfl)<|nx ?_
 rcases qe H with ⟨q1,H⟩ | ⟨q1,H⟩
 ·refine ql (cb q1)<|wr<|lp rfl (xa (.bool false) rfl)<|nx<|qr<|qv<|qy ?_
  obtain rfl:=si H
  exact vt rfl er
 ·refine qh (cb q1)<|qw<|qg<|qk<|wr<|lp rfl (xm v_a0 rfl)<|lp rfl (qS Tryz.underlying35 rfl f_a0)<|lp rfl (xm (.int .i64 0) rfl)<|nx ?_
  obtain ⟨z3,L4,C5⟩:=bind_some H
  clear H
  refine  vT (fun s0 sQ wQ=>Kp [(4,6),(13,26)] s0 sQ∧Ext w wQ∧z3 = .inr ()) ?_ ?_
  ·refine qF<|vA (fun s0 kk sQ wQ=>∃ (x13_2 : Int),Kp [(4,6),(13,26)] s0 sQ∧sQ 13 = .int .i64 x13_2∧Ext w wQ∧qt (yE.b1 a0 a1) kk x13_2 = some z3) k ⟨0,kz,rfl,er,L4⟩ ?_
   rintro k10 s11 w12 ⟨x13_2,K13,h16,e14,L15⟩
   cases k10 with
   | zero=>exact absurd L15 (by simp [qt])
   | succ k10=>
    obtain ⟨t17,H,S18⟩:=qQ L15
    clear L15
    unfold yE.b1 at H
    refine wr<|lp rfl (ym h16 (K13 12 rfl))<|nx<|qk ?_
    rcases qe H with ⟨q19,H⟩ | ⟨q19,H⟩
    ·refine ql (cb q19)<|qw<|qg<|qk<|qF<|wr<|lp rfl (qf h16)<|lp rfl (xa (.int .i64 x13_2) rfl)<|nx<|qk ?_
     obtain ⟨c20,H⟩:=qa H
     obtain ⟨c23,H⟩:=qa H
     refine Yi [LEq v_a0,LEq (.int .i64 x13_2),yv (qj (gt a0 x13_2)),LEq (.agg (qj (gt a0 x13_2)).toArray),LEq v_a1,LEq (.int .i64 x13_2),yv (qj (gt a1 x13_2)),LEq (.agg (qj (gt a1 x13_2)).toArray),LEq (.bool (!decide ((gt a0 x13_2) = (gt a1 x13_2))))] (by kernel_rfl) (by kernel_rfl) ⟨qm,qm,yv.mono,qm,qm,qm,yv.mono,qm,qm,trivial⟩ ⟨?_,?_,?_,?_,?_,?_,?_,?_,?_,trivial⟩ ?_
     ·exact fun s x e f d u=>lp rfl (xm v_a0 ((f 0 rfl).trans (K13 0 rfl)))<|se rfl rfl
     ·exact fun s x e f d u=>lp rfl (xm (.int .i64 x13_2) (f 5 rfl))<|se rfl rfl
     ·exact fun s x e f d u=>vg (.plain rfl) rfl (ltb rfl) rfl Tryz.underlying35 Tryz.sizeOf52 (d 0 rfl) (Rd.ext f_a0 (e14.t e)) (d 1 rfl) c20<|fun p27 h28=>se rfl ⟨_,rfl,h28⟩
     ·intro s x e f d u
      obtain ⟨p29,h30,h31⟩:=(d 2 rfl)
      exact lp rfl (qW Tryz.isAgg52 Tryz.sizeOf52 rfl h30 h31)<|se rfl rfl
     ·exact fun s x e f d u=>lp rfl (xm v_a1 ((f 1 rfl).trans (K13 1 rfl)))<|se rfl rfl
     ·exact fun s x e f d u=>lp rfl (xm (.int .i64 x13_2) (f 5 rfl))<|se rfl rfl
     ·exact fun s x e f d u=>vg (.plain rfl) rfl (ltb rfl) rfl Tryz.underlying35 Tryz.sizeOf52 (d 4 rfl) (Rd.ext f_a1 (e14.t e)) (d 5 rfl) c23<|fun p33 h34=>se rfl ⟨_,rfl,h34⟩
     ·intro s x e f d u
      obtain ⟨p35,h36,h37⟩:=(d 6 rfl)
      exact lp rfl (qW Tryz.isAgg52 Tryz.sizeOf52 rfl h36 h37)<|se rfl rfl
     ·exact fun s x e f d u=>lp rfl (X_neA Eqg.t52 (Eqs.t52 (gt a0 x13_2) (gt a1 x13_2)) (d 3 rfl) (d 7 rfl))<|se rfl rfl
     intro s38 w39 e40 hf41 ha42
     have K43:=Kp.ofD (kp:=[(16,25)]) rfl hf41
     have d44 : s38 24 = (.bool (!decide ((gt a0 x13_2) = (gt a1 x13_2)))):=ha42 8 rfl
     clear ha42 hf41
     refine qg ?_
     rcases qe H with ⟨q45,H⟩ | ⟨q45,H⟩
     ·refine ql (d44.trans (cb q45))<|wr<|lp rfl (xa (.bool false) rfl)<|nx<|qr<|vc<|qv<|qv<|vc<|qv<|qv<|qy ?_
      obtain rfl:=si H
      obtain rfl:=si S18
      have H:=C5
      obtain rfl:=si H
      exact vt rfl (e14.t e40)
     ·refine qh (d44.trans (cb q45))<|qw<|vK<|qg<|qO<|lp rfl (vz ((K43 13 rfl).trans h16) rfl)<|lp rfl (xm (.int .i64 (IntKind.wrap .i64 (x13_2 + 1))) rfl)<|nx ?_
      obtain rfl:=si H
      exact ⟨_,Nat.lt_succ_self _,IntKind.wrap .i64 (x13_2 + 1),(ku2 (Kp.cut (ku3 K13 rfl) K43 rfl) rfl),rfl,(e14.t e40),S18⟩
    ·refine qh (cb q19)<|yc<|vm<|vm<|yV<|qg ?_
     obtain rfl:=si H
     obtain rfl:=si S18
     exact ⟨(ku1 K13 rfl),e14,rfl⟩
  ·rintro s7 w6 ⟨K8,e9,y46⟩
   rw [y46] at C5
   have H:=C5
   replace H : _ = some _:=H
   refine qg<|wr<|lp rfl (xa (.bool true) rfl)<|nx<|qr<|qy ?_
   obtain rfl:=si H
   exact vt rfl e9
/-! spec.l04Record -/
theorem Qx.calls {w : World} {a0 : Nd} :
  Calls Tryz.prog 152 #[.agg (qp a0).toArray] w (Rt (RP w (.agg (qj (Qu a0)).toArray))):=by
 have H:=Qx.eq a0
 generalize (Qu a0) = r at H ⊢
 unfold Qx.sh at H
 refine Vt Tryz.func152 rfl (Nat.le_of_ble_eq_true rfl) Tryz.ntmps152 ?_
 refine wr<|Qq (.plain rfl) rfl (ltb rfl) rfl rfl<|fun b1 w2 z3 z4 e5 k6=>jU (.plain rfl) rfl (ltb rfl) rfl Tryz.zeroValue52<|fun b7 w8 z9 z10 e11 k12=>nx<|wr<|lp rfl (qc Tryz.underlying91 rfl Tryz.sizeOf3 rfl rfl)<|lp rfl (qz Tryz.isAgg3 (Blk.ext k6 e11) rfl rfl)<|lp rfl (qc Tryz.underlying91 rfl Tryz.sizeOf9 rfl rfl)<|lp rfl (qz Tryz.isAgg9 (Blk.ext k6 e11) rfl rfl)<|lp rfl (qc Tryz.underlying91 rfl Tryz.sizeOf9 rfl rfl)<|lp rfl (qz Tryz.isAgg9 (Blk.ext k6 e11) rfl rfl)<|lp rfl (qc Tryz.underlying91 rfl Tryz.sizeOf3 rfl rfl)<|lp rfl (qz Tryz.isAgg3 (Blk.ext k6 e11) rfl rfl)<|lp rfl (yZ (vs:=[(0,(.int .i64 a0.kind)),(1,(S a0.path)),(2,(S a0.body)),(3,(.int .i64 a0.mode))]) (pl:=#[(0,1),(1,1),(2,1),(3,1),(4,1)]) Tryz.underlying52 Tryz.zeroValue52 rfl (fun _=>by kernel_rfl) rfl rfl rfl)<|vU (.plain rfl) rfl rfl Tryz.sizeOf52 rfl rfl rfl rfl rfl k12<|fun w13 h14 k15=>nx<|qr<|VD ?_
 obtain rfl:=si H
 exact finC1 rfl rfl k15 Tryz.isAgg52 Tryz.sizeOf52 rfl (e5.t (Below.trans e11 (Wr.below h14 (Nat.le_of_eq z9))))
/-! spec.l04At -/
theorem jb.calls {w : World} {a0 : List Nd} {a1 : List UInt8} {v_a0 : Value} (f_a0 : Rd 4 qp w v_a0 a0) (h0 : a0.length≤1048576) :
  Calls Tryz.prog 155 #[v_a0,S a1] w (Rt (RP w (.int .i64 (qU a0 a1)))):=by
 obtain ⟨k,H⟩:=jb.eq a0 a1 h0
 generalize (qU a0 a1) = r at H ⊢
 unfold jb.sh at H
 refine qi Tryz.func155 rfl (Nat.le_of_ble_eq_true rfl) Tryz.ntmps155 rfl ?_
 refine wr<|lp rfl (xa (.int .i64 0) rfl)<|nx<|qk<|wr<|lp rfl (xa (.int .i64 0) rfl)<|nx ?_
 obtain ⟨z2,L3,C4⟩:=bind_some H
 clear H
 refine  vT (fun s0 sQ wQ=>Kp [(4,20)] s0 sQ∧Ext w wQ∧z2 = .inr ()) ?_ ?_
 ·refine qF<|vA (fun s0 kk sQ wQ=>∃ (x5_1 : Int),Kp [(4,20)] s0 sQ∧sQ 5 = .int .i64 x5_1∧Ext w wQ∧qt (jb.b1 a0 a1) kk x5_1 = some z2) k ⟨0,kz,rfl,er,L3⟩ ?_
  rintro k9 s10 w11 ⟨x5_1,K12,h15,e13,L14⟩
  cases k9 with
  | zero=>exact absurd L14 (by simp [qt])
  | succ k9=>
   obtain ⟨t16,H,S17⟩:=qQ L14
   clear L14
   unfold jb.b1 at H
   refine qk<|wr<|lp rfl (qf h15)<|lp rfl (xm v_a0 (K12 0 rfl))<|lp rfl (qS Tryz.underlying29 rfl (Rd.ext f_a0 e13))<|lp rfl (ym rfl rfl)<|nx ?_
   rcases qe H with ⟨q18,H⟩ | ⟨q18,H⟩
   ·refine ql (cb q18)<|qw<|qg<|qk<|qF<|wr<|lp rfl (xm v_a0 (K12 0 rfl))<|lp rfl (qf h15) ?_
    obtain ⟨c19,H⟩:=qa H
    refine vg (.plain rfl) rfl (ltb rfl) rfl Tryz.underlying29 Tryz.sizeOf91 rfl (Rd.ext f_a0 e13) rfl c19<|fun p20 h21=>lp rfl (qc Tryz.underlying91 rfl Tryz.sizeOf9 rfl rfl)<|lp rfl (yd Tryz.isAgg9 (j:=1) h21 rfl rfl)<|lp rfl (xm (S a1) (K12 1 rfl))<|lp rfl (Vv rfl rfl)<|nx ?_
    rcases qe H with ⟨q22,H⟩ | ⟨q22,H⟩
    ·refine ql (cb q22)<|wr<|lp rfl (qf h15)<|lp rfl (xa (.int .i64 x5_1) rfl)<|nx<|qr<|vc<|qv<|qv<|vc<|qv<|qv<|qy ?_
     obtain rfl:=si H
     obtain rfl:=si S17
     have H:=C4
     obtain rfl:=si H
     exact vt rfl e13
    ·refine qh (cb q22)<|qw<|vK<|qg<|qO<|lp rfl (qf h15)<|lp rfl (vz rfl rfl)<|lp rfl (xa (.int .i64 (IntKind.wrap .i64 (x5_1 + 1))) rfl)<|nx ?_
     obtain rfl:=si H
     exact ⟨_,Nat.lt_succ_self _,IntKind.wrap .i64 (x5_1 + 1),(ku2 (ku4 (ku8 K12 rfl) rfl) rfl),rfl,e13,S17⟩
   ·refine qh (cb q18)<|yc<|vm<|vm<|yV<|qg ?_
    obtain rfl:=si H
    obtain rfl:=si S17
    exact ⟨(ku4 K12 rfl),e13,rfl⟩
 ·rintro s6 w5 ⟨K7,e8,y23⟩
  rw [y23] at C4
  have H:=C4
  replace H : _ = some _:=H
  refine qg<|wr<|lp rfl (xa (.int .i64 (-1)) rfl)<|nx<|qr<|qy ?_
  obtain rfl:=si H
  exact vt rfl e8
/-! spec.l04OK -/
abbrev qM.e1 (a0 : List Nd) (x3_2 : Int):=((decide (((gt a0 x3_2).kind) = 4)) || (!(decide (qx (Qu (gt a0 x3_2)) = 0))))
abbrev qM.e2 (a0 : List Nd) (x3_2 : Int):=((!(qM.e1 a0 x3_2)) && (decide (0 < x3_2)))
abbrev qM.e3 (a0 : List Nd) (x3_2 : Int):=(vy (cut 47 ((gt a0 (IntKind.wrap .i64 (x3_2 - 1))).path)) (cut 47 ((gt a0 x3_2).path)))
theorem qM.walk {k : Nat} {w : World} {a0 : List Nd} {v_a0 : Value} (f_a0 : Rd 4 qp w v_a0 a0) {r : Bool} (H : qM.sh k a0 = some r) :
  Calls Tryz.prog 88 #[v_a0] w (Rt (RP w (.bool r))):=by
 unfold qM.sh at H
 refine qi Tryz.func88 rfl (Nat.le_of_ble_eq_true rfl) Tryz.ntmps88 rfl ?_
 refine wr<|lp rfl (xa (.bool false) rfl)<|nx<|qk<|wr<|lp rfl (xm v_a0 rfl)<|lp rfl (qS Tryz.underlying29 rfl f_a0)<|lp rfl (j8 rfl rfl)<|nx ?_
 rcases qe H with ⟨q1,H⟩ | ⟨q1,H⟩
 ·refine ql (cb q1)<|wr<|lp rfl (xa (.bool false) rfl)<|nx<|qr<|qv<|qy ?_
  obtain rfl:=si H
  exact vt rfl er
 ·refine qh (cb q1)<|qw<|qg<|qk<|wr<|lp rfl (xa (.int .i64 0) rfl)<|nx ?_
  obtain ⟨z3,L4,C5⟩:=bind_some H
  clear H
  refine  vT (fun s0 sQ wQ=>Kp [(2,6),(9,72)] s0 sQ∧Ext w wQ∧z3 = .inr ()) ?_ ?_
  ·refine qF<|vA (fun s0 kk sQ wQ=>∃ (x3_2 : Int),Kp [(2,6),(9,72)] s0 sQ∧sQ 3 = .int .i64 x3_2∧Ext w wQ∧qt (qM.b1 a0) kk x3_2 = some z3) k ⟨0,kz,rfl,er,L4⟩ ?_
   rintro k10 s11 w12 ⟨x3_2,K13,h16,e14,L15⟩
   cases k10 with
   | zero=>exact absurd L15 (by simp [qt])
   | succ k10=>
    obtain ⟨t17,H,S18⟩:=qQ L15
    clear L15
    unfold qM.b1 at H
    refine qk<|wr<|lp rfl (qf h16)<|lp rfl (xm v_a0 (K13 0 rfl))<|lp rfl (qS Tryz.underlying29 rfl (Rd.ext f_a0 e14))<|lp rfl (ym rfl rfl)<|nx ?_
    rcases qe H with ⟨q19,H⟩ | ⟨q19,H⟩
    ·refine ql (cb q19)<|qw<|qg<|qk<|qF<|qk<|qk ?_
     obtain ⟨c20,H⟩:=qa H
     obtain ⟨c23,H⟩:=qa H
     obtain ⟨c30,H⟩:=qa H
     obtain ⟨c33,H⟩:=qa H
     obtain ⟨c36,H⟩:=qa H
     obtain ⟨c37,H⟩:=qa H
     refine Yi [LEq v_a0,LEq (.int .i64 x3_2),yv (qp (gt a0 x3_2)),LAt 0 (qp (gt a0 x3_2)),LEq (.int .i64 ((gt a0 x3_2).kind)),LEq (.bool (decide (((gt a0 x3_2).kind) = 4))),LEq (.bool (decide (((gt a0 x3_2).kind) = 4))),LIf (!(decide (((gt a0 x3_2).kind) = 4))) (LEq v_a0),LIf (!(decide (((gt a0 x3_2).kind) = 4))) (LEq (.int .i64 x3_2)),LIf (!(decide (((gt a0 x3_2).kind) = 4))) (yv (qp (gt a0 x3_2))),LIf (!(decide (((gt a0 x3_2).kind) = 4))) (LEq (.agg (qp (gt a0 x3_2)).toArray)),LIf (!(decide (((gt a0 x3_2).kind) = 4))) (LEq (.agg (qj (Qu (gt a0 x3_2))).toArray)),LIf (!(decide (((gt a0 x3_2).kind) = 4))) (LEq (.bool (decide (qx (Qu (gt a0 x3_2)) = 0)))),LIf (!(decide (((gt a0 x3_2).kind) = 4))) (LEq (.bool (!(decide (qx (Qu (gt a0 x3_2)) = 0))))),LEq (.bool (qM.e1 a0 x3_2)),LEq (.bool (qM.e1 a0 x3_2)),LIf (!(qM.e1 a0 x3_2)) (LEq (.int .i64 x3_2)),LIf (!(qM.e1 a0 x3_2)) (LEq (.bool (decide (0 < x3_2)))),LIf (!(qM.e1 a0 x3_2)) (LEq (.bool (decide (0 < x3_2)))),LIf (qM.e2 a0 x3_2) (LEq v_a0),LIf (qM.e2 a0 x3_2) (LEq (.int .i64 x3_2)),LIf (qM.e2 a0 x3_2) (LEq (.int .i64 (IntKind.wrap .i64 (x3_2 - 1)))),LIf (qM.e2 a0 x3_2) (yv (qp (gt a0 (IntKind.wrap .i64 (x3_2 - 1))))),LIf (qM.e2 a0 x3_2) (LAt 1 (qp (gt a0 (IntKind.wrap .i64 (x3_2 - 1))))),LIf (qM.e2 a0 x3_2) (LEq (S ((gt a0 (IntKind.wrap .i64 (x3_2 - 1))).path))),LIf (qM.e2 a0 x3_2) (LEq v_a0),LIf (qM.e2 a0 x3_2) (LEq (.int .i64 x3_2)),LIf (qM.e2 a0 x3_2) (yv (qp (gt a0 x3_2))),LIf (qM.e2 a0 x3_2) (LAt 1 (qp (gt a0 x3_2))),LIf (qM.e2 a0 x3_2) (LEq (S ((gt a0 x3_2).path))),LIf (qM.e2 a0 x3_2) (LEq (.bool (qM.e3 a0 x3_2))),LIf (qM.e2 a0 x3_2) (LEq (.bool (!(qM.e3 a0 x3_2)))),LIf (!(qM.e1 a0 x3_2)) (LEq (.bool ((decide (0 < x3_2)) && (!(qM.e3 a0 x3_2))))),LEq (.bool ((qM.e1 a0 x3_2) || ((decide (0 < x3_2)) && (!(qM.e3 a0 x3_2)))))] (by kernel_rfl) (by kernel_rfl) ⟨qm,qm,yv.mono,LAt.mono,qm,qm,qm,lm,lm,(LIf.mono yv.mono),lm,lm,lm,lm,qm,qm,lm,lm,lm,lm,lm,lm,(LIf.mono yv.mono),(LIf.mono LAt.mono),lm,lm,lm,(LIf.mono yv.mono),(LIf.mono LAt.mono),lm,lm,lm,lm,qm,trivial⟩ ⟨?_,?_,?_,?_,?_,?_,?_,?_,?_,?_,?_,?_,?_,?_,?_,?_,?_,?_,?_,?_,?_,?_,?_,?_,?_,?_,?_,?_,?_,?_,?_,?_,?_,?_,trivial⟩ ?_
     ·exact fun s x e f d u=>lp rfl (xm v_a0 ((f 0 rfl).trans (K13 0 rfl)))<|se rfl rfl
     ·exact fun s x e f d u=>lp rfl (xm (.int .i64 x3_2) ((f 3 rfl).trans h16))<|se rfl rfl
     ·exact fun s x e f d u=>vg (.plain rfl) rfl (ltb rfl) rfl Tryz.underlying29 Tryz.sizeOf91 (d 0 rfl) (Rd.ext f_a0 (e14.t e)) (d 1 rfl) c20<|fun p41 h42=>se rfl ⟨_,rfl,h42⟩
     ·intro s x e f d u
      obtain ⟨p43,h44,h45⟩:=(d 2 rfl)
      exact lp rfl (qc Tryz.underlying91 rfl Tryz.sizeOf3 rfl h44)<|se rfl ⟨_,rfl,h45⟩
     ·intro s x e f d u
      obtain ⟨p46,h47,h48⟩:=(d 3 rfl)
      exact lp rfl (yd Tryz.isAgg3 (j:=0) h48 h47 rfl)<|se rfl rfl
     ·exact fun s x e f d u=>lp rfl (vx (d 4 rfl) rfl)<|se rfl rfl
     ·exact fun s x e f d u=>lp rfl (qf (d 5 rfl))<|se rfl rfl
     ·exact fun s x e f d u=>gF rfl rfl rfl rfl (d 6 rfl) rfl fun b t=>lt t rfl rfl (xm v_a0 ((f 0 rfl).trans (K13 0 rfl)))<|sg rfl rfl b rfl
     ·exact fun s x e f d u=>gF rfl rfl rfl rfl (d 6 rfl) rfl fun b t=>lt t rfl rfl (xm (.int .i64 x3_2) ((f 3 rfl).trans h16))<|sg rfl rfl b rfl
     ·exact fun s x e f d u=>gF rfl rfl rfl rfl (d 6 rfl) rfl fun b t=>vg t rfl (ltb rfl) rfl Tryz.underlying29 Tryz.sizeOf91 ((d 7 rfl).1 (qI (vh b))) (Rd.ext f_a0 (e14.t e)) ((d 8 rfl).1 (qI (vh b))) (vM b c23)<|fun p50 h51=>sg rfl rfl b ⟨_,rfl,h51⟩
     ·intro s x e f d u
      refine gF rfl rfl rfl rfl (d 6 rfl) rfl fun b t=>?_
      obtain ⟨p52,h53,h54⟩:=((d 9 rfl).1 (qI (vh b)))
      exact lt t rfl rfl (qW Tryz.isAgg91 Tryz.sizeOf91 rfl h53 h54)<|sg rfl rfl b rfl
     ·exact fun s x e f d u=>gF rfl rfl rfl rfl (d 6 rfl) rfl fun b t=>vL t rfl (ltb rfl) rfl Tryz.call152 (Qx.calls (w:=x) (a0:=gt a0 x3_2)) (va ((d 10 rfl).1 (qI (vh b))) rfl)<|fun w55 e56=>sgx rfl rfl b e56 rfl
     ·exact fun s x e f d u=>gF rfl rfl rfl rfl (d 6 rfl) rfl fun b t=>vL t rfl (ltb rfl) rfl Tryz.call151 (VY.calls (w:=x) (a0:=(Qu (gt a0 x3_2)))) (va ((d 11 rfl).1 (qI (vh b))) rfl)<|fun w57 e58=>sgx rfl rfl b e58 rfl
     ·exact fun s x e f d u=>gF rfl rfl rfl rfl (d 6 rfl) rfl fun b t=>lt t rfl rfl (yR ((d 12 rfl).1 (qI (vh b))))<|sg rfl rfl b rfl
     ·exact fun s x e f d u=>lp rfl (VI (d 6 rfl) rfl fun h=>((d 13 rfl).1 (qI h)))<|se rfl rfl
     ·exact fun s x e f d u=>lp rfl (qf (d 14 rfl))<|se rfl rfl
     ·exact fun s x e f d u=>gF rfl rfl rfl rfl (d 15 rfl) rfl fun b t=>lt t rfl rfl (xm (.int .i64 x3_2) ((f 3 rfl).trans h16))<|sg rfl rfl b rfl
     ·exact fun s x e f d u=>gF rfl rfl rfl rfl (d 15 rfl) rfl fun b t=>lt t rfl rfl (j8 ((d 16 rfl).1 (qI (vh b))) rfl)<|sg rfl rfl b rfl
     ·exact fun s x e f d u=>gF rfl rfl rfl rfl (d 15 rfl) rfl fun b t=>lt t rfl rfl (xm (.bool (decide (0 < x3_2))) ((d 17 rfl).1 (qI (vh b))))<|sg rfl rfl b rfl
     ·exact fun s x e f d u=>hT rfl rfl rfl rfl (d 18 rfl) rfl fun b t=>lt t rfl rfl (xm v_a0 ((f 0 rfl).trans (K13 0 rfl)))<|sg rfl rfl b rfl
     ·exact fun s x e f d u=>hT rfl rfl rfl rfl (d 18 rfl) rfl fun b t=>lt t rfl rfl (xm (.int .i64 x3_2) ((f 3 rfl).trans h16))<|sg rfl rfl b rfl
     ·exact fun s x e f d u=>hT rfl rfl rfl rfl (d 18 rfl) rfl fun b t=>lt t rfl rfl (Q3 ((d 20 rfl).1 (qY (qI (vh (jB b))) (jC b))) rfl)<|sg rfl rfl b rfl
     ·exact fun s x e f d u=>hT rfl rfl rfl rfl (d 18 rfl) rfl fun b t=>vg t rfl (ltb rfl) rfl Tryz.underlying29 Tryz.sizeOf91 ((d 19 rfl).1 (qY (qI (vh (jB b))) (jC b))) (Rd.ext f_a0 (e14.t e)) ((d 21 rfl).1 (qY (qI (vh (jB b))) (jC b))) (vM b c30)<|fun p60 h61=>sg rfl rfl b ⟨_,rfl,h61⟩
     ·intro s x e f d u
      refine hT rfl rfl rfl rfl (d 18 rfl) rfl fun b t=>?_
      obtain ⟨p62,h63,h64⟩:=((d 22 rfl).1 (qY (qI (vh (jB b))) (jC b)))
      exact lt t rfl rfl (qc Tryz.underlying91 rfl Tryz.sizeOf9 rfl h63)<|sg rfl rfl b ⟨_,rfl,h64⟩
     ·intro s x e f d u
      refine hT rfl rfl rfl rfl (d 18 rfl) rfl fun b t=>?_
      obtain ⟨p65,h66,h67⟩:=((d 23 rfl).1 (qY (qI (vh (jB b))) (jC b)))
      exact lt t rfl rfl (yd Tryz.isAgg9 (j:=1) h67 h66 rfl)<|sg rfl rfl b rfl
     ·exact fun s x e f d u=>hT rfl rfl rfl rfl (d 18 rfl) rfl fun b t=>lt t rfl rfl (xm v_a0 ((f 0 rfl).trans (K13 0 rfl)))<|sg rfl rfl b rfl
     ·exact fun s x e f d u=>hT rfl rfl rfl rfl (d 18 rfl) rfl fun b t=>lt t rfl rfl (xm (.int .i64 x3_2) ((f 3 rfl).trans h16))<|sg rfl rfl b rfl
     ·exact fun s x e f d u=>hT rfl rfl rfl rfl (d 18 rfl) rfl fun b t=>vg t rfl (ltb rfl) rfl Tryz.underlying29 Tryz.sizeOf91 ((d 25 rfl).1 (qY (qI (vh (jB b))) (jC b))) (Rd.ext f_a0 (e14.t e)) ((d 26 rfl).1 (qY (qI (vh (jB b))) (jC b))) (vM b c33)<|fun p69 h70=>sg rfl rfl b ⟨_,rfl,h70⟩
     ·intro s x e f d u
      refine hT rfl rfl rfl rfl (d 18 rfl) rfl fun b t=>?_
      obtain ⟨p71,h72,h73⟩:=((d 27 rfl).1 (qY (qI (vh (jB b))) (jC b)))
      exact lt t rfl rfl (qc Tryz.underlying91 rfl Tryz.sizeOf9 rfl h72)<|sg rfl rfl b ⟨_,rfl,h73⟩
     ·intro s x e f d u
      refine hT rfl rfl rfl rfl (d 18 rfl) rfl fun b t=>?_
      obtain ⟨p74,h75,h76⟩:=((d 28 rfl).1 (qY (qI (vh (jB b))) (jC b)))
      exact lt t rfl rfl (yd Tryz.isAgg9 (j:=1) h76 h75 rfl)<|sg rfl rfl b rfl
     ·exact fun s x e f d u=>hT rfl rfl rfl rfl (d 18 rfl) rfl fun b t=>vL t rfl (ltb rfl) rfl Tryz.call153 (vN.calls (w:=x) (a0:=(gt a0 (IntKind.wrap .i64 (x3_2 - 1))).path) (a1:=(gt a0 x3_2).path) (od (vM b c36)) (od (vM b c37))) (va ((d 24 rfl).1 (qY (qI (vh (jB b))) (jC b))) (va ((d 29 rfl).1 (qY (qI (vh (jB b))) (jC b))) rfl))<|fun w79 e80=>sgx rfl rfl b e80 rfl
     ·exact fun s x e f d u=>hT rfl rfl rfl rfl (d 18 rfl) rfl fun b t=>lt t rfl rfl (yR ((d 30 rfl).1 (qY (qI (vh (jB b))) (jC b))))<|sg rfl rfl b rfl
     ·exact fun s x e f d u=>gF rfl rfl rfl rfl (d 15 rfl) rfl fun b t=>lt t rfl rfl (jT ((d 18 rfl).1 (qI (vh b))) rfl fun h=>((d 31 rfl).1 (qY (qI (vh b)) h)))<|sg rfl rfl b rfl
     ·exact fun s x e f d u=>lp rfl (VI (d 15 rfl) rfl fun h=>((d 32 rfl).1 (qI h)))<|se rfl rfl
     intro s81 w82 e83 hf84 ha85
     have K86:=Kp.ofD (kp:=[(15,49)]) rfl hf84
     have d87 : s81 48 = (.bool ((qM.e1 a0 x3_2) || ((decide (0 < x3_2)) && (!(qM.e3 a0 x3_2))))):=ha85 33 rfl
     clear ha85 hf84
     refine qg ?_
     rcases qe H with ⟨q88,H⟩ | ⟨q88,H⟩
     ·refine ql (d87.trans (cb q88))<|wr<|lp rfl (xa (.bool false) rfl)<|nx<|qr<|qv<|vc<|qv<|qv<|vc<|qv<|qv<|qy ?_
      obtain rfl:=si H
      obtain rfl:=si S18
      have H:=C5
      obtain rfl:=si H
      exact vt rfl (e14.t e83)
     ·refine qh (d87.trans (cb q88))<|qw<|qg<|wr<|lp rfl (xm v_a0 ((K86 0 rfl).trans (K13 0 rfl)))<|lp rfl (xm (.int .i64 x3_2) ((K86 3 rfl).trans h16)) ?_
      obtain ⟨c89,H⟩:=qa H
      refine vg (.plain rfl) rfl (ltb rfl) rfl Tryz.underlying29 Tryz.sizeOf91 rfl (Rd.ext f_a0 (e14.t e83)) rfl c89<|fun p90 h91=>lp rfl (qc Tryz.underlying91 rfl Tryz.sizeOf9 rfl rfl)<|lp rfl (yd Tryz.isAgg9 (j:=1) h91 rfl rfl) ?_
      obtain ⟨c92,H⟩:=qa H
      refine lc rfl rfl Tryz.call154 (vr.calls (w:=w82) (a0:=(gt a0 x3_2).path) (od c92)) rfl<|fun w93 e94=>lp rfl (xa (S (qd ((gt a0 x3_2).path))) rfl)<|nx<|wr<|lp rfl (xm (S (qd ((gt a0 x3_2).path))) rfl)<|lp rfl (VL rfl rfl)<|nx ?_
      rcases qe H with ⟨q95,H⟩ | ⟨q95,H⟩
      ·refine ql (cb q95)<|wr<|lp rfl (xm v_a0 ((K86 0 rfl).trans (K13 0 rfl)))<|lp rfl (xm (.int .i64 x3_2) ((K86 3 rfl).trans h16)) ?_
       obtain ⟨c96,H⟩:=qa H
       refine Xw (.plain rfl) rfl (ltb rfl) rfl Tryz.underlying29 Tryz.sizeOf91 rfl (Rd.ext f_a0 ((e14.t e83).t e94)) (l:=0) (h:=x3_2) rfl ⟨_,rfl⟩ c96<|fun v97 h98=>lp rfl (xm (S (qd ((gt a0 x3_2).path))) rfl) ?_
       obtain ⟨c99,H⟩:=qa H
       refine lc rfl rfl Tryz.call155 (jb.calls (w:=w93) (a0:=sub a0 0 x3_2) (a1:=(qd ((gt a0 x3_2).path))) h98 (od c99)) rfl<|fun w100 e101=>lp rfl (xa (.int .i64 (qU (sub a0 0 x3_2) (qd ((gt a0 x3_2).path)))) rfl)<|nx<|wr<|lp rfl (xm (.int .i64 (qU (sub a0 0 x3_2) (qd ((gt a0 x3_2).path)))) rfl)<|lp rfl (ym rfl rfl)<|lp rfl (qf rfl) ?_
       obtain ⟨z103,x104,H⟩:=bind_some H
       refine yf 7 [(65,72)] 71 (fun q=>q = z103) ?_ ?_
       ·rcases qe x104 with ⟨b101_,H⟩ | ⟨b101_,H⟩
        ·refine ls rfl rfl rfl (cb b101_) rfl<|ls rfl rfl rfl (cb b101_) rfl<|ls rfl rfl rfl (cb b101_) rfl<|ls rfl rfl rfl (cb b101_) rfl<|ls rfl rfl rfl (cb b101_) rfl<|ls rfl rfl rfl (cb b101_) rfl<|lp rfl (qq (b:=true) (v:=(.bool true)) (cb b101_) rfl) ?_
         obtain rfl:=si H
         exact nx ⟨(ku3 (ku4 kz rfl) rfl),⟨_,rfl,rfl⟩,er⟩
        ·refine lg rfl rfl rfl rfl (cb b101_) (xm v_a0 ((K86 0 rfl).trans (K13 0 rfl)))<|lg rfl rfl rfl rfl (cb b101_) (xm (.int .i64 (qU (sub a0 0 x3_2) (qd ((gt a0 x3_2).path)))) rfl) ?_
         obtain ⟨c103,H⟩:=qa H
         refine vg (tg rfl rfl rfl (cb b101_)) rfl (ltb rfl) rfl Tryz.underlying29 Tryz.sizeOf91 rfl (Rd.ext f_a0 (((e14.t e83).t e94).t e101)) rfl c103<|fun p104 h105=>lg rfl rfl rfl rfl (cb b101_) (qc Tryz.underlying91 rfl Tryz.sizeOf3 rfl rfl)<|lg rfl rfl rfl rfl (cb b101_) (yd Tryz.isAgg3 (j:=0) h105 rfl rfl)<|lg rfl rfl rfl rfl (cb b101_) (QJ rfl rfl)<|lp rfl (qq (b:=false) (v:=(.bool (!decide (((gt a0 (qU (sub a0 0 x3_2) (qd ((gt a0 x3_2).path)))).kind) = 3)))) (cb b101_) rfl) ?_
         obtain rfl:=si H
         exact nx ⟨(ku3 (ku4 kz rfl) rfl),⟨_,rfl,rfl⟩,er⟩
       intro s109 w105 z110 K106 hq h107 e108
       rw [hq] at h107; clear hq
       refine nx ?_
       rcases qe H with ⟨q111,H⟩ | ⟨q111,H⟩
       ·refine ql (h107.trans (cb q111))<|wr<|lp rfl (xa (.bool false) rfl)<|nx<|qr<|vc<|qv<|qv<|vc<|qv<|qv<|qy ?_
        obtain rfl:=si H
        obtain rfl:=si S18
        have H:=C5
        obtain rfl:=si H
        exact vt rfl ((((e14.t e83).t e94).t e101).t e108)
       ·refine qh (h107.trans (cb q111))<|qw<|vK<|qg<|qO<|lp rfl (xm (.int .i64 x3_2) ((K106 3 rfl).trans ((K86 3 rfl).trans h16)))<|lp rfl (vz rfl rfl)<|lp rfl (xa (.int .i64 (IntKind.wrap .i64 (x3_2 + 1))) rfl)<|nx ?_
        obtain rfl:=si H
        exact ⟨_,Nat.lt_succ_self _,IntKind.wrap .i64 (x3_2 + 1),(ku3 (Kp.cut (ku2 (ku8 (ku8 (Kp.cut (ku4 K13 rfl) K86 rfl) rfl) rfl) rfl) K106 rfl) rfl),rfl,((((e14.t e83).t e94).t e101).t e108),S18⟩
      ·refine qh (cb q95)<|qw<|vK<|qg<|qO<|lp rfl (xm (.int .i64 x3_2) ((K86 3 rfl).trans h16))<|lp rfl (vz rfl rfl)<|lp rfl (xa (.int .i64 (IntKind.wrap .i64 (x3_2 + 1))) rfl)<|nx ?_
       obtain rfl:=si H
       exact ⟨_,Nat.lt_succ_self _,IntKind.wrap .i64 (x3_2 + 1),(ku4 (ku8 (Kp.cut (ku4 K13 rfl) K86 rfl) rfl) rfl),rfl,((e14.t e83).t e94),S18⟩
    ·refine qh (cb q19)<|yc<|vm<|vm<|yV<|qg ?_
     obtain rfl:=si H
     obtain rfl:=si S18
     exact ⟨(ku4 K13 rfl),e14,rfl⟩
  ·rintro s7 w6 ⟨K8,e9,y112⟩
   rw [y112] at C5
   have H:=C5
   replace H : _ = some _:=H
   refine qg<|wr<|lp rfl (xa (.bool true) rfl)<|nx<|qr<|qy ?_
   obtain rfl:=si H
   exact vt rfl e9
theorem qM.calls {w : World} {a0 : List Nd} {v_a0 : Value} (f_a0 : Rd 4 qp w v_a0 a0) (h0 : ∀ x ∈ a0,x.path.length≤1048576) :
  Calls Tryz.prog 88 #[v_a0] w (Rt (RP w (.bool (j5 a0)))):=by
 obtain ⟨k,h⟩:=qM.eq a0 h0
 exact qM.walk f_a0 h
/-! (impl.Node).record -/
theorem j1.calls {w : World} {a0 : Nd} :
  Calls Tryz.prog 158 #[.agg (qp a0).toArray] w (Rt (RP w (.agg (qj (Qu a0)).toArray))):=by
 have H:=j1.eq a0
 generalize (Qu a0) = r at H ⊢
 unfold j1.sh at H
 refine Vt Tryz.func158 rfl (Nat.le_of_ble_eq_true rfl) Tryz.ntmps158 ?_
 refine wr<|Qq (.plain rfl) rfl (ltb rfl) rfl rfl<|fun b1 w2 z3 z4 e5 k6=>jU (.plain rfl) rfl (ltb rfl) rfl Tryz.zeroValue52<|fun b7 w8 z9 z10 e11 k12=>nx<|wr<|lp rfl (qc Tryz.underlying91 rfl Tryz.sizeOf3 rfl rfl)<|lp rfl (qz Tryz.isAgg3 (Blk.ext k6 e11) rfl rfl)<|lp rfl (qc Tryz.underlying91 rfl Tryz.sizeOf9 rfl rfl)<|lp rfl (qz Tryz.isAgg9 (Blk.ext k6 e11) rfl rfl)<|lp rfl (qc Tryz.underlying91 rfl Tryz.sizeOf9 rfl rfl)<|lp rfl (qz Tryz.isAgg9 (Blk.ext k6 e11) rfl rfl)<|lp rfl (qc Tryz.underlying91 rfl Tryz.sizeOf3 rfl rfl)<|lp rfl (qz Tryz.isAgg3 (Blk.ext k6 e11) rfl rfl)<|lp rfl (yZ (vs:=[(0,(.int .i64 a0.kind)),(1,(S a0.path)),(2,(S a0.body)),(3,(.int .i64 a0.mode)),(4,(.bool false))]) (pl:=#[(0,1),(1,1),(2,1),(3,1),(4,1)]) Tryz.underlying52 Tryz.zeroValue52 rfl (fun _=>by kernel_rfl) rfl rfl rfl)<|vU (.plain rfl) rfl rfl Tryz.sizeOf52 rfl rfl rfl rfl rfl k12<|fun w13 h14 k15=>nx<|qr<|VD ?_
 obtain rfl:=si H
 exact finC1 rfl rfl k15 Tryz.isAgg52 Tryz.sizeOf52 rfl (e5.t (Below.trans e11 (Wr.below h14 (Nat.le_of_eq z9))))
/-! impl.nodeOK -/
theorem Vy.calls {w : World} {a0 : Nd} (gv : GV 0 w) :
  Calls Tryz.prog 90 #[.agg (qp a0).toArray] w (Rt (RP w (.bool (nodeOK a0)))):=by
 have H:=Vy.eq a0
 generalize (nodeOK a0) = r at H ⊢
 unfold Vy.sh at H
 refine qi Tryz.func90 rfl (Nat.le_of_ble_eq_true rfl) Tryz.ntmps90 rfl ?_
 refine wr<|Qq (.plain rfl) rfl (ltb rfl) rfl rfl<|fun b1 w2 z3 z4 e5 k6=>lp rfl (xa (.bool false) rfl)<|nx<|wr<|lp rfl (qW Tryz.isAgg91 Tryz.sizeOf91 rfl rfl (Blk.at0 k6))<|lc rfl rfl Tryz.call158 (j1.calls (w:=w2) (a0:=a0)) rfl<|fun w7 e8=>lc rfl rfl Tryz.call157 (Qm.calls (w:=w7) (a0:=(Qu a0)) (GV.ext gv (e5.t e8))) rfl<|fun w9 e10=>lp rfl (xm (.bool (decide (qx (Qu a0) = 0))) rfl)<|jj 4 [(7,11)] 10 (.bool ((decide (qx (Qu a0) = 0)) && (!decide (a0.kind = 4)))) ?_ ?_
 ·rcases qo (decide (qx (Qu a0) = 0)) with b10_ | b10_
  ·exact lg rfl rfl rfl rfl (cb b10_) (qc Tryz.underlying91 rfl Tryz.sizeOf3 rfl rfl)<|lg rfl rfl rfl rfl (cb b10_) (qz Tryz.isAgg3 (Blk.ext k6 (e8.t e10)) rfl rfl)<|lg rfl rfl rfl rfl (cb b10_) (QJ rfl rfl)<|lp rfl (qq (b:=true) (v:=(.bool (!decide (a0.kind = 4)))) (cb b10_) rfl)<|nx ⟨(ku4 kz rfl),(QP b10_),er⟩
  ·exact ls rfl rfl rfl (cb b10_) rfl<|ls rfl rfl rfl (cb b10_) rfl<|ls rfl rfl rfl (cb b10_) rfl<|lp rfl (qq (b:=false) (v:=(.bool false)) (cb b10_) rfl)<|nx ⟨(ku4 kz rfl),(QQ b10_),er⟩
 intro s16 w12 K13 h14 e15
 refine lp rfl (qA h14)<|nx<|qr<|qy ?_
 obtain rfl:=si H
 exact vt rfl (((e5.t e8).t e10).t e15)
/-! impl.at$1 -/
theorem Yp.calls {w : World} {a0 : Nd} {a1 : List UInt8} {b_a1 : Nat} (k_a1 : Blk w b_a1 #[(S a1)] 9) :
  Calls Tryz.prog 202 #[.agg (qp a0).toArray,.pointer (some ⟨b_a1,0,none⟩)] w (Rt (RP w (.bool (decide (a0.path = a1))))):=by
 have H:=Yp.eq a0 a1
 generalize (decide (a0.path = a1)) = r at H ⊢
 unfold Yp.sh at H
 refine qi Tryz.func202 rfl (Nat.le_of_ble_eq_true rfl) Tryz.ntmps202 rfl ?_
 refine wr<|Qq (.plain rfl) rfl (ltb rfl) rfl rfl<|fun b1 w2 z3 z4 e5 k6=>lp rfl (xa (.bool false) rfl)<|nx<|wr<|lp rfl (qc Tryz.underlying91 rfl Tryz.sizeOf9 rfl rfl)<|lp rfl (qz Tryz.isAgg9 k6 rfl rfl)<|lp rfl (qz Tryz.isAgg9 (Blk.ext k_a1 e5) rfl rfl)<|lp rfl (Vv rfl rfl)<|lp rfl (xa (.bool (decide (a0.path = a1))) rfl)<|nx<|qr<|qy ?_
 obtain rfl:=si H
 exact vt rfl e5
/-! slices.IndexFunc(()impl.Node,impl.Node) -/
theorem vb.walk {k : Nat} {w : World} {a0 : List Nd} {a1 : Nd→Option Bool} {v_a0 : Value} (f_a0 : Rd 4 qp w v_a0 a0) {v_a1 : Value} (f_a1 : ∀ (x0 : Nd) (r : Bool),a1 x0 = some r→jR Tryz.prog w v_a1 [(.agg (qp x0).toArray)] (.bool r)) (g_a1 : v_a1.cells = #[v_a1]) {r : Int} (H : vb.sh k a0 a1 = some r) :
  Calls Tryz.prog 201 #[v_a0,v_a1] w (Rt (RP w (.int .i64 r))):=by
 unfold vb.sh at H
 refine qi Tryz.func201 rfl (Nat.le_of_ble_eq_true rfl) Tryz.ntmps201 rfl ?_
 refine wr<|lp rfl (xa (.int .i64 0) rfl)<|nx<|qk<|wr<|lp rfl (xm v_a0 rfl)<|lp rfl (qS Tryz.underlying29 rfl f_a0)<|lp rfl (xm (.int .i64 0) rfl)<|nx ?_
 obtain ⟨z2,L3,C4⟩:=bind_some H
 clear H
 refine  vT (fun s0 sQ wQ=>Kp [(4,6),(8,19)] s0 sQ∧Ext w wQ∧z2 = .inr ()) ?_ ?_
 ·refine qF<|vA (fun s0 kk sQ wQ=>∃ (x8_1 : Int),Kp [(4,6),(8,19)] s0 sQ∧sQ 8 = .int .i64 x8_1∧Ext w wQ∧qt (vb.b1 a0 a1) kk x8_1 = some z2) k ⟨0,kz,rfl,er,L3⟩ ?_
  rintro k9 s10 w11 ⟨x8_1,K12,h15,e13,L14⟩
  cases k9 with
  | zero=>exact absurd L14 (by simp [qt])
  | succ k9=>
   obtain ⟨t16,H,S17⟩:=qQ L14
   clear L14
   unfold vb.b1 at H
   refine wr<|lp rfl (ym h15 (K12 7 rfl))<|nx<|qk ?_
   rcases qe H with ⟨q18,H⟩ | ⟨q18,H⟩
   ·refine ql (cb q18)<|qw<|qg<|qk<|qF<|wr<|lp rfl (qf h15)<|lp rfl (xa (.int .i64 x8_1) rfl)<|nx<|wr<|lp rfl (xm v_a1 (K12 1 rfl))<|lp rfl (xm v_a0 (K12 0 rfl))<|lp rfl (xm (.int .i64 x8_1) rfl) ?_
    obtain ⟨c19,H⟩:=qa H
    refine vg (.plain rfl) rfl (ltb rfl) rfl Tryz.underlying29 Tryz.sizeOf91 rfl (Rd.ext f_a0 e13) rfl c19<|fun p20 h21=>lp rfl (qW Tryz.isAgg91 Tryz.sizeOf91 rfl rfl h21) ?_
    obtain ⟨z22,x23,H⟩:=bind_some H
    refine YM (.plain rfl) rfl (ltb rfl) rfl rfl (jR.ext (f_a1 _ _ x23) e13) rfl<|fun w24 e25=>nx ?_
    rcases qe H with ⟨q26,H⟩ | ⟨q26,H⟩
    ·refine ql (cb q26)<|wr<|lp rfl (xm (.int .i64 x8_1) rfl)<|lp rfl (xa (.int .i64 x8_1) rfl)<|nx<|qr<|vc<|qv<|qv<|vc<|qv<|qv<|qy ?_
     obtain rfl:=si H
     obtain rfl:=si S17
     have H:=C4
     obtain rfl:=si H
     exact vt rfl (e13.t e25)
    ·refine qh (cb q26)<|qw<|vK<|qg<|qO<|lp rfl (vz h15 rfl)<|lp rfl (xm (.int .i64 (IntKind.wrap .i64 (x8_1 + 1))) rfl)<|nx ?_
     obtain rfl:=si H
     exact ⟨_,Nat.lt_succ_self _,IntKind.wrap .i64 (x8_1 + 1),(ku3 (ku8 K12 rfl) rfl),rfl,(e13.t e25),S17⟩
   ·refine qh (cb q18)<|yc<|vm<|vm<|yV<|qg ?_
    obtain rfl:=si H
    obtain rfl:=si S17
    exact ⟨(ku1 K12 rfl),e13,rfl⟩
 ·rintro s6 w5 ⟨K7,e8,y27⟩
  rw [y27] at C4
  have H:=C4
  replace H : _ = some _:=H
  refine qg<|wr<|lp rfl (xa (.int .i64 (-1)) rfl)<|nx<|qr<|qy ?_
  obtain rfl:=si H
  exact vt rfl e8
theorem vb.calls {w : World} {a0 : List Nd} {a1 : Nd→Option Bool} {r : Int} {v_a0 : Value} (f_a0 : Rd 4 qp w v_a0 a0) {v_a1 : Value} (f_a1 : ∀ (x0 : Nd) (r : Bool),a1 x0 = some r→jR Tryz.prog w v_a1 [(.agg (qp x0).toArray)] (.bool r)) (g_a1 : v_a1.cells = #[v_a1]) (h0 : a0.length≤4611686018427387904) (H : (YP a1 a0) = some r) :
  Calls Tryz.prog 201 #[v_a0,v_a1] w (Rt (RP w (.int .i64 r))):=by
 obtain ⟨k,h⟩:=vb.eq a0 a1 h0 H
 exact vb.walk f_a0 f_a1 g_a1 h
/-! impl.at -/
theorem YN.calls {w : World} {a0 : List Nd} {a1 : List UInt8} {v_a0 : Value} (f_a0 : Rd 4 qp w v_a0 a0) (h0 : a0.length≤1048576) :
  Calls Tryz.prog 147 #[v_a0,S a1] w (Rt (RP w (.int .i64 (qU a0 a1)))):=by
 have H:=YN.eq a0 a1 h0
 generalize (qU a0 a1) = r at H ⊢
 unfold YN.sh at H
 refine qi Tryz.func147 rfl (Nat.le_of_ble_eq_true rfl) Tryz.ntmps147 rfl ?_
 refine wr<|Qq (.plain rfl) rfl (ltb rfl) rfl rfl<|fun b1 w2 z3 z4 e5 k6=>lp rfl (xa (.int .i64 0) rfl)<|nx<|wr<|lp rfl (xm v_a0 rfl)<|lp rfl (VN (vs:=#[]) (us:=#[.pointer (some ⟨b1,0,none⟩)]) rfl rfl) ?_
 obtain ⟨c11,H⟩:=qa H
 obtain ⟨z12,x13,H⟩:=bind_some H
 refine lc rfl rfl Tryz.call201 (vb.calls (w:=w2) (a0:=a0) (a1:=(fun (x0_ : Nd)=>some (decide (x0_.path = a1)))) (Rd.ext f_a0 e5) (fun x0_ r h=>by have h:=si h; subst h; exact jR.mk Tryz.call202 (by rfl) fun w9 k10=>Yp.calls (w:=w9) (a0:=x0_) (a1:=a1) (Blk.ext k6 k10)) rfl (od c11) x13) rfl<|fun w14 e15=>lp rfl (xa (.int .i64 z12) rfl)<|nx<|qr<|qy ?_
 obtain rfl:=si H
 exact vt rfl (e5.t e15)
/-! impl.isDir -/
theorem Vd.calls {w : World} {a0 : List Nd} {a1 : List UInt8} {v_a0 : Value} (f_a0 : Rd 4 qp w v_a0 a0) (h0 : a0.length≤1048576) :
  Calls Tryz.prog 91 #[v_a0,S a1] w (Rt (RP w (.bool (QS a0 a1)))):=by
 have H:=Vd.eq a0 a1 h0
 generalize (QS a0 a1) = r at H ⊢
 unfold Vd.sh at H
 refine qi Tryz.func91 rfl (Nat.le_of_ble_eq_true rfl) Tryz.ntmps91 rfl ?_
 refine wr<|lp rfl (xa (.bool false) rfl)<|nx<|wr<|lp rfl (xm v_a0 rfl)<|lp rfl (xm (S a1) rfl) ?_
 obtain ⟨c1,H⟩:=qa H
 refine lc rfl rfl Tryz.call147 (YN.calls (w:=w) (a0:=a0) (a1:=a1) f_a0 (od c1)) rfl<|fun w2 e3=>lp rfl (xa (.int .i64 (qU a0 a1)) rfl)<|nx<|wr<|lp rfl (xm (S a1) rfl)<|lp rfl (Vv rfl rfl)<|lp rfl (xm (.bool (decide (a1 = ([] : List UInt8)))) rfl) ?_
 obtain ⟨z5,x6,H⟩:=bind_some H
 refine yf 11 [(12,23)] 22 (fun q=>q = z5) ?_ ?_
 ·rcases qe x6 with ⟨b3_,H⟩ | ⟨b3_,H⟩
  ·refine ls rfl rfl rfl (cb b3_) rfl<|ls rfl rfl rfl (cb b3_) rfl<|ls rfl rfl rfl (cb b3_) rfl<|lu rfl rfl rfl rfl rfl<|lu rfl rfl rfl rfl rfl<|lu rfl rfl rfl rfl rfl<|lu rfl rfl rfl rfl rfl<|lu rfl rfl rfl rfl rfl<|lu rfl rfl rfl rfl rfl<|ls rfl rfl rfl (cb b3_) rfl<|lp rfl (qq (b:=true) (v:=(.bool true)) (cb b3_) rfl) ?_
   obtain rfl:=si H
   exact nx ⟨(ku3 (ku8 kz rfl) rfl),⟨_,rfl,rfl⟩,er⟩
  ·refine lg rfl rfl rfl rfl (cb b3_) (xm (.int .i64 (qU a0 a1)) rfl)<|lg rfl rfl rfl rfl (cb b3_) (Yd rfl rfl)<|lg rfl rfl rfl rfl (cb b3_) (xm (.bool (decide (0≤(qU a0 a1)))) rfl) ?_
   obtain ⟨z6,x7,H⟩:=bind_some H
   refine yf 7 [(15,22)] 21 (fun q=>q = z6) ?_ ?_
   ·rcases qe x7 with ⟨b4_,H⟩ | ⟨b4_,H⟩
    ·refine lg rfl rfl rfl rfl (cb b4_) (xm v_a0 rfl)<|lg rfl rfl rfl rfl (cb b4_) (xm (.int .i64 (qU a0 a1)) rfl) ?_
     obtain ⟨c6,H⟩:=qa H
     refine vg (tg rfl rfl rfl (cb b4_)) rfl (ltb rfl) rfl Tryz.underlying29 Tryz.sizeOf91 rfl (Rd.ext f_a0 e3) rfl c6<|fun p7 h8=>lg rfl rfl rfl rfl (cb b4_) (qc Tryz.underlying91 rfl Tryz.sizeOf3 rfl rfl)<|lg rfl rfl rfl rfl (cb b4_) (yd Tryz.isAgg3 (j:=0) h8 rfl rfl)<|lg rfl rfl rfl rfl (cb b4_) (vx rfl rfl)<|lg rfl rfl rfl rfl (cb b3_) (qq (b:=true) (v:=(.bool (decide (((gt a0 (qU a0 a1)).kind) = 3)))) (cb b4_) rfl) ?_
     obtain rfl:=si H
     exact nx ⟨(ku3 (ku4 kz rfl) rfl),⟨_,rfl,rfl⟩,er⟩
    ·refine ls rfl rfl rfl (cb b4_) rfl<|ls rfl rfl rfl (cb b4_) rfl<|ls rfl rfl rfl (cb b4_) rfl<|ls rfl rfl rfl (cb b4_) rfl<|ls rfl rfl rfl (cb b4_) rfl<|ls rfl rfl rfl (cb b4_) rfl<|lg rfl rfl rfl rfl (cb b3_) (qq (b:=false) (v:=(.bool false)) (cb b4_) rfl) ?_
     obtain rfl:=si H
     exact nx ⟨(ku3 (ku4 kz rfl) rfl),⟨_,rfl,rfl⟩,er⟩
   intro s12 w8 z13 K9 hq h10 e11
   rw [hq] at h10; clear hq
   refine lp rfl (qq (b:=false) (v:=(.bool z6)) ((K9 11 rfl).trans (cb b3_)) h10) ?_
   obtain rfl:=si H
   exact nx ⟨(ku1 (Kp.cut (ku3 kz rfl) K9 rfl) rfl),⟨_,rfl,rfl⟩,e11⟩
 intro s14 w7 z15 K8 hq h9 e10
 rw [hq] at h9; clear hq
 refine lp rfl (qA h9)<|nx<|qr<|qy ?_
 obtain rfl:=si H
 exact vt rfl (e3.t e10)
/-! impl.TreeOK -/
abbrev qK.e1 (a0 : List Nd) (x7_1 : Int):=(((decide (24≤x7_1)) || (!(nodeOK (gt a0 x7_1)))) || ((decide (0 < x7_1)) && (!(vO ((gt a0 (IntKind.wrap .i64 (x7_1 - 1))).path) ((gt a0 x7_1).path)))))
abbrev qK.e2 (a0 : List Nd) (x7_1 : Int):=((!((decide (24≤x7_1)) || (!(nodeOK (gt a0 x7_1))))) && (decide (0 < x7_1)))
theorem qK.walk {k : Nat} {w : World} {a0 : List Nd} (gv : GV 0 w) {v_a0 : Value} (f_a0 : Rd 4 qp w v_a0 a0) {r : Bool} (H : qK.sh k a0 = some r) :
  Calls Tryz.prog 27 #[v_a0] w (Rt (RP w (.bool r))):=by
 unfold qK.sh at H
 refine qi Tryz.func27 rfl (Nat.le_of_ble_eq_true rfl) Tryz.ntmps27 rfl ?_
 refine wr<|lp rfl (xa (.bool false) rfl)<|nx<|qk<|wr<|lp rfl (xm v_a0 rfl)<|lp rfl (qS Tryz.underlying29 rfl f_a0)<|lp rfl (xm (.int .i64 0) rfl)<|nx ?_
 obtain ⟨z2,L3,C4⟩:=bind_some H
 clear H
 refine  vT (fun s0 sQ wQ=>Kp [(2,5),(7,46)] s0 sQ∧Ext w wQ∧z2 = .inr ()) ?_ ?_
 ·refine qF<|vA (fun s0 kk sQ wQ=>∃ (x7_1 : Int),Kp [(2,5),(7,46)] s0 sQ∧sQ 7 = .int .i64 x7_1∧Ext w wQ∧qt (qK.b1 a0) kk x7_1 = some z2) k ⟨0,kz,rfl,er,L3⟩ ?_
  rintro k9 s10 w11 ⟨x7_1,K12,h15,e13,L14⟩
  cases k9 with
  | zero=>exact absurd L14 (by simp [qt])
  | succ k9=>
   obtain ⟨t16,H,S17⟩:=qQ L14
   clear L14
   unfold qK.b1 at H
   refine wr<|lp rfl (ym h15 (K12 6 rfl))<|nx<|qk ?_
   rcases qe H with ⟨q18,H⟩ | ⟨q18,H⟩
   ·refine ql (cb q18)<|qw<|qg<|qk<|qF<|wr<|lp rfl (qf h15) ?_
    obtain ⟨c19,H⟩:=qa H
    refine vg (.plain rfl) rfl (ltb rfl) rfl Tryz.underlying29 Tryz.sizeOf91 (K12 5 rfl) (Rd.ext f_a0 e13) h15 c19<|fun p20 h21=>lp rfl (qW Tryz.isAgg91 Tryz.sizeOf91 rfl rfl h21)<|jU (.plain rfl) rfl (ltb rfl) rfl Tryz.zeroValue91<|fun b22 w23 z24 z25 e26 k27=>lp rfl (xa (.int .i64 x7_1) rfl)<|vU (.plain rfl) rfl rfl Tryz.sizeOf91 rfl rfl rfl rfl rfl k27<|fun w28 h29 k30=>nx<|qk ?_
    obtain ⟨c33,H⟩:=qa H
    obtain ⟨c38,H⟩:=qa H
    obtain ⟨c41,H⟩:=qa H
    obtain ⟨c44,H⟩:=qa H
    refine Yi [LEq (.int .i64 x7_1),LEq (.bool (decide (24≤x7_1))),LEq (.bool (decide (24≤x7_1))),LIf (!(decide (24≤x7_1))) (LEq (.agg #[(.int .i64 ((gt a0 x7_1).kind)),(S ((gt a0 x7_1).path)),(S ((gt a0 x7_1).body)),(.int .i64 ((gt a0 x7_1).mode))])),LIf (!(decide (24≤x7_1))) (LEq (.bool (nodeOK (gt a0 x7_1)))),LIf (!(decide (24≤x7_1))) (LEq (.bool (!(nodeOK (gt a0 x7_1))))),LEq (.bool ((decide (24≤x7_1)) || (!(nodeOK (gt a0 x7_1))))),LEq (.bool ((decide (24≤x7_1)) || (!(nodeOK (gt a0 x7_1))))),LIf (!((decide (24≤x7_1)) || (!(nodeOK (gt a0 x7_1))))) (LEq (.int .i64 x7_1)),LIf (!((decide (24≤x7_1)) || (!(nodeOK (gt a0 x7_1))))) (LEq (.bool (decide (0 < x7_1)))),LIf (!((decide (24≤x7_1)) || (!(nodeOK (gt a0 x7_1))))) (LEq (.bool (decide (0 < x7_1)))),LIf (qK.e2 a0 x7_1) (LEq v_a0),LIf (qK.e2 a0 x7_1) (LEq (.int .i64 x7_1)),LIf (qK.e2 a0 x7_1) (LEq (.int .i64 (IntKind.wrap .i64 (x7_1 - 1)))),LIf (qK.e2 a0 x7_1) (yv (qp (gt a0 (IntKind.wrap .i64 (x7_1 - 1))))),LIf (qK.e2 a0 x7_1) (LAt 1 (qp (gt a0 (IntKind.wrap .i64 (x7_1 - 1))))),LIf (qK.e2 a0 x7_1) (LEq (S ((gt a0 (IntKind.wrap .i64 (x7_1 - 1))).path))),LIf (qK.e2 a0 x7_1) (LEq (.pointer (some ⟨b22,1,none⟩))),LIf (qK.e2 a0 x7_1) (LEq (S ((gt a0 x7_1).path))),LIf (qK.e2 a0 x7_1) (LEq (.bool (vO ((gt a0 (IntKind.wrap .i64 (x7_1 - 1))).path) ((gt a0 x7_1).path)))),LIf (qK.e2 a0 x7_1) (LEq (.bool (!(vO ((gt a0 (IntKind.wrap .i64 (x7_1 - 1))).path) ((gt a0 x7_1).path))))),LIf (!((decide (24≤x7_1)) || (!(nodeOK (gt a0 x7_1))))) (LEq (.bool ((decide (0 < x7_1)) && (!(vO ((gt a0 (IntKind.wrap .i64 (x7_1 - 1))).path) ((gt a0 x7_1).path)))))),LEq (.bool (qK.e1 a0 x7_1)),LEq (.bool (qK.e1 a0 x7_1)),LIf (!(qK.e1 a0 x7_1)) (LEq v_a0),LIf (!(qK.e1 a0 x7_1)) (LEq (.int .i64 x7_1)),LIf (!(qK.e1 a0 x7_1)) (LRd 4 qp (sub a0 0 x7_1)),LIf (!(qK.e1 a0 x7_1)) (LEq (.pointer (some ⟨b22,1,none⟩))),LIf (!(qK.e1 a0 x7_1)) (LEq (S ((gt a0 x7_1).path))),LIf (!(qK.e1 a0 x7_1)) (LEq (S (qd ((gt a0 x7_1).path)))),LIf (!(qK.e1 a0 x7_1)) (LEq (.bool (QS (sub a0 0 x7_1) (qd ((gt a0 x7_1).path))))),LIf (!(qK.e1 a0 x7_1)) (LEq (.bool (!(QS (sub a0 0 x7_1) (qd ((gt a0 x7_1).path)))))),LEq (.bool ((qK.e1 a0 x7_1) || (!(QS (sub a0 0 x7_1) (qd ((gt a0 x7_1).path))))))] (by kernel_rfl) (by kernel_rfl) ⟨qm,qm,qm,lm,lm,lm,qm,qm,lm,lm,lm,lm,lm,lm,(LIf.mono yv.mono),(LIf.mono LAt.mono),lm,lm,lm,lm,lm,lm,qm,qm,lm,lm,(LIf.mono LRd.mono),lm,lm,lm,lm,lm,qm,trivial⟩ ⟨?_,?_,?_,?_,?_,?_,?_,?_,?_,?_,?_,?_,?_,?_,?_,?_,?_,?_,?_,?_,?_,?_,?_,?_,?_,?_,?_,?_,?_,?_,?_,?_,?_,trivial⟩ ?_
    ·exact fun s x e f d u=>lp rfl (xm (.int .i64 x7_1) (f 3 rfl))<|se rfl rfl
    ·exact fun s x e f d u=>lp rfl (Yd (d 0 rfl) rfl)<|se rfl rfl
    ·exact fun s x e f d u=>lp rfl (qf (d 1 rfl))<|se rfl rfl
    ·exact fun s x e f d u=>gF rfl rfl rfl rfl (d 2 rfl) rfl fun b t=>lt t rfl rfl (qW Tryz.isAgg91 Tryz.sizeOf91 rfl (f 4 rfl) (Blk.at0 (Blk.ext k30 e)))<|sg rfl rfl b rfl
    ·exact fun s x e f d u=>gF rfl rfl rfl rfl (d 2 rfl) rfl fun b t=>vL t rfl (ltb rfl) rfl Tryz.call90 (Vy.calls (w:=x) (a0:=(gt a0 x7_1)) (GV.ext gv ((e13.t (Below.trans e26 (Wr.below h29 (Nat.le_of_eq z24)))).t e))) (va ((d 3 rfl).1 (qI (vh b))) rfl)<|fun w47 e48=>sgx rfl rfl b e48 rfl
    ·exact fun s x e f d u=>gF rfl rfl rfl rfl (d 2 rfl) rfl fun b t=>lt t rfl rfl (yR ((d 4 rfl).1 (qI (vh b))))<|sg rfl rfl b rfl
    ·exact fun s x e f d u=>lp rfl (VI (d 2 rfl) rfl fun h=>((d 5 rfl).1 (qI h)))<|se rfl rfl
    ·exact fun s x e f d u=>lp rfl (qf (d 6 rfl))<|se rfl rfl
    ·exact fun s x e f d u=>gF rfl rfl rfl rfl (d 7 rfl) rfl fun b t=>lt t rfl rfl (xm (.int .i64 x7_1) (f 3 rfl))<|sg rfl rfl b rfl
    ·exact fun s x e f d u=>gF rfl rfl rfl rfl (d 7 rfl) rfl fun b t=>lt t rfl rfl (j8 ((d 8 rfl).1 (qI (vh b))) rfl)<|sg rfl rfl b rfl
    ·exact fun s x e f d u=>gF rfl rfl rfl rfl (d 7 rfl) rfl fun b t=>lt t rfl rfl (xm (.bool (decide (0 < x7_1))) ((d 9 rfl).1 (qI (vh b))))<|sg rfl rfl b rfl
    ·exact fun s x e f d u=>hT rfl rfl rfl rfl (d 10 rfl) rfl fun b t=>lt t rfl rfl (xm v_a0 ((f 0 rfl).trans (K12 0 rfl)))<|sg rfl rfl b rfl
    ·exact fun s x e f d u=>hT rfl rfl rfl rfl (d 10 rfl) rfl fun b t=>lt t rfl rfl (xm (.int .i64 x7_1) (f 3 rfl))<|sg rfl rfl b rfl
    ·exact fun s x e f d u=>hT rfl rfl rfl rfl (d 10 rfl) rfl fun b t=>lt t rfl rfl (Q3 ((d 12 rfl).1 (qY (qI (vh (jB b))) (jC b))) rfl)<|sg rfl rfl b rfl
    ·exact fun s x e f d u=>hT rfl rfl rfl rfl (d 10 rfl) rfl fun b t=>vg t rfl (ltb rfl) rfl Tryz.underlying29 Tryz.sizeOf91 ((d 11 rfl).1 (qY (qI (vh (jB b))) (jC b))) (Rd.ext f_a0 ((e13.t (Below.trans e26 (Wr.below h29 (Nat.le_of_eq z24)))).t e)) ((d 13 rfl).1 (qY (qI (vh (jB b))) (jC b))) (vM b c33)<|fun p50 h51=>sg rfl rfl b ⟨_,rfl,h51⟩
    ·intro s x e f d u
     refine hT rfl rfl rfl rfl (d 10 rfl) rfl fun b t=>?_
     obtain ⟨p52,h53,h54⟩:=((d 14 rfl).1 (qY (qI (vh (jB b))) (jC b)))
     exact lt t rfl rfl (qc Tryz.underlying91 rfl Tryz.sizeOf9 rfl h53)<|sg rfl rfl b ⟨_,rfl,h54⟩
    ·intro s x e f d u
     refine hT rfl rfl rfl rfl (d 10 rfl) rfl fun b t=>?_
     obtain ⟨p55,h56,h57⟩:=((d 15 rfl).1 (qY (qI (vh (jB b))) (jC b)))
     exact lt t rfl rfl (yd Tryz.isAgg9 (j:=1) h57 h56 rfl)<|sg rfl rfl b rfl
    ·exact fun s x e f d u=>hT rfl rfl rfl rfl (d 10 rfl) rfl fun b t=>lt t rfl rfl (qc Tryz.underlying91 rfl Tryz.sizeOf9 rfl (f 4 rfl))<|sg rfl rfl b rfl
    ·exact fun s x e f d u=>hT rfl rfl rfl rfl (d 10 rfl) rfl fun b t=>lt t rfl rfl (qz Tryz.isAgg9 (Blk.ext k30 e) ((d 17 rfl).1 (qY (qI (vh (jB b))) (jC b))) rfl)<|sg rfl rfl b rfl
    ·exact fun s x e f d u=>hT rfl rfl rfl rfl (d 10 rfl) rfl fun b t=>vL t rfl (ltb rfl) rfl Tryz.call37 (jZ.calls (w:=x) (a0:=(gt a0 (IntKind.wrap .i64 (x7_1 - 1))).path) (a1:=(gt a0 x7_1).path) (GV.ext gv ((e13.t (Below.trans e26 (Wr.below h29 (Nat.le_of_eq z24)))).t e))) (va ((d 16 rfl).1 (qY (qI (vh (jB b))) (jC b))) (va ((d 18 rfl).1 (qY (qI (vh (jB b))) (jC b))) rfl))<|fun w58 e59=>sgx rfl rfl b e59 rfl
    ·exact fun s x e f d u=>hT rfl rfl rfl rfl (d 10 rfl) rfl fun b t=>lt t rfl rfl (yR ((d 19 rfl).1 (qY (qI (vh (jB b))) (jC b))))<|sg rfl rfl b rfl
    ·exact fun s x e f d u=>gF rfl rfl rfl rfl (d 7 rfl) rfl fun b t=>lt t rfl rfl (jT ((d 10 rfl).1 (qI (vh b))) rfl fun h=>((d 20 rfl).1 (qY (qI (vh b)) h)))<|sg rfl rfl b rfl
    ·exact fun s x e f d u=>lp rfl (VI (d 7 rfl) rfl fun h=>((d 21 rfl).1 (qI h)))<|se rfl rfl
    ·exact fun s x e f d u=>lp rfl (qf (d 22 rfl))<|se rfl rfl
    ·exact fun s x e f d u=>gF rfl rfl rfl rfl (d 23 rfl) rfl fun b t=>lt t rfl rfl (xm v_a0 ((f 0 rfl).trans (K12 0 rfl)))<|sg rfl rfl b rfl
    ·exact fun s x e f d u=>gF rfl rfl rfl rfl (d 23 rfl) rfl fun b t=>lt t rfl rfl (xm (.int .i64 x7_1) (f 3 rfl))<|sg rfl rfl b rfl
    ·exact fun s x e f d u=>gF rfl rfl rfl rfl (d 23 rfl) rfl fun b t=>Xw t rfl (ltb rfl) rfl Tryz.underlying29 Tryz.sizeOf91 ((d 24 rfl).1 (qI (vh b))) (Rd.ext f_a0 ((e13.t (Below.trans e26 (Wr.below h29 (Nat.le_of_eq z24)))).t e)) (l:=0) (h:=x7_1) rfl ⟨_,((d 25 rfl).1 (qI (vh b)))⟩ (vM b c38)<|fun v61 h62=>sg rfl rfl b h62
    ·exact fun s x e f d u=>gF rfl rfl rfl rfl (d 23 rfl) rfl fun b t=>lt t rfl rfl (qc Tryz.underlying91 rfl Tryz.sizeOf9 rfl (f 4 rfl))<|sg rfl rfl b rfl
    ·exact fun s x e f d u=>gF rfl rfl rfl rfl (d 23 rfl) rfl fun b t=>lt t rfl rfl (qz Tryz.isAgg9 (Blk.ext k30 e) ((d 27 rfl).1 (qI (vh b))) rfl)<|sg rfl rfl b rfl
    ·exact fun s x e f d u=>gF rfl rfl rfl rfl (d 23 rfl) rfl fun b t=>vL t rfl (ltb rfl) rfl Tryz.call92 (jG.calls (w:=x) (a0:=(gt a0 x7_1).path) (od (vM b c41))) (va ((d 28 rfl).1 (qI (vh b))) rfl)<|fun w64 e65=>sgx rfl rfl b e65 rfl
    ·intro s x e f d u
     refine gF rfl rfl rfl rfl (d 23 rfl) rfl fun b t=>?_
     have d66 : Rd 4 qp x (s 38) (sub a0 0 x7_1):=((d 26 rfl).1 (qI (vh b)))
     exact vL t rfl (ltb rfl) rfl Tryz.call91 (Vd.calls (w:=x) (a0:=sub a0 0 x7_1) (a1:=(qd ((gt a0 x7_1).path))) d66 (od (vM b c44))) (va rfl (va ((d 29 rfl).1 (qI (vh b))) rfl))<|fun w68 e69=>sgx rfl rfl b e69 rfl
    ·exact fun s x e f d u=>gF rfl rfl rfl rfl (d 23 rfl) rfl fun b t=>lt t rfl rfl (yR ((d 30 rfl).1 (qI (vh b))))<|sg rfl rfl b rfl
    ·exact fun s x e f d u=>lp rfl (VI (d 23 rfl) rfl fun h=>((d 31 rfl).1 (qI h)))<|se rfl rfl
    intro s70 w71 e72 hf73 ha74
    have K75:=Kp.ofD (kp:=[(12,45)]) rfl hf73
    have d76 : s70 44 = (.bool ((qK.e1 a0 x7_1) || (!(QS (sub a0 0 x7_1) (qd ((gt a0 x7_1).path)))))):=ha74 32 rfl
    clear ha74 hf73
    refine qg ?_
    rcases qe H with ⟨q77,H⟩ | ⟨q77,H⟩
    ·refine ql (d76.trans (cb q77))<|wr<|lp rfl (xa (.bool false) rfl)<|nx<|qr<|vc<|qv<|qv<|vc<|qv<|qv<|qy ?_
     obtain rfl:=si H
     obtain rfl:=si S17
     have H:=C4
     obtain rfl:=si H
     exact vt rfl ((e13.t (Below.trans e26 (Wr.below h29 (Nat.le_of_eq z24)))).t e72)
    ·refine qh (d76.trans (cb q77))<|qw<|vK<|qg<|qO<|lp rfl (vz ((K75 7 rfl).trans h15) rfl)<|lp rfl (xm (.int .i64 (IntKind.wrap .i64 (x7_1 + 1))) rfl)<|nx ?_
     obtain rfl:=si H
     exact ⟨_,Nat.lt_succ_self _,IntKind.wrap .i64 (x7_1 + 1),(ku2 (Kp.cut (ku2 (ku4 K12 rfl) rfl) K75 rfl) rfl),rfl,((e13.t (Below.trans e26 (Wr.below h29 (Nat.le_of_eq z24)))).t e72),S17⟩
   ·refine qh (cb q18)<|yc<|vm<|vm<|yV<|qg ?_
    obtain rfl:=si H
    obtain rfl:=si S17
    exact ⟨(ku1 K12 rfl),e13,rfl⟩
 ·rintro s6 w5 ⟨K7,e8,y78⟩
  rw [y78] at C4
  have H:=C4
  replace H : _ = some _:=H
  refine qg<|wr<|lp rfl (xa (.bool true) rfl)<|nx<|qr<|qy ?_
  obtain rfl:=si H
  exact vt rfl e8
theorem qK.calls {w : World} {a0 : List Nd} (gv : GV 0 w) {v_a0 : Value} (f_a0 : Rd 4 qp w v_a0 a0) (h0 : a0.length≤1048576) (h1 : ∀ x ∈ a0,x.path.length≤1048576) :
  Calls Tryz.prog 27 #[v_a0] w (Rt (RP w (.bool (j5 a0)))):=by
 obtain ⟨k,h⟩:=qK.eq a0 h0 h1
 exact qK.walk gv f_a0 h
/-! spec.l03Under -/
theorem yD.calls {w : World} {a0 : List Rec} {a1 : List UInt8} {v_a0 : Value} (f_a0 : Rd 5 qj w v_a0 a0) (h0 : a0.length≤1048576) (h1 : a1.length≤1048576) :
  Calls Tryz.prog 134 #[v_a0,S a1] w (Rt (RP w (.bool (yi a0 a1)))):=by
 obtain ⟨k,H⟩:=yD.eq a0 a1 h0 h1
 generalize (yi a0 a1) = r at H ⊢
 unfold yD.sh at H
 refine qi Tryz.func134 rfl (Nat.le_of_ble_eq_true rfl) Tryz.ntmps134 rfl ?_
 refine wr<|lp rfl (xa (.bool false) rfl)<|nx<|qk<|wr<|lp rfl (xm (S a1) rfl) ?_
 obtain ⟨c1,H⟩:=qa H
 refine lc rfl rfl Tryz.call154 (vr.calls (w:=w) (a0:=a1) (od c1)) rfl<|fun w2 e3=>lp rfl (xa (S (qd a1)) rfl)<|nx ?_
 obtain ⟨z5,L6,C7⟩:=bind_some H
 clear H
 refine  vT (fun s0 sQ wQ=>Kp [(4,7),(9,25)] s0 sQ∧Ext w2 wQ∧z5 = .inr ()) ?_ ?_
 ·refine qF<|vA (fun s0 kk sQ wQ=>∃ (x5_4 : List UInt8),Kp [(4,7),(9,25)] s0 sQ∧sQ 5 = S x5_4∧Ext w2 wQ∧qt (yD.b1 a0) kk x5_4 = some z5) k ⟨(qd a1),kz,rfl,er,L6⟩ ?_
  rintro k12 s13 w14 ⟨x5_4,K15,h18,e16,L17⟩
  cases k12 with
  | zero=>exact absurd L17 (by simp [qt])
  | succ k12=>
   obtain ⟨t19,H,S20⟩:=qQ L17
   clear L17
   unfold yD.b1 at H
   refine qk<|wr<|lp rfl (qf h18)<|lp rfl (VL rfl rfl)<|nx ?_
   rcases qe H with ⟨q21,H⟩ | ⟨q21,H⟩
   ·refine ql (cb q21)<|qw<|qg<|qk<|qF<|wr<|lp rfl (xm v_a0 (K15 0 rfl))<|lp rfl (qf h18) ?_
    obtain ⟨c22,H⟩:=qa H
    refine lc rfl rfl Tryz.call162 (yK.calls (w:=w14) (a0:=a0) (a1:=x5_4) (Rd.ext f_a0 (e3.t e16)) (od c22)) rfl<|fun w23 e24=>lp rfl (xa (.int .i64 (qJ a0 x5_4)) rfl)<|nx<|wr<|lp rfl (xm (.int .i64 (qJ a0 x5_4)) rfl)<|lp rfl (Yd rfl rfl)<|lp rfl (xm (.bool (decide (0≤(qJ a0 x5_4)))) rfl) ?_
    obtain ⟨z26,x27,H⟩:=bind_some H
    refine yf 6 [(19,25)] 24 (fun q=>q = z26) ?_ ?_
    ·rcases qe x27 with ⟨b24_,H⟩ | ⟨b24_,H⟩
     ·refine lg rfl rfl rfl rfl (cb b24_) (xm v_a0 (K15 0 rfl))<|lg rfl rfl rfl rfl (cb b24_) (xm (.int .i64 (qJ a0 x5_4)) rfl) ?_
      obtain ⟨c26,H⟩:=qa H
      refine vg (tg rfl rfl rfl (cb b24_)) rfl (ltb rfl) rfl Tryz.underlying35 Tryz.sizeOf52 rfl (Rd.ext f_a0 ((e3.t e16).t e24)) rfl c26<|fun p27 h28=>lg rfl rfl rfl rfl (cb b24_) (qc Tryz.underlying52 rfl Tryz.sizeOf4 rfl rfl)<|lg rfl rfl rfl rfl (cb b24_) (yd Tryz.isAgg4 (j:=4) h28 rfl rfl)<|lp rfl (qq (b:=true) (v:=(.bool ((gt a0 (qJ a0 x5_4)).opq))) (cb b24_) rfl) ?_
      obtain rfl:=si H
      exact nx ⟨(ku2 (ku4 kz rfl) rfl),⟨_,rfl,rfl⟩,er⟩
     ·refine ls rfl rfl rfl (cb b24_) rfl<|ls rfl rfl rfl (cb b24_) rfl<|ls rfl rfl rfl (cb b24_) rfl<|ls rfl rfl rfl (cb b24_) rfl<|ls rfl rfl rfl (cb b24_) rfl<|lp rfl (qq (b:=false) (v:=(.bool false)) (cb b24_) rfl) ?_
      obtain rfl:=si H
      exact nx ⟨(ku2 (ku4 kz rfl) rfl),⟨_,rfl,rfl⟩,er⟩
    intro s32 w28 z33 K29 hq h30 e31
    rw [hq] at h30; clear hq
    refine nx ?_
    rcases qe H with ⟨q34,H⟩ | ⟨q34,H⟩
    ·refine ql (h30.trans (cb q34))<|wr<|lp rfl (xa (.bool true) rfl)<|nx<|qr<|vc<|qv<|qv<|vc<|qv<|qv<|qy ?_
     obtain rfl:=si H
     obtain rfl:=si S20
     have H:=C7
     obtain rfl:=si H
     exact vt rfl (((e3.t e16).t e24).t e31)
    ·refine qh (h30.trans (cb q34))<|qw<|vK<|qg<|qO<|lp rfl (xm (S x5_4) ((K29 5 rfl).trans h18)) ?_
     obtain ⟨c35,H⟩:=qa H
     refine lc rfl rfl Tryz.call154 (vr.calls (w:=w28) (a0:=x5_4) (od c35)) rfl<|fun w36 e37=>lp rfl (xa (S (qd x5_4)) rfl)<|nx ?_
     obtain rfl:=si H
     exact ⟨_,Nat.lt_succ_self _,(qd x5_4),(ku3 (Kp.cut (ku1 (ku8 K15 rfl) rfl) K29 rfl) rfl),rfl,(((e16.t e24).t e31).t e37),S20⟩
   ·refine qh (cb q21)<|yc<|vm<|vm<|yV<|qg ?_
    obtain rfl:=si H
    obtain rfl:=si S20
    exact ⟨(ku2 K15 rfl),e16,rfl⟩
 ·rintro s9 w8 ⟨K10,e11,y38⟩
  rw [y38] at C7
  have H:=C7
  replace H : _ = some _:=H
  refine qg<|wr<|lp rfl (xa (.bool false) rfl)<|nx<|qr<|qy ?_
  obtain rfl:=si H
  exact vt rfl (e3.t e11)
/-! impl.ancestors -/
theorem vH.calls {w : World} {a0 : List UInt8} (h0 : a0.length≤1048576) :
  Calls Tryz.prog 141 #[S a0] w (Rt (RO 9 1 y4 w (yq a0))):=by
 obtain ⟨k,H⟩:=vH.eq a0 h0
 generalize (yq a0) = r at H ⊢
 unfold vH.sh at H
 refine qi Tryz.func141 rfl (Nat.le_of_ble_eq_true rfl) Tryz.ntmps141 rfl ?_
 refine wr<|lp rfl (xa (.slice none 0 0) rfl)<|nx<|wr<|yt (.plain rfl) rfl (ltb rfl) rfl Tryz.underlying44 Tryz.sizeOf9 Tryz.zeroValue9 rfl rfl rfl (vs:=[]) rfl (qX rfl)<|fun b1 w2 z3 z4 e5 k6=>lp rfl (xa (.slice (some ⟨b1,0,none⟩) 0 0) rfl)<|nx<|qk<|wr<|lp rfl (xm (S a0) rfl) ?_
 obtain ⟨c7,H⟩:=qa H
 refine lc rfl rfl Tryz.call92 (jG.calls (w:=w2) (a0:=a0) (od c7)) rfl<|fun w8 e9=>lp rfl (xa (S (qd a0)) rfl)<|nx ?_
 obtain ⟨z13,L14,C15⟩:=bind_some H
 clear H
 refine  vT (fun s0 sQ wQ=>∃ (x3_16 : List (List UInt8)) (v17 : Value),Kp [(0,1),(3,4),(7,15)] s0 sQ∧sQ 3 = v17∧Ow 9 1 y4 w8.heap.size wQ v17 x3_16∧Ext w8 wQ∧z13 = .inr x3_16) ?_ ?_
 ·refine qF<|vA (fun s0 kk sQ wQ=>∃ (x0_10 : List UInt8) (x3_11 : List (List UInt8)) (v12 : Value),Kp [(0,1),(3,4),(7,15)] s0 sQ∧sQ 0 = S x0_10∧sQ 3 = v12∧Ow 9 1 y4 w8.heap.size wQ v12 x3_11∧Ext w8 wQ∧qt (vH.b1) kk (x0_10,x3_11) = some z13) k ⟨(qd a0),([] : List (List UInt8)),(.slice (some ⟨b1,0,none⟩) 0 0),kz,rfl,rfl,(Ow.zero),er,L14⟩ ?_
  rintro k22 s23 w24 ⟨x0_10,x3_11,v12,K25,h28,h29,h30,e26,L27⟩
  cases k22 with
  | zero=>exact absurd L27 (by simp [qt])
  | succ k22=>
   obtain ⟨t31,H,S32⟩:=qQ L27
   clear L27
   unfold vH.b1 at H
   refine qk<|wr<|lp rfl (qf h28)<|lp rfl (VL rfl rfl)<|nx ?_
   rcases qe H with ⟨q33,H⟩ | ⟨q33,H⟩
   ·refine ql (cb q33)<|qw<|qg<|qk<|qF<|qO<|lp rfl (qf h29)<|lp rfl (qf h28)<|yt (.plain rfl) rfl (ltb rfl) rfl Tryz.underlying44 Tryz.sizeOf9 Tryz.zeroValue9 rfl rfl rfl (vs:=[(S x0_10)]) rfl (qX rfl)<|fun b34 w35 z36 z37 e38 k39=>?_
    obtain ⟨c40,H⟩:=qa H
    refine yP (enc:=y4) (.plain rfl) rfl (ltb rfl) rfl El.t44 rfl rfl (Ow.ext h30 e38) (Ow.rd (Ow.new (xs:=[x0_10]) (sz:=1) (enc:=y4) (base:=w24.heap.size) k39 (Nat.le_of_eq z36) rfl (fun _ _=>by rfl) (Nat.le_of_ble_eq_true rfl))) (ones_S _) (od c40) ((e26.t e38)).size<|fun v41 w42 o43 z44 g45=>lp rfl (xa v41 rfl)<|qP<|vK<|qg<|qO<|lp rfl (qf h28) ?_
    obtain ⟨c46,H⟩:=qa H
    refine lc rfl rfl Tryz.call92 (jG.calls (w:=w42) (a0:=x0_10) (od c46)) rfl<|fun w47 e48=>lp rfl (xa (S (qd x0_10)) rfl)<|nx ?_
    obtain rfl:=si H
    exact ⟨_,Nat.lt_succ_self _,(qd x0_10),x3_11 ++ ([x0_10] : List (List UInt8)),v41,(ku2 (ku8 K25 rfl) rfl),rfl,rfl,(Ow.ext o43 e48),(Ext.trans (g45 _ (e26.t e38)) e48),S32⟩
   ·refine qh (cb q33)<|yc<|vm<|vm<|yV<|qg ?_
    obtain rfl:=si H
    obtain rfl:=si S32
    exact ⟨x3_11,v12,(ku2 K25 rfl),h29,h30,e26,rfl⟩
 ·rintro s19 w18 ⟨x3_16,v17,K20,h49,h50,e21,y51⟩
  rw [y51] at C15
  have H:=C15
  replace H : _ = some _:=H
  refine qg<|wr<|lp rfl (qf h49)<|lp rfl (xa v17 rfl)<|nx<|qr<|qy ?_
  obtain rfl:=si H
  exact QD rfl ((e5.t e9).t e21) h50 ((e5.t e9)).size
/-! impl.above$1 -/
theorem jD.walk {w : World} {a0 : List UInt8} {a1 : List Rec} {a2 : Rec→Option Bool} {v_a1 : Value} (f_a1 : Rd 5 qj w v_a1 a1) (g_a1 : v_a1.cells = #[v_a1]) {b_a1 : Nat} (k_a1 : Blk w b_a1 #[v_a1] 35) {v_a2 : Value} (f_a2 : ∀ (x0 : Rec) (r : Bool),a2 x0 = some r→jR Tryz.prog w v_a2 [(.agg (qj x0).toArray)] (.bool r)) (g_a2 : v_a2.cells = #[v_a2]) {b_a2 : Nat} (k_a2 : Blk w b_a2 #[v_a2] 148) {r : Bool} (H : jD.sh a0 a1 a2 = some r) :
  Calls Tryz.prog 221 #[S a0,.pointer (some ⟨b_a1,0,none⟩),.pointer (some ⟨b_a2,0,none⟩)] w (Rt (RP w (.bool r))):=by
 unfold jD.sh at H
 refine qi Tryz.func221 rfl (Nat.le_of_ble_eq_true rfl) Tryz.ntmps221 rfl ?_
 refine wr<|lp rfl (xa (.bool false) rfl)<|nx<|wr<|lp rfl (qz Tryz.isAgg35 k_a1 rfl rfl)<|lp rfl (xm (S a0) rfl) ?_
 obtain ⟨c1,H⟩:=qa H
 refine lc rfl rfl Tryz.call80 (Qa.calls (w:=w) (a0:=a1) (a1:=a0) f_a1 (od c1)) rfl<|fun w2 e3=>lp rfl (xa (.int .i64 (qJ a1 a0)) rfl)<|nx<|qk ?_
 obtain ⟨c4,H⟩:=qa H
 obtain ⟨z7,x8,H⟩:=bind_some H
 refine Yi [LEq (.int .i64 (qJ a1 a0)),LEq (.bool (decide (0≤(qJ a1 a0)))),LEq (.bool (decide (0≤(qJ a1 a0)))),LIf (decide (0≤(qJ a1 a0))) (LEq v_a2),LIf (decide (0≤(qJ a1 a0))) (LEq v_a1),LIf (decide (0≤(qJ a1 a0))) (LEq (.int .i64 (qJ a1 a0))),LIf (decide (0≤(qJ a1 a0))) (yv (qj (gt a1 (qJ a1 a0)))),LIf (decide (0≤(qJ a1 a0))) (LEq (.agg (qj (gt a1 (qJ a1 a0))).toArray)),LIf (decide (0≤(qJ a1 a0))) (LEq (.bool z7)),LEq (.bool ((decide (0≤(qJ a1 a0))) && z7)),LEq (.bool ((decide (0≤(qJ a1 a0))) && z7))] (by kernel_rfl) (by kernel_rfl) ⟨qm,qm,qm,lm,lm,lm,(LIf.mono yv.mono),lm,lm,qm,qm,trivial⟩ ⟨?_,?_,?_,?_,?_,?_,?_,?_,?_,?_,?_,trivial⟩ ?_
 ·exact fun s x e f d u=>lp rfl (xm (.int .i64 (qJ a1 a0)) (f 5 rfl))<|se rfl rfl
 ·exact fun s x e f d u=>lp rfl (Yd (d 0 rfl) rfl)<|se rfl rfl
 ·exact fun s x e f d u=>lp rfl (qf (d 1 rfl))<|se rfl rfl
 ·exact fun s x e f d u=>gT rfl rfl rfl rfl (d 2 rfl) rfl fun b t=>lt t rfl rfl (qz Tryz.isAgg148 (Blk.ext k_a2 (e3.t e)) (f 2 rfl) rfl)<|sg rfl rfl b rfl
 ·exact fun s x e f d u=>gT rfl rfl rfl rfl (d 2 rfl) rfl fun b t=>lt t rfl rfl (qz Tryz.isAgg35 (Blk.ext k_a1 (e3.t e)) (f 1 rfl) rfl)<|sg rfl rfl b rfl
 ·exact fun s x e f d u=>gT rfl rfl rfl rfl (d 2 rfl) rfl fun b t=>lt t rfl rfl (xm (.int .i64 (qJ a1 a0)) (f 5 rfl))<|sg rfl rfl b rfl
 ·exact fun s x e f d u=>gT rfl rfl rfl rfl (d 2 rfl) rfl fun b t=>vg t rfl (ltb rfl) rfl Tryz.underlying35 Tryz.sizeOf52 ((d 4 rfl).1 b) (Rd.ext f_a1 (e3.t e)) ((d 5 rfl).1 b) (vM b c4)<|fun p12 h13=>sg rfl rfl b ⟨_,rfl,h13⟩
 ·intro s x e f d u
  refine gT rfl rfl rfl rfl (d 2 rfl) rfl fun b t=>?_
  obtain ⟨p14,h15,h16⟩:=((d 6 rfl).1 b)
  exact lt t rfl rfl (qW Tryz.isAgg52 Tryz.sizeOf52 rfl h15 h16)<|sg rfl rfl b rfl
 ·exact fun s x e f d u=>gT rfl rfl rfl rfl (d 2 rfl) rfl fun b t=>YM t rfl (ltb rfl) rfl ((d 3 rfl).1 b) (jR.ext (f_a2 _ _ x8) (e3.t e)) (va ((d 7 rfl).1 b) rfl)<|fun w19 e20=>sgx rfl rfl b e20 rfl
 ·exact fun s x e f d u=>lp rfl (jT (d 2 rfl) rfl fun h=>((d 8 rfl).1 h))<|se rfl rfl
 ·exact fun s x e f d u=>lp rfl (qA (d 9 rfl))<|se rfl rfl
 intro s21 w22 e23 hf24 ha25
 have K26:=Kp.ofD (kp:=[(4,5),(9,19)]) rfl hf24
 have d27 : s21 4 = (.bool ((decide (0≤(qJ a1 a0))) && z7)):=ha25 10 rfl
 clear ha25 hf24
 refine qg<|qr<|qy ?_
 obtain rfl:=si H
 exact vt d27 (e3.t e23)
theorem jD.calls {w : World} {a0 : List UInt8} {a1 : List Rec} {a2 : Rec→Option Bool} {r : Bool} {v_a1 : Value} (f_a1 : Rd 5 qj w v_a1 a1) (g_a1 : v_a1.cells = #[v_a1]) {b_a1 : Nat} (k_a1 : Blk w b_a1 #[v_a1] 35) {v_a2 : Value} (f_a2 : ∀ (x0 : Rec) (r : Bool),a2 x0 = some r→jR Tryz.prog w v_a2 [(.agg (qj x0).toArray)] (.bool r)) (g_a2 : v_a2.cells = #[v_a2]) {b_a2 : Nat} (k_a2 : Blk w b_a2 #[v_a2] 148) (h0 : a1.length≤1048576) (H : (Jb a1 a2 a0) = some r) :
  Calls Tryz.prog 221 #[S a0,.pointer (some ⟨b_a1,0,none⟩),.pointer (some ⟨b_a2,0,none⟩)] w (Rt (RP w (.bool r))):=jD.walk f_a1 g_a1 k_a1 f_a2 g_a2 k_a2 (jD.eq a0 a1 a2 h0 H)
/-! impl.above -/
theorem Qp.walk {w : World} {a0 : List Rec} {a1 : List UInt8} {a2 : Rec→Option Bool} {v_a0 : Value} (f_a0 : Rd 5 qj w v_a0 a0) {v_a2 : Value} (f_a2 : ∀ (x0 : Rec) (r : Bool),a2 x0 = some r→jR Tryz.prog w v_a2 [(.agg (qj x0).toArray)] (.bool r)) (g_a2 : v_a2.cells = #[v_a2]) {r : Bool} (H : Qp.sh a0 a1 a2 = some r) :
  Calls Tryz.prog 191 #[v_a0,S a1,v_a2] w (Rt (RP w (.bool r))):=by
 unfold Qp.sh at H
 refine qi Tryz.func191 rfl (Nat.le_of_ble_eq_true rfl) Tryz.ntmps191 rfl ?_
 refine wr<|Qq (.plain rfl) rfl (ltb rfl) rfl rfl<|fun b1 w2 z3 z4 e5 k6=>Qq (.plain rfl) rfl (ltb rfl) rfl rfl<|fun b7 w8 z9 z10 e11 k12=>lp rfl (xa (.bool false) rfl)<|nx<|wr<|lp rfl (xm (S a1) rfl) ?_
 obtain ⟨c13,H⟩:=qa H
 refine vp (.plain rfl) rfl (ltb rfl) rfl Tryz.call141 (vH.calls (w:=w8) (a0:=a1) (od c13)) rfl<|fun v16 w14 e15 o17=>lp rfl (VN (vs:=#[]) (us:=#[.pointer (some ⟨b1,0,none⟩),.pointer (some ⟨b7,0,none⟩)]) rfl rfl) ?_
 obtain ⟨c22,H⟩:=qa H
 obtain ⟨z23,x24,H⟩:=bind_some H
 refine lc rfl rfl Tryz.call215 (vJ.calls (w:=w14) (a0:=(yq a1)) (a1:=(fun (x0_ : List UInt8)=>bif decide (a0.length≤1048576) then (Jb a0 a2 x0_) else none)) (Ow.rd o17) (fun x0_ r h=>by obtain ⟨q0,h⟩:=qa h; exact jR.mk Tryz.call221 (by rfl) fun w20 k21=>jD.calls (w:=w20) (a0:=x0_) (a1:=a0) (a2:=a2) (Rd.ext f_a0 (((e5.t e11).t e15).t k21)) (Rd.cs (Rd.ext f_a0 e5)) (Blk.ext (Blk.cs k6 (Rd.cs (Rd.ext f_a0 e5))) ((e11.t e15).t k21)) (fun x0 r h=>jR.ext (f_a2 x0 r h) (((e5.t e11).t e15).t k21)) g_a2 (Blk.ext (Blk.cs k12 g_a2) (e15.t k21)) (od q0) h) rfl (od c22) x24) rfl<|fun w25 e26=>lp rfl (xa (.bool z23) rfl)<|nx<|qr<|qy ?_
 obtain rfl:=si H
 exact vt rfl (((e5.t e11).t e15).t e26)
theorem Qp.calls {w : World} {a0 : List Rec} {a1 : List UInt8} {a2 : Rec→Option Bool} {r : Bool} {v_a0 : Value} (f_a0 : Rd 5 qj w v_a0 a0) {v_a2 : Value} (f_a2 : ∀ (x0 : Rec) (r : Bool),a2 x0 = some r→jR Tryz.prog w v_a2 [(.agg (qj x0).toArray)] (.bool r)) (g_a2 : v_a2.cells = #[v_a2]) (h0 : a0.length≤1048576) (h1 : a1.length≤1048576) (H : (YQ (Jb a0 a2) (yq a1)) = some r) :
  Calls Tryz.prog 191 #[v_a0,S a1,v_a2] w (Rt (RP w (.bool r))):=Qp.walk f_a0 f_a2 g_a2 (Qp.eq a0 a1 a2 h0 h1 H)
/-! impl.underOpaque$1 -/
theorem yF.walk {w : World} {a0 : Rec} {r : Bool} (H : yF.sh a0 = some r) :
  Calls Tryz.prog 192 #[.agg (qj a0).toArray] w (Rt (RP w (.bool r))):=by
 unfold yF.sh at H
 refine qi Tryz.func192 rfl (Nat.le_of_ble_eq_true rfl) Tryz.ntmps192 rfl ?_
 refine wr<|Qq (.plain rfl) rfl (ltb rfl) rfl rfl<|fun b1 w2 z3 z4 e5 k6=>lp rfl (xa (.bool false) rfl)<|nx<|wr<|lp rfl (qc Tryz.underlying52 rfl Tryz.sizeOf4 rfl rfl)<|lp rfl (qz Tryz.isAgg4 k6 rfl rfl)<|lp rfl (xa (.bool a0.opq) rfl)<|nx<|qr<|qy ?_
 obtain rfl:=si H
 exact vt rfl e5
theorem yF.calls {w : World} {a0 : Rec} :
  Calls Tryz.prog 192 #[.agg (qj a0).toArray] w (Rt (RP w (.bool a0.opq))):=yF.walk (yF.eq a0)
/-! impl.underOpaque -/
theorem jw.calls {w : World} {a0 : List Rec} {a1 : List UInt8} {v_a0 : Value} (f_a0 : Rd 5 qj w v_a0 a0) (h0 : a0.length≤1048576) (h1 : a1.length≤1048576) :
  Calls Tryz.prog 131 #[v_a0,S a1] w (Rt (RP w (.bool (yi a0 a1)))):=by
 have H:=jw.eq a0 a1 h0 h1
 generalize (yi a0 a1) = r at H ⊢
 unfold jw.sh at H
 refine qi Tryz.func131 rfl (Nat.le_of_ble_eq_true rfl) Tryz.ntmps131 rfl ?_
 refine wr<|lp rfl (xa (.bool false) rfl)<|nx<|wr<|lp rfl (xm v_a0 rfl)<|lp rfl (xm (S a1) rfl) ?_
 obtain ⟨c5,H⟩:=qa H
 obtain ⟨c6,H⟩:=qa H
 obtain ⟨z7,x8,H⟩:=bind_some H
 refine lc rfl rfl Tryz.call191 (Qp.calls (w:=w) (a0:=a0) (a1:=a1) (a2:=(fun (x0_ : Rec)=>some x0_.opq)) f_a0 (fun x0_ r h=>by have h:=si h; subst h; exact jR.mk Tryz.call192 (by rfl) fun w3 k4=>yF.calls (w:=w3) (a0:=x0_)) rfl (od c5) (od c6) x8) rfl<|fun w9 e10=>lp rfl (xa (.bool z7) rfl)<|nx<|qr<|qy ?_
 obtain rfl:=si H
 exact vt rfl e10
/-! impl.isLongList(impl.Node) -/
theorem jz.calls {w : World} {a0 : List Nd} {v_a0 : Value} (f_a0 : Rd 4 qp w v_a0 a0) :
  Calls Tryz.prog 86 #[v_a0] w (Rt (RP w (.bool (decide (4096 < a0.length))))):=by
 have H:=jz.eq a0
 generalize (decide (4096 < a0.length)) = r at H ⊢
 unfold jz.sh at H
 refine qi Tryz.func86 rfl (Nat.le_of_ble_eq_true rfl) Tryz.ntmps86 rfl ?_
 refine wr<|lp rfl (xa (.bool false) rfl)<|nx<|wr<|lp rfl (xm v_a0 rfl)<|lp rfl (qS Tryz.underlying29 rfl f_a0)<|lp rfl (j8 rfl rfl)<|lp rfl (xa (.bool (decide (4096 < (a0.length : Int)))) rfl)<|nx<|qr<|qy ?_
 obtain rfl:=si H
 exact vt rfl er
/-! slices.Backward(()string,string),by text -/
theorem J5.stops {w0 : World} {v : Value} {b0 : Nat} {vs : List Value} (hlen : vs.length ≤ 4611686018427387904) {Kp : World → World → Prop} {H : World → Prop}
    (hH : ∀ W,Below w0.heap.size w0 W→H W) (hK : ∀ W W',H W→Kp W W'→H W') (hHB : ∀ W,H W→Blk W b0 #[v] 44) (hHR : ∀ W,H W→Rd 1 Yn W v vs) {n : Nat} :
    SeqStopsK Fence.wide n Tryz.prog 197 #[.pointer (some ⟨b0,0,none⟩)] (fun i : Fin vs.length=>#[.int .i64 (i.val : Int),vs.getD i.val undef]) Kp (fun l=>l = Ql vs.length) (fun l=>l <+: Ql vs.length) vs.length w0:=by
  letI : Inhabited Value:=⟨undef⟩
  intro l J Jx W hW hJ hJx hY h0
  have hH1:=hH W hW
  have hB1:=hHB W hH1
  have hR1:=hHR W hH1
  refine Gb Tryz.func197 rfl (Nat.le_of_ble_eq_true rfl) Tryz.ntmps197 ?_
  refine YT<|YU<|Qf yg rfl rfl rfl (ltb rfl) (qz (v:=v) Tryz.isAgg44 hB1 rfl rfl)<|Qf yg rfl rfl rfl (ltb rfl) (qS Tryz.underlying44 rfl hR1)<|Qf yg rfl rfl rfl (ltb rfl) (Q3 rfl rfl)<|
    Qf yg rfl rfl rfl (ltb rfl) (qA (v:=.int .i64 ((vs.length : Int) - 1)) (congrArg (Value.int .i64) (Go.UL.wrap_small (by omega) (by omega))))<|YR ?_
  refine GF<|WI_loop (fun m σ W'=>σ 3 = .int .i64 ((m : Int) - 1)∧σ 0 = .func (.yield l) #[] #[]∧σ 1 = .pointer (some ⟨b0,0,none⟩)∧m≤vs.length∧J ((Ql vs.length).take (vs.length - m)) W'∧H W') vs.length ⟨rfl,rfl,rfl,Nat.le_refl _,by simpa using h0,hH1⟩ ?_
  rintro m σ W' ⟨h3,h00,h1,hm,hj,hH2⟩
  have hB2:=hHB _ hH2
  have hR2:=hHR _ hH2
  refine YT<|YT<|YU<|Qf yg rfl rfl rfl (ltb rfl) (qf h3)<|Qf yg rfl rfl rfl (ltb rfl) (Yd rfl rfl)<|YR ?_
  refine WI_cond (decide ((0 : Int)≤(m : Int) - 1)) rfl (fun hm1=>WI_skip ?_) (fun hm1=>WI_exit ?_)
  · have hm2 : (0 : Int)≤(m : Int) - 1:=od hm1
    obtain ⟨m,rfl⟩ : ∃ j,m = j + 1:=⟨m - 1,by omega⟩
    have e1 : ((m + 1 : Nat) : Int) - 1 = (m : Int):=by omega
    have hlt : m < vs.length:=by omega
    have hin : inR (((m + 1 : Nat) : Int) - 1) vs.length = true:=by rw [e1]; exact qT hlt
    have hg : gt vs (((m + 1 : Nat) : Int) - 1) = vs.getD m undef:=by rw [e1]; rfl
    refine YT<|GF<|YT<|YU<|Qf yg rfl rfl rfl (ltb rfl) (qf h00)<|Qf yg rfl rfl rfl (ltb rfl) (qf h3)<|Qf yg rfl rfl rfl (ltb rfl) (qz (v:=v) Tryz.isAgg44 hB2 h1 rfl)<|Qf yg rfl rfl rfl (ltb rfl) (qf h3)<|
      LI_idx yg rfl rfl rfl (ltb rfl) rfl Tryz.underlying44 Tryz.sizeOf9 rfl hR2 rfl hin<|fun p hA=>Qf yg rfl rfl rfl (ltb rfl) (y8 (v:=vs.getD m undef) Tryz.isAgg9 rfl hA (by rw [hg]; rfl))<|?_
    have hpre : ((Ql vs.length).take (vs.length - (m + 1))).length < vs.length:=by simp [Ql]; omega
    refine LI_yield yg (vs:=#[.int .i64 (((m + 1 : Nat) : Int) - 1),vs.getD m undef]) (A:=fun b w1=>(b = true∧J ((Ql vs.length).take (vs.length - m)) w1∧Kp W' w1)∨(b = false∧Jx ((Ql vs.length).take (vs.length - m)) w1)) rfl rfl (ltb rfl) rfl rfl rfl rfl ?_ ?_
    · obtain ⟨fn,tmps,assign,body,hy,hRd⟩:=hY _ ⟨m,hlt⟩ W' hj hpre
      rw [e1]
      refine ⟨fn,tmps,assign,body,hy,RoundIn.mono hRd fun e w1 hr=>?_⟩
      rw [downTo_take vs.length m hlt] at hr
      rcases hr with ⟨rfl,hj',hk⟩ | ⟨rfl,hj'⟩
      · exact ⟨true,rfl,.inl ⟨rfl,hj',hk⟩⟩
      · exact ⟨false,rfl,.inr ⟨rfl,hj'⟩⟩
    · intro b w1 hb
      refine Qf yg rfl rfl rfl (ltb rfl) (yR rfl)<|YR ?_
      rcases hb with ⟨rfl,hj',hk⟩ | ⟨rfl,hj'⟩
      · have hH3:=hK _ _ hH2 hk
        refine WI_cond false rfl (fun h=>by cases h) (fun _=>WI_skip ?_)
        refine YU<|Qf yg rfl rfl rfl (ltb rfl) (qf h3)<|Qf yg rfl rfl rfl (ltb rfl) (Q3 rfl rfl)<|Qf yg rfl rfl rfl (ltb rfl) (qA (v:=.int .i64 ((m : Int) - 1)) (congrArg (Value.int .i64) (by rw [e1]; exact Go.UL.wrap_small (by omega) (by omega))))<|YR ?_
        exact ⟨rfl,m,by omega,rfl,h00,h1,by omega,hj',hH3⟩
      · refine WI_cond true rfl (fun _=>WI_ret ?_) (fun h=>by cases h)
        exact ⟨.inr rfl,.inl ⟨rfl,.tuple #[],fun tmps _=>results_none (fn:=Tryz.f197) rfl tmps _ _,⟨_,rfl⟩,.inr ⟨_,downTo_pre _ _,hj'⟩⟩⟩
  · have hm2 : ¬ (0 : Int)≤(m : Int) - 1:=of_decide_eq_false hm1
    have hm0 : m = 0:=by omega
    subst hm0
    have hf : (Ql vs.length).take (vs.length - 0) = Ql vs.length:=by rw [Nat.sub_zero]; exact List.take_of_length_le (by simp [Ql])
    rw [hf] at hj
    exact ⟨.inl rfl,.inl ⟨rfl,.tuple #[],fun tmps _=>results_none (fn:=Tryz.f197) rfl tmps _ _,⟨_,rfl⟩,.inl ⟨_,rfl,hj⟩⟩⟩
theorem G3.calls {w : World} {v : Value} {A : Option Addr} {len cap : Nat} (hv : v = .slice A len cap) :
    Calls Tryz.prog 140 #[v] w (Rt (fun u w'=>Ext w w'∧∃ b,w.heap.size≤b∧Blk w' b #[v] 44∧u = .func (.func 197) #[] #[.pointer (some ⟨b,0,none⟩)])):=by
  refine qi Tryz.func140 rfl (Nat.le_of_ble_eq_true rfl) Tryz.ntmps140 rfl ?_
  refine wr<|Qq (.plain rfl) rfl (ltb rfl) rfl rfl<|fun b w1 hb hb1 he hB=>lp rfl (qA rfl)<|nx<|wr<|lp rfl (VN (vs:=#[]) (us:=#[.pointer (some ⟨b,0,none⟩)]) rfl rfl)<|
    lp rfl (qA rfl)<|nx<|qr<|qy ?_
  refine ⟨_,rfl,he,b,by omega,?_,rfl⟩
  subst hv
  exact hB

end Go.Proofs.YtdhmlillkbjjjaaGreatDoor
