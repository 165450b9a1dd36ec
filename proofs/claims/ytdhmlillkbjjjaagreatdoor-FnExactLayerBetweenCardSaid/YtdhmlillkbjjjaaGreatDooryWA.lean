/- The walks,by program (wip/tools). -/
import Derived.Test.YtdhmlillkbjjjaaGreatDoorProg
import Derived.Test.YtdhmlillkbjjjaaGreatDoorySrt
import Derived.Test.YtdhmlillkbjjjaaGreatDoorySrq
import Derived.Test.YtdhmlillkbjjjaaGreatDooryH
set_option linter.unusedVariables false
set_option linter.unusedSimpArgs false
set_option maxRecDepth 10000
namespace Go.Proofs.YtdhmlillkbjjjaaGreatDoor
open Go.UL Go.RowKit
theorem El.t29 : ElemI Tryz.prog 29 91 4 48 (.agg #[.int .i64 0,.string ⟨#[]⟩,.string ⟨#[]⟩,.int .i64 0]):=ElemI.mk' Tryz.underlying29 (by kernel_rfl) rfl rfl rfl
theorem El.t35 : ElemI Tryz.prog 35 52 5 56 (.agg #[.int .i64 0,.string ⟨#[]⟩,.string ⟨#[]⟩,.int .i64 0,.bool false]):=ElemI.mk' Tryz.underlying35 (by kernel_rfl) rfl rfl rfl
theorem El.t44 : ElemI Tryz.prog 44 9 1 16 (.string ⟨#[]⟩):=ElemI.mk' Tryz.underlying44 (by kernel_rfl) rfl rfl rfl
theorem Eqg.t91 : Tryz.prog.eqGuardType Tryz.prog.depth 91 = false:=by kernel_rfl
theorem Eqs.t91 (a b : Nd) (w : World) : (Op.equal 91 (.agg (qJ a).toArray) (.agg (qJ b).toArray)).run Tryz.prog w = .ok (decide (a = b)) w:=run_eqNd (d:=9998) (ti:=3) (ts:=9) Tryz.underlying91 rfl Tryz.underlying3 Tryz.underlying9 Tryz.isAgg3 Tryz.isAgg9 (by kernel_rfl)
/-! impl.within -/
theorem yE.calls {w : World} {a0 : Int} {a1 : Int} {a2 : Int} :
  Calls Tryz.prog 117 #[.int .i64 a0,.int .i64 a1,.int .i64 a2] w (Rt (RP w (.bool (within a0 a1 a2)))):=by
 have H:=yE.eq a0 a1 a2
 generalize (within a0 a1 a2) = r at H ⊢
 unfold yE.sh at H
 refine qk Tryz.func117 rfl (Nat.le_of_ble_eq_true rfl) Tryz.ntmps117 rfl ?_
 refine wr<|lp rfl (xa (.bool false) rfl)<|nx<|wr<|lp rfl (xm (.int .i64 a1) rfl)<|lp rfl (xm (.int .i64 a0) rfl)<|lp rfl (GP rfl rfl)<|lp rfl (xm (.bool (decide (a1≤a0))) rfl)<|jb 4 [(11,15)] 14 (.bool ((decide (a1≤a0)) && (decide (a0≤a2)))) ?_ ?_
 ·rcases qH (decide (a1≤a0)) with b0_ | b0_
  ·exact lg rfl rfl rfl rfl (cb b0_) (xm (.int .i64 a0) rfl)<|lg rfl rfl rfl rfl (cb b0_) (xm (.int .i64 a2) rfl)<|lg rfl rfl rfl rfl (cb b0_) (GP rfl rfl)<|lp rfl (qF (b:=true) (v:=(.bool (decide (a0≤a2)))) (cb b0_) rfl)<|nx ⟨(ku4 kz rfl),(Vg b0_),er⟩
  ·exact ls rfl rfl rfl (cb b0_) rfl<|ls rfl rfl rfl (cb b0_) rfl<|ls rfl rfl rfl (cb b0_) rfl<|lp rfl (qF (b:=false) (v:=(.bool false)) (cb b0_) rfl)<|nx ⟨(ku4 kz rfl),(Vb b0_),er⟩
 intro s6 w2 K3 h4 e5
 refine lp rfl (qz h4)<|nx<|qr<|qu ?_
 obtain rfl:=si H
 exact qS rfl e5
/-! spec.l01In -/
theorem jj.calls {w : World} {a0 : Int} {a1 : Int} {a2 : Int} :
  Calls Tryz.prog 61 #[.int .i64 a0,.int .i64 a1,.int .i64 a2] w (Rt (RP w (.bool (within a0 a1 a2)))):=by
 have H:=jj.eq a0 a1 a2
 generalize (within a0 a1 a2) = r at H ⊢
 unfold jj.sh at H
 refine qk Tryz.func61 rfl (Nat.le_of_ble_eq_true rfl) Tryz.ntmps61 rfl ?_
 refine wr<|lp rfl (xa (.bool false) rfl)<|nx<|wr<|lp rfl (xm (.int .i64 a0) rfl)<|lp rfl (xm (.int .i64 a1) rfl)<|lp rfl (Q2 rfl rfl)<|lp rfl (xm (.bool (decide (a1≤a0))) rfl)<|jb 4 [(11,15)] 14 (.bool ((decide (a1≤a0)) && (decide (a0≤a2)))) ?_ ?_
 ·rcases qH (decide (a1≤a0)) with b0_ | b0_
  ·exact lg rfl rfl rfl rfl (cb b0_) (xm (.int .i64 a0) rfl)<|lg rfl rfl rfl rfl (cb b0_) (xm (.int .i64 a2) rfl)<|lg rfl rfl rfl rfl (cb b0_) (GP rfl rfl)<|lp rfl (qF (b:=true) (v:=(.bool (decide (a0≤a2)))) (cb b0_) rfl)<|nx ⟨(ku4 kz rfl),(Vg b0_),er⟩
  ·exact ls rfl rfl rfl (cb b0_) rfl<|ls rfl rfl rfl (cb b0_) rfl<|ls rfl rfl rfl (cb b0_) rfl<|lp rfl (qF (b:=false) (v:=(.bool false)) (cb b0_) rfl)<|nx ⟨(ku4 kz rfl),(Vb b0_),er⟩
 intro s6 w2 K3 h4 e5
 refine lp rfl (qz h4)<|nx<|qr<|qu ?_
 obtain rfl:=si H
 exact qS rfl e5
/-! spec.l01Part -/
theorem vF.calls {w : World} {a0 : List UInt8} :
  Calls Tryz.prog 161 #[S a0] w (Rt (RP w (.bool (yi a0)))):=by
 obtain ⟨k,H⟩:=vF.eq a0
 generalize (yi a0) = r at H ⊢
 unfold vF.sh at H
 refine qk Tryz.func161 rfl (Nat.le_of_ble_eq_true rfl) Tryz.ntmps161 rfl ?_
 refine wr<|lp rfl (xa (.bool false) rfl)<|nx<|qi<|wr<|lp rfl (xm (S a0) rfl)<|lp rfl (j5 Tryz.underlying9 rfl)<|lc rfl rfl Tryz.call61 (jj.calls (w:=w) (a0:=(a0.length : Int)) (a1:=1) (a2:=8)) rfl<|fun w1 e2=>lp rfl (yG rfl)<|lp rfl (xm (.bool (!(within (a0.length : Int) 1 8))) rfl)<|jb 3 [(9,12)] 11 (.bool ((!(within (a0.length : Int) 1 8)) || (decide (a0 = ([46] : List UInt8))))) ?_ ?_
 ·rcases qH (!(within (a0.length : Int) 1 8)) with b2_ | b2_
  ·exact ls rfl rfl rfl (cb b2_) rfl<|ls rfl rfl rfl (cb b2_) rfl<|lp rfl (qF (b:=true) (v:=(.bool true)) (cb b2_) rfl)<|nx ⟨(ku3 kz rfl),(Ye b2_),er⟩
  ·exact lg rfl rfl rfl rfl (cb b2_) (xm (S a0) rfl)<|lg rfl rfl rfl rfl (cb b2_) (VB rfl rfl)<|lp rfl (qF (b:=false) (v:=(.bool (decide (a0 = ([46] : List UInt8))))) (cb b2_) rfl)<|nx ⟨(ku3 kz rfl),(VX b2_),er⟩
 intro s8 w4 K5 h6 e7
 refine lp rfl (qd h6)<|jb 3 [(13,16)] 15 (.bool (((!(within (a0.length : Int) 1 8)) || (decide (a0 = ([46] : List UInt8)))) || (decide (a0 = ([46,46] : List UInt8))))) ?_ ?_
 ·rcases qH ((!(within (a0.length : Int) 1 8)) || (decide (a0 = ([46] : List UInt8)))) with b8_ | b8_
  ·exact ls rfl rfl rfl (cb b8_) rfl<|ls rfl rfl rfl (cb b8_) rfl<|lp rfl (qF (b:=true) (v:=(.bool true)) (cb b8_) rfl)<|nx ⟨(ku3 kz rfl),(Ye b8_),er⟩
  ·exact lg rfl rfl rfl rfl (cb b8_) (xm (S a0) (K5 0 rfl))<|lg rfl rfl rfl rfl (cb b8_) (VB rfl rfl)<|lp rfl (qF (b:=false) (v:=(.bool (decide (a0 = ([46,46] : List UInt8))))) (cb b8_) rfl)<|nx ⟨(ku3 kz rfl),(VX b8_),er⟩
 intro s14 w10 K11 h12 e13
 refine nx ?_
 rcases qg H with ⟨q15,H⟩ | ⟨q15,H⟩
 ·refine qn (h12.trans (cb q15))<|wr<|lp rfl (xa (.bool false) rfl)<|nx<|qr<|qo<|qu ?_
  obtain rfl:=si H
  exact qS rfl ((e2.t e7).t e13)
 ·refine qj (h12.trans (cb q15))<|qp<|qf<|qi<|wr<|lp rfl (xa (.int .i64 0) rfl)<|nx ?_
  obtain ⟨z17,L18,C19⟩:=bind_some H
  clear H
  refine  vv (fun s0 sQ wQ=>Kp [(2,4),(16,38)] s0 sQ∧Ext w10 wQ∧z17 = .inr ()) ?_ ?_
  ·refine qB<|vh (fun s0 kk sQ wQ=>∃ (x3_16 : Int),Kp [(2,4),(16,38)] s0 sQ∧sQ 3 = .int .i64 x3_16∧Ext w10 wQ∧ql (vF.b1 a0) kk x3_16 = some z17) k ⟨0,kz,rfl,er,L18⟩ ?_
   rintro k24 s25 w26 ⟨x3_16,K27,h30,e28,L29⟩
   cases k24 with
   | zero=>exact absurd L29 (by simp [ql])
   | succ k24=>
    obtain ⟨t31,H,S32⟩:=qL L29
    clear L29
    unfold vF.b1 at H
    refine qi<|wr<|lp rfl (qd h30)<|lp rfl (xm (S a0) ((K27 0 rfl).trans ((K11 0 rfl).trans (K5 0 rfl))))<|lp rfl (j5 Tryz.underlying9 rfl)<|lp rfl (vw rfl rfl)<|nx ?_
    rcases qg H with ⟨q33,H⟩ | ⟨q33,H⟩
    ·refine qn (cb q33)<|qp<|qf<|qi<|qB<|wr<|lp rfl (xm (S a0) ((K27 0 rfl).trans ((K11 0 rfl).trans (K5 0 rfl))))<|lp rfl (qd h30) ?_
     obtain ⟨c34,H⟩:=qa H
     refine lp rfl (Qi Tryz.underlying9 rfl rfl (jt c34) (js c34))<|lp rfl (vw rfl rfl)<|lp rfl (xm (.bool (decide ((byt a0 x3_16) < 33))) rfl) ?_
     obtain ⟨z36,x37,H⟩:=bind_some H
     refine jz 5 [(27,32)] 31 (fun q=>q = z36) ?_ ?_
     ·rcases qg x37 with ⟨b34_,H⟩ | ⟨b34_,H⟩
      ·refine ls rfl rfl rfl (cb b34_) rfl<|ls rfl rfl rfl (cb b34_) rfl<|ls rfl rfl rfl (cb b34_) rfl<|ls rfl rfl rfl (cb b34_) rfl<|lp rfl (qF (b:=true) (v:=(.bool true)) (cb b34_) rfl) ?_
       obtain rfl:=si H
       exact nx ⟨(ku1 (ku4 kz rfl) rfl),⟨_,rfl,rfl⟩,er⟩
      ·refine lg rfl rfl rfl rfl (cb b34_) (xm (S a0) ((K27 0 rfl).trans ((K11 0 rfl).trans (K5 0 rfl))))<|lg rfl rfl rfl rfl (cb b34_) (qd h30) ?_
       obtain ⟨c36,H⟩:=qa H
       refine lg rfl rfl rfl rfl (cb b34_) (Qi Tryz.underlying9 rfl rfl (jt c36) (js c36))<|lg rfl rfl rfl rfl (cb b34_) (j1 rfl rfl)<|lp rfl (qF (b:=false) (v:=(.bool (decide (126 < (byt a0 x3_16))))) (cb b34_) rfl) ?_
       obtain rfl:=si H
       exact nx ⟨(ku1 (ku4 kz rfl) rfl),⟨_,rfl,rfl⟩,er⟩
     intro s42 w38 z43 K39 hq h40 e41
     rw [hq] at h40; clear hq
     refine lp rfl (qd h40) ?_
     obtain ⟨z45,x46,H⟩:=bind_some H
     refine jz 5 [(33,38)] 37 (fun q=>q = z45) ?_ ?_
     ·rcases qg x46 with ⟨b43_,H⟩ | ⟨b43_,H⟩
      ·refine ls rfl rfl rfl (cb b43_) rfl<|ls rfl rfl rfl (cb b43_) rfl<|ls rfl rfl rfl (cb b43_) rfl<|ls rfl rfl rfl (cb b43_) rfl<|lp rfl (qF (b:=true) (v:=(.bool true)) (cb b43_) rfl) ?_
       obtain rfl:=si H
       exact nx ⟨(ku1 (ku4 kz rfl) rfl),⟨_,rfl,rfl⟩,er⟩
      ·refine lg rfl rfl rfl rfl (cb b43_) (xm (S a0) ((K39 0 rfl).trans ((K27 0 rfl).trans ((K11 0 rfl).trans (K5 0 rfl)))))<|lg rfl rfl rfl rfl (cb b43_) (xm (.int .i64 x3_16) ((K39 3 rfl).trans h30)) ?_
       obtain ⟨c45,H⟩:=qa H
       refine lg rfl rfl rfl rfl (cb b43_) (Qi Tryz.underlying9 rfl rfl (jt c45) (js c45))<|lg rfl rfl rfl rfl (cb b43_) (jo rfl rfl)<|lp rfl (qF (b:=false) (v:=(.bool (decide ((byt a0 x3_16) = 47)))) (cb b43_) rfl) ?_
       obtain rfl:=si H
       exact nx ⟨(ku1 (ku4 kz rfl) rfl),⟨_,rfl,rfl⟩,er⟩
     intro s51 w47 z52 K48 hq h49 e50
     rw [hq] at h49; clear hq
     refine nx ?_
     rcases qg H with ⟨q53,H⟩ | ⟨q53,H⟩
     ·refine qn (h49.trans (cb q53))<|wr<|lp rfl (xa (.bool false) rfl)<|nx<|qr<|vl<|qo<|qo<|vl<|qo<|qo<|qu ?_
      obtain rfl:=si H
      obtain rfl:=si S32
      have H:=C19
      obtain rfl:=si H
      exact qS rfl (((((e2.t e7).t e13).t e28).t e41).t e50)
     ·refine qj (h49.trans (cb q53))<|qp<|vM<|qf<|qK<|lp rfl (xm (.int .i64 x3_16) ((K48 3 rfl).trans ((K39 3 rfl).trans h30)))<|lp rfl (vp rfl rfl)<|lp rfl (xa (.int .i64 (IntKind.wrap .i64 (x3_16 + 1))) rfl)<|nx ?_
      obtain rfl:=si H
      exact ⟨_,Nat.lt_succ_self _,IntKind.wrap .i64 (x3_16 + 1),(ku3 (Kp.cut (ku1 (Kp.cut (ku1 (ku8 K27 rfl) rfl) K39 rfl) rfl) K48 rfl) rfl),rfl,((e28.t e41).t e50),S32⟩
    ·refine qj (cb q33)<|vu<|qY<|qY<|vZ<|qf ?_
     obtain rfl:=si H
     obtain rfl:=si S32
     exact ⟨(ku4 K27 rfl),e28,rfl⟩
  ·rintro s21 w20 ⟨K22,e23,y54⟩
   rw [y54] at C19
   have H:=C19
   replace H : _ = some _:=H
   refine qf<|wr<|lp rfl (xa (.bool true) rfl)<|nx<|qr<|qu ?_
   obtain rfl:=si H
   exact qS rfl (((e2.t e7).t e13).t e23)
/-! impl.PartOK -/
theorem vQ.calls {w : World} {a0 : List UInt8} (h0 : a0.length≤4611686018427387904) :
  Calls Tryz.prog 168 #[S a0] w (Rt (RP w (.bool (yi a0)))):=by
 obtain ⟨k,H⟩:=vQ.eq a0 h0
 generalize (yi a0) = r at H ⊢
 unfold vQ.sh at H
 refine qk Tryz.func168 rfl (Nat.le_of_ble_eq_true rfl) Tryz.ntmps168 rfl ?_
 refine wr<|lp rfl (xa (.bool false) rfl)<|nx<|qi<|wr<|lp rfl (xm (S a0) rfl)<|lp rfl (j5 Tryz.underlying9 rfl)<|lp rfl (xm (.int .i64 0) rfl)<|nx ?_
 obtain ⟨z2,L3,C4⟩:=bind_some H
 clear H
 refine  vv (fun s0 sQ wQ=>Kp [(2,4),(6,22)] s0 sQ∧Ext w wQ∧z2 = .inr ()) ?_ ?_
 ·refine qB<|vh (fun s0 kk sQ wQ=>∃ (x6_1 : Int),Kp [(2,4),(6,22)] s0 sQ∧sQ 6 = .int .i64 x6_1∧Ext w wQ∧ql (vQ.b1 a0) kk x6_1 = some z2) k ⟨0,kz,rfl,er,L3⟩ ?_
  rintro k9 s10 w11 ⟨x6_1,K12,h15,e13,L14⟩
  cases k9 with
  | zero=>exact absurd L14 (by simp [ql])
  | succ k9=>
   obtain ⟨t16,H,S17⟩:=qL L14
   clear L14
   unfold vQ.b1 at H
   refine wr<|lp rfl (vw h15 (K12 5 rfl))<|nx<|qi ?_
   rcases qg H with ⟨q18,H⟩ | ⟨q18,H⟩
   ·refine qn (cb q18)<|qp<|qf<|qi<|qB<|wr<|lp rfl (qd h15)<|lp rfl (xa (.int .i64 x6_1) rfl)<|nx<|wr<|lp rfl (xm (S a0) (K12 0 rfl))<|lp rfl (xm (.int .i64 x6_1) rfl) ?_
    obtain ⟨c19,H⟩:=qa H
    refine lp rfl (Qi Tryz.underlying9 rfl rfl (jt c19) (js c19))<|lp rfl (JT Tryz.underlying5 Tryz.underlying3 rfl)<|lc rfl rfl Tryz.call117 (yE.calls (w:=w11) (a0:=IntKind.wrap .i64 (byt a0 x6_1)) (a1:=33) (a2:=126)) rfl<|fun w20 e21=>lp rfl (yG rfl)<|lp rfl (xm (.bool (!(within (IntKind.wrap .i64 (byt a0 x6_1)) 33 126))) rfl) ?_
    obtain ⟨z23,x24,H⟩:=bind_some H
    refine jz 5 [(16,21)] 20 (fun q=>q = z23) ?_ ?_
    ·rcases qg x24 with ⟨b21_,H⟩ | ⟨b21_,H⟩
     ·refine ls rfl rfl rfl (cb b21_) rfl<|ls rfl rfl rfl (cb b21_) rfl<|ls rfl rfl rfl (cb b21_) rfl<|ls rfl rfl rfl (cb b21_) rfl<|lp rfl (qF (b:=true) (v:=(.bool true)) (cb b21_) rfl) ?_
      obtain rfl:=si H
      exact nx ⟨(ku1 (ku4 kz rfl) rfl),⟨_,rfl,rfl⟩,er⟩
     ·refine lg rfl rfl rfl rfl (cb b21_) (xm (S a0) (K12 0 rfl))<|lg rfl rfl rfl rfl (cb b21_) (xm (.int .i64 x6_1) rfl) ?_
      obtain ⟨c23,H⟩:=qa H
      refine lg rfl rfl rfl rfl (cb b21_) (Qi Tryz.underlying9 rfl rfl (jt c23) (js c23))<|lg rfl rfl rfl rfl (cb b21_) (jo rfl rfl)<|lp rfl (qF (b:=false) (v:=(.bool (decide ((byt a0 x6_1) = 47)))) (cb b21_) rfl) ?_
      obtain rfl:=si H
      exact nx ⟨(ku1 (ku4 kz rfl) rfl),⟨_,rfl,rfl⟩,er⟩
    intro s29 w25 z30 K26 hq h27 e28
    rw [hq] at h27; clear hq
    refine nx ?_
    rcases qg H with ⟨q31,H⟩ | ⟨q31,H⟩
    ·refine qn (h27.trans (cb q31))<|wr<|lp rfl (xa (.bool false) rfl)<|nx<|qr<|vl<|qo<|qo<|vl<|qo<|qo<|qu ?_
     obtain rfl:=si H
     obtain rfl:=si S17
     have H:=C4
     obtain rfl:=si H
     exact qS rfl ((e13.t e21).t e28)
    ·refine qj (h27.trans (cb q31))<|qp<|vM<|qf<|qK<|lp rfl (vp ((K26 6 rfl).trans h15) rfl)<|lp rfl (xm (.int .i64 (IntKind.wrap .i64 (x6_1 + 1))) rfl)<|nx ?_
     obtain rfl:=si H
     exact ⟨_,Nat.lt_succ_self _,IntKind.wrap .i64 (x6_1 + 1),(ku2 (Kp.cut (ku2 (ku8 K12 rfl) rfl) K26 rfl) rfl),rfl,((e13.t e21).t e28),S17⟩
   ·refine qj (cb q18)<|vu<|qY<|qY<|vZ<|qf ?_
    obtain rfl:=si H
    obtain rfl:=si S17
    exact ⟨(ku1 K12 rfl),e13,rfl⟩
 ·rintro s6 w5 ⟨K7,e8,y32⟩
  rw [y32] at C4
  have H:=C4
  replace H : _ = some _:=H
  refine qf<|wr<|lp rfl (xm (S a0) (K7 0 rfl))<|lp rfl (j5 Tryz.underlying9 rfl)<|lc rfl rfl Tryz.call117 (yE.calls (w:=w5) (a0:=(a0.length : Int)) (a1:=1) (a2:=8)) rfl<|fun w33 e34=>lp rfl (xm (.bool (within (a0.length : Int) 1 8)) rfl)<|jb 3 [(26,29)] 28 (.bool ((within (a0.length : Int) 1 8) && (!decide (a0 = ([46] : List UInt8))))) ?_ ?_
  ·rcases qH (within (a0.length : Int) 1 8) with b34_ | b34_
   ·exact lg rfl rfl rfl rfl (cb b34_) (xm (S a0) (K7 0 rfl))<|lg rfl rfl rfl rfl (cb b34_) (j3 rfl rfl)<|lp rfl (qF (b:=true) (v:=(.bool (!decide (a0 = ([46] : List UInt8))))) (cb b34_) rfl)<|nx ⟨(ku3 kz rfl),(Vg b34_),er⟩
   ·exact ls rfl rfl rfl (cb b34_) rfl<|ls rfl rfl rfl (cb b34_) rfl<|lp rfl (qF (b:=false) (v:=(.bool false)) (cb b34_) rfl)<|nx ⟨(ku3 kz rfl),(Vb b34_),er⟩
  intro s40 w36 K37 h38 e39
  refine lp rfl (qd h38)<|jb 3 [(30,33)] 32 (.bool (((within (a0.length : Int) 1 8) && (!decide (a0 = ([46] : List UInt8)))) && (!decide (a0 = ([46,46] : List UInt8))))) ?_ ?_
  ·rcases qH ((within (a0.length : Int) 1 8) && (!decide (a0 = ([46] : List UInt8)))) with b40_ | b40_
   ·exact lg rfl rfl rfl rfl (cb b40_) (xm (S a0) ((K37 0 rfl).trans (K7 0 rfl)))<|lg rfl rfl rfl rfl (cb b40_) (j3 rfl rfl)<|lp rfl (qF (b:=true) (v:=(.bool (!decide (a0 = ([46,46] : List UInt8))))) (cb b40_) rfl)<|nx ⟨(ku3 kz rfl),(Vg b40_),er⟩
   ·exact ls rfl rfl rfl (cb b40_) rfl<|ls rfl rfl rfl (cb b40_) rfl<|lp rfl (qF (b:=false) (v:=(.bool false)) (cb b40_) rfl)<|nx ⟨(ku3 kz rfl),(Vb b40_),er⟩
  intro s46 w42 K43 h44 e45
  refine lp rfl (qz h44)<|nx<|qr<|qu ?_
  obtain rfl:=si H
  exact qS rfl (((e8.t e34).t e39).t e45)
/-! spec.l00Cut -/
theorem vL.calls {w : World} {a0 : List UInt8} {a1 : Int} (h0 : a0.length≤1048576) :
  Calls Tryz.prog 135 #[S a0,.int .u8 a1] w (Rt (RO 9 1 vI w (cut a1 a0))):=by
 obtain ⟨k,H⟩:=vL.eq a0 a1 h0
 generalize (cut a1 a0) = r at H ⊢
 unfold vL.sh at H
 refine qk Tryz.func135 rfl (Nat.le_of_ble_eq_true rfl) Tryz.ntmps135 rfl ?_
 refine wr<|lp rfl (xa (.slice none 0 0) rfl)<|nx<|wr<|yz (.plain rfl) rfl (ltb rfl) rfl Tryz.underlying44 Tryz.sizeOf9 Tryz.zeroValue9 rfl rfl rfl (vs:=[]) rfl (vH rfl)<|fun b1 w2 z3 z4 e5 k6=>lp rfl (xa (.slice (some ⟨b1,0,none⟩) 0 0) rfl)<|nx<|wr<|lp rfl (xa (.int .i64 0) rfl)<|nx<|qi<|wr<|lp rfl (xa (.int .i64 0) rfl)<|nx ?_
 obtain ⟨z11,L12,C13⟩:=bind_some H
 clear H
 refine  vv (fun s0 sQ wQ=>∃ (x5_14 : List (List UInt8)) (v15 : Value) (x6_16 : Int),Kp [(5,8),(9,29)] s0 sQ∧sQ 5 = v15∧Ow 9 1 vI w2.heap.size wQ v15 x5_14∧sQ 6 = .int .i64 x6_16∧Ext w2 wQ∧z11 = .inr (x5_14,x6_16)) ?_ ?_
 ·refine qB<|vh (fun s0 kk sQ wQ=>∃ (x5_7 : List (List UInt8)) (v8 : Value) (x6_9 : Int) (x7_10 : Int),Kp [(5,8),(9,29)] s0 sQ∧sQ 5 = v8∧Ow 9 1 vI w2.heap.size wQ v8 x5_7∧sQ 6 = .int .i64 x6_9∧sQ 7 = .int .i64 x7_10∧Ext w2 wQ∧ql (vL.b1 a0 a1) kk (x5_7,x6_9,x7_10) = some z11) k ⟨([] : List (List UInt8)),(.slice (some ⟨b1,0,none⟩) 0 0),0,0,kz,rfl,(Ow.zero),rfl,rfl,er,L12⟩ ?_
  rintro k21 s22 w23 ⟨x5_7,v8,x6_9,x7_10,K24,h27,h28,h29,h30,e25,L26⟩
  cases k21 with
  | zero=>exact absurd L26 (by simp [ql])
  | succ k21=>
   obtain ⟨t31,H,S32⟩:=qL L26
   clear L26
   unfold vL.b1 at H
   refine qi<|wr<|lp rfl (qd h30)<|lp rfl (xm (S a0) (K24 0 rfl))<|lp rfl (j5 Tryz.underlying9 rfl)<|lp rfl (vw rfl rfl)<|nx ?_
   rcases qg H with ⟨q33,H⟩ | ⟨q33,H⟩
   ·refine qn (cb q33)<|qp<|qf<|qi<|qB<|wr<|lp rfl (xm (S a0) (K24 0 rfl))<|lp rfl (qd h30) ?_
    obtain ⟨c34,H⟩:=qa H
    refine lp rfl (Qi Tryz.underlying9 rfl rfl (jt c34) (js c34))<|lp rfl (xm (.int .u8 a1) (K24 1 rfl))<|lp rfl (jo rfl rfl)<|nx ?_
    rcases qg H with ⟨q35,H⟩ | ⟨q35,H⟩
    ·refine qn (cb q35)<|wr<|lp rfl (qd h27)<|lp rfl (xm (S a0) (K24 0 rfl))<|lp rfl (qd h29)<|lp rfl (qd h30) ?_
     obtain ⟨c36,H⟩:=qa H
     refine lp rfl (Yd Tryz.underlying9 rfl (l:=x6_9) (h:=x7_10) ⟨_,rfl⟩ ⟨_,rfl⟩ (JJ c36) (Jz c36) (Jy c36))<|yz (.plain rfl) rfl (ltb rfl) rfl Tryz.underlying44 Tryz.sizeOf9 Tryz.zeroValue9 rfl rfl rfl (vs:=[(S (sub a0 x6_9 x7_10))]) rfl (vH rfl)<|fun b37 w38 z39 z40 e41 k42=>?_
     obtain ⟨c43,H⟩:=qa H
     refine yH (enc:=vI) (.plain rfl) rfl (ltb rfl) rfl El.t44 rfl rfl (Ow.ext h28 e41) (Ow.rd (Ow.new (xs:=[sub a0 x6_9 x7_10]) (sz:=1) (enc:=vI) (base:=w23.heap.size) k42 (Nat.le_of_eq z39) rfl (fun _ _=>by rfl) (Nat.le_of_ble_eq_true rfl))) (Vi _) (od c43) ((e25.t e41)).size<|fun v44 w45 o46 z47 g48=>lp rfl (xa v44 rfl)<|nx<|qK<|lp rfl (qd h30)<|lp rfl (vp rfl rfl)<|lp rfl (xa (.int .i64 (IntKind.wrap .i64 (x7_10 + 1))) rfl)<|qZ<|vM<|qf<|qK<|lp rfl (qd h30)<|lp rfl (vp rfl rfl)<|lp rfl (xa (.int .i64 (IntKind.wrap .i64 (x7_10 + 1))) rfl)<|nx ?_
     obtain rfl:=si H
     exact ⟨_,Nat.lt_succ_self _,x5_7 ++ ([sub a0 x6_9 x7_10] : List (List UInt8)),v44,IntKind.wrap .i64 (x7_10 + 1),IntKind.wrap .i64 (x7_10 + 1),(ku3 (ku4 (ku8 (ku8 K24 rfl) rfl) rfl) rfl),rfl,o46,rfl,rfl,(g48 _ (e25.t e41)),S32⟩
    ·refine qj (cb q35)<|qp<|vM<|qf<|qK<|lp rfl (qd h30)<|lp rfl (vp rfl rfl)<|lp rfl (xa (.int .i64 (IntKind.wrap .i64 (x7_10 + 1))) rfl)<|nx ?_
     obtain rfl:=si H
     exact ⟨_,Nat.lt_succ_self _,x5_7,v8,x6_9,IntKind.wrap .i64 (x7_10 + 1),(ku4 (ku8 K24 rfl) rfl),h27,h28,h29,rfl,e25,S32⟩
   ·refine qj (cb q33)<|vu<|qY<|qY<|vZ<|qf ?_
    obtain rfl:=si H
    obtain rfl:=si S32
    exact ⟨x5_7,v8,x6_9,(ku4 K24 rfl),h27,h28,h29,e25,rfl⟩
 ·rintro s18 w17 ⟨x5_14,v15,x6_16,K19,h49,h50,h51,e20,y52⟩
  rw [y52] at C13
  have H:=C13
  replace H : _ = some _:=H
  refine qf<|wr<|lp rfl (qd h49)<|lp rfl (xm (S a0) (K19 0 rfl))<|lp rfl (qd h51) ?_
  obtain ⟨c53,H⟩:=qa H
  refine lp rfl (Yd Tryz.underlying9 rfl (l:=x6_16) (h:=(a0.length : Int)) ⟨_,rfl⟩ rfl (JJ c53) (Jz c53) (Jy c53))<|yz (.plain rfl) rfl (ltb rfl) rfl Tryz.underlying44 Tryz.sizeOf9 Tryz.zeroValue9 rfl rfl rfl (vs:=[(S (sub a0 x6_16 (a0.length : Int)))]) rfl (vH rfl)<|fun b54 w55 z56 z57 e58 k59=>?_
  obtain ⟨c60,H⟩:=qa H
  refine yH (enc:=vI) (.plain rfl) rfl (ltb rfl) rfl El.t44 rfl rfl (Ow.ext h50 e58) (Ow.rd (Ow.new (xs:=[sub a0 x6_16 (a0.length : Int)]) (sz:=1) (enc:=vI) (base:=w17.heap.size) k59 (Nat.le_of_eq z56) rfl (fun _ _=>by rfl) (Nat.le_of_ble_eq_true rfl))) (Vi _) (od c60) ((e20.t e58)).size<|fun v61 w62 o63 z64 g65=>lp rfl (xa v61 rfl)<|nx<|qr<|qu ?_
  obtain rfl:=si H
  exact Q3 rfl (e5.t (g65 _ (e20.t e58))) o63 (e5).size
/-! impl.parts -/
theorem vy.calls {w : World} {a0 : List UInt8} (gv : GV 0 w) (h0 : a0.length≤1048576) :
  Calls Tryz.prog 132 #[S a0] w (Rt (RO 9 1 vI w (cut 47 a0))):=by
 have H:=vy.eq a0 h0
 generalize (cut 47 a0) = r at H ⊢
 unfold vy.sh at H
 refine qk Tryz.func132 rfl (Nat.le_of_ble_eq_true rfl) Tryz.ntmps132 rfl ?_
 refine wr<|lp rfl (xa (.slice none 0 0) rfl)<|nx<|wr<|lp rfl (xm (S a0) rfl) ?_
 obtain ⟨c1,H⟩:=qa H
 obtain ⟨c2,H⟩:=qa H
 refine vJ (.plain rfl) rfl (ltb rfl) rfl Tryz.call193 (strings_Split.calls (w:=w) (a0:=a0) (a1:=([47] : List UInt8)) gv (od c1) (od c2)) rfl<|fun v5 w3 e4 o6=>lp rfl (xa v5 rfl)<|nx<|qr<|qu ?_
 obtain rfl:=si H
 exact Q3 rfl e4 o6 (er).size
/-! impl.all(string)$1 -/
theorem yq.walk {w : World} {a0 : List UInt8} {a1 : List UInt8→Option Bool} {v_a1 : Value} (f_a1 : ∀ (x0 : List UInt8) (r : Bool),a1 x0 = some r→jr Tryz.prog w v_a1 [(S x0)] (.bool r)) (g_a1 : v_a1.cells = #[v_a1]) {b_a1 : Nat} (k_a1 : Blk w b_a1 #[v_a1] 113) {r : Bool} (H : yq.sh a0 a1 = some r) :
  Calls Tryz.prog 216 #[S a0,.pointer (some ⟨b_a1,0,none⟩)] w (Rt (RP w (.bool r))):=by
 unfold yq.sh at H
 refine qk Tryz.func216 rfl (Nat.le_of_ble_eq_true rfl) Tryz.ntmps216 rfl ?_
 refine wr<|lp rfl (xa (.bool false) rfl)<|nx<|wr<|lp rfl (qy Tryz.isAgg113 k_a1 rfl rfl)<|lp rfl (xm (S a0) rfl) ?_
 obtain ⟨z1,x2,H⟩:=bind_some H
 refine YN (.plain rfl) rfl (ltb rfl) rfl rfl (jr.ext (f_a1 _ _ x2) er) rfl<|fun w3 e4=>lp rfl (yG rfl)<|lp rfl (xa (.bool (!z1)) rfl)<|nx<|qr<|qu ?_
 obtain rfl:=si H
 exact qS rfl e4
theorem yq.calls {w : World} {a0 : List UInt8} {a1 : List UInt8→Option Bool} {r : Bool} {v_a1 : Value} (f_a1 : ∀ (x0 : List UInt8) (r : Bool),a1 x0 = some r→jr Tryz.prog w v_a1 [(S x0)] (.bool r)) (g_a1 : v_a1.cells = #[v_a1]) {b_a1 : Nat} (k_a1 : Blk w b_a1 #[v_a1] 113) (H : ((a1 a0).map (!·)) = some r) :
  Calls Tryz.prog 216 #[S a0,.pointer (some ⟨b_a1,0,none⟩)] w (Rt (RP w (.bool r))):=yq.walk f_a1 g_a1 k_a1 (yq.eq a0 a1 H)
/-! slices.IndexFunc(()string,string) -/
theorem qP.walk {k : Nat} {w : World} {a0 : List (List UInt8)} {a1 : List UInt8→Option Bool} {v_a0 : Value} (f_a0 : Rd 1 vI w v_a0 a0) {v_a1 : Value} (f_a1 : ∀ (x0 : List UInt8) (r : Bool),a1 x0 = some r→jr Tryz.prog w v_a1 [(S x0)] (.bool r)) (g_a1 : v_a1.cells = #[v_a1]) {r : Int} (H : qP.sh k a0 a1 = some r) :
  Calls Tryz.prog 241 #[v_a0,v_a1] w (Rt (RP w (.int .i64 r))):=by
 unfold qP.sh at H
 refine qk Tryz.func241 rfl (Nat.le_of_ble_eq_true rfl) Tryz.ntmps241 rfl ?_
 refine wr<|lp rfl (xa (.int .i64 0) rfl)<|nx<|qi<|wr<|lp rfl (xm v_a0 rfl)<|lp rfl (vc Tryz.underlying44 rfl f_a0)<|lp rfl (xm (.int .i64 0) rfl)<|nx ?_
 obtain ⟨z2,L3,C4⟩:=bind_some H
 clear H
 refine  vv (fun s0 sQ wQ=>Kp [(4,6),(8,19)] s0 sQ∧Ext w wQ∧z2 = .inr ()) ?_ ?_
 ·refine qB<|vh (fun s0 kk sQ wQ=>∃ (x8_1 : Int),Kp [(4,6),(8,19)] s0 sQ∧sQ 8 = .int .i64 x8_1∧Ext w wQ∧ql (qP.b1 a0 a1) kk x8_1 = some z2) k ⟨0,kz,rfl,er,L3⟩ ?_
  rintro k9 s10 w11 ⟨x8_1,K12,h15,e13,L14⟩
  cases k9 with
  | zero=>exact absurd L14 (by simp [ql])
  | succ k9=>
   obtain ⟨t16,H,S17⟩:=qL L14
   clear L14
   unfold qP.b1 at H
   refine wr<|lp rfl (vw h15 (K12 7 rfl))<|nx<|qi ?_
   rcases qg H with ⟨q18,H⟩ | ⟨q18,H⟩
   ·refine qn (cb q18)<|qp<|qf<|qi<|qB<|wr<|lp rfl (qd h15)<|lp rfl (xa (.int .i64 x8_1) rfl)<|nx<|wr<|lp rfl (xm v_a1 (K12 1 rfl))<|lp rfl (xm v_a0 (K12 0 rfl))<|lp rfl (xm (.int .i64 x8_1) rfl) ?_
    obtain ⟨c19,H⟩:=qa H
    refine vo (.plain rfl) rfl (ltb rfl) rfl Tryz.underlying44 Tryz.sizeOf9 rfl (Rd.ext f_a0 e13) rfl c19<|fun p20 h21=>lp rfl (yj Tryz.isAgg9 rfl h21 rfl) ?_
    obtain ⟨z22,x23,H⟩:=bind_some H
    refine YN (.plain rfl) rfl (ltb rfl) rfl rfl (jr.ext (f_a1 _ _ x23) e13) rfl<|fun w24 e25=>nx ?_
    rcases qg H with ⟨q26,H⟩ | ⟨q26,H⟩
    ·refine qn (cb q26)<|wr<|lp rfl (xm (.int .i64 x8_1) rfl)<|lp rfl (xa (.int .i64 x8_1) rfl)<|nx<|qr<|vl<|qo<|qo<|vl<|qo<|qo<|qu ?_
     obtain rfl:=si H
     obtain rfl:=si S17
     have H:=C4
     obtain rfl:=si H
     exact qS rfl (e13.t e25)
    ·refine qj (cb q26)<|qp<|vM<|qf<|qK<|lp rfl (vp h15 rfl)<|lp rfl (xm (.int .i64 (IntKind.wrap .i64 (x8_1 + 1))) rfl)<|nx ?_
     obtain rfl:=si H
     exact ⟨_,Nat.lt_succ_self _,IntKind.wrap .i64 (x8_1 + 1),(ku3 (ku8 K12 rfl) rfl),rfl,(e13.t e25),S17⟩
   ·refine qj (cb q18)<|vu<|qY<|qY<|vZ<|qf ?_
    obtain rfl:=si H
    obtain rfl:=si S17
    exact ⟨(ku1 K12 rfl),e13,rfl⟩
 ·rintro s6 w5 ⟨K7,e8,y27⟩
  rw [y27] at C4
  have H:=C4
  replace H : _ = some _:=H
  refine qf<|wr<|lp rfl (xa (.int .i64 (-1)) rfl)<|nx<|qr<|qu ?_
  obtain rfl:=si H
  exact qS rfl e8
theorem qP.calls {w : World} {a0 : List (List UInt8)} {a1 : List UInt8→Option Bool} {r : Int} {v_a0 : Value} (f_a0 : Rd 1 vI w v_a0 a0) {v_a1 : Value} (f_a1 : ∀ (x0 : List UInt8) (r : Bool),a1 x0 = some r→jr Tryz.prog w v_a1 [(S x0)] (.bool r)) (g_a1 : v_a1.cells = #[v_a1]) (h0 : a0.length≤4611686018427387904) (H : (QD a1 a0) = some r) :
  Calls Tryz.prog 241 #[v_a0,v_a1] w (Rt (RP w (.int .i64 r))):=by
 obtain ⟨k,h⟩:=qP.eq a0 a1 h0 H
 exact qP.walk f_a0 f_a1 g_a1 h
/-! slices.ContainsFunc(()string,string) -/
theorem vg.walk {w : World} {a0 : List (List UInt8)} {a1 : List UInt8→Option Bool} {v_a0 : Value} (f_a0 : Rd 1 vI w v_a0 a0) {v_a1 : Value} (f_a1 : ∀ (x0 : List UInt8) (r : Bool),a1 x0 = some r→jr Tryz.prog w v_a1 [(S x0)] (.bool r)) (g_a1 : v_a1.cells = #[v_a1]) {r : Bool} (H : vg.sh a0 a1 = some r) :
  Calls Tryz.prog 215 #[v_a0,v_a1] w (Rt (RP w (.bool r))):=by
 unfold vg.sh at H
 refine qk Tryz.func215 rfl (Nat.le_of_ble_eq_true rfl) Tryz.ntmps215 rfl ?_
 refine wr<|lp rfl (xa (.bool false) rfl)<|nx<|wr<|lp rfl (xm v_a0 rfl)<|lp rfl (xm v_a1 rfl) ?_
 obtain ⟨c1,H⟩:=qa H
 obtain ⟨z2,x3,H⟩:=bind_some H
 refine lc rfl rfl Tryz.call241 (qP.calls (w:=w) (a0:=a0) (a1:=a1) f_a0 (fun x0 r h=>jr.ext (f_a1 x0 r h) er) g_a1 (od c1) x3) rfl<|fun w4 e5=>lp rfl (Q2 rfl rfl)<|lp rfl (xa (.bool (decide (0≤z2))) rfl)<|nx<|qr<|qu ?_
 obtain rfl:=si H
 exact qS rfl e5
theorem vg.calls {w : World} {a0 : List (List UInt8)} {a1 : List UInt8→Option Bool} {r : Bool} {v_a0 : Value} (f_a0 : Rd 1 vI w v_a0 a0) {v_a1 : Value} (f_a1 : ∀ (x0 : List UInt8) (r : Bool),a1 x0 = some r→jr Tryz.prog w v_a1 [(S x0)] (.bool r)) (g_a1 : v_a1.cells = #[v_a1]) (h0 : a0.length≤4611686018427387904) (H : (Yt a1 a0) = some r) :
  Calls Tryz.prog 215 #[v_a0,v_a1] w (Rt (RP w (.bool r))):=vg.walk f_a0 f_a1 g_a1 (vg.eq a0 a1 h0 H)
/-! impl.all(string) -/
theorem jd.walk {w : World} {a0 : List (List UInt8)} {a1 : List UInt8→Option Bool} {v_a0 : Value} (f_a0 : Rd 1 vI w v_a0 a0) {v_a1 : Value} (f_a1 : ∀ (x0 : List UInt8) (r : Bool),a1 x0 = some r→jr Tryz.prog w v_a1 [(S x0)] (.bool r)) (g_a1 : v_a1.cells = #[v_a1]) {r : Bool} (H : jd.sh a0 a1 = some r) :
  Calls Tryz.prog 167 #[v_a0,v_a1] w (Rt (RP w (.bool r))):=by
 unfold jd.sh at H
 refine qk Tryz.func167 rfl (Nat.le_of_ble_eq_true rfl) Tryz.ntmps167 rfl ?_
 refine wr<|jm (.plain rfl) rfl (ltb rfl) rfl rfl<|fun b1 w2 z3 z4 e5 k6=>lp rfl (xa (.bool false) rfl)<|nx<|wr<|lp rfl (xm v_a0 rfl)<|lp rfl (QZ (vs:=#[]) (us:=#[.pointer (some ⟨b1,0,none⟩)]) rfl rfl) ?_
 obtain ⟨c11,H⟩:=qa H
 obtain ⟨z12,x13,H⟩:=bind_some H
 refine lc rfl rfl Tryz.call215 (vg.calls (w:=w2) (a0:=a0) (a1:=(fun (x0_ : List UInt8)=>((a1 x0_).map (!·)))) (Rd.ext f_a0 e5) (fun x0_ r h=>by exact jr.mk Tryz.call216 (by rfl) fun w9 k10=>yq.calls (w:=w9) (a0:=x0_) (a1:=a1) (fun x0 r h=>jr.ext (f_a1 x0 r h) (e5.t k10)) g_a1 (Blk.ext (Blk.cs k6 g_a1) k10) h) rfl (od c11) x13) rfl<|fun w14 e15=>lp rfl (yG rfl)<|lp rfl (xa (.bool (!z12)) rfl)<|nx<|qr<|qu ?_
 obtain rfl:=si H
 exact qS rfl (e5.t e15)
theorem jd.calls {w : World} {a0 : List (List UInt8)} {a1 : List UInt8→Option Bool} {r : Bool} {v_a0 : Value} (f_a0 : Rd 1 vI w v_a0 a0) {v_a1 : Value} (f_a1 : ∀ (x0 : List UInt8) (r : Bool),a1 x0 = some r→jr Tryz.prog w v_a1 [(S x0)] (.bool r)) (g_a1 : v_a1.cells = #[v_a1]) (h0 : a0.length≤4611686018427387904) (H : (GR a1 a0) = some r) :
  Calls Tryz.prog 167 #[v_a0,v_a1] w (Rt (RP w (.bool r))):=jd.walk f_a0 f_a1 g_a1 (jd.eq a0 a1 h0 H)
/-! impl.PathOK -/
theorem yF.calls {w : World} {a0 : List UInt8} (gv : GV 0 w) :
  Calls Tryz.prog 101 #[S a0] w (Rt (RP w (.bool (qI a0)))):=by
 have H:=yF.eq a0
 generalize (qI a0) = r at H ⊢
 unfold yF.sh at H
 refine qk Tryz.func101 rfl (Nat.le_of_ble_eq_true rfl) Tryz.ntmps101 rfl ?_
 refine wr<|lp rfl (xa (.bool false) rfl)<|nx<|wr<|lp rfl (xm (S a0) rfl)<|lp rfl (j5 Tryz.underlying9 rfl)<|lp rfl (vw rfl rfl)<|lp rfl (xm (.bool (decide ((a0.length : Int) < 36))) rfl) ?_
 obtain ⟨z2,x3,H⟩:=bind_some H
 refine jz 5 [(7,12)] 11 (fun q=>q = z2) ?_ ?_
 ·rcases qg x3 with ⟨b0_,H⟩ | ⟨b0_,H⟩
  ·refine lg rfl rfl rfl rfl (cb b0_) (xm (S a0) rfl) ?_
   obtain ⟨c2,H⟩:=qa H
   refine vJ (tg rfl rfl rfl (cb b0_)) rfl (ltb rfl) rfl Tryz.call132 (vy.calls (w:=w) (a0:=a0) gv (od c2)) rfl<|fun v5 w3 e4 o6=>lg rfl rfl rfl rfl (cb b0_) (vc Tryz.underlying44 rfl (Ow.rd o6))<|lg rfl rfl rfl rfl (cb b0_) (GP rfl rfl)<|lp rfl (qF (b:=true) (v:=(.bool (decide (((cut 47 a0).length : Int)≤4)))) (cb b0_) rfl) ?_
   obtain rfl:=si H
   exact nx ⟨(ku1 (ku4 kz rfl) rfl),⟨_,rfl,rfl⟩,e4⟩
  ·refine ls rfl rfl rfl (cb b0_) rfl<|ls rfl rfl rfl (cb b0_) rfl<|ls rfl rfl rfl (cb b0_) rfl<|ls rfl rfl rfl (cb b0_) rfl<|lp rfl (qF (b:=false) (v:=(.bool false)) (cb b0_) rfl) ?_
   obtain rfl:=si H
   exact nx ⟨(ku1 (ku4 kz rfl) rfl),⟨_,rfl,rfl⟩,er⟩
 intro s8 w4 z9 K5 hq h6 e7
 rw [hq] at h6; clear hq
 refine lp rfl (qd h6) ?_
 obtain ⟨z11,x12,H⟩:=bind_some H
 refine jz 4 [(13,17)] 16 (fun q=>q = z11) ?_ ?_
 ·rcases qg x12 with ⟨b9_,H⟩ | ⟨b9_,H⟩
  ·refine lg rfl rfl rfl rfl (cb b9_) (xm (S a0) (K5 0 rfl)) ?_
   obtain ⟨c11,H⟩:=qa H
   refine vJ (tg rfl rfl rfl (cb b9_)) rfl (ltb rfl) rfl Tryz.call132 (vy.calls (w:=w4) (a0:=a0) (GV.ext gv e7) (od c11)) rfl<|fun v14 w12 e13 o15=>?_
   obtain ⟨c20,H⟩:=qa H
   obtain ⟨z21,x22,H⟩:=bind_some H
   refine vY (tg rfl rfl rfl (cb b9_)) rfl (ltb rfl) rfl Tryz.call167 (jd.calls (w:=w12) (a0:=(cut 47 a0)) (a1:=(fun (x0_ : List UInt8)=>bif decide (x0_.length≤4611686018427387904) then (some (yi x0_)) else none)) (Ow.rd o15) (fun x0_ r h=>by obtain ⟨q0,h⟩:=qa h; have h:=si h; subst h; exact jr.mk Tryz.call168 (by rfl) fun w18 k19=>vQ.calls (w:=w18) (a0:=x0_) (od q0)) rfl (od c20) x22) rfl<|fun w23 e24=>lp rfl (qF (b:=true) (v:=(.bool z21)) (cb b9_) rfl) ?_
   obtain rfl:=si H
   exact nx ⟨(ku4 kz rfl),⟨_,rfl,rfl⟩,(e13.t e24)⟩
  ·refine ls rfl rfl rfl (cb b9_) rfl<|ls rfl rfl rfl (cb b9_) rfl<|ls rfl rfl rfl (cb b9_) rfl<|lp rfl (qF (b:=false) (v:=(.bool false)) (cb b9_) rfl) ?_
   obtain rfl:=si H
   exact nx ⟨(ku4 kz rfl),⟨_,rfl,rfl⟩,er⟩
 intro s25 w13 z26 K14 hq h15 e16
 rw [hq] at h15; clear hq
 refine lp rfl (qz h15)<|nx<|qr<|qu ?_
 obtain rfl:=si H
 exact qS rfl (e7.t e16)
/-! impl.first -/
theorem yc.calls {w : World} {a0 : List (Bool ⊕ Int)} {v_a0 : Value} (f_a0 : Rd 1 (VL 4 3) w v_a0 a0) (h0 : a0.length≤4611686018427387904) :
  Calls Tryz.prog 77 #[v_a0] w (Rt (RP w (.int .i64 (y5 a0)))):=by
 obtain ⟨k,H⟩:=yc.eq a0 h0
 generalize (y5 a0) = r at H ⊢
 unfold yc.sh at H
 refine qk Tryz.func77 rfl (Nat.le_of_ble_eq_true rfl) Tryz.ntmps77 rfl ?_
 refine wr<|lp rfl (xa (.int .i64 0) rfl)<|nx<|qi<|wr<|lp rfl (xa (.int .i64 0) rfl)<|nx ?_
 obtain ⟨z2,L3,C4⟩:=bind_some H
 clear H
 refine  vv (fun s0 sQ wQ=>Kp [(2,34)] s0 sQ∧Ext w wQ∧z2 = .inr ()) ?_ ?_
 ·refine qB<|vh (fun s0 kk sQ wQ=>∃ (x3_1 : Int),Kp [(2,34)] s0 sQ∧sQ 3 = .int .i64 x3_1∧Ext w wQ∧ql (yc.b1 a0) kk x3_1 = some z2) k ⟨0,kz,rfl,er,L3⟩ ?_
  rintro k9 s10 w11 ⟨x3_1,K12,h15,e13,L14⟩
  cases k9 with
  | zero=>exact absurd L14 (by simp [ql])
  | succ k9=>
   obtain ⟨t16,H,S17⟩:=qL L14
   clear L14
   unfold yc.b1 at H
   refine qi<|wr<|lp rfl (qd h15)<|lp rfl (vp rfl rfl)<|lp rfl (xm v_a0 (K12 0 rfl))<|lp rfl (vc Tryz.underlying142 rfl (Rd.ext f_a0 e13))<|lp rfl (vw rfl rfl)<|nx ?_
   rcases qg H with ⟨q18,H⟩ | ⟨q18,H⟩
   ·refine qn (cb q18)<|qp<|qf<|qi<|qB<|wr<|lp rfl (xm v_a0 (K12 0 rfl))<|lp rfl (qd h15) ?_
    obtain ⟨c19,H⟩:=qa H
    refine vo (.plain rfl) rfl (ltb rfl) rfl Tryz.underlying142 Tryz.sizeOf20 rfl (Rd.ext f_a0 e13) rfl c19<|fun p20 h21=>lp rfl (yj Tryz.isAgg20 rfl h21 rfl)<|lp rfl (X_taB Tryz.underlying4 Tryz.zeroValue4 (by decide) rfl)<|lp rfl (xm (.tuple #[(.bool (Ju (gt a0 x3_1))),(.bool (isB (gt a0 x3_1)))]) rfl)<|lp rfl (yA (v:=(.bool (Ju (gt a0 x3_1)))) rfl rfl)<|lp rfl (yA (v:=(.bool (isB (gt a0 x3_1)))) rfl rfl)<|lp rfl (xa (.bool (Ju (gt a0 x3_1))) rfl)<|lp rfl (xa (.bool (isB (gt a0 x3_1))) rfl)<|nx<|wr<|lp rfl (xm (.bool (Ju (gt a0 x3_1))) rfl)<|nx ?_
    rcases qg H with ⟨q22,H⟩ | ⟨q22,H⟩
    ·refine qn (cb q22)<|wr<|lp rfl (xm v_a0 (K12 0 rfl))<|lp rfl (qd h15)<|lp rfl (vp rfl rfl) ?_
     obtain ⟨c23,H⟩:=qa H
     refine vo (.plain rfl) rfl (ltb rfl) rfl Tryz.underlying142 Tryz.sizeOf20 rfl (Rd.ext f_a0 e13) rfl c23<|fun p24 h25=>lp rfl (yj Tryz.isAgg20 rfl h25 rfl)<|lp rfl (X_taI Tryz.underlying3 Tryz.zeroValue3 (by decide) rfl)<|lp rfl (qd rfl)<|lp rfl (yA (v:=(.int .i64 (J7 (gt a0 (IntKind.wrap .i64 (x3_1 + 1)))))) rfl rfl)<|lp rfl (yA (v:=(.bool (!isB (gt a0 (IntKind.wrap .i64 (x3_1 + 1)))))) rfl rfl)<|lp rfl (xa (.int .i64 (J7 (gt a0 (IntKind.wrap .i64 (x3_1 + 1))))) rfl)<|lp rfl (xa (.bool (!isB (gt a0 (IntKind.wrap .i64 (x3_1 + 1))))) rfl)<|nx<|wr<|lp rfl (xm (.int .i64 (J7 (gt a0 (IntKind.wrap .i64 (x3_1 + 1))))) rfl)<|lp rfl (xa (.int .i64 (J7 (gt a0 (IntKind.wrap .i64 (x3_1 + 1))))) rfl)<|nx<|qr<|vl<|qo<|qo<|vl<|qo<|qo<|qu ?_
     obtain rfl:=si H
     obtain rfl:=si S17
     have H:=C4
     obtain rfl:=si H
     exact qS rfl e13
    ·refine qj (cb q22)<|qp<|vM<|qf<|qK<|lp rfl (qd h15)<|lp rfl (vp rfl rfl)<|lp rfl (xa (.int .i64 (IntKind.wrap .i64 (x3_1 + 2))) rfl)<|nx ?_
     obtain rfl:=si H
     exact ⟨_,Nat.lt_succ_self _,IntKind.wrap .i64 (x3_1 + 2),(ku3 (ku8 (ku8 K12 rfl) rfl) rfl),rfl,e13,S17⟩
   ·refine qj (cb q18)<|vu<|qY<|qY<|vZ<|qf ?_
    obtain rfl:=si H
    obtain rfl:=si S17
    exact ⟨(ku1 (ku4 K12 rfl) rfl),e13,rfl⟩
 ·rintro s6 w5 ⟨K7,e8,y26⟩
  rw [y26] at C4
  have H:=C4
  replace H : _ = some _:=H
  refine qf<|wr<|lp rfl (xa (.int .i64 0) rfl)<|nx<|qr<|qu ?_
  obtain rfl:=si H
  exact qS rfl e8
/-! spec.l01OK -/
theorem vV.calls {w : World} {a0 : List UInt8} :
  Calls Tryz.prog 97 #[S a0] w (Rt (RP w (.bool (qI a0)))):=by
 obtain ⟨k,H⟩:=vV.eq a0
 generalize (qI a0) = r at H ⊢
 unfold vV.sh at H
 refine qk Tryz.func97 rfl (Nat.le_of_ble_eq_true rfl) Tryz.ntmps97 rfl ?_
 refine wr<|lp rfl (xa (.bool false) rfl)<|nx<|qi<|wr<|lp rfl (xm (S a0) rfl)<|lp rfl (j5 Tryz.underlying9 rfl)<|lp rfl (j1 rfl rfl)<|nx ?_
 rcases qg H with ⟨q1,H⟩ | ⟨q1,H⟩
 ·refine qn (cb q1)<|wr<|lp rfl (xa (.bool false) rfl)<|nx<|qr<|qo<|qu ?_
  obtain rfl:=si H
  exact qS rfl er
 ·refine qj (cb q1)<|qp<|qf<|wr<|lp rfl (xm (S a0) rfl) ?_
  obtain ⟨c2,H⟩:=qa H
  refine vJ (.plain rfl) rfl (ltb rfl) rfl Tryz.call135 (vL.calls (w:=w) (a0:=a0) (a1:=47) (od c2)) rfl<|fun v5 w3 e4 o6=>lp rfl (xa v5 rfl)<|nx<|qi<|wr<|lp rfl (xm v5 rfl)<|lp rfl (vc Tryz.underlying44 rfl (Ow.rd o6))<|lp rfl (j1 rfl rfl)<|nx ?_
  rcases qg H with ⟨q7,H⟩ | ⟨q7,H⟩
  ·refine qn (cb q7)<|wr<|lp rfl (xa (.bool false) rfl)<|nx<|qr<|qo<|qu ?_
   obtain rfl:=si H
   exact qS rfl e4
  ·refine qj (cb q7)<|qp<|qf<|qi<|wr<|lp rfl (xa (.int .i64 0) rfl)<|nx ?_
   obtain ⟨z9,L10,C11⟩:=bind_some H
   clear H
   refine  vv (fun s0 sQ wQ=>Kp [(2,3),(4,5),(13,25)] s0 sQ∧Ext w3 wQ∧z9 = .inr ()) ?_ ?_
   ·refine qB<|vh (fun s0 kk sQ wQ=>∃ (x4_8 : Int),Kp [(2,3),(4,5),(13,25)] s0 sQ∧sQ 4 = .int .i64 x4_8∧Ext w3 wQ∧ql (vV.b1 a0) kk x4_8 = some z9) k ⟨0,kz,rfl,er,L10⟩ ?_
    rintro k16 s17 w18 ⟨x4_8,K19,h22,e20,L21⟩
    cases k16 with
    | zero=>exact absurd L21 (by simp [ql])
    | succ k16=>
     obtain ⟨t23,H,S24⟩:=qL L21
     clear L21
     unfold vV.b1 at H
     refine qi<|wr<|lp rfl (qd h22)<|lp rfl (xm v5 (K19 3 rfl))<|lp rfl (vc Tryz.underlying44 rfl (Ow.rd (Ow.ext o6 e20)))<|lp rfl (vw rfl rfl)<|nx ?_
     rcases qg H with ⟨q25,H⟩ | ⟨q25,H⟩
     ·refine qn (cb q25)<|qp<|qf<|qi<|qB<|wr<|lp rfl (xm v5 (K19 3 rfl))<|lp rfl (qd h22) ?_
      obtain ⟨c26,H⟩:=qa H
      refine vo (.plain rfl) rfl (ltb rfl) rfl Tryz.underlying44 Tryz.sizeOf9 rfl (Ow.rd (Ow.ext o6 e20)) rfl c26<|fun p27 h28=>lp rfl (yj Tryz.isAgg9 rfl h28 rfl)<|lc rfl rfl Tryz.call161 (vF.calls (w:=w18) (a0:=gt (cut 47 a0) x4_8)) rfl<|fun w29 e30=>lp rfl (yG rfl)<|nx ?_
      rcases qg H with ⟨q31,H⟩ | ⟨q31,H⟩
      ·refine qn (cb q31)<|wr<|lp rfl (xa (.bool false) rfl)<|nx<|qr<|vl<|qo<|qo<|vl<|qo<|qo<|qu ?_
       obtain rfl:=si H
       obtain rfl:=si S24
       have H:=C11
       obtain rfl:=si H
       exact qS rfl ((e4.t e20).t e30)
      ·refine qj (cb q31)<|qp<|vM<|qf<|qK<|lp rfl (qd h22)<|lp rfl (vp rfl rfl)<|lp rfl (xa (.int .i64 (IntKind.wrap .i64 (x4_8 + 1))) rfl)<|nx ?_
       obtain rfl:=si H
       exact ⟨_,Nat.lt_succ_self _,IntKind.wrap .i64 (x4_8 + 1),(ku1 (ku4 (ku8 K19 rfl) rfl) rfl),rfl,(e20.t e30),S24⟩
     ·refine qj (cb q25)<|vu<|qY<|qY<|vZ<|qf ?_
      obtain rfl:=si H
      obtain rfl:=si S24
      exact ⟨(ku4 K19 rfl),e20,rfl⟩
   ·rintro s13 w12 ⟨K14,e15,y32⟩
    rw [y32] at C11
    have H:=C11
    replace H : _ = some _:=H
    refine qf<|wr<|lp rfl (xa (.bool true) rfl)<|nx<|qr<|qu ?_
    obtain rfl:=si H
    exact qS rfl (e4.t e15)
/-! spec.l02Fault -/
theorem yM.calls {w : World} {a0 : Rec} :
  Calls Tryz.prog 194 #[.agg (qv a0).toArray] w (Rt (RP w (.int .i64 (qR a0)))):=by
 have H:=yM.eq a0
 generalize (qR a0) = r at H ⊢
 unfold yM.sh at H
 refine qk Tryz.func194 rfl (Nat.le_of_ble_eq_true rfl) Tryz.ntmps194 rfl ?_
 refine wr<|jm (.plain rfl) rfl (ltb rfl) rfl rfl<|fun b1 w2 z3 z4 e5 k6=>lp rfl (xa (.int .i64 0) rfl)<|nx<|wr<|lp rfl (qc Tryz.underlying52 rfl Tryz.sizeOf3 rfl rfl)<|lp rfl (qy Tryz.isAgg3 k6 rfl rfl)<|lp rfl (jo rfl rfl)<|lp rfl (xa (.bool (decide (a0.kind = 3))) rfl)<|nx<|qi<|qB<|wr<|lp rfl (qc Tryz.underlying52 rfl Tryz.sizeOf3 rfl rfl)<|lp rfl (qy Tryz.isAgg3 k6 rfl rfl)<|lc rfl rfl Tryz.call61 (jj.calls (w:=w2) (a0:=a0.kind) (a1:=1) (a2:=4)) rfl<|fun w7 e8=>lp rfl (yG rfl)<|lp rfl (xa (.bool (!(within a0.kind 1 4))) rfl)<|nx ?_
 rcases qg H with ⟨q9,H⟩ | ⟨q9,H⟩
 ·refine qn (cb q9)<|wr<|lp rfl (xa (.int .i64 9) rfl)<|nx<|qr<|vl<|qo<|qu ?_
  obtain rfl:=si H
  exact qS rfl (e5.t e8)
 ·refine qj (cb q9)<|wr<|lp rfl (qc Tryz.underlying52 rfl Tryz.sizeOf9 rfl rfl)<|lp rfl (qy Tryz.isAgg9 (Blk.ext k6 e8) rfl rfl)<|lc rfl rfl Tryz.call97 (vV.calls (w:=w7) (a0:=a0.path)) rfl<|fun w10 e11=>lp rfl (yG rfl)<|lp rfl (xa (.bool (!(qI a0.path))) rfl)<|nx ?_
  rcases qg H with ⟨q12,H⟩ | ⟨q12,H⟩
  ·refine qn (cb q12)<|wr<|lp rfl (xa (.int .i64 10) rfl)<|nx<|qr<|vl<|qo<|qu ?_
   obtain rfl:=si H
   exact qS rfl ((e5.t e8).t e11)
  ·refine qj (cb q12)<|wr<|lp rfl (qc Tryz.underlying52 rfl Tryz.sizeOf9 rfl rfl)<|lp rfl (qy Tryz.isAgg9 (Blk.ext k6 (e8.t e11)) rfl rfl)<|lp rfl (j5 Tryz.underlying9 rfl)<|lp rfl (j1 rfl rfl)<|lp rfl (xm (.bool (decide (20 < (a0.body.length : Int)))) rfl)<|jb 9 [(23,32)] 31 (.bool ((decide (20 < (a0.body.length : Int))) || ((decide (a0.kind = 2)) && (decide (a0.body = ([] : List UInt8)))))) ?_ ?_
   ·rcases qH (decide (20 < (a0.body.length : Int))) with b12_ | b12_
    ·exact ls rfl rfl rfl (cb b12_) rfl<|ls rfl rfl rfl (cb b12_) rfl<|ls rfl rfl rfl (cb b12_) rfl<|ls rfl rfl rfl (cb b12_) rfl<|lu rfl rfl rfl rfl rfl<|lu rfl rfl rfl rfl rfl<|lu rfl rfl rfl rfl rfl<|ls rfl rfl rfl (cb b12_) rfl<|lp rfl (qF (b:=true) (v:=(.bool true)) (cb b12_) rfl)<|nx ⟨(ku1 (ku8 kz rfl) rfl),(Ye b12_),er⟩
    ·refine lg rfl rfl rfl rfl (cb b12_) (qc Tryz.underlying52 rfl Tryz.sizeOf3 rfl rfl)<|lg rfl rfl rfl rfl (cb b12_) (qy Tryz.isAgg3 (Blk.ext k6 (e8.t e11)) rfl rfl)<|lg rfl rfl rfl rfl (cb b12_) (jo rfl rfl)<|lg rfl rfl rfl rfl (cb b12_) (xm (.bool (decide (a0.kind = 2))) rfl)<|jb 4 [(27,31)] 30 (.bool ((decide (a0.kind = 2)) && (decide (a0.body = ([] : List UInt8))))) ?_ ?_
     ·rcases qH (decide (a0.kind = 2)) with b13_ | b13_
      ·exact lg rfl rfl rfl rfl (cb b13_) (qc Tryz.underlying52 rfl Tryz.sizeOf9 rfl rfl)<|lg rfl rfl rfl rfl (cb b13_) (qy Tryz.isAgg9 (Blk.ext k6 (e8.t e11)) rfl rfl)<|lg rfl rfl rfl rfl (cb b13_) (VB rfl rfl)<|lg rfl rfl rfl rfl (cb b12_) (qF (b:=true) (v:=(.bool (decide (a0.body = ([] : List UInt8))))) (cb b13_) rfl)<|nx ⟨(ku4 kz rfl),(Vg b13_),er⟩
      ·exact ls rfl rfl rfl (cb b13_) rfl<|ls rfl rfl rfl (cb b13_) rfl<|ls rfl rfl rfl (cb b13_) rfl<|lg rfl rfl rfl rfl (cb b12_) (qF (b:=false) (v:=(.bool false)) (cb b13_) rfl)<|nx ⟨(ku4 kz rfl),(Vb b13_),er⟩
     intro s19 w15 K16 h17 e18
     exact lp rfl (qF (b:=false) (v:=(.bool ((decide (a0.kind = 2)) && (decide (a0.body = ([] : List UInt8)))))) ((K16 22 rfl).trans (cb b12_)) h17)<|nx ⟨(ku1 (Kp.cut (ku4 kz rfl) K16 rfl) rfl),(VX b12_),e18⟩
   intro s20 w14 K15 h16 e17
   refine lp rfl (qz h16)<|nx ?_
   rcases qg H with ⟨q21,H⟩ | ⟨q21,H⟩
   ·refine qn (cb q21)<|wr<|lp rfl (xa (.int .i64 8) rfl)<|nx<|qr<|vl<|qo<|qu ?_
    obtain rfl:=si H
    exact qS rfl (((e5.t e8).t e11).t e17)
   ·refine qj (cb q21)<|wr<|lp rfl (qc Tryz.underlying52 rfl Tryz.sizeOf9 rfl (K15 1 rfl))<|lp rfl (qy Tryz.isAgg9 (Blk.ext k6 ((e8.t e11).t e17)) rfl rfl)<|lp rfl (j3 rfl rfl)<|lp rfl (xm (.bool (!decide (a0.body = ([] : List UInt8)))) rfl)<|jb 7 [(37,44)] 43 (.bool ((!decide (a0.body = ([] : List UInt8))) && ((decide (a0.kind = 3)) || (decide (a0.kind = 4))))) ?_ ?_
    ·rcases qH (!decide (a0.body = ([] : List UInt8))) with b21_ | b21_
     ·refine lg rfl rfl rfl rfl (cb b21_) (xm (.bool (decide (a0.kind = 3))) (K15 3 rfl))<|lg rfl rfl rfl rfl (cb b21_) (xm (.bool (decide (a0.kind = 3))) rfl)<|jb 4 [(39,43)] 42 (.bool ((decide (a0.kind = 3)) || (decide (a0.kind = 4)))) ?_ ?_
      ·rcases qH (decide (a0.kind = 3)) with b22_ | b22_
       ·exact ls rfl rfl rfl (cb b22_) rfl<|ls rfl rfl rfl (cb b22_) rfl<|ls rfl rfl rfl (cb b22_) rfl<|lg rfl rfl rfl rfl (cb b21_) (qF (b:=true) (v:=(.bool true)) (cb b22_) rfl)<|nx ⟨(ku4 kz rfl),(Ye b22_),er⟩
       ·exact lg rfl rfl rfl rfl (cb b22_) (qc Tryz.underlying52 rfl Tryz.sizeOf3 rfl (K15 1 rfl))<|lg rfl rfl rfl rfl (cb b22_) (qy Tryz.isAgg3 (Blk.ext k6 ((e8.t e11).t e17)) rfl rfl)<|lg rfl rfl rfl rfl (cb b22_) (jo rfl rfl)<|lg rfl rfl rfl rfl (cb b21_) (qF (b:=false) (v:=(.bool (decide (a0.kind = 4)))) (cb b22_) rfl)<|nx ⟨(ku4 kz rfl),(VX b22_),er⟩
      intro s28 w24 K25 h26 e27
      exact lp rfl (qF (b:=true) (v:=(.bool ((decide (a0.kind = 3)) || (decide (a0.kind = 4))))) ((K25 36 rfl).trans (cb b21_)) h26)<|nx ⟨(ku1 (Kp.cut (ku2 kz rfl) K25 rfl) rfl),(Vg b21_),e27⟩
     ·exact ls rfl rfl rfl (cb b21_) rfl<|ls rfl rfl rfl (cb b21_) rfl<|lu rfl rfl rfl rfl rfl<|lu rfl rfl rfl rfl rfl<|lu rfl rfl rfl rfl rfl<|ls rfl rfl rfl (cb b21_) rfl<|lp rfl (qF (b:=false) (v:=(.bool false)) (cb b21_) rfl)<|nx ⟨(ku3 (ku4 kz rfl) rfl),(Vb b21_),er⟩
    intro s29 w23 K24 h25 e26
    refine lp rfl (qd h25)<|jb 7 [(45,52)] 51 (.bool (((!decide (a0.body = ([] : List UInt8))) && ((decide (a0.kind = 3)) || (decide (a0.kind = 4)))) || (a0.opq && (!(decide (a0.kind = 3)))))) ?_ ?_
    ·rcases qH ((!decide (a0.body = ([] : List UInt8))) && ((decide (a0.kind = 3)) || (decide (a0.kind = 4)))) with b29_ | b29_
     ·exact ls rfl rfl rfl (cb b29_) rfl<|ls rfl rfl rfl (cb b29_) rfl<|ls rfl rfl rfl (cb b29_) rfl<|lu rfl rfl rfl rfl rfl<|lu rfl rfl rfl rfl rfl<|ls rfl rfl rfl (cb b29_) rfl<|lp rfl (qF (b:=true) (v:=(.bool true)) (cb b29_) rfl)<|nx ⟨(ku3 (ku4 kz rfl) rfl),(Ye b29_),er⟩
     ·refine lg rfl rfl rfl rfl (cb b29_) (qc Tryz.underlying52 rfl Tryz.sizeOf4 rfl ((K24 1 rfl).trans (K15 1 rfl)))<|lg rfl rfl rfl rfl (cb b29_) (qy Tryz.isAgg4 (Blk.ext k6 (((e8.t e11).t e17).t e26)) rfl rfl)<|lg rfl rfl rfl rfl (cb b29_) (xm (.bool a0.opq) rfl)<|jb 3 [(48,51)] 50 (.bool (a0.opq && (!(decide (a0.kind = 3))))) ?_ ?_
      ·rcases qH a0.opq with b30_ | b30_
       ·exact lg rfl rfl rfl rfl (cb b30_) (xm (.bool (decide (a0.kind = 3))) ((K24 3 rfl).trans (K15 3 rfl)))<|lg rfl rfl rfl rfl (cb b30_) (yG rfl)<|lg rfl rfl rfl rfl (cb b29_) (qF (b:=true) (v:=(.bool (!(decide (a0.kind = 3))))) (cb b30_) rfl)<|nx ⟨(ku3 kz rfl),(Vg b30_),er⟩
       ·exact ls rfl rfl rfl (cb b30_) rfl<|ls rfl rfl rfl (cb b30_) rfl<|lg rfl rfl rfl rfl (cb b29_) (qF (b:=false) (v:=(.bool false)) (cb b30_) rfl)<|nx ⟨(ku3 kz rfl),(Vb b30_),er⟩
      intro s36 w32 K33 h34 e35
      exact lp rfl (qF (b:=false) (v:=(.bool (a0.opq && (!(decide (a0.kind = 3)))))) ((K33 44 rfl).trans (cb b29_)) h34)<|nx ⟨(ku1 (Kp.cut (ku3 kz rfl) K33 rfl) rfl),(VX b29_),e35⟩
    intro s37 w31 K32 h33 e34
    refine lp rfl (qz h33)<|nx ?_
    rcases qg H with ⟨q38,H⟩ | ⟨q38,H⟩
    ·refine qn (cb q38)<|wr<|lp rfl (xa (.int .i64 3) rfl)<|nx<|qr<|vl<|qo<|qu ?_
     obtain rfl:=si H
     exact qS rfl (((((e5.t e8).t e11).t e17).t e26).t e34)
    ·refine qj (cb q38)<|wr<|lp rfl (qc Tryz.underlying52 rfl Tryz.sizeOf3 rfl ((K32 1 rfl).trans ((K24 1 rfl).trans (K15 1 rfl))))<|lp rfl (qy Tryz.isAgg3 (Blk.ext k6 ((((e8.t e11).t e17).t e26).t e34)) rfl rfl)<|lc rfl rfl Tryz.call61 (jj.calls (w:=w31) (a0:=a0.mode) (a1:=0) (a2:=511)) rfl<|fun w39 e40=>lp rfl (yG rfl)<|lp rfl (xm (.bool (!(within a0.mode 0 511))) rfl)<|jb 14 [(58,72)] 71 (.bool ((!(within a0.mode 0 511)) || ((!decide (a0.mode = 0)) && ((decide (a0.kind = 4)) || (decide (a0.kind = 2)))))) ?_ ?_
     ·rcases qH (!(within a0.mode 0 511)) with b40_ | b40_
      ·exact ls rfl rfl rfl (cb b40_) rfl<|ls rfl rfl rfl (cb b40_) rfl<|ls rfl rfl rfl (cb b40_) rfl<|ls rfl rfl rfl (cb b40_) rfl<|lu rfl rfl rfl rfl rfl<|lu rfl rfl rfl rfl rfl<|lu rfl rfl rfl rfl rfl<|lu rfl rfl rfl rfl rfl<|lu rfl rfl rfl rfl rfl<|lu rfl rfl rfl rfl rfl<|lu rfl rfl rfl rfl rfl<|lu rfl rfl rfl rfl rfl<|ls rfl rfl rfl (cb b40_) rfl<|lp rfl (qF (b:=true) (v:=(.bool true)) (cb b40_) rfl)<|nx ⟨(ku2 (ku4 (ku8 kz rfl) rfl) rfl),(Ye b40_),er⟩
      ·refine lg rfl rfl rfl rfl (cb b40_) (qc Tryz.underlying52 rfl Tryz.sizeOf3 rfl ((K32 1 rfl).trans ((K24 1 rfl).trans (K15 1 rfl))))<|lg rfl rfl rfl rfl (cb b40_) (qy Tryz.isAgg3 (Blk.ext k6 (((((e8.t e11).t e17).t e26).t e34).t e40)) rfl rfl)<|lg rfl rfl rfl rfl (cb b40_) (jf rfl rfl)<|lg rfl rfl rfl rfl (cb b40_) (xm (.bool (!decide (a0.mode = 0))) rfl)<|jb 9 [(62,71)] 70 (.bool ((!decide (a0.mode = 0)) && ((decide (a0.kind = 4)) || (decide (a0.kind = 2))))) ?_ ?_
       ·rcases qH (!decide (a0.mode = 0)) with b41_ | b41_
        ·refine lg rfl rfl rfl rfl (cb b41_) (qc Tryz.underlying52 rfl Tryz.sizeOf3 rfl ((K32 1 rfl).trans ((K24 1 rfl).trans (K15 1 rfl))))<|lg rfl rfl rfl rfl (cb b41_) (qy Tryz.isAgg3 (Blk.ext k6 (((((e8.t e11).t e17).t e26).t e34).t e40)) rfl rfl)<|lg rfl rfl rfl rfl (cb b41_) (jo rfl rfl)<|lg rfl rfl rfl rfl (cb b41_) (xm (.bool (decide (a0.kind = 4))) rfl)<|jb 4 [(66,70)] 69 (.bool ((decide (a0.kind = 4)) || (decide (a0.kind = 2)))) ?_ ?_
         ·rcases qH (decide (a0.kind = 4)) with b42_ | b42_
          ·exact ls rfl rfl rfl (cb b42_) rfl<|ls rfl rfl rfl (cb b42_) rfl<|ls rfl rfl rfl (cb b42_) rfl<|lg rfl rfl rfl rfl (cb b41_) (qF (b:=true) (v:=(.bool true)) (cb b42_) rfl)<|nx ⟨(ku4 kz rfl),(Ye b42_),er⟩
          ·exact lg rfl rfl rfl rfl (cb b42_) (qc Tryz.underlying52 rfl Tryz.sizeOf3 rfl ((K32 1 rfl).trans ((K24 1 rfl).trans (K15 1 rfl))))<|lg rfl rfl rfl rfl (cb b42_) (qy Tryz.isAgg3 (Blk.ext k6 (((((e8.t e11).t e17).t e26).t e34).t e40)) rfl rfl)<|lg rfl rfl rfl rfl (cb b42_) (jo rfl rfl)<|lg rfl rfl rfl rfl (cb b41_) (qF (b:=false) (v:=(.bool (decide (a0.kind = 2)))) (cb b42_) rfl)<|nx ⟨(ku4 kz rfl),(VX b42_),er⟩
         intro s48 w44 K45 h46 e47
         exact lg rfl rfl rfl rfl ((K45 57 rfl).trans (cb b40_)) (qF (b:=true) (v:=(.bool ((decide (a0.kind = 4)) || (decide (a0.kind = 2))))) ((K45 61 rfl).trans (cb b41_)) h46)<|nx ⟨(ku1 (Kp.cut (ku4 kz rfl) K45 rfl) rfl),(Vg b41_),e47⟩
        ·exact ls rfl rfl rfl (cb b41_) rfl<|ls rfl rfl rfl (cb b41_) rfl<|ls rfl rfl rfl (cb b41_) rfl<|ls rfl rfl rfl (cb b41_) rfl<|lu rfl rfl rfl rfl rfl<|lu rfl rfl rfl rfl rfl<|lu rfl rfl rfl rfl rfl<|ls rfl rfl rfl (cb b41_) rfl<|lg rfl rfl rfl rfl (cb b40_) (qF (b:=false) (v:=(.bool false)) (cb b41_) rfl)<|nx ⟨(ku1 (ku8 kz rfl) rfl),(Vb b41_),er⟩
       intro s49 w43 K44 h45 e46
       exact lp rfl (qF (b:=false) (v:=(.bool ((!decide (a0.mode = 0)) && ((decide (a0.kind = 4)) || (decide (a0.kind = 2)))))) ((K44 57 rfl).trans (cb b40_)) h45)<|nx ⟨(ku1 (Kp.cut (ku4 kz rfl) K44 rfl) rfl),(VX b40_),e46⟩
     intro s50 w42 K43 h44 e45
     refine lp rfl (qz h44)<|nx ?_
     rcases qg H with ⟨q51,H⟩ | ⟨q51,H⟩
     ·refine qn (cb q51)<|wr<|lp rfl (xa (.int .i64 4) rfl)<|nx<|qr<|vl<|qo<|qu ?_
      obtain rfl:=si H
      exact qS rfl (((((((e5.t e8).t e11).t e17).t e26).t e34).t e40).t e45)
     ·refine qj (cb q51)<|qp<|vM<|qf<|wr<|lp rfl (xa (.int .i64 0) rfl)<|nx<|qr<|qu ?_
      obtain rfl:=si H
      exact qS rfl (((((((e5.t e8).t e11).t e17).t e26).t e34).t e40).t e45)
/-! spec.l02OK -/
theorem jR.calls {w : World} {a0 : Rec} :
  Calls Tryz.prog 151 #[.agg (qv a0).toArray] w (Rt (RP w (.bool (decide (qR a0 = 0))))):=by
 have H:=jR.eq a0
 generalize (decide (qR a0 = 0)) = r at H ⊢
 unfold jR.sh at H
 refine qk Tryz.func151 rfl (Nat.le_of_ble_eq_true rfl) Tryz.ntmps151 rfl ?_
 refine wr<|jm (.plain rfl) rfl (ltb rfl) rfl rfl<|fun b1 w2 z3 z4 e5 k6=>lp rfl (xa (.bool false) rfl)<|nx<|wr<|lp rfl (vK Tryz.isAgg52 Tryz.sizeOf52 rfl rfl (Blk.at0 k6))<|lc rfl rfl Tryz.call194 (yM.calls (w:=w2) (a0:=a0)) rfl<|fun w7 e8=>lp rfl (jo rfl rfl)<|lp rfl (xa (.bool (decide ((qR a0) = 0))) rfl)<|nx<|qr<|qu ?_
 obtain rfl:=si H
 exact qS rfl (e5.t e8)
/-! impl.RecordFault -/
abbrev qh.e1 (a0 : Rec):=([.inl (!(within a0.kind 1 4)),.inr 9,.inl (!(qI a0.path)),.inr 10,.inl ((decide (20 < (a0.body.length : Int))) || ((decide (a0.kind = 2)) && (decide (a0.body = ([] : List UInt8))))),.inr 8,.inl ((((decide (a0.kind = 3)) || (decide (a0.kind = 4))) && (!decide (a0.body = ([] : List UInt8)))) || ((!decide (a0.kind = 3)) && a0.opq)),.inr 3,.inl ((!(within a0.mode 0 511)) || (((decide (a0.kind = 2)) || (decide (a0.kind = 4))) && (!decide (a0.mode = 0)))),.inr 4] : List (Bool ⊕ Int))
abbrev qh.e2 (a0 : Rec):=(((decide (a0.kind = 3)) || (decide (a0.kind = 4))) && (!decide (a0.body = ([] : List UInt8))))
abbrev qh.e3 (a0 : Rec):=((decide (a0.kind = 2)) || (decide (a0.kind = 4)))
abbrev qh.e4 (a0 : Rec):=((decide (20 < (a0.body.length : Int))) || ((decide (a0.kind = 2)) && (decide (a0.body = ([] : List UInt8)))))
theorem qh.walk {w : World} {a0 : Rec} (gv : GV 0 w) {r : Int} (H : qh.sh a0 = some r) :
  Calls Tryz.prog 211 #[.agg (qv a0).toArray] w (Rt (RP w (.int .i64 r))):=by
 unfold qh.sh at H
 refine qk Tryz.func211 rfl (Nat.le_of_ble_eq_true rfl) Tryz.ntmps211 rfl ?_
 refine wr<|jm (.plain rfl) rfl (ltb rfl) rfl rfl<|fun b1 w2 z3 z4 e5 k6=>lp rfl (xa (.int .i64 0) rfl)<|nx<|wr<|lp rfl (qc Tryz.underlying52 rfl Tryz.sizeOf3 rfl rfl)<|lp rfl (qy Tryz.isAgg3 k6 rfl rfl)<|lp rfl (jo rfl rfl)<|lp rfl (xm (.bool (decide (a0.kind = 3))) rfl)<|jb 4 [(8,12)] 11 (.bool ((decide (a0.kind = 3)) || (decide (a0.kind = 4)))) ?_ ?_
 ·rcases qH (decide (a0.kind = 3)) with b6_ | b6_
  ·exact ls rfl rfl rfl (cb b6_) rfl<|ls rfl rfl rfl (cb b6_) rfl<|ls rfl rfl rfl (cb b6_) rfl<|lp rfl (qF (b:=true) (v:=(.bool true)) (cb b6_) rfl)<|nx ⟨(ku4 kz rfl),(Ye b6_),er⟩
  ·exact lg rfl rfl rfl rfl (cb b6_) (qc Tryz.underlying52 rfl Tryz.sizeOf3 rfl rfl)<|lg rfl rfl rfl rfl (cb b6_) (qy Tryz.isAgg3 k6 rfl rfl)<|lg rfl rfl rfl rfl (cb b6_) (jo rfl rfl)<|lp rfl (qF (b:=false) (v:=(.bool (decide (a0.kind = 4)))) (cb b6_) rfl)<|nx ⟨(ku4 kz rfl),(VX b6_),er⟩
 intro s12 w8 K9 h10 e11
 refine lp rfl (qz h10)<|nx<|qi ?_
 obtain ⟨c25,H⟩:=qa H
 refine Jf [LEq (.pointer (some ⟨b1,0,none⟩)),LEq (.int .i64 a0.kind),LEq (.bool (within a0.kind 1 4)),LEq (.bool (!(within a0.kind 1 4))),LEq (.iface 4 (.bool (!(within a0.kind 1 4)))),LEq (.iface 3 (.int .i64 9)),LEq (.pointer (some ⟨b1,1,none⟩)),LEq (S a0.path),LEq (.bool (qI a0.path)),LEq (.bool (!(qI a0.path))),LEq (.iface 4 (.bool (!(qI a0.path)))),LEq (.iface 3 (.int .i64 10)),LEq (.pointer (some ⟨b1,2,none⟩)),LEq (S a0.body),LEq (.int .i64 (a0.body.length : Int)),LEq (.bool (decide (20 < (a0.body.length : Int)))),LEq (.bool (decide (20 < (a0.body.length : Int)))),LIf (!(decide (20 < (a0.body.length : Int)))) (LEq (.pointer (some ⟨b1,0,none⟩))),LIf (!(decide (20 < (a0.body.length : Int)))) (LEq (.int .i64 a0.kind)),LIf (!(decide (20 < (a0.body.length : Int)))) (LEq (.bool (decide (a0.kind = 2)))),LIf (!(decide (20 < (a0.body.length : Int)))) (LEq (.bool (decide (a0.kind = 2)))),LIf ((!(decide (20 < (a0.body.length : Int)))) && (decide (a0.kind = 2))) (LEq (.pointer (some ⟨b1,2,none⟩))),LIf ((!(decide (20 < (a0.body.length : Int)))) && (decide (a0.kind = 2))) (LEq (S a0.body)),LIf ((!(decide (20 < (a0.body.length : Int)))) && (decide (a0.kind = 2))) (LEq (.bool (decide (a0.body = ([] : List UInt8))))),LIf (!(decide (20 < (a0.body.length : Int)))) (LEq (.bool ((decide (a0.kind = 2)) && (decide (a0.body = ([] : List UInt8)))))),LEq (.bool (qh.e4 a0)),LEq (.iface 4 (.bool (qh.e4 a0))),LEq (.iface 3 (.int .i64 8)),LEq (.bool ((decide (a0.kind = 3)) || (decide (a0.kind = 4)))),LEq (.bool ((decide (a0.kind = 3)) || (decide (a0.kind = 4)))),LIf ((decide (a0.kind = 3)) || (decide (a0.kind = 4))) (LEq (.pointer (some ⟨b1,2,none⟩))),LIf ((decide (a0.kind = 3)) || (decide (a0.kind = 4))) (LEq (S a0.body)),LIf ((decide (a0.kind = 3)) || (decide (a0.kind = 4))) (LEq (.bool (!decide (a0.body = ([] : List UInt8))))),LEq (.bool (qh.e2 a0)),LEq (.bool (qh.e2 a0)),LIf (!(qh.e2 a0)) (LEq (.pointer (some ⟨b1,0,none⟩))),LIf (!(qh.e2 a0)) (LEq (.int .i64 a0.kind)),LIf (!(qh.e2 a0)) (LEq (.bool (!decide (a0.kind = 3)))),LIf (!(qh.e2 a0)) (LEq (.bool (!decide (a0.kind = 3)))),LIf ((!(qh.e2 a0)) && (!decide (a0.kind = 3))) (LEq (.pointer (some ⟨b1,4,none⟩))),LIf ((!(qh.e2 a0)) && (!decide (a0.kind = 3))) (LEq (.bool a0.opq)),LIf (!(qh.e2 a0)) (LEq (.bool ((!decide (a0.kind = 3)) && a0.opq))),LEq (.bool ((qh.e2 a0) || ((!decide (a0.kind = 3)) && a0.opq))),LEq (.iface 4 (.bool ((qh.e2 a0) || ((!decide (a0.kind = 3)) && a0.opq)))),LEq (.iface 3 (.int .i64 3)),LEq (.pointer (some ⟨b1,3,none⟩)),LEq (.int .i64 a0.mode),LEq (.bool (within a0.mode 0 511)),LEq (.bool (!(within a0.mode 0 511))),LEq (.bool (!(within a0.mode 0 511))),LIf (!(!(within a0.mode 0 511))) (LEq (.pointer (some ⟨b1,0,none⟩))),LIf (!(!(within a0.mode 0 511))) (LEq (.int .i64 a0.kind)),LIf (!(!(within a0.mode 0 511))) (LEq (.bool (decide (a0.kind = 2)))),LIf (!(!(within a0.mode 0 511))) (LEq (.bool (decide (a0.kind = 2)))),LIf ((!(!(within a0.mode 0 511))) && (!(decide (a0.kind = 2)))) (LEq (.pointer (some ⟨b1,0,none⟩))),LIf ((!(!(within a0.mode 0 511))) && (!(decide (a0.kind = 2)))) (LEq (.int .i64 a0.kind)),LIf ((!(!(within a0.mode 0 511))) && (!(decide (a0.kind = 2)))) (LEq (.bool (decide (a0.kind = 4)))),LIf (!(!(within a0.mode 0 511))) (LEq (.bool (qh.e3 a0))),LIf (!(!(within a0.mode 0 511))) (LEq (.bool (qh.e3 a0))),LIf ((!(!(within a0.mode 0 511))) && (qh.e3 a0)) (LEq (.pointer (some ⟨b1,3,none⟩))),LIf ((!(!(within a0.mode 0 511))) && (qh.e3 a0)) (LEq (.int .i64 a0.mode)),LIf ((!(!(within a0.mode 0 511))) && (qh.e3 a0)) (LEq (.bool (!decide (a0.mode = 0)))),LIf (!(!(within a0.mode 0 511))) (LEq (.bool ((qh.e3 a0) && (!decide (a0.mode = 0))))),LEq (.bool ((!(within a0.mode 0 511)) || ((qh.e3 a0) && (!decide (a0.mode = 0))))),LEq (.iface 4 (.bool ((!(within a0.mode 0 511)) || ((qh.e3 a0) && (!decide (a0.mode = 0)))))),LEq (.iface 3 (.int .i64 4)),LRd 1 (VL 4 3) (qh.e1 a0),LEq (.int .i64 (y5 (qh.e1 a0))),LEq (.int .i64 (y5 (qh.e1 a0)))] (by kernel_rfl) (by kernel_rfl) ⟨qm,qm,qm,qm,qm,qm,qm,qm,qm,qm,qm,qm,qm,qm,qm,qm,qm,lm,lm,lm,lm,lm,lm,lm,lm,qm,qm,qm,qm,qm,lm,lm,lm,qm,qm,lm,lm,lm,lm,lm,lm,lm,qm,qm,qm,qm,qm,qm,qm,qm,lm,lm,lm,lm,lm,lm,lm,lm,lm,lm,lm,lm,lm,qm,qm,qm,LRd.mono,qm,qm,trivial⟩ ⟨?_,?_,?_,?_,?_,?_,?_,?_,?_,?_,?_,?_,?_,?_,?_,?_,?_,?_,?_,?_,?_,?_,?_,?_,?_,?_,?_,?_,?_,?_,?_,?_,?_,?_,?_,?_,?_,?_,?_,?_,?_,?_,?_,?_,?_,?_,?_,?_,?_,?_,?_,?_,?_,?_,?_,?_,?_,?_,?_,?_,?_,?_,?_,?_,?_,?_,?_,?_,?_,trivial⟩ ?_
 ·exact fun s x e f d u=>lp rfl (qc Tryz.underlying52 rfl Tryz.sizeOf3 rfl ((f 1 rfl).trans (K9 1 rfl)))<|se rfl rfl
 ·exact fun s x e f d u=>lp rfl (qy Tryz.isAgg3 (Blk.ext k6 (e11.t e)) (d 0 rfl) rfl)<|se rfl rfl
 ·exact fun s x e f d u=>lc rfl rfl Tryz.call117 (yE.calls (w:=x) (a0:=a0.kind) (a1:=1) (a2:=4)) (ya (d 1 rfl) (ya rfl (ya rfl rfl)))<|fun w28 e29=>sx rfl e29 rfl
 ·exact fun s x e f d u=>lp rfl (yG (d 2 rfl))<|se rfl rfl
 ·exact fun s x e f d u=>lp rfl (ym Tryz.underlying4 rfl (d 3 rfl))<|se rfl rfl
 ·exact fun s x e f d u=>lp rfl (ym Tryz.underlying3 rfl rfl)<|se rfl rfl
 ·exact fun s x e f d u=>lp rfl (qc Tryz.underlying52 rfl Tryz.sizeOf9 rfl ((f 1 rfl).trans (K9 1 rfl)))<|se rfl rfl
 ·exact fun s x e f d u=>lp rfl (qy Tryz.isAgg9 (Blk.ext k6 (e11.t e)) (d 6 rfl) rfl)<|se rfl rfl
 ·exact fun s x e f d u=>lc rfl rfl Tryz.call101 (yF.calls (w:=x) (a0:=a0.path) (GV.ext gv ((e5.t e11).t e))) (ya (d 7 rfl) rfl)<|fun w30 e31=>sx rfl e31 rfl
 ·exact fun s x e f d u=>lp rfl (yG (d 8 rfl))<|se rfl rfl
 ·exact fun s x e f d u=>lp rfl (ym Tryz.underlying4 rfl (d 9 rfl))<|se rfl rfl
 ·exact fun s x e f d u=>lp rfl (ym Tryz.underlying3 rfl rfl)<|se rfl rfl
 ·exact fun s x e f d u=>lp rfl (qc Tryz.underlying52 rfl Tryz.sizeOf9 rfl ((f 1 rfl).trans (K9 1 rfl)))<|se rfl rfl
 ·exact fun s x e f d u=>lp rfl (qy Tryz.isAgg9 (Blk.ext k6 (e11.t e)) (d 12 rfl) rfl)<|se rfl rfl
 ·exact fun s x e f d u=>lp rfl (j5 Tryz.underlying9 (d 13 rfl))<|se rfl rfl
 ·exact fun s x e f d u=>lp rfl (j1 (d 14 rfl) rfl)<|se rfl rfl
 ·exact fun s x e f d u=>lp rfl (qd (d 15 rfl))<|se rfl rfl
 ·exact fun s x e f d u=>gF rfl rfl rfl rfl (d 16 rfl) rfl fun b t=>lt t rfl rfl (qc Tryz.underlying52 rfl Tryz.sizeOf3 rfl ((f 1 rfl).trans (K9 1 rfl)))<|sg rfl rfl b rfl
 ·exact fun s x e f d u=>gF rfl rfl rfl rfl (d 16 rfl) rfl fun b t=>lt t rfl rfl (qy Tryz.isAgg3 (Blk.ext k6 (e11.t e)) ((d 17 rfl).1 (qE (q3 b))) rfl)<|sg rfl rfl b rfl
 ·exact fun s x e f d u=>gF rfl rfl rfl rfl (d 16 rfl) rfl fun b t=>lt t rfl rfl (jo ((d 18 rfl).1 (qE (q3 b))) rfl)<|sg rfl rfl b rfl
 ·exact fun s x e f d u=>gF rfl rfl rfl rfl (d 16 rfl) rfl fun b t=>lt t rfl rfl (xm (.bool (decide (a0.kind = 2))) ((d 19 rfl).1 (qE (q3 b))))<|sg rfl rfl b rfl
 ·exact fun s x e f d u=>hT rfl rfl rfl rfl (d 20 rfl) rfl fun b t=>lt t rfl rfl (qc Tryz.underlying52 rfl Tryz.sizeOf9 rfl ((f 1 rfl).trans (K9 1 rfl)))<|sg rfl rfl b rfl
 ·exact fun s x e f d u=>hT rfl rfl rfl rfl (d 20 rfl) rfl fun b t=>lt t rfl rfl (qy Tryz.isAgg9 (Blk.ext k6 (e11.t e)) ((d 21 rfl).1 (qQ (qE (q3 (yS b))) (yP b))) rfl)<|sg rfl rfl b rfl
 ·exact fun s x e f d u=>hT rfl rfl rfl rfl (d 20 rfl) rfl fun b t=>lt t rfl rfl (VB ((d 22 rfl).1 (qQ (qE (q3 (yS b))) (yP b))) rfl)<|sg rfl rfl b rfl
 ·exact fun s x e f d u=>gF rfl rfl rfl rfl (d 16 rfl) rfl fun b t=>lt t rfl rfl (QW ((d 20 rfl).1 (qE (q3 b))) rfl fun h=>((d 23 rfl).1 (qQ (qE (q3 b)) h)))<|sg rfl rfl b rfl
 ·exact fun s x e f d u=>lp rfl (jV (d 16 rfl) rfl fun h=>((d 24 rfl).1 (qE h)))<|se rfl rfl
 ·exact fun s x e f d u=>lp rfl (ym Tryz.underlying4 rfl (d 25 rfl))<|se rfl rfl
 ·exact fun s x e f d u=>lp rfl (ym Tryz.underlying3 rfl rfl)<|se rfl rfl
 ·exact fun s x e f d u=>lp rfl (xm (.bool ((decide (a0.kind = 3)) || (decide (a0.kind = 4)))) (f 3 rfl))<|se rfl rfl
 ·exact fun s x e f d u=>lp rfl (qd (d 28 rfl))<|se rfl rfl
 ·exact fun s x e f d u=>gT rfl rfl rfl rfl (d 29 rfl) rfl fun b t=>lt t rfl rfl (qc Tryz.underlying52 rfl Tryz.sizeOf9 rfl ((f 1 rfl).trans (K9 1 rfl)))<|sg rfl rfl b rfl
 ·exact fun s x e f d u=>gT rfl rfl rfl rfl (d 29 rfl) rfl fun b t=>lt t rfl rfl (qy Tryz.isAgg9 (Blk.ext k6 (e11.t e)) ((d 30 rfl).1 b) rfl)<|sg rfl rfl b rfl
 ·exact fun s x e f d u=>gT rfl rfl rfl rfl (d 29 rfl) rfl fun b t=>lt t rfl rfl (j3 ((d 31 rfl).1 b) rfl)<|sg rfl rfl b rfl
 ·exact fun s x e f d u=>lp rfl (QW (d 29 rfl) rfl fun h=>((d 32 rfl).1 h))<|se rfl rfl
 ·exact fun s x e f d u=>lp rfl (qd (d 33 rfl))<|se rfl rfl
 ·exact fun s x e f d u=>gF rfl rfl rfl rfl (d 34 rfl) rfl fun b t=>lt t rfl rfl (qc Tryz.underlying52 rfl Tryz.sizeOf3 rfl ((f 1 rfl).trans (K9 1 rfl)))<|sg rfl rfl b rfl
 ·exact fun s x e f d u=>gF rfl rfl rfl rfl (d 34 rfl) rfl fun b t=>lt t rfl rfl (qy Tryz.isAgg3 (Blk.ext k6 (e11.t e)) ((d 35 rfl).1 (qE (q3 b))) rfl)<|sg rfl rfl b rfl
 ·exact fun s x e f d u=>gF rfl rfl rfl rfl (d 34 rfl) rfl fun b t=>lt t rfl rfl (jf ((d 36 rfl).1 (qE (q3 b))) rfl)<|sg rfl rfl b rfl
 ·exact fun s x e f d u=>gF rfl rfl rfl rfl (d 34 rfl) rfl fun b t=>lt t rfl rfl (xm (.bool (!decide (a0.kind = 3))) ((d 37 rfl).1 (qE (q3 b))))<|sg rfl rfl b rfl
 ·exact fun s x e f d u=>hT rfl rfl rfl rfl (d 38 rfl) rfl fun b t=>lt t rfl rfl (qc Tryz.underlying52 rfl Tryz.sizeOf4 rfl ((f 1 rfl).trans (K9 1 rfl)))<|sg rfl rfl b rfl
 ·exact fun s x e f d u=>hT rfl rfl rfl rfl (d 38 rfl) rfl fun b t=>lt t rfl rfl (qy Tryz.isAgg4 (Blk.ext k6 (e11.t e)) ((d 39 rfl).1 (qQ (qE (q3 (yS b))) (yP b))) rfl)<|sg rfl rfl b rfl
 ·exact fun s x e f d u=>gF rfl rfl rfl rfl (d 34 rfl) rfl fun b t=>lt t rfl rfl (QW ((d 38 rfl).1 (qE (q3 b))) rfl fun h=>((d 40 rfl).1 (qQ (qE (q3 b)) h)))<|sg rfl rfl b rfl
 ·exact fun s x e f d u=>lp rfl (jV (d 34 rfl) rfl fun h=>((d 41 rfl).1 (qE h)))<|se rfl rfl
 ·exact fun s x e f d u=>lp rfl (ym Tryz.underlying4 rfl (d 42 rfl))<|se rfl rfl
 ·exact fun s x e f d u=>lp rfl (ym Tryz.underlying3 rfl rfl)<|se rfl rfl
 ·exact fun s x e f d u=>lp rfl (qc Tryz.underlying52 rfl Tryz.sizeOf3 rfl ((f 1 rfl).trans (K9 1 rfl)))<|se rfl rfl
 ·exact fun s x e f d u=>lp rfl (qy Tryz.isAgg3 (Blk.ext k6 (e11.t e)) (d 45 rfl) rfl)<|se rfl rfl
 ·exact fun s x e f d u=>lc rfl rfl Tryz.call117 (yE.calls (w:=x) (a0:=a0.mode) (a1:=0) (a2:=511)) (ya (d 46 rfl) (ya rfl (ya rfl rfl)))<|fun w32 e33=>sx rfl e33 rfl
 ·exact fun s x e f d u=>lp rfl (yG (d 47 rfl))<|se rfl rfl
 ·exact fun s x e f d u=>lp rfl (qd (d 48 rfl))<|se rfl rfl
 ·exact fun s x e f d u=>gF rfl rfl rfl rfl (d 49 rfl) rfl fun b t=>lt t rfl rfl (qc Tryz.underlying52 rfl Tryz.sizeOf3 rfl ((f 1 rfl).trans (K9 1 rfl)))<|sg rfl rfl b rfl
 ·exact fun s x e f d u=>gF rfl rfl rfl rfl (d 49 rfl) rfl fun b t=>lt t rfl rfl (qy Tryz.isAgg3 (Blk.ext k6 (e11.t e)) ((d 50 rfl).1 (qE (q3 b))) rfl)<|sg rfl rfl b rfl
 ·exact fun s x e f d u=>gF rfl rfl rfl rfl (d 49 rfl) rfl fun b t=>lt t rfl rfl (jo ((d 51 rfl).1 (qE (q3 b))) rfl)<|sg rfl rfl b rfl
 ·exact fun s x e f d u=>gF rfl rfl rfl rfl (d 49 rfl) rfl fun b t=>lt t rfl rfl (xm (.bool (decide (a0.kind = 2))) ((d 52 rfl).1 (qE (q3 b))))<|sg rfl rfl b rfl
 ·exact fun s x e f d u=>hF rfl rfl rfl rfl (d 53 rfl) rfl fun b t=>lt t rfl rfl (qc Tryz.underlying52 rfl Tryz.sizeOf3 rfl ((f 1 rfl).trans (K9 1 rfl)))<|sg rfl rfl b rfl
 ·exact fun s x e f d u=>hF rfl rfl rfl rfl (d 53 rfl) rfl fun b t=>lt t rfl rfl (qy Tryz.isAgg3 (Blk.ext k6 (e11.t e)) ((d 54 rfl).1 (qQ (qE (q3 (yS b))) (qE (q3 (yP b))))) rfl)<|sg rfl rfl b rfl
 ·exact fun s x e f d u=>hF rfl rfl rfl rfl (d 53 rfl) rfl fun b t=>lt t rfl rfl (jo ((d 55 rfl).1 (qQ (qE (q3 (yS b))) (qE (q3 (yP b))))) rfl)<|sg rfl rfl b rfl
 ·exact fun s x e f d u=>gF rfl rfl rfl rfl (d 49 rfl) rfl fun b t=>lt t rfl rfl (jV ((d 53 rfl).1 (qE (q3 b))) rfl fun h=>((d 56 rfl).1 (qQ (qE (q3 b)) (qE h))))<|sg rfl rfl b rfl
 ·exact fun s x e f d u=>gF rfl rfl rfl rfl (d 49 rfl) rfl fun b t=>lt t rfl rfl (xm (.bool (qh.e3 a0)) ((d 57 rfl).1 (qE (q3 b))))<|sg rfl rfl b rfl
 ·exact fun s x e f d u=>hT rfl rfl rfl rfl (d 58 rfl) rfl fun b t=>lt t rfl rfl (qc Tryz.underlying52 rfl Tryz.sizeOf3 rfl ((f 1 rfl).trans (K9 1 rfl)))<|sg rfl rfl b rfl
 ·exact fun s x e f d u=>hT rfl rfl rfl rfl (d 58 rfl) rfl fun b t=>lt t rfl rfl (qy Tryz.isAgg3 (Blk.ext k6 (e11.t e)) ((d 59 rfl).1 (qQ (qE (q3 (yS b))) (yP b))) rfl)<|sg rfl rfl b rfl
 ·exact fun s x e f d u=>hT rfl rfl rfl rfl (d 58 rfl) rfl fun b t=>lt t rfl rfl (jf ((d 60 rfl).1 (qQ (qE (q3 (yS b))) (yP b))) rfl)<|sg rfl rfl b rfl
 ·exact fun s x e f d u=>gF rfl rfl rfl rfl (d 49 rfl) rfl fun b t=>lt t rfl rfl (QW ((d 58 rfl).1 (qE (q3 b))) rfl fun h=>((d 61 rfl).1 (qQ (qE (q3 b)) h)))<|sg rfl rfl b rfl
 ·exact fun s x e f d u=>lp rfl (jV (d 49 rfl) rfl fun h=>((d 62 rfl).1 (qE h)))<|se rfl rfl
 ·exact fun s x e f d u=>lp rfl (ym Tryz.underlying4 rfl (d 63 rfl))<|se rfl rfl
 ·exact fun s x e f d u=>lp rfl (ym Tryz.underlying3 rfl rfl)<|se rfl rfl
 ·exact fun s x e f d u=>yz (.plain rfl) rfl (ltb rfl) rfl Tryz.underlying142 Tryz.sizeOf20 Tryz.zeroValue20 rfl rfl rfl (vs:=[(.iface 4 (.bool (!(within a0.kind 1 4)))),(.iface 3 (.int .i64 9)),(.iface 4 (.bool (!(qI a0.path)))),(.iface 3 (.int .i64 10)),(.iface 4 (.bool (qh.e4 a0))),(.iface 3 (.int .i64 8)),(.iface 4 (.bool ((qh.e2 a0) || ((!decide (a0.kind = 3)) && a0.opq)))),(.iface 3 (.int .i64 3)),(.iface 4 (.bool ((!(within a0.mode 0 511)) || ((qh.e3 a0) && (!decide (a0.mode = 0)))))),(.iface 3 (.int .i64 4))]) (ya (d 4 rfl) (ya (d 5 rfl) (ya (d 10 rfl) (ya (d 11 rfl) (ya (d 26 rfl) (ya (d 27 rfl) (ya (d 43 rfl) (ya (d 44 rfl) (ya (d 64 rfl) (ya (d 65 rfl) rfl)))))))))) (vH rfl)<|fun b34 w35 z36 z37 e38 k39=>sx rfl e38 (Ow.rd (Ow.new (xs:=[.inl (!(within a0.kind 1 4)),.inr 9,.inl (!(qI a0.path)),.inr 10,.inl (qh.e4 a0),.inr 8,.inl ((qh.e2 a0) || ((!decide (a0.kind = 3)) && a0.opq)),.inr 3,.inl ((!(within a0.mode 0 511)) || ((qh.e3 a0) && (!decide (a0.mode = 0)))),.inr 4]) (sz:=1) (enc:=(VL 4 3)) (base:=x.heap.size) k39 (Nat.le_of_eq z36) rfl (fun _ _=>by first | rfl | exact Jh _ _ _) (Nat.le_of_ble_eq_true rfl)))
 ·intro s x e f d u
  have d40 : Rd 1 (VL 4 3) x (s 78) (qh.e1 a0):=(d 66 rfl)
  exact lc rfl rfl Tryz.call77 (yc.calls (w:=x) (a0:=(qh.e1 a0)) d40 (od c25)) rfl<|fun w42 e43=>sx rfl e43 rfl
 ·exact fun s x e f d u=>lp rfl (qz (d 67 rfl))<|se rfl rfl
 intro s44 w45 e46 hf47 ha48
 have K49:=Kp.ofD (kp:=[(2,3),(12,80)]) rfl hf47
 have d50 : s44 2 = (.int .i64 (y5 (qh.e1 a0))):=ha48 68 rfl
 clear ha48 hf47
 refine qf<|qr<|qu ?_
 obtain rfl:=si H
 exact qS d50 ((e5.t e11).t e46)
theorem qh.calls {w : World} {a0 : Rec} (gv : GV 0 w) :
  Calls Tryz.prog 211 #[.agg (qv a0).toArray] w (Rt (RP w (.int .i64 (qR a0)))):=qh.walk gv (qh.eq a0)
/-! impl.RecordOK -/
theorem je.calls {w : World} {a0 : Rec} (gv : GV 0 w) :
  Calls Tryz.prog 157 #[.agg (qv a0).toArray] w (Rt (RP w (.bool (decide (qR a0 = 0))))):=by
 have H:=je.eq a0
 generalize (decide (qR a0 = 0)) = r at H ⊢
 unfold je.sh at H
 refine qk Tryz.func157 rfl (Nat.le_of_ble_eq_true rfl) Tryz.ntmps157 rfl ?_
 refine wr<|jm (.plain rfl) rfl (ltb rfl) rfl rfl<|fun b1 w2 z3 z4 e5 k6=>lp rfl (xa (.bool false) rfl)<|nx<|wr<|lp rfl (vK Tryz.isAgg52 Tryz.sizeOf52 rfl rfl (Blk.at0 k6))<|lc rfl rfl Tryz.call211 (qh.calls (w:=w2) (a0:=a0) (GV.ext gv e5)) rfl<|fun w7 e8=>lp rfl (jo rfl rfl)<|lp rfl (xa (.bool (decide ((qR a0) = 0))) rfl)<|nx<|qr<|qu ?_
 obtain rfl:=si H
 exact qS rfl (e5.t e8)
/-! spec.l01Less -/
theorem vq.calls {w : World} {a0 : List UInt8} {a1 : List UInt8} (h0 : a0.length≤1048576) (h1 : a1.length≤1048576) :
  Calls Tryz.prog 153 #[S a0,S a1] w (Rt (RP w (.bool (vC (cut 47 a0) (cut 47 a1))))):=by
 obtain ⟨k,H⟩:=vq.eq a0 a1 h0 h1
 generalize (vC (cut 47 a0) (cut 47 a1)) = r at H ⊢
 unfold vq.sh at H
 refine qk Tryz.func153 rfl (Nat.le_of_ble_eq_true rfl) Tryz.ntmps153 rfl ?_
 refine wr<|lp rfl (xa (.bool false) rfl)<|nx<|wr<|lp rfl (xm (S a0) rfl) ?_
 obtain ⟨c1,H⟩:=qa H
 refine vJ (.plain rfl) rfl (ltb rfl) rfl Tryz.call135 (vL.calls (w:=w) (a0:=a0) (a1:=47) (od c1)) rfl<|fun v4 w2 e3 o5=>lp rfl (xa v4 rfl)<|nx<|wr<|lp rfl (xm (S a1) rfl) ?_
 obtain ⟨c6,H⟩:=qa H
 refine vJ (.plain rfl) rfl (ltb rfl) rfl Tryz.call135 (vL.calls (w:=w2) (a0:=a1) (a1:=47) (od c6)) rfl<|fun v9 w7 e8 o10=>lp rfl (xa v9 rfl)<|nx<|qi<|wr<|lp rfl (xa (.int .i64 0) rfl)<|nx ?_
 obtain ⟨z12,L13,C14⟩:=bind_some H
 clear H
 refine  vv (fun s0 sQ wQ=>Kp [(4,5),(7,8),(12,42)] s0 sQ∧Ext w7 wQ∧z12 = .inr ()) ?_ ?_
 ·refine qB<|vh (fun s0 kk sQ wQ=>∃ (x7_11 : Int),Kp [(4,5),(7,8),(12,42)] s0 sQ∧sQ 7 = .int .i64 x7_11∧Ext w7 wQ∧ql (vq.b1 a0 a1) kk x7_11 = some z12) k ⟨0,kz,rfl,er,L13⟩ ?_
  rintro k19 s20 w21 ⟨x7_11,K22,h25,e23,L24⟩
  cases k19 with
  | zero=>exact absurd L24 (by simp [ql])
  | succ k19=>
   obtain ⟨t26,H,S27⟩:=qL L24
   clear L24
   unfold vq.b1 at H
   refine qi<|wr<|lp rfl (qd h25)<|lp rfl (xm v4 (K22 5 rfl))<|lp rfl (vc Tryz.underlying44 rfl (Ow.rd (Ow.ext o5 (e8.t e23))))<|lp rfl (vw rfl rfl)<|lp rfl (xm (.bool (decide (x7_11 < ((cut 47 a0).length : Int)))) rfl)<|jb 5 [(17,22)] 21 (.bool ((decide (x7_11 < ((cut 47 a0).length : Int))) && (decide (x7_11 < ((cut 47 a1).length : Int))))) ?_ ?_
   ·rcases qH (decide (x7_11 < ((cut 47 a0).length : Int))) with b27_ | b27_
    ·exact lg rfl rfl rfl rfl (cb b27_) (qd h25)<|lg rfl rfl rfl rfl (cb b27_) (xm v9 (K22 6 rfl))<|lg rfl rfl rfl rfl (cb b27_) (vc Tryz.underlying44 rfl (Ow.rd (Ow.ext o10 e23)))<|lg rfl rfl rfl rfl (cb b27_) (vw rfl rfl)<|lp rfl (qF (b:=true) (v:=(.bool (decide (x7_11 < ((cut 47 a1).length : Int))))) (cb b27_) rfl)<|nx ⟨(ku1 (ku4 kz rfl) rfl),(Vg b27_),er⟩
    ·exact ls rfl rfl rfl (cb b27_) rfl<|ls rfl rfl rfl (cb b27_) rfl<|ls rfl rfl rfl (cb b27_) rfl<|ls rfl rfl rfl (cb b27_) rfl<|lp rfl (qF (b:=false) (v:=(.bool false)) (cb b27_) rfl)<|nx ⟨(ku1 (ku4 kz rfl) rfl),(Vb b27_),er⟩
   intro s33 w29 K30 h31 e32
   refine nx ?_
   rcases qg H with ⟨q34,H⟩ | ⟨q34,H⟩
   ·refine qn (h31.trans (cb q34))<|qp<|qf<|qi<|qB<|qi ?_
    obtain ⟨c35,H⟩:=qa H
    obtain ⟨c38,H⟩:=qa H
    refine Jf [LEq v4,LEq (.int .i64 x7_11),yW (vI (gt (cut 47 a0) x7_11)),LEq (S (gt (cut 47 a0) x7_11)),LEq v9,LEq (.int .i64 x7_11),yW (vI (gt (cut 47 a1) x7_11)),LEq (S (gt (cut 47 a1) x7_11)),LEq (.bool (!decide ((gt (cut 47 a0) x7_11) = (gt (cut 47 a1) x7_11))))] (by kernel_rfl) (by kernel_rfl) ⟨qm,qm,yW.mono,qm,qm,qm,yW.mono,qm,qm,trivial⟩ ⟨?_,?_,?_,?_,?_,?_,?_,?_,?_,trivial⟩ ?_
    ·exact fun s x e f d u=>lp rfl (xm v4 ((f 5 rfl).trans ((K30 5 rfl).trans (K22 5 rfl))))<|se rfl rfl
    ·exact fun s x e f d u=>lp rfl (xm (.int .i64 x7_11) ((f 7 rfl).trans ((K30 7 rfl).trans h25)))<|se rfl rfl
    ·exact fun s x e f d u=>vo (.plain rfl) rfl (ltb rfl) rfl Tryz.underlying44 Tryz.sizeOf9 (d 0 rfl) (Ow.rd (Ow.ext o5 (((e8.t e23).t e32).t e))) (d 1 rfl) c35<|fun p42 h43=>se rfl ⟨_,rfl,h43⟩
    ·intro s x e f d u
     obtain ⟨p44,h45,h46⟩:=(d 2 rfl)
     exact lp rfl (yj Tryz.isAgg9 h45 h46 rfl)<|se rfl rfl
    ·exact fun s x e f d u=>lp rfl (xm v9 ((f 6 rfl).trans ((K30 6 rfl).trans (K22 6 rfl))))<|se rfl rfl
    ·exact fun s x e f d u=>lp rfl (xm (.int .i64 x7_11) ((f 7 rfl).trans ((K30 7 rfl).trans h25)))<|se rfl rfl
    ·exact fun s x e f d u=>vo (.plain rfl) rfl (ltb rfl) rfl Tryz.underlying44 Tryz.sizeOf9 (d 4 rfl) (Ow.rd (Ow.ext o10 ((e23.t e32).t e))) (d 5 rfl) c38<|fun p48 h49=>se rfl ⟨_,rfl,h49⟩
    ·intro s x e f d u
     obtain ⟨p50,h51,h52⟩:=(d 6 rfl)
     exact lp rfl (yj Tryz.isAgg9 h51 h52 rfl)<|se rfl rfl
    ·exact fun s x e f d u=>lp rfl (j3 (d 3 rfl) (d 7 rfl))<|se rfl rfl
    intro s53 w54 e55 hf56 ha57
    have K58:=Kp.ofD (kp:=[(24,33)]) rfl hf56
    have d59 : s53 32 = (.bool (!decide ((gt (cut 47 a0) x7_11) = (gt (cut 47 a1) x7_11)))):=ha57 8 rfl
    clear ha57 hf56
    refine qf ?_
    rcases qg H with ⟨q60,H⟩ | ⟨q60,H⟩
    ·refine qn (d59.trans (cb q60))<|qi ?_
     obtain ⟨c61,H⟩:=qa H
     obtain ⟨c64,H⟩:=qa H
     refine Jf [LEq v4,LEq (.int .i64 x7_11),yW (vI (gt (cut 47 a0) x7_11)),LEq (S (gt (cut 47 a0) x7_11)),LEq v9,LEq (.int .i64 x7_11),yW (vI (gt (cut 47 a1) x7_11)),LEq (S (gt (cut 47 a1) x7_11)),LEq (.bool (lt8 (gt (cut 47 a0) x7_11) (gt (cut 47 a1) x7_11))),LEq (.bool (lt8 (gt (cut 47 a0) x7_11) (gt (cut 47 a1) x7_11)))] (by kernel_rfl) (by kernel_rfl) ⟨qm,qm,yW.mono,qm,qm,qm,yW.mono,qm,qm,qm,trivial⟩ ⟨?_,?_,?_,?_,?_,?_,?_,?_,?_,?_,trivial⟩ ?_
     ·exact fun s x e f d u=>lp rfl (xm v4 ((f 5 rfl).trans ((K58 5 rfl).trans ((K30 5 rfl).trans (K22 5 rfl)))))<|se rfl rfl
     ·exact fun s x e f d u=>lp rfl (xm (.int .i64 x7_11) ((f 7 rfl).trans ((K58 7 rfl).trans ((K30 7 rfl).trans h25))))<|se rfl rfl
     ·exact fun s x e f d u=>vo (.plain rfl) rfl (ltb rfl) rfl Tryz.underlying44 Tryz.sizeOf9 (d 0 rfl) (Ow.rd (Ow.ext o5 ((((e8.t e23).t e32).t e55).t e))) (d 1 rfl) c61<|fun p68 h69=>se rfl ⟨_,rfl,h69⟩
     ·intro s x e f d u
      obtain ⟨p70,h71,h72⟩:=(d 2 rfl)
      exact lp rfl (yj Tryz.isAgg9 h71 h72 rfl)<|se rfl rfl
     ·exact fun s x e f d u=>lp rfl (xm v9 ((f 6 rfl).trans ((K58 6 rfl).trans ((K30 6 rfl).trans (K22 6 rfl)))))<|se rfl rfl
     ·exact fun s x e f d u=>lp rfl (xm (.int .i64 x7_11) ((f 7 rfl).trans ((K58 7 rfl).trans ((K30 7 rfl).trans h25))))<|se rfl rfl
     ·exact fun s x e f d u=>vo (.plain rfl) rfl (ltb rfl) rfl Tryz.underlying44 Tryz.sizeOf9 (d 4 rfl) (Ow.rd (Ow.ext o10 (((e23.t e32).t e55).t e))) (d 5 rfl) c64<|fun p74 h75=>se rfl ⟨_,rfl,h75⟩
     ·intro s x e f d u
      obtain ⟨p76,h77,h78⟩:=(d 6 rfl)
      exact lp rfl (yj Tryz.isAgg9 h77 h78 rfl)<|se rfl rfl
     ·exact fun s x e f d u=>lp rfl (XC (d 3 rfl) (d 7 rfl))<|se rfl rfl
     ·exact fun s x e f d u=>lp rfl (qz (d 8 rfl))<|se rfl rfl
     intro s79 w80 e81 hf82 ha83
     have K84:=Kp.ofD (kp:=[(4,5),(33,42)]) rfl hf82
     have d85 : s79 4 = (.bool (lt8 (gt (cut 47 a0) x7_11) (gt (cut 47 a1) x7_11))):=ha83 9 rfl
     clear ha83 hf82
     refine qf<|qr<|vl<|qo<|qo<|vl<|qo<|qo<|qu ?_
     obtain rfl:=si H
     obtain rfl:=si S27
     have H:=C14
     obtain rfl:=si H
     exact qS d85 (((((e3.t e8).t e23).t e32).t e55).t e81)
    ·refine qj (d59.trans (cb q60))<|qp<|vM<|qf<|qK<|lp rfl (xm (.int .i64 x7_11) ((K58 7 rfl).trans ((K30 7 rfl).trans h25)))<|lp rfl (vp rfl rfl)<|lp rfl (xa (.int .i64 (IntKind.wrap .i64 (x7_11 + 1))) rfl)<|nx ?_
     obtain rfl:=si H
     exact ⟨_,Nat.lt_succ_self _,IntKind.wrap .i64 (x7_11 + 1),(ku3 (Kp.cut (Kp.cut (ku1 (ku4 K22 rfl) rfl) K30 rfl) K58 rfl) rfl),rfl,((e23.t e32).t e55),S27⟩
   ·refine qj (h31.trans (cb q34))<|vu<|qY<|qY<|vZ<|qf ?_
    obtain rfl:=si H
    obtain rfl:=si S27
    exact ⟨(Kp.cut (ku1 (ku4 K22 rfl) rfl) K30 rfl),(e23.t e32),rfl⟩
 ·rintro s16 w15 ⟨K17,e18,y86⟩
  rw [y86] at C14
  have H:=C14
  replace H : _ = some _:=H
  refine qf<|wr<|lp rfl (xm v4 (K17 5 rfl))<|lp rfl (vc Tryz.underlying44 rfl (Ow.rd (Ow.ext o5 (e8.t e18))))<|lp rfl (xm v9 (K17 6 rfl))<|lp rfl (vc Tryz.underlying44 rfl (Ow.rd (Ow.ext o10 e18)))<|lp rfl (vw rfl rfl)<|lp rfl (qz rfl)<|nx<|qr<|qu ?_
  obtain rfl:=si H
  exact qS rfl ((e3.t e8).t e18)
/-! cmp.isNaN(string) -/
theorem vi.walk {w : World} {a0 : List UInt8} {r : Bool} (H : vi.sh a0 = some r) :
  Calls Tryz.prog 242 #[S a0] w (Rt (RP w (.bool r))):=by
 unfold vi.sh at H
 refine qk Tryz.func242 rfl (Nat.le_of_ble_eq_true rfl) Tryz.ntmps242 rfl ?_
 refine wr<|lp rfl (xa (.bool false) rfl)<|nx<|wr<|lp rfl (xm (S a0) rfl)<|lp rfl (xm (S a0) rfl)<|lp rfl (j3 rfl rfl)<|lp rfl (xa (.bool (!decide (a0 = a0))) rfl)<|nx<|qr<|qu ?_
 obtain rfl:=si H
 exact qS rfl er
theorem vi.calls {w : World} {a0 : List UInt8} :
  Calls Tryz.prog 242 #[S a0] w (Rt (RP w (.bool false))):=vi.walk (vi.eq a0)
/-! cmp.Compare(string) -/
theorem vz.calls {w : World} {a0 : List UInt8} {a1 : List UInt8} :
  Calls Tryz.prog 217 #[S a0,S a1] w (Rt (RP w (.int .i64 (cmpS a0 a1)))):=by
 have H:=vz.eq a0 a1
 generalize (cmpS a0 a1) = r at H ⊢
 unfold vz.sh at H
 refine qk Tryz.func217 rfl (Nat.le_of_ble_eq_true rfl) Tryz.ntmps217 rfl ?_
 refine wr<|lp rfl (xa (.int .i64 0) rfl)<|nx<|wr<|lp rfl (xm (S a0) rfl)<|lc rfl rfl Tryz.call242 (vi.calls (w:=w) (a0:=a0)) rfl<|fun w1 e2=>lp rfl (xa (.bool false) rfl)<|nx<|wr<|lp rfl (xm (S a1) rfl)<|lc rfl rfl Tryz.call242 (vi.calls (w:=w1) (a0:=a1)) rfl<|fun w3 e4=>lp rfl (xa (.bool false) rfl)<|nx<|qi<|wr<|lp rfl (xm (.bool false) rfl)<|nx ?_
 rcases qg H with ⟨q5,H⟩ | ⟨q5,H⟩
 ·refine qn (cb q5)<|qi<|wr<|lp rfl (xm (.bool false) rfl)<|nx ?_
  rcases qg H with ⟨q6,H⟩ | ⟨q6,H⟩
  ·refine qn (cb q6)<|wr<|lp rfl (xa (.int .i64 0) rfl)<|nx<|qr<|qo<|qo<|qu ?_
   obtain rfl:=si H
   exact qS rfl (e2.t e4)
  ·refine qj (cb q6)<|qp<|qf<|wr<|lp rfl (xa (.int .i64 (-1)) rfl)<|nx<|qr<|qo<|qu ?_
   obtain rfl:=si H
   exact qS rfl (e2.t e4)
 ·refine qj (cb q5)<|qp<|qf<|qi<|wr<|lp rfl (xm (.bool false) rfl)<|nx ?_
  rcases qg H with ⟨q7,H⟩ | ⟨q7,H⟩
  ·refine qn (cb q7)<|wr<|lp rfl (xa (.int .i64 1) rfl)<|nx<|qr<|qo<|qu ?_
   obtain rfl:=si H
   exact qS rfl (e2.t e4)
  ·refine qj (cb q7)<|qp<|qf<|qi<|wr<|lp rfl (xm (S a0) rfl)<|lp rfl (xm (S a1) rfl)<|lp rfl (XC rfl rfl)<|nx ?_
   rcases qg H with ⟨q8,H⟩ | ⟨q8,H⟩
   ·refine qn (cb q8)<|wr<|lp rfl (xa (.int .i64 (-1)) rfl)<|nx<|qr<|qo<|qu ?_
    obtain rfl:=si H
    exact qS rfl (e2.t e4)
   ·refine qj (cb q8)<|qp<|qf<|qi<|wr<|lp rfl (xm (S a0) rfl)<|lp rfl (xm (S a1) rfl)<|lp rfl (X_sgt rfl rfl)<|nx ?_
    rcases qg H with ⟨q9,H⟩ | ⟨q9,H⟩
    ·refine qn (cb q9)<|wr<|lp rfl (xa (.int .i64 1) rfl)<|nx<|qr<|qo<|qu ?_
     obtain rfl:=si H
     exact qS rfl (e2.t e4)
    ·refine qj (cb q9)<|qp<|qf<|wr<|lp rfl (xa (.int .i64 0) rfl)<|nx<|qr<|qu ?_
     obtain rfl:=si H
     exact qS rfl (e2.t e4)
/-! slices.Compare(()string,string) -/
theorem qw.calls {w : World} {a0 : List (List UInt8)} {a1 : List (List UInt8)} {v_a0 : Value} (f_a0 : Rd 1 vI w v_a0 a0) {v_a1 : Value} (f_a1 : Rd 1 vI w v_a1 a1) (h0 : a0.length≤4611686018427387904) (h1 : a1.length≤4611686018427387904) :
  Calls Tryz.prog 169 #[v_a0,v_a1] w (Rt (RP w (.int .i64 (cmpL a0 a1)))):=by
 obtain ⟨k,H⟩:=qw.eq a0 a1 h0 h1
 generalize (cmpL a0 a1) = r at H ⊢
 unfold qw.sh at H
 refine qk Tryz.func169 rfl (Nat.le_of_ble_eq_true rfl) Tryz.ntmps169 rfl ?_
 refine wr<|lp rfl (xa (.int .i64 0) rfl)<|nx<|qi<|wr<|lp rfl (xm v_a0 rfl)<|lp rfl (vc Tryz.underlying44 rfl f_a0)<|lp rfl (xm (.int .i64 0) rfl)<|nx ?_
 obtain ⟨z2,L3,C4⟩:=bind_some H
 clear H
 refine  vv (fun s0 sQ wQ=>Kp [(4,9),(11,31)] s0 sQ∧Ext w wQ∧z2 = .inr ()) ?_ ?_
 ·refine qB<|vh (fun s0 kk sQ wQ=>∃ (x11_1 : Int),Kp [(4,9),(11,31)] s0 sQ∧sQ 11 = .int .i64 x11_1∧Ext w wQ∧ql (qw.b1 a0 a1) kk x11_1 = some z2) k ⟨0,kz,rfl,er,L3⟩ ?_
  rintro k9 s10 w11 ⟨x11_1,K12,h15,e13,L14⟩
  cases k9 with
  | zero=>exact absurd L14 (by simp [ql])
  | succ k9=>
   obtain ⟨t16,H,S17⟩:=qL L14
   clear L14
   unfold qw.b1 at H
   refine wr<|lp rfl (vw h15 (K12 10 rfl))<|nx<|qi ?_
   rcases qg H with ⟨q18,H⟩ | ⟨q18,H⟩
   ·refine qn (cb q18)<|qp<|qf<|qi<|qB<|wr<|lp rfl (qd h15) ?_
    obtain ⟨c19,H⟩:=qa H
    refine vo (.plain rfl) rfl (ltb rfl) rfl Tryz.underlying44 Tryz.sizeOf9 (K12 9 rfl) (Rd.ext f_a0 e13) h15 c19<|fun p20 h21=>lp rfl (yj Tryz.isAgg9 rfl h21 rfl)<|lp rfl (xa (.int .i64 x11_1) rfl)<|lp rfl (xa (S (gt a0 x11_1)) rfl)<|nx<|qi<|wr<|lp rfl (xm (.int .i64 x11_1) rfl)<|lp rfl (xm v_a1 (K12 1 rfl))<|lp rfl (vc Tryz.underlying44 rfl (Rd.ext f_a1 e13))<|lp rfl (Q2 rfl rfl)<|nx ?_
    rcases qg H with ⟨q22,H⟩ | ⟨q22,H⟩
    ·refine qn (cb q22)<|wr<|lp rfl (xa (.int .i64 1) rfl)<|nx<|qr<|qo<|vl<|qo<|qo<|vl<|qo<|qo<|qu ?_
     obtain rfl:=si H
     obtain rfl:=si S17
     have H:=C4
     obtain rfl:=si H
     exact qS rfl e13
    ·refine qj (cb q22)<|qp<|qf<|wr<|lp rfl (xm v_a1 (K12 1 rfl))<|lp rfl (xm (.int .i64 x11_1) rfl) ?_
     obtain ⟨c23,H⟩:=qa H
     refine vo (.plain rfl) rfl (ltb rfl) rfl Tryz.underlying44 Tryz.sizeOf9 rfl (Rd.ext f_a1 e13) rfl c23<|fun p24 h25=>lp rfl (yj Tryz.isAgg9 rfl h25 rfl)<|lp rfl (xa (S (gt a1 x11_1)) rfl)<|nx<|wr<|lp rfl (xm (S (gt a0 x11_1)) rfl)<|lp rfl (xm (S (gt a1 x11_1)) rfl)<|lc rfl rfl Tryz.call217 (vz.calls (w:=w11) (a0:=gt a0 x11_1) (a1:=gt a1 x11_1)) rfl<|fun w26 e27=>lp rfl (xa (.int .i64 (cmpS (gt a0 x11_1) (gt a1 x11_1))) rfl)<|nx<|wr<|lp rfl (xm (.int .i64 (cmpS (gt a0 x11_1) (gt a1 x11_1))) rfl)<|lp rfl (jf rfl rfl)<|nx ?_
     rcases qg H with ⟨q28,H⟩ | ⟨q28,H⟩
     ·refine qn (cb q28)<|wr<|lp rfl (xm (.int .i64 (cmpS (gt a0 x11_1) (gt a1 x11_1))) rfl)<|lp rfl (xa (.int .i64 (cmpS (gt a0 x11_1) (gt a1 x11_1))) rfl)<|nx<|qr<|vl<|qo<|qo<|vl<|qo<|qo<|qu ?_
      obtain rfl:=si H
      obtain rfl:=si S17
      have H:=C4
      obtain rfl:=si H
      exact qS rfl (e13.t e27)
     ·refine qj (cb q28)<|qp<|vM<|qf<|qK<|lp rfl (vp h15 rfl)<|lp rfl (xm (.int .i64 (IntKind.wrap .i64 (x11_1 + 1))) rfl)<|nx ?_
      obtain rfl:=si H
      exact ⟨_,Nat.lt_succ_self _,IntKind.wrap .i64 (x11_1 + 1),(ku3 (ku4 (ku8 (ku8 K12 rfl) rfl) rfl) rfl),rfl,(e13.t e27),S17⟩
   ·refine qj (cb q18)<|vu<|qY<|qY<|vZ<|qf ?_
    obtain rfl:=si H
    obtain rfl:=si S17
    exact ⟨(ku1 K12 rfl),e13,rfl⟩
 ·rintro s6 w5 ⟨K7,e8,y29⟩
  rw [y29] at C4
  have H:=C4
  replace H : _ = some _:=H
  refine qf<|qi<|wr<|lp rfl (xm v_a0 (K7 0 rfl))<|lp rfl (vc Tryz.underlying44 rfl (Rd.ext f_a0 e8))<|lp rfl (xm v_a1 (K7 1 rfl))<|lp rfl (vc Tryz.underlying44 rfl (Rd.ext f_a1 e8))<|lp rfl (vw rfl rfl)<|nx ?_
  rcases qg H with ⟨q30,H⟩ | ⟨q30,H⟩
  ·refine qn (cb q30)<|wr<|lp rfl (xa (.int .i64 (-1)) rfl)<|nx<|qr<|qo<|qu ?_
   obtain rfl:=si H
   exact qS rfl e8
  ·refine qj (cb q30)<|qp<|qf<|wr<|lp rfl (xa (.int .i64 0) rfl)<|nx<|qr<|qu ?_
   obtain rfl:=si H
   exact qS rfl e8
/-! impl.compare -/
theorem impl_compare.calls {w : World} {a0 : List UInt8} {a1 : List UInt8} (gv : GV 0 w) (h0 : a0.length≤1048576) (h1 : a1.length≤1048576) :
  Calls Tryz.prog 102 #[S a0,S a1] w (Rt (RP w (.int .i64 (cmpL (cut 47 a0) (cut 47 a1))))):=by
 have H:=impl_compare.eq a0 a1 h0 h1
 generalize (cmpL (cut 47 a0) (cut 47 a1)) = r at H ⊢
 unfold impl_compare.sh at H
 refine qk Tryz.func102 rfl (Nat.le_of_ble_eq_true rfl) Tryz.ntmps102 rfl ?_
 refine wr<|lp rfl (xa (.int .i64 0) rfl)<|nx<|wr<|lp rfl (xm (S a0) rfl) ?_
 obtain ⟨c1,H⟩:=qa H
 refine vJ (.plain rfl) rfl (ltb rfl) rfl Tryz.call132 (vy.calls (w:=w) (a0:=a0) gv (od c1)) rfl<|fun v4 w2 e3 o5=>lp rfl (xm (S a1) rfl) ?_
 obtain ⟨c6,H⟩:=qa H
 refine vJ (.plain rfl) rfl (ltb rfl) rfl Tryz.call132 (vy.calls (w:=w2) (a0:=a1) (GV.ext gv e3) (od c6)) rfl<|fun v9 w7 e8 o10=>?_
 obtain ⟨c11,H⟩:=qa H
 obtain ⟨c12,H⟩:=qa H
 refine lc rfl rfl Tryz.call169 (qw.calls (w:=w7) (a0:=(cut 47 a0)) (a1:=(cut 47 a1)) (Ow.rd (Ow.ext o5 e8)) (Ow.rd o10) (od c11) (od c12)) rfl<|fun w13 e14=>lp rfl (xa (.int .i64 (cmpL (cut 47 a0) (cut 47 a1))) rfl)<|nx<|qr<|qu ?_
 obtain rfl:=si H
 exact qS rfl ((e3.t e8).t e14)
/-! impl.PathLess -/
theorem yL.calls {w : World} {a0 : List UInt8} {a1 : List UInt8} (gv : GV 0 w) :
  Calls Tryz.prog 37 #[S a0,S a1] w (Rt (RP w (.bool (yk a0 a1)))):=by
 have H:=yL.eq a0 a1
 generalize (yk a0 a1) = r at H ⊢
 unfold yL.sh at H
 refine qk Tryz.func37 rfl (Nat.le_of_ble_eq_true rfl) Tryz.ntmps37 rfl ?_
 refine wr<|lp rfl (xa (.bool false) rfl)<|nx<|wr<|lp rfl (xm (S a0) rfl)<|lc rfl rfl Tryz.call101 (yF.calls (w:=w) (a0:=a0) gv) rfl<|fun w1 e2=>lp rfl (xm (.bool (qI a0)) rfl)<|jb 3 [(8,11)] 10 (.bool ((qI a0) && (qI a1))) ?_ ?_
 ·rcases qH (qI a0) with b2_ | b2_
  ·exact lg rfl rfl rfl rfl (cb b2_) (xm (S a1) rfl)<|vY (tg rfl rfl rfl (cb b2_)) rfl (ltb rfl) rfl Tryz.call101 (yF.calls (w:=w1) (a0:=a1) (GV.ext gv e2)) rfl<|fun w4 e5=>lp rfl (qF (b:=true) (v:=(.bool (qI a1))) (cb b2_) rfl)<|nx ⟨(ku3 kz rfl),(Vg b2_),e5⟩
  ·exact ls rfl rfl rfl (cb b2_) rfl<|ls rfl rfl rfl (cb b2_) rfl<|lp rfl (qF (b:=false) (v:=(.bool false)) (cb b2_) rfl)<|nx ⟨(ku3 kz rfl),(Vb b2_),er⟩
 intro s8 w4 K5 h6 e7
 refine lp rfl (qd h6) ?_
 obtain ⟨z10,x11,H⟩:=bind_some H
 refine jz 5 [(12,17)] 16 (fun q=>q = z10) ?_ ?_
 ·rcases qg x11 with ⟨b8_,H⟩ | ⟨b8_,H⟩
  ·refine lg rfl rfl rfl rfl (cb b8_) (xm (S a0) (K5 0 rfl))<|lg rfl rfl rfl rfl (cb b8_) (xm (S a1) (K5 1 rfl)) ?_
   obtain ⟨c10,H⟩:=qa H
   obtain ⟨c11,H⟩:=qa H
   refine vY (tg rfl rfl rfl (cb b8_)) rfl (ltb rfl) rfl Tryz.call102 (impl_compare.calls (w:=w4) (a0:=a0) (a1:=a1) (GV.ext gv (e2.t e7)) (od c10) (od c11)) rfl<|fun w12 e13=>lg rfl rfl rfl rfl (cb b8_) (vw rfl rfl)<|lp rfl (qF (b:=true) (v:=(.bool (decide ((cmpL (cut 47 a0) (cut 47 a1)) < 0)))) (cb b8_) rfl) ?_
   obtain rfl:=si H
   exact nx ⟨(ku1 (ku4 kz rfl) rfl),⟨_,rfl,rfl⟩,e13⟩
  ·refine ls rfl rfl rfl (cb b8_) rfl<|ls rfl rfl rfl (cb b8_) rfl<|ls rfl rfl rfl (cb b8_) rfl<|ls rfl rfl rfl (cb b8_) rfl<|lp rfl (qF (b:=false) (v:=(.bool false)) (cb b8_) rfl) ?_
   obtain rfl:=si H
   exact nx ⟨(ku1 (ku4 kz rfl) rfl),⟨_,rfl,rfl⟩,er⟩
 intro s16 w12 z17 K13 hq h14 e15
 rw [hq] at h14; clear hq
 refine lp rfl (qz h14)<|nx<|qr<|qu ?_
 obtain rfl:=si H
 exact qS rfl ((e2.t e7).t e15)
/-! laws.markText -/
theorem qU.calls {w : World} {a0 : Int} (h0 : (a0 : Int)≤4611686018427387904) :
  Calls Tryz.prog 112 #[.int .i64 a0] w (Rt (RP w (S (vU a0)))):=by
 obtain ⟨k,H⟩:=qU.eq a0 h0
 generalize (vU a0) = r at H ⊢
 unfold qU.sh at H
 refine qk Tryz.func112 rfl (Nat.le_of_ble_eq_true rfl) Tryz.ntmps112 rfl ?_
 refine wr<|lp rfl (xa (S ([] : List UInt8)) rfl)<|nx<|qi<|wr<|lp rfl (xm (.int .i64 a0) rfl)<|lp rfl (GP rfl rfl)<|nx ?_
 rcases qg H with ⟨q1,H⟩ | ⟨q1,H⟩
 ·refine qn (cb q1)<|wr<|lp rfl (xa (S ([109,48] : List UInt8)) rfl)<|nx<|qr<|qo<|qu ?_
  obtain rfl:=si H
  exact qS rfl er
 ·refine qj (cb q1)<|qp<|qf<|wr<|lp rfl (xa (S ([] : List UInt8)) rfl)<|nx<|qi ?_
  obtain ⟨z4,L5,C6⟩:=bind_some H
  clear H
  refine  vv (fun s0 sQ wQ=>∃ (x3_7 : List UInt8),Kp [(0,1),(3,4),(6,18)] s0 sQ∧sQ 3 = S x3_7∧Ext w wQ∧z4 = .inr x3_7) ?_ ?_
  ·refine qB<|vh (fun s0 kk sQ wQ=>∃ (x0_2 : Int) (x3_3 : List UInt8),Kp [(0,1),(3,4),(6,18)] s0 sQ∧sQ 0 = .int .i64 x0_2∧sQ 3 = S x3_3∧Ext w wQ∧ql (qU.b1) kk (x0_2,x3_3) = some z4) k ⟨a0,([] : List UInt8),kz,rfl,rfl,er,L5⟩ ?_
   rintro k12 s13 w14 ⟨x0_2,x3_3,K15,h18,h19,e16,L17⟩
   cases k12 with
   | zero=>exact absurd L17 (by simp [ql])
   | succ k12=>
    obtain ⟨t20,H,S21⟩:=qL L17
    clear L17
    unfold qU.b1 at H
    refine qi<|wr<|lp rfl (qd h18)<|lp rfl (j1 rfl rfl)<|nx ?_
    rcases qg H with ⟨q22,H⟩ | ⟨q22,H⟩
    ·refine qn (cb q22)<|qp<|qf<|qB<|wr<|lp rfl (qd h18)<|lp rfl (X_rem rfl rfl (by decide))<|lp rfl (vp rfl rfl)<|lp rfl (JT Tryz.underlying3 Tryz.underlying5 rfl)<|yz (.plain rfl) rfl (ltb rfl) rfl Tryz.underlying22 Tryz.sizeOf5 Tryz.zeroValue5 rfl rfl rfl (vs:=[(.int .u8 (IntKind.wrap .u8 (IntKind.wrap .i64 (48 + (x0_2.tmod 10)))))]) rfl (vH rfl)<|fun b23 w24 z25 z26 e27 k28=>lp rfl (X_convBS Tryz.underlying22 Tryz.underlying5 Tryz.underlying9 rfl (Ow.rd (Ow.new (xs:=[IntKind.wrap .u8 (IntKind.wrap .i64 (48 + (x0_2.tmod 10)))]) (sz:=1) (enc:=(Go.UL.encI .u8)) (base:=w14.heap.size) k28 (Nat.le_of_eq z25) rfl (fun _ _=>by rfl) (Nat.le_of_ble_eq_true rfl))))<|lp rfl (qd h19) ?_
     obtain ⟨c29,H⟩:=qa H
     refine lp rfl (X_cat rfl rfl (od c29))<|lp rfl (qz rfl)<|nx<|qK<|lp rfl (qd h18)<|lp rfl (X_quo rfl rfl (by decide))<|lp rfl (xa (.int .i64 (IntKind.wrap .i64 (x0_2.tdiv 10))) rfl)<|qZ<|vM<|qf ?_
     obtain rfl:=si H
     exact ⟨_,Nat.lt_succ_self _,IntKind.wrap .i64 (x0_2.tdiv 10),(j7 ([IntKind.wrap .u8 (IntKind.wrap .i64 (48 + (x0_2.tmod 10)))] : List Int)) ++ x3_3,(ku2 (ku4 (ku8 K15 rfl) rfl) rfl),rfl,rfl,(e16.t e27),S21⟩
    ·refine qj (cb q22)<|vu<|qY<|qY<|vZ<|qf ?_
     obtain rfl:=si H
     obtain rfl:=si S21
     exact ⟨x3_3,(ku2 K15 rfl),h19,e16,rfl⟩
  ·rintro s9 w8 ⟨x3_7,K10,h30,e11,y31⟩
   rw [y31] at C6
   have H:=C6
   replace H : _ = some _:=H
   refine qf<|wr<|lp rfl (qd h30) ?_
   obtain ⟨c32,H⟩:=qa H
   refine lp rfl (X_cat rfl rfl (od c32))<|lp rfl (xa (S (([109] : List UInt8) ++ x3_7)) rfl)<|nx<|qr<|qu ?_
   obtain rfl:=si H
   exact qS rfl e11
/-! laws.eqRecord -/
theorem yN.calls {w : World} {a0 : Rec} {a1 : Rec} :
  Calls Tryz.prog 110 #[.agg (qv a0).toArray,.agg (qv a1).toArray] w (Rt (RP w (.bool (decide (a0 = a1))))):=by
 have H:=yN.eq a0 a1
 generalize (decide (a0 = a1)) = r at H ⊢
 unfold yN.sh at H
 refine qk Tryz.func110 rfl (Nat.le_of_ble_eq_true rfl) Tryz.ntmps110 rfl ?_
 refine wr<|jm (.plain rfl) rfl (ltb rfl) rfl rfl<|fun b1 w2 z3 z4 e5 k6=>jm (.plain rfl) rfl (ltb rfl) rfl rfl<|fun b7 w8 z9 z10 e11 k12=>lp rfl (xa (.bool false) rfl)<|nx<|qi<|wr<|lp rfl (qc Tryz.underlying52 rfl Tryz.sizeOf3 rfl rfl)<|lp rfl (qy Tryz.isAgg3 (Blk.ext k6 e11) rfl rfl)<|lp rfl (qc Tryz.underlying52 rfl Tryz.sizeOf3 rfl rfl)<|lp rfl (qy Tryz.isAgg3 k12 rfl rfl)<|lp rfl (jf rfl rfl)<|nx ?_
 rcases qg H with ⟨q13,H⟩ | ⟨q13,H⟩
 ·refine qn (cb q13)<|wr<|lp rfl (xa (.bool false) rfl)<|nx<|qr<|qo<|qu ?_
  obtain rfl:=si H
  exact qS rfl (e5.t e11)
 ·refine qj (cb q13)<|qp<|qf<|qi<|wr<|lp rfl (qc Tryz.underlying52 rfl Tryz.sizeOf9 rfl rfl)<|lp rfl (qy Tryz.isAgg9 (Blk.ext k6 e11) rfl rfl)<|lp rfl (qc Tryz.underlying52 rfl Tryz.sizeOf9 rfl rfl)<|lp rfl (qy Tryz.isAgg9 k12 rfl rfl)<|lp rfl (j3 rfl rfl)<|nx ?_
  rcases qg H with ⟨q14,H⟩ | ⟨q14,H⟩
  ·refine qn (cb q14)<|wr<|lp rfl (xa (.bool false) rfl)<|nx<|qr<|qo<|qu ?_
   obtain rfl:=si H
   exact qS rfl (e5.t e11)
  ·refine qj (cb q14)<|qp<|qf<|qi<|wr<|lp rfl (qc Tryz.underlying52 rfl Tryz.sizeOf9 rfl rfl)<|lp rfl (qy Tryz.isAgg9 (Blk.ext k6 e11) rfl rfl)<|lp rfl (qc Tryz.underlying52 rfl Tryz.sizeOf9 rfl rfl)<|lp rfl (qy Tryz.isAgg9 k12 rfl rfl)<|lp rfl (j3 rfl rfl)<|nx ?_
   rcases qg H with ⟨q15,H⟩ | ⟨q15,H⟩
   ·refine qn (cb q15)<|wr<|lp rfl (xa (.bool false) rfl)<|nx<|qr<|qo<|qu ?_
    obtain rfl:=si H
    exact qS rfl (e5.t e11)
   ·refine qj (cb q15)<|qp<|qf<|qi<|wr<|lp rfl (qc Tryz.underlying52 rfl Tryz.sizeOf3 rfl rfl)<|lp rfl (qy Tryz.isAgg3 (Blk.ext k6 e11) rfl rfl)<|lp rfl (qc Tryz.underlying52 rfl Tryz.sizeOf3 rfl rfl)<|lp rfl (qy Tryz.isAgg3 k12 rfl rfl)<|lp rfl (jf rfl rfl)<|nx ?_
    rcases qg H with ⟨q16,H⟩ | ⟨q16,H⟩
    ·refine qn (cb q16)<|wr<|lp rfl (xa (.bool false) rfl)<|nx<|qr<|qo<|qu ?_
     obtain rfl:=si H
     exact qS rfl (e5.t e11)
    ·refine qj (cb q16)<|qp<|qf<|qi<|wr<|lp rfl (qc Tryz.underlying52 rfl Tryz.sizeOf4 rfl rfl)<|lp rfl (qy Tryz.isAgg4 (Blk.ext k6 e11) rfl rfl)<|lp rfl (qc Tryz.underlying52 rfl Tryz.sizeOf4 rfl rfl)<|lp rfl (qy Tryz.isAgg4 k12 rfl rfl)<|lp rfl (X_bne Tryz.underlying4 rfl rfl)<|nx ?_
     rcases qg H with ⟨q17,H⟩ | ⟨q17,H⟩
     ·refine qn (cb q17)<|wr<|lp rfl (xa (.bool false) rfl)<|nx<|qr<|qo<|qu ?_
      obtain rfl:=si H
      exact qS rfl (e5.t e11)
     ·refine qj (cb q17)<|qp<|qf<|wr<|lp rfl (xa (.bool true) rfl)<|nx<|qr<|qu ?_
      obtain rfl:=si H
      exact qS rfl (e5.t e11)
/-! laws.eqNode -/
theorem jg.calls {w : World} {a0 : Nd} {a1 : Nd} :
  Calls Tryz.prog 111 #[.agg (qJ a0).toArray,.agg (qJ a1).toArray] w (Rt (RP w (.bool (decide (a0 = a1))))):=by
 have H:=jg.eq a0 a1
 generalize (decide (a0 = a1)) = r at H ⊢
 unfold jg.sh at H
 refine qk Tryz.func111 rfl (Nat.le_of_ble_eq_true rfl) Tryz.ntmps111 rfl ?_
 refine wr<|jm (.plain rfl) rfl (ltb rfl) rfl rfl<|fun b1 w2 z3 z4 e5 k6=>jm (.plain rfl) rfl (ltb rfl) rfl rfl<|fun b7 w8 z9 z10 e11 k12=>lp rfl (xa (.bool false) rfl)<|nx<|qi<|wr<|lp rfl (qc Tryz.underlying91 rfl Tryz.sizeOf3 rfl rfl)<|lp rfl (qy Tryz.isAgg3 (Blk.ext k6 e11) rfl rfl)<|lp rfl (qc Tryz.underlying91 rfl Tryz.sizeOf3 rfl rfl)<|lp rfl (qy Tryz.isAgg3 k12 rfl rfl)<|lp rfl (jf rfl rfl)<|nx ?_
 rcases qg H with ⟨q13,H⟩ | ⟨q13,H⟩
 ·refine qn (cb q13)<|wr<|lp rfl (xa (.bool false) rfl)<|nx<|qr<|qo<|qu ?_
  obtain rfl:=si H
  exact qS rfl (e5.t e11)
 ·refine qj (cb q13)<|qp<|qf<|qi<|wr<|lp rfl (qc Tryz.underlying91 rfl Tryz.sizeOf9 rfl rfl)<|lp rfl (qy Tryz.isAgg9 (Blk.ext k6 e11) rfl rfl)<|lp rfl (qc Tryz.underlying91 rfl Tryz.sizeOf9 rfl rfl)<|lp rfl (qy Tryz.isAgg9 k12 rfl rfl)<|lp rfl (j3 rfl rfl)<|nx ?_
  rcases qg H with ⟨q14,H⟩ | ⟨q14,H⟩
  ·refine qn (cb q14)<|wr<|lp rfl (xa (.bool false) rfl)<|nx<|qr<|qo<|qu ?_
   obtain rfl:=si H
   exact qS rfl (e5.t e11)
  ·refine qj (cb q14)<|qp<|qf<|qi<|wr<|lp rfl (qc Tryz.underlying91 rfl Tryz.sizeOf9 rfl rfl)<|lp rfl (qy Tryz.isAgg9 (Blk.ext k6 e11) rfl rfl)<|lp rfl (qc Tryz.underlying91 rfl Tryz.sizeOf9 rfl rfl)<|lp rfl (qy Tryz.isAgg9 k12 rfl rfl)<|lp rfl (j3 rfl rfl)<|nx ?_
   rcases qg H with ⟨q15,H⟩ | ⟨q15,H⟩
   ·refine qn (cb q15)<|wr<|lp rfl (xa (.bool false) rfl)<|nx<|qr<|qo<|qu ?_
    obtain rfl:=si H
    exact qS rfl (e5.t e11)
   ·refine qj (cb q15)<|qp<|qf<|qi<|wr<|lp rfl (qc Tryz.underlying91 rfl Tryz.sizeOf3 rfl rfl)<|lp rfl (qy Tryz.isAgg3 (Blk.ext k6 e11) rfl rfl)<|lp rfl (qc Tryz.underlying91 rfl Tryz.sizeOf3 rfl rfl)<|lp rfl (qy Tryz.isAgg3 k12 rfl rfl)<|lp rfl (jf rfl rfl)<|nx ?_
    rcases qg H with ⟨q16,H⟩ | ⟨q16,H⟩
    ·refine qn (cb q16)<|wr<|lp rfl (xa (.bool false) rfl)<|nx<|qr<|qo<|qu ?_
     obtain rfl:=si H
     exact qS rfl (e5.t e11)
    ·refine qj (cb q16)<|qp<|qf<|wr<|lp rfl (xa (.bool true) rfl)<|nx<|qr<|qu ?_
     obtain rfl:=si H
     exact qS rfl (e5.t e11)
/-! spec.l01Parent -/
theorem q4.calls {w : World} {a0 : List UInt8} (h0 : a0.length≤4611686018427387904) :
  Calls Tryz.prog 154 #[S a0] w (Rt (RP w (S (qe a0)))):=by
 obtain ⟨k,H⟩:=q4.eq a0 h0
 generalize (qe a0) = r at H ⊢
 unfold q4.sh at H
 refine qk Tryz.func154 rfl (Nat.le_of_ble_eq_true rfl) Tryz.ntmps154 rfl ?_
 refine wr<|lp rfl (xa (S ([] : List UInt8)) rfl)<|nx<|qi<|wr<|lp rfl (xm (S a0) rfl)<|lp rfl (j5 Tryz.underlying9 rfl)<|lp rfl (Yb rfl rfl)<|lp rfl (xa (.int .i64 (IntKind.wrap .i64 ((a0.length : Int) - 1))) rfl)<|nx ?_
 obtain ⟨z2,L3,C4⟩:=bind_some H
 clear H
 refine  vv (fun s0 sQ wQ=>Kp [(2,4),(7,18)] s0 sQ∧Ext w wQ∧z2 = .inr ()) ?_ ?_
 ·refine qB<|vh (fun s0 kk sQ wQ=>∃ (x3_1 : Int),Kp [(2,4),(7,18)] s0 sQ∧sQ 3 = .int .i64 x3_1∧Ext w wQ∧ql (q4.b1 a0) kk x3_1 = some z2) k ⟨IntKind.wrap .i64 ((a0.length : Int) - 1),kz,rfl,er,L3⟩ ?_
  rintro k9 s10 w11 ⟨x3_1,K12,h15,e13,L14⟩
  cases k9 with
  | zero=>exact absurd L14 (by simp [ql])
  | succ k9=>
   obtain ⟨t16,H,S17⟩:=qL L14
   clear L14
   unfold q4.b1 at H
   refine qi<|wr<|lp rfl (qd h15)<|lp rfl (Q2 rfl rfl)<|nx ?_
   rcases qg H with ⟨q18,H⟩ | ⟨q18,H⟩
   ·refine qn (cb q18)<|qp<|qf<|qi<|qB<|wr<|lp rfl (xm (S a0) (K12 0 rfl))<|lp rfl (qd h15) ?_
    obtain ⟨c19,H⟩:=qa H
    refine lp rfl (Qi Tryz.underlying9 rfl rfl (jt c19) (js c19))<|lp rfl (jo rfl rfl)<|nx ?_
    rcases qg H with ⟨q20,H⟩ | ⟨q20,H⟩
    ·refine qn (cb q20)<|wr<|lp rfl (xm (S a0) (K12 0 rfl))<|lp rfl (qd h15) ?_
     obtain ⟨c21,H⟩:=qa H
     refine lp rfl (Yd Tryz.underlying9 rfl (l:=0) (h:=x3_1) rfl ⟨_,rfl⟩ (JJ c21) (Jz c21) (Jy c21))<|lp rfl (xa (S (sub a0 0 x3_1)) rfl)<|nx<|qr<|vl<|qo<|qo<|vl<|qo<|qo<|qu ?_
     obtain rfl:=si H
     obtain rfl:=si S17
     have H:=C4
     obtain rfl:=si H
     exact qS rfl e13
    ·refine qj (cb q20)<|qp<|vM<|qf<|qK<|lp rfl (qd h15)<|lp rfl (Yb rfl rfl)<|lp rfl (xa (.int .i64 (IntKind.wrap .i64 (x3_1 - 1))) rfl)<|nx ?_
     obtain rfl:=si H
     exact ⟨_,Nat.lt_succ_self _,IntKind.wrap .i64 (x3_1 - 1),(ku1 (ku8 K12 rfl) rfl),rfl,e13,S17⟩
   ·refine qj (cb q18)<|vu<|qY<|qY<|vZ<|qf ?_
    obtain rfl:=si H
    obtain rfl:=si S17
    exact ⟨(ku2 K12 rfl),e13,rfl⟩
 ·rintro s6 w5 ⟨K7,e8,y22⟩
  rw [y22] at C4
  have H:=C4
  replace H : _ = some _:=H
  refine qf<|wr<|lp rfl (xa (S ([] : List UInt8)) rfl)<|nx<|qr<|qu ?_
  obtain rfl:=si H
  exact qS rfl e8
/-! impl.parent -/
theorem yr.calls {w : World} {a0 : List UInt8} (h0 : a0.length≤1048576) :
  Calls Tryz.prog 92 #[S a0] w (Rt (RP w (S (qe a0)))):=by
 have H:=yr.eq a0 h0
 generalize (qe a0) = r at H ⊢
 unfold yr.sh at H
 refine qk Tryz.func92 rfl (Nat.le_of_ble_eq_true rfl) Tryz.ntmps92 rfl ?_
 refine wr<|lp rfl (xa (S ([] : List UInt8)) rfl)<|nx<|wr<|lp rfl (xm (S a0) rfl)<|lp rfl (xm (S a0) rfl) ?_
 obtain ⟨c1,H⟩:=qa H
 obtain ⟨c2,H⟩:=qa H
 refine lc rfl rfl Tryz.call159 (V0.calls (w:=w) (a0:=a0) (a1:=([47] : List UInt8)) (od c1) (od c2)) rfl<|fun w3 e4=>lp rfl (X_max rfl rfl) ?_
 obtain ⟨c5,H⟩:=qa H
 refine lp rfl (Yd Tryz.underlying9 rfl (l:=0) (h:=(if ((va a0) < 0 : Prop) then 0 else (va a0))) rfl ⟨_,rfl⟩ (JJ c5) (Jz c5) (Jy c5))<|lp rfl (qz rfl)<|nx<|qr<|qu ?_
 obtain rfl:=si H
 exact qS rfl e4
/-! spec.l03At -/
theorem yf.calls {w : World} {a0 : List Rec} {a1 : List UInt8} {v_a0 : Value} (f_a0 : Rd 5 qv w v_a0 a0) (h0 : a0.length≤1048576) :
  Calls Tryz.prog 162 #[v_a0,S a1] w (Rt (RP w (.int .i64 (yR a0 a1)))):=by
 obtain ⟨k,H⟩:=yf.eq a0 a1 h0
 generalize (yR a0 a1) = r at H ⊢
 unfold yf.sh at H
 refine qk Tryz.func162 rfl (Nat.le_of_ble_eq_true rfl) Tryz.ntmps162 rfl ?_
 refine wr<|lp rfl (xa (.int .i64 0) rfl)<|nx<|qi<|wr<|lp rfl (xa (.int .i64 0) rfl)<|nx ?_
 obtain ⟨z2,L3,C4⟩:=bind_some H
 clear H
 refine  vv (fun s0 sQ wQ=>Kp [(4,20)] s0 sQ∧Ext w wQ∧z2 = .inr ()) ?_ ?_
 ·refine qB<|vh (fun s0 kk sQ wQ=>∃ (x5_1 : Int),Kp [(4,20)] s0 sQ∧sQ 5 = .int .i64 x5_1∧Ext w wQ∧ql (yf.b1 a0 a1) kk x5_1 = some z2) k ⟨0,kz,rfl,er,L3⟩ ?_
  rintro k9 s10 w11 ⟨x5_1,K12,h15,e13,L14⟩
  cases k9 with
  | zero=>exact absurd L14 (by simp [ql])
  | succ k9=>
   obtain ⟨t16,H,S17⟩:=qL L14
   clear L14
   unfold yf.b1 at H
   refine qi<|wr<|lp rfl (qd h15)<|lp rfl (xm v_a0 (K12 0 rfl))<|lp rfl (vc Tryz.underlying35 rfl (Rd.ext f_a0 e13))<|lp rfl (vw rfl rfl)<|nx ?_
   rcases qg H with ⟨q18,H⟩ | ⟨q18,H⟩
   ·refine qn (cb q18)<|qp<|qf<|qi<|qB<|wr<|lp rfl (xm v_a0 (K12 0 rfl))<|lp rfl (qd h15) ?_
    obtain ⟨c19,H⟩:=qa H
    refine vo (.plain rfl) rfl (ltb rfl) rfl Tryz.underlying35 Tryz.sizeOf52 rfl (Rd.ext f_a0 e13) rfl c19<|fun p20 h21=>lp rfl (qc Tryz.underlying52 rfl Tryz.sizeOf9 rfl rfl)<|lp rfl (vX Tryz.isAgg9 (j:=1) h21 rfl rfl)<|lp rfl (xm (S a1) (K12 1 rfl))<|lp rfl (VB rfl rfl)<|nx ?_
    rcases qg H with ⟨q22,H⟩ | ⟨q22,H⟩
    ·refine qn (cb q22)<|wr<|lp rfl (qd h15)<|lp rfl (xa (.int .i64 x5_1) rfl)<|nx<|qr<|vl<|qo<|qo<|vl<|qo<|qo<|qu ?_
     obtain rfl:=si H
     obtain rfl:=si S17
     have H:=C4
     obtain rfl:=si H
     exact qS rfl e13
    ·refine qj (cb q22)<|qp<|vM<|qf<|qK<|lp rfl (qd h15)<|lp rfl (vp rfl rfl)<|lp rfl (xa (.int .i64 (IntKind.wrap .i64 (x5_1 + 1))) rfl)<|nx ?_
     obtain rfl:=si H
     exact ⟨_,Nat.lt_succ_self _,IntKind.wrap .i64 (x5_1 + 1),(ku2 (ku4 (ku8 K12 rfl) rfl) rfl),rfl,e13,S17⟩
   ·refine qj (cb q18)<|vu<|qY<|qY<|vZ<|qf ?_
    obtain rfl:=si H
    obtain rfl:=si S17
    exact ⟨(ku4 K12 rfl),e13,rfl⟩
 ·rintro s6 w5 ⟨K7,e8,y23⟩
  rw [y23] at C4
  have H:=C4
  replace H : _ = some _:=H
  refine qf<|wr<|lp rfl (xa (.int .i64 (-1)) rfl)<|nx<|qr<|qu ?_
  obtain rfl:=si H
  exact qS rfl e8
/-! impl.find$1 -/
theorem jC.calls {w : World} {a0 : Rec} {a1 : List UInt8} {b_a1 : Nat} (k_a1 : Blk w b_a1 #[(S a1)] 9) :
  Calls Tryz.prog 139 #[.agg (qv a0).toArray,.pointer (some ⟨b_a1,0,none⟩)] w (Rt (RP w (.bool (decide (a0.path = a1))))):=by
 have H:=jC.eq a0 a1
 generalize (decide (a0.path = a1)) = r at H ⊢
 unfold jC.sh at H
 refine qk Tryz.func139 rfl (Nat.le_of_ble_eq_true rfl) Tryz.ntmps139 rfl ?_
 refine wr<|jm (.plain rfl) rfl (ltb rfl) rfl rfl<|fun b1 w2 z3 z4 e5 k6=>lp rfl (xa (.bool false) rfl)<|nx<|wr<|lp rfl (qc Tryz.underlying52 rfl Tryz.sizeOf9 rfl rfl)<|lp rfl (qy Tryz.isAgg9 k6 rfl rfl)<|lp rfl (qy Tryz.isAgg9 (Blk.ext k_a1 e5) rfl rfl)<|lp rfl (VB rfl rfl)<|lp rfl (xa (.bool (decide (a0.path = a1))) rfl)<|nx<|qr<|qu ?_
 obtain rfl:=si H
 exact qS rfl e5
/-! slices.IndexFunc(()impl.Record,impl.Record) -/
theorem qO.walk {k : Nat} {w : World} {a0 : List Rec} {a1 : Rec→Option Bool} {v_a0 : Value} (f_a0 : Rd 5 qv w v_a0 a0) {v_a1 : Value} (f_a1 : ∀ (x0 : Rec) (r : Bool),a1 x0 = some r→jr Tryz.prog w v_a1 [(.agg (qv x0).toArray)] (.bool r)) (g_a1 : v_a1.cells = #[v_a1]) {r : Int} (H : qO.sh k a0 a1 = some r) :
  Calls Tryz.prog 138 #[v_a0,v_a1] w (Rt (RP w (.int .i64 r))):=by
 unfold qO.sh at H
 refine qk Tryz.func138 rfl (Nat.le_of_ble_eq_true rfl) Tryz.ntmps138 rfl ?_
 refine wr<|lp rfl (xa (.int .i64 0) rfl)<|nx<|qi<|wr<|lp rfl (xm v_a0 rfl)<|lp rfl (vc Tryz.underlying35 rfl f_a0)<|lp rfl (xm (.int .i64 0) rfl)<|nx ?_
 obtain ⟨z2,L3,C4⟩:=bind_some H
 clear H
 refine  vv (fun s0 sQ wQ=>Kp [(4,6),(8,19)] s0 sQ∧Ext w wQ∧z2 = .inr ()) ?_ ?_
 ·refine qB<|vh (fun s0 kk sQ wQ=>∃ (x8_1 : Int),Kp [(4,6),(8,19)] s0 sQ∧sQ 8 = .int .i64 x8_1∧Ext w wQ∧ql (qO.b1 a0 a1) kk x8_1 = some z2) k ⟨0,kz,rfl,er,L3⟩ ?_
  rintro k9 s10 w11 ⟨x8_1,K12,h15,e13,L14⟩
  cases k9 with
  | zero=>exact absurd L14 (by simp [ql])
  | succ k9=>
   obtain ⟨t16,H,S17⟩:=qL L14
   clear L14
   unfold qO.b1 at H
   refine wr<|lp rfl (vw h15 (K12 7 rfl))<|nx<|qi ?_
   rcases qg H with ⟨q18,H⟩ | ⟨q18,H⟩
   ·refine qn (cb q18)<|qp<|qf<|qi<|qB<|wr<|lp rfl (qd h15)<|lp rfl (xa (.int .i64 x8_1) rfl)<|nx<|wr<|lp rfl (xm v_a1 (K12 1 rfl))<|lp rfl (xm v_a0 (K12 0 rfl))<|lp rfl (xm (.int .i64 x8_1) rfl) ?_
    obtain ⟨c19,H⟩:=qa H
    refine vo (.plain rfl) rfl (ltb rfl) rfl Tryz.underlying35 Tryz.sizeOf52 rfl (Rd.ext f_a0 e13) rfl c19<|fun p20 h21=>lp rfl (vK Tryz.isAgg52 Tryz.sizeOf52 rfl rfl h21) ?_
    obtain ⟨z22,x23,H⟩:=bind_some H
    refine YN (.plain rfl) rfl (ltb rfl) rfl rfl (jr.ext (f_a1 _ _ x23) e13) rfl<|fun w24 e25=>nx ?_
    rcases qg H with ⟨q26,H⟩ | ⟨q26,H⟩
    ·refine qn (cb q26)<|wr<|lp rfl (xm (.int .i64 x8_1) rfl)<|lp rfl (xa (.int .i64 x8_1) rfl)<|nx<|qr<|vl<|qo<|qo<|vl<|qo<|qo<|qu ?_
     obtain rfl:=si H
     obtain rfl:=si S17
     have H:=C4
     obtain rfl:=si H
     exact qS rfl (e13.t e25)
    ·refine qj (cb q26)<|qp<|vM<|qf<|qK<|lp rfl (vp h15 rfl)<|lp rfl (xm (.int .i64 (IntKind.wrap .i64 (x8_1 + 1))) rfl)<|nx ?_
     obtain rfl:=si H
     exact ⟨_,Nat.lt_succ_self _,IntKind.wrap .i64 (x8_1 + 1),(ku3 (ku8 K12 rfl) rfl),rfl,(e13.t e25),S17⟩
   ·refine qj (cb q18)<|vu<|qY<|qY<|vZ<|qf ?_
    obtain rfl:=si H
    obtain rfl:=si S17
    exact ⟨(ku1 K12 rfl),e13,rfl⟩
 ·rintro s6 w5 ⟨K7,e8,y27⟩
  rw [y27] at C4
  have H:=C4
  replace H : _ = some _:=H
  refine qf<|wr<|lp rfl (xa (.int .i64 (-1)) rfl)<|nx<|qr<|qu ?_
  obtain rfl:=si H
  exact qS rfl e8
theorem qO.calls {w : World} {a0 : List Rec} {a1 : Rec→Option Bool} {r : Int} {v_a0 : Value} (f_a0 : Rd 5 qv w v_a0 a0) {v_a1 : Value} (f_a1 : ∀ (x0 : Rec) (r : Bool),a1 x0 = some r→jr Tryz.prog w v_a1 [(.agg (qv x0).toArray)] (.bool r)) (g_a1 : v_a1.cells = #[v_a1]) (h0 : a0.length≤4611686018427387904) (H : (QD a1 a0) = some r) :
  Calls Tryz.prog 138 #[v_a0,v_a1] w (Rt (RP w (.int .i64 r))):=by
 obtain ⟨k,h⟩:=qO.eq a0 a1 h0 H
 exact qO.walk f_a0 f_a1 g_a1 h
/-! impl.find -/
theorem jN.calls {w : World} {a0 : List Rec} {a1 : List UInt8} {v_a0 : Value} (f_a0 : Rd 5 qv w v_a0 a0) (h0 : a0.length≤1048576) :
  Calls Tryz.prog 80 #[v_a0,S a1] w (Rt (RP w (.int .i64 (yR a0 a1)))):=by
 have H:=jN.eq a0 a1 h0
 generalize (yR a0 a1) = r at H ⊢
 unfold jN.sh at H
 refine qk Tryz.func80 rfl (Nat.le_of_ble_eq_true rfl) Tryz.ntmps80 rfl ?_
 refine wr<|jm (.plain rfl) rfl (ltb rfl) rfl rfl<|fun b1 w2 z3 z4 e5 k6=>lp rfl (xa (.int .i64 0) rfl)<|nx<|wr<|lp rfl (xm v_a0 rfl)<|lp rfl (QZ (vs:=#[]) (us:=#[.pointer (some ⟨b1,0,none⟩)]) rfl rfl) ?_
 obtain ⟨c11,H⟩:=qa H
 obtain ⟨z12,x13,H⟩:=bind_some H
 refine lc rfl rfl Tryz.call138 (qO.calls (w:=w2) (a0:=a0) (a1:=(fun (x0_ : Rec)=>some (decide (x0_.path = a1)))) (Rd.ext f_a0 e5) (fun x0_ r h=>by have h:=si h; subst h; exact jr.mk Tryz.call139 (by rfl) fun w9 k10=>jC.calls (w:=w9) (a0:=x0_) (a1:=a1) (Blk.ext k6 k10)) rfl (od c11) x13) rfl<|fun w14 e15=>lp rfl (xa (.int .i64 z12) rfl)<|nx<|qr<|qu ?_
 obtain rfl:=si H
 exact qS rfl (e5.t e15)
/-! laws.eqRecordS -/
theorem vf.calls {w : World} {a0 : List Rec} {a1 : List Rec} {v_a0 : Value} (f_a0 : Rd 5 qv w v_a0 a0) {v_a1 : Value} (f_a1 : Rd 5 qv w v_a1 a1) (h0 : a0.length≤4611686018427387904) :
  Calls Tryz.prog 43 #[v_a0,v_a1] w (Rt (RP w (.bool (decide (a0 = a1))))):=by
 obtain ⟨k,H⟩:=vf.eq a0 a1 h0
 generalize (decide (a0 = a1)) = r at H ⊢
 unfold vf.sh at H
 refine qk Tryz.func43 rfl (Nat.le_of_ble_eq_true rfl) Tryz.ntmps43 rfl ?_
 refine wr<|lp rfl (xa (.bool false) rfl)<|nx<|qi<|wr<|lp rfl (xm v_a0 rfl)<|lp rfl (vc Tryz.underlying35 rfl f_a0)<|lp rfl (xm v_a1 rfl)<|lp rfl (vc Tryz.underlying35 rfl f_a1)<|lp rfl (jf rfl rfl)<|nx ?_
 rcases qg H with ⟨q1,H⟩ | ⟨q1,H⟩
 ·refine qn (cb q1)<|wr<|lp rfl (xa (.bool false) rfl)<|nx<|qr<|qo<|qu ?_
  obtain rfl:=si H
  exact qS rfl er
 ·refine qj (cb q1)<|qp<|qf<|qi<|wr<|lp rfl (xa (.int .i64 0) rfl)<|nx ?_
  obtain ⟨z3,L4,C5⟩:=bind_some H
  clear H
  refine  vv (fun s0 sQ wQ=>Kp [(4,6),(11,27)] s0 sQ∧Ext w wQ∧z3 = .inr ()) ?_ ?_
  ·refine qB<|vh (fun s0 kk sQ wQ=>∃ (x5_2 : Int),Kp [(4,6),(11,27)] s0 sQ∧sQ 5 = .int .i64 x5_2∧Ext w wQ∧ql (vf.b1 a0 a1) kk x5_2 = some z3) k ⟨0,kz,rfl,er,L4⟩ ?_
   rintro k10 s11 w12 ⟨x5_2,K13,h16,e14,L15⟩
   cases k10 with
   | zero=>exact absurd L15 (by simp [ql])
   | succ k10=>
    obtain ⟨t17,H,S18⟩:=qL L15
    clear L15
    unfold vf.b1 at H
    refine qi<|wr<|lp rfl (qd h16)<|lp rfl (xm v_a0 (K13 0 rfl))<|lp rfl (vc Tryz.underlying35 rfl (Rd.ext f_a0 e14))<|lp rfl (vw rfl rfl)<|nx ?_
    rcases qg H with ⟨q19,H⟩ | ⟨q19,H⟩
    ·refine qn (cb q19)<|qp<|qf<|qi<|qB<|qi ?_
     obtain ⟨c20,H⟩:=qa H
     obtain ⟨c23,H⟩:=qa H
     refine Jf [LEq v_a0,LEq (.int .i64 x5_2),yW (qv (gt a0 x5_2)),LEq (.agg (qv (gt a0 x5_2)).toArray),LEq v_a1,LEq (.int .i64 x5_2),yW (qv (gt a1 x5_2)),LEq (.agg (qv (gt a1 x5_2)).toArray),LEq (.bool (decide ((gt a0 x5_2) = (gt a1 x5_2)))),LEq (.bool (!(decide ((gt a0 x5_2) = (gt a1 x5_2)))))] (by kernel_rfl) (by kernel_rfl) ⟨qm,qm,yW.mono,qm,qm,qm,yW.mono,qm,qm,qm,trivial⟩ ⟨?_,?_,?_,?_,?_,?_,?_,?_,?_,?_,trivial⟩ ?_
     ·exact fun s x e f d u=>lp rfl (xm v_a0 ((f 0 rfl).trans (K13 0 rfl)))<|se rfl rfl
     ·exact fun s x e f d u=>lp rfl (xm (.int .i64 x5_2) ((f 5 rfl).trans h16))<|se rfl rfl
     ·exact fun s x e f d u=>vo (.plain rfl) rfl (ltb rfl) rfl Tryz.underlying35 Tryz.sizeOf52 (d 0 rfl) (Rd.ext f_a0 (e14.t e)) (d 1 rfl) c20<|fun p29 h30=>se rfl ⟨_,rfl,h30⟩
     ·intro s x e f d u
      obtain ⟨p31,h32,h33⟩:=(d 2 rfl)
      exact lp rfl (vK Tryz.isAgg52 Tryz.sizeOf52 rfl h32 h33)<|se rfl rfl
     ·exact fun s x e f d u=>lp rfl (xm v_a1 ((f 1 rfl).trans (K13 1 rfl)))<|se rfl rfl
     ·exact fun s x e f d u=>lp rfl (xm (.int .i64 x5_2) ((f 5 rfl).trans h16))<|se rfl rfl
     ·exact fun s x e f d u=>vo (.plain rfl) rfl (ltb rfl) rfl Tryz.underlying35 Tryz.sizeOf52 (d 4 rfl) (Rd.ext f_a1 (e14.t e)) (d 5 rfl) c23<|fun p35 h36=>se rfl ⟨_,rfl,h36⟩
     ·intro s x e f d u
      obtain ⟨p37,h38,h39⟩:=(d 6 rfl)
      exact lp rfl (vK Tryz.isAgg52 Tryz.sizeOf52 rfl h38 h39)<|se rfl rfl
     ·exact fun s x e f d u=>lc rfl rfl Tryz.call110 (yN.calls (w:=x) (a0:=gt a0 x5_2) (a1:=gt a1 x5_2)) (ya (d 3 rfl) (ya (d 7 rfl) rfl))<|fun w40 e41=>sx rfl e41 rfl
     ·exact fun s x e f d u=>lp rfl (yG (d 8 rfl))<|se rfl rfl
     intro s42 w43 e44 hf45 ha46
     have K47:=Kp.ofD (kp:=[(17,27)]) rfl hf45
     have d48 : s42 26 = (.bool (!(decide ((gt a0 x5_2) = (gt a1 x5_2))))):=ha46 9 rfl
     clear ha46 hf45
     refine qf ?_
     rcases qg H with ⟨q49,H⟩ | ⟨q49,H⟩
     ·refine qn (d48.trans (cb q49))<|wr<|lp rfl (xa (.bool false) rfl)<|nx<|qr<|vl<|qo<|qo<|vl<|qo<|qo<|qu ?_
      obtain rfl:=si H
      obtain rfl:=si S18
      have H:=C5
      obtain rfl:=si H
      exact qS rfl (e14.t e44)
     ·refine qj (d48.trans (cb q49))<|qp<|vM<|qf<|qK<|lp rfl (xm (.int .i64 x5_2) ((K47 5 rfl).trans h16))<|lp rfl (vp rfl rfl)<|lp rfl (xa (.int .i64 (IntKind.wrap .i64 (x5_2 + 1))) rfl)<|nx ?_
      obtain rfl:=si H
      exact ⟨_,Nat.lt_succ_self _,IntKind.wrap .i64 (x5_2 + 1),(ku3 (Kp.cut (ku4 K13 rfl) K47 rfl) rfl),rfl,(e14.t e44),S18⟩
    ·refine qj (cb q19)<|vu<|qY<|qY<|vZ<|qf ?_
     obtain rfl:=si H
     obtain rfl:=si S18
     exact ⟨(ku4 K13 rfl),e14,rfl⟩
  ·rintro s7 w6 ⟨K8,e9,y50⟩
   rw [y50] at C5
   have H:=C5
   replace H : _ = some _:=H
   refine qf<|wr<|lp rfl (xa (.bool true) rfl)<|nx<|qr<|qu ?_
   obtain rfl:=si H
   exact qS rfl e9
/-! laws.szNode -/
theorem jn.calls {w : World} {a0 : Nd} {a1 : Int} (h0 : (0 : Int)≤a1) (h1 : (a1 : Int)≤1048576) (h2 : a0.path.length≤9223372036854775807) (h3 : a0.body.length≤9223372036854775807) :
  Calls Tryz.prog 104 #[.agg (qJ a0).toArray,.int .i64 a1] w (Rt (RP w (.int .i64 (QF a0 a1)))):=by
 have H:=jn.eq a0 a1 h0 h1 h2 h3
 generalize (QF a0 a1) = r at H ⊢
 unfold jn.sh at H
 refine qk Tryz.func104 rfl (Nat.le_of_ble_eq_true rfl) Tryz.ntmps104 rfl ?_
 refine wr<|jm (.plain rfl) rfl (ltb rfl) rfl rfl<|fun b1 w2 z3 z4 e5 k6=>lp rfl (xa (.int .i64 0) rfl)<|nx<|wr<|lp rfl (xm (.int .i64 a1) rfl)<|lp rfl (qc Tryz.underlying118 rfl Tryz.sizeOf9 rfl rfl)<|lp rfl (qy Tryz.isAgg9 k6 rfl rfl)<|lp rfl (j5 Tryz.underlying9 rfl)<|lp rfl (Yb rfl rfl)<|lp rfl (xa (.int .i64 (IntKind.wrap .i64 (a1 - (a0.path.length : Int)))) rfl)<|nx<|qi<|wr<|lp rfl (xm (.int .i64 (IntKind.wrap .i64 (a1 - (a0.path.length : Int)))) rfl)<|lp rfl (vw rfl rfl)<|nx ?_
 rcases qg H with ⟨q7,H⟩ | ⟨q7,H⟩
 ·refine qn (cb q7)<|wr<|lp rfl (xa (.int .i64 (-1)) rfl)<|nx<|qr<|qo<|qu ?_
  obtain rfl:=si H
  exact qS rfl e5
 ·refine qj (cb q7)<|qp<|qf<|wr<|lp rfl (xm (.int .i64 (IntKind.wrap .i64 (a1 - (a0.path.length : Int)))) rfl)<|lp rfl (qc Tryz.underlying118 rfl Tryz.sizeOf9 rfl rfl)<|lp rfl (qy Tryz.isAgg9 k6 rfl rfl)<|lp rfl (j5 Tryz.underlying9 rfl)<|lp rfl (Yb rfl rfl)<|lp rfl (qz rfl)<|nx<|qi<|wr<|lp rfl (qd rfl)<|lp rfl (vw rfl rfl)<|nx ?_
  rcases qg H with ⟨q8,H⟩ | ⟨q8,H⟩
  ·refine qn (cb q8)<|wr<|lp rfl (xa (.int .i64 (-1)) rfl)<|nx<|qr<|qo<|qu ?_
   obtain rfl:=si H
   exact qS rfl e5
  ·refine qj (cb q8)<|qp<|qf<|wr<|lp rfl (qd rfl)<|lp rfl (qz rfl)<|nx<|qr<|qu ?_
   obtain rfl:=si H
   exact qS rfl e5
/-! laws.toNode -/
theorem yK.walk {w : World} {a0 : Nd} {r : Nd} (H : yK.sh a0 = some r) :
  Calls Tryz.prog 107 #[.agg (qJ a0).toArray] w (Rt (RP w (.agg (qJ r).toArray))):=by
 unfold yK.sh at H
 refine Qz Tryz.func107 rfl (Nat.le_of_ble_eq_true rfl) Tryz.ntmps107 ?_
 refine wr<|jm (.plain rfl) rfl (ltb rfl) rfl rfl<|fun b1 w2 z3 z4 e5 k6=>jK (.plain rfl) rfl (ltb rfl) rfl Tryz.zeroValue91<|fun b7 w8 z9 z10 e11 k12=>nx<|wr<|jK (.plain rfl) rfl (ltb rfl) rfl Tryz.zeroValue91<|fun b13 w14 z15 z16 e17 k18=>nx<|wr<|lp rfl (qc Tryz.underlying118 rfl Tryz.sizeOf3 rfl rfl)<|lp rfl (qy Tryz.isAgg3 (Blk.ext k6 (e11.t e17)) rfl rfl)<|lp rfl (qc Tryz.underlying91 rfl Tryz.sizeOf3 rfl rfl)<|QN (.plain rfl) rfl rfl Tryz.sizeOf3 rfl rfl rfl k18 (ltb rfl)<|fun w19 h20 k21=>nx<|wr<|lp rfl (qc Tryz.underlying118 rfl Tryz.sizeOf9 rfl rfl)<|lp rfl (qy Tryz.isAgg9 (Blk.ext k6 (e11.t (Below.trans e17 (Wr.below h20 (Nat.le_of_eq z15))))) rfl rfl)<|lp rfl (qc Tryz.underlying91 rfl Tryz.sizeOf9 rfl rfl)<|QN (.plain rfl) rfl rfl Tryz.sizeOf9 rfl rfl rfl k21 (ltb rfl)<|fun w22 h23 k24=>nx<|wr<|lp rfl (qc Tryz.underlying118 rfl Tryz.sizeOf9 rfl rfl)<|lp rfl (qy Tryz.isAgg9 (Blk.ext k6 (e11.t (Below.trans (Below.trans e17 (Wr.below h20 (Nat.le_of_eq z15))) (Wr.below h23 (Nat.le_of_eq z15))))) rfl rfl)<|lp rfl (qc Tryz.underlying91 rfl Tryz.sizeOf9 rfl rfl)<|QN (.plain rfl) rfl rfl Tryz.sizeOf9 rfl rfl rfl k24 (ltb rfl)<|fun w25 h26 k27=>nx<|wr<|lp rfl (qc Tryz.underlying118 rfl Tryz.sizeOf3 rfl rfl)<|lp rfl (qy Tryz.isAgg3 (Blk.ext k6 (e11.t (Below.trans (Below.trans (Below.trans e17 (Wr.below h20 (Nat.le_of_eq z15))) (Wr.below h23 (Nat.le_of_eq z15))) (Wr.below h26 (Nat.le_of_eq z15))))) rfl rfl)<|lp rfl (qc Tryz.underlying91 rfl Tryz.sizeOf3 rfl rfl)<|QN (.plain rfl) rfl rfl Tryz.sizeOf3 rfl rfl rfl k27 (ltb rfl)<|fun w28 h29 k30=>nx<|wr<|lp rfl (vK Tryz.isAgg91 Tryz.sizeOf91 rfl rfl (Blk.at0 k30))<|ji (.plain rfl) rfl rfl Tryz.sizeOf91 rfl rfl rfl rfl rfl (Blk.ext k12 (Below.trans (Below.trans (Below.trans (Below.trans e17 (Wr.below h20 (Nat.le_of_eq z15))) (Wr.below h23 (Nat.le_of_eq z15))) (Wr.below h26 (Nat.le_of_eq z15))) (Wr.below h29 (Nat.le_of_eq z15))))<|fun w31 h32 k33=>nx<|qr<|Jk ?_
 obtain rfl:=si H
 exact Gy rfl rfl k33 Tryz.isAgg91 Tryz.sizeOf91 rfl (e5.t (Below.trans (e11.t (Below.trans (Below.trans (Below.trans (Below.trans e17 (Wr.below h20 (Nat.le_of_eq z15))) (Wr.below h23 (Nat.le_of_eq z15))) (Wr.below h26 (Nat.le_of_eq z15))) (Wr.below h29 (Nat.le_of_eq z15)))) (Wr.below h32 (Nat.le_of_eq z9))))
theorem yK.calls {w : World} {a0 : Nd} :
  Calls Tryz.prog 107 #[.agg (qJ a0).toArray] w (Rt (RP w (.agg (qJ a0).toArray))):=yK.walk (yK.eq a0)
/-! laws.szNodeS -/
theorem vB.calls {w : World} {a0 : List Nd} {a1 : Int} {v_a0 : Value} (f_a0 : Rd 4 qJ w v_a0 a0) (h0 : (0 : Int)≤a1) (h1 : (a1 : Int)≤1048576) (h2 : a0.length≤9223372036854775807) (h3 : ∀ x ∈ a0,YG x) :
  Calls Tryz.prog 39 #[v_a0,.int .i64 a1] w (Rt (RP w (.int .i64 (yX a0 a1)))):=by
 obtain ⟨k,H⟩:=vB.eq a0 a1 h0 h1 h2 h3
 generalize (yX a0 a1) = r at H ⊢
 unfold vB.sh at H
 refine qk Tryz.func39 rfl (Nat.le_of_ble_eq_true rfl) Tryz.ntmps39 rfl ?_
 refine wr<|lp rfl (xa (.int .i64 0) rfl)<|nx<|wr<|lp rfl (xm (.int .i64 a1) rfl)<|lp rfl (xm v_a0 rfl)<|lp rfl (vc Tryz.underlying62 rfl f_a0)<|lp rfl (Yb rfl rfl)<|lp rfl (xa (.int .i64 (IntKind.wrap .i64 (a1 - (a0.length : Int)))) rfl)<|nx<|qi<|wr<|lp rfl (xm (.int .i64 (IntKind.wrap .i64 (a1 - (a0.length : Int)))) rfl)<|lp rfl (vw rfl rfl)<|nx ?_
 rcases qg H with ⟨q1,H⟩ | ⟨q1,H⟩
 ·refine qn (cb q1)<|wr<|lp rfl (xa (.int .i64 (-1)) rfl)<|nx<|qr<|qo<|qu ?_
  obtain rfl:=si H
  exact qS rfl er
 ·refine qj (cb q1)<|qp<|qf<|qi<|wr<|lp rfl (xa (.int .i64 0) rfl)<|nx ?_
  obtain ⟨z4,L5,C6⟩:=bind_some H
  clear H
  refine  vv (fun s0 sQ wQ=>∃ (x1_7 : Int),Kp [(1,2),(4,6),(12,26)] s0 sQ∧sQ 1 = .int .i64 x1_7∧Ext w wQ∧z4 = .inr x1_7) ?_ ?_
  ·refine qB<|vh (fun s0 kk sQ wQ=>∃ (x1_2 : Int) (x5_3 : Int),Kp [(1,2),(4,6),(12,26)] s0 sQ∧sQ 1 = .int .i64 x1_2∧sQ 5 = .int .i64 x5_3∧Ext w wQ∧ql (vB.b1 a0) kk (x1_2,x5_3) = some z4) k ⟨IntKind.wrap .i64 (a1 - (a0.length : Int)),0,kz,rfl,rfl,er,L5⟩ ?_
   rintro k12 s13 w14 ⟨x1_2,x5_3,K15,h18,h19,e16,L17⟩
   cases k12 with
   | zero=>exact absurd L17 (by simp [ql])
   | succ k12=>
    obtain ⟨t20,H,S21⟩:=qL L17
    clear L17
    unfold vB.b1 at H
    refine qi<|wr<|lp rfl (qd h19)<|lp rfl (xm v_a0 (K15 0 rfl))<|lp rfl (vc Tryz.underlying62 rfl (Rd.ext f_a0 e16))<|lp rfl (vw rfl rfl)<|nx ?_
    rcases qg H with ⟨q22,H⟩ | ⟨q22,H⟩
    ·refine qn (cb q22)<|qp<|qf<|qi<|qB<|wr<|lp rfl (xm v_a0 (K15 0 rfl))<|lp rfl (qd h19) ?_
     obtain ⟨c23,H⟩:=qa H
     refine vo (.plain rfl) rfl (ltb rfl) rfl Tryz.underlying62 Tryz.sizeOf118 rfl (Rd.ext f_a0 e16) rfl c23<|fun p24 h25=>lp rfl (vK Tryz.isAgg118 Tryz.sizeOf118 rfl rfl h25)<|lp rfl (qd h18) ?_
     obtain ⟨c26,H⟩:=qa H
     obtain ⟨c27,H⟩:=qa H
     obtain ⟨c28,H⟩:=qa H
     obtain ⟨c29,H⟩:=qa H
     refine lc rfl rfl Tryz.call104 (jn.calls (w:=w14) (a0:=gt a0 x5_3) (a1:=x1_2) (od c26) (od c27) (od c28) (od c29)) rfl<|fun w30 e31=>lp rfl (xa (.int .i64 (QF (gt a0 x5_3) x1_2)) rfl)<|nx<|wr<|lp rfl (xm (.int .i64 (QF (gt a0 x5_3) x1_2)) rfl)<|lp rfl (vw rfl rfl)<|nx ?_
     rcases qg H with ⟨q32,H⟩ | ⟨q32,H⟩
     ·refine qn (cb q32)<|wr<|lp rfl (xa (.int .i64 (-1)) rfl)<|nx<|qr<|vl<|qo<|qo<|vl<|qo<|qo<|qu ?_
      obtain rfl:=si H
      obtain rfl:=si S21
      have H:=C6
      obtain rfl:=si H
      exact qS rfl (e16.t e31)
     ·refine qj (cb q32)<|qp<|vM<|qf<|qK<|lp rfl (qd h19)<|lp rfl (vp rfl rfl)<|lp rfl (xa (.int .i64 (IntKind.wrap .i64 (x5_3 + 1))) rfl)<|nx ?_
      obtain rfl:=si H
      exact ⟨_,Nat.lt_succ_self _,(QF (gt a0 x5_3) x1_2),IntKind.wrap .i64 (x5_3 + 1),(ku8 (ku8 K15 rfl) rfl),rfl,rfl,(e16.t e31),S21⟩
    ·refine qj (cb q22)<|vu<|qY<|qY<|vZ<|qf ?_
     obtain rfl:=si H
     obtain rfl:=si S21
     exact ⟨x1_2,(ku4 K15 rfl),h18,e16,rfl⟩
  ·rintro s9 w8 ⟨x1_7,K10,h33,e11,y34⟩
   rw [y34] at C6
   have H:=C6
   replace H : _ = some _:=H
   refine qf<|wr<|lp rfl (qd h33)<|lp rfl (xa (.int .i64 x1_7) rfl)<|nx<|qr<|qu ?_
   obtain rfl:=si H
   exact qS rfl e11
/-! laws.toNodeS -/
theorem qV.walk {k : Nat} {w : World} {a0 : List Nd} {v_a0 : Value} (f_a0 : Rd 4 qJ w v_a0 a0) {r : List Nd} (H : qV.sh k a0 = some r) :
  Calls Tryz.prog 41 #[v_a0] w (Rt (RO 91 4 qJ w r)):=by
 unfold qV.sh at H
 refine qk Tryz.func41 rfl (Nat.le_of_ble_eq_true rfl) Tryz.ntmps41 rfl ?_
 refine wr<|lp rfl (xa (.slice none 0 0) rfl)<|nx<|wr<|lp rfl (xm v_a0 rfl)<|lp rfl (vc Tryz.underlying62 rfl f_a0) ?_
 obtain ⟨c1,H⟩:=qa H
 refine L_make (enc:=qJ) (zr:=(⟨0,[],[],0⟩ : Nd)) (n:=a0.length) (.plain rfl) rfl (ltb rfl) rfl El.t29 rfl rfl rfl (od c1) (Nat.le_refl _)<|fun b2 w3 z4 z5 e6 o7=>lp rfl (xa (.slice (some ⟨b2,0,none⟩) a0.length a0.length) rfl)<|nx<|qi<|wr<|lp rfl (xa (.int .i64 0) rfl)<|nx ?_
 obtain ⟨z10,L11,C12⟩:=bind_some H
 clear H
 refine  vv (fun s0 sQ wQ=>∃ (y13 : List Nd),Kp [(4,5),(8,22)] s0 sQ∧Ow 91 4 qJ w.heap.size wQ (.slice (some ⟨b2,0,none⟩) a0.length a0.length) y13∧Ext w wQ∧z10 = .inr y13) ?_ ?_
 ·refine qB<|vh (fun s0 kk sQ wQ=>∃ (x4_8 : Int) (y9 : List Nd),Kp [(4,5),(8,22)] s0 sQ∧sQ 4 = .int .i64 x4_8∧Ow 91 4 qJ w.heap.size wQ (.slice (some ⟨b2,0,none⟩) a0.length a0.length) y9∧Ext w wQ∧ql (qV.b1 a0) kk (x4_8,y9) = some z10) k ⟨0,List.replicate a0.length (⟨0,[],[],0⟩ : Nd),kz,rfl,o7,e6,L11⟩ ?_
  rintro k18 s19 w20 ⟨x4_8,y9,K21,h24,h25,e22,L23⟩
  cases k18 with
  | zero=>exact absurd L23 (by simp [ql])
  | succ k18=>
   obtain ⟨t26,H,S27⟩:=qL L23
   clear L23
   unfold qV.b1 at H
   refine qi<|wr<|lp rfl (qd h24)<|lp rfl (xm v_a0 (K21 0 rfl))<|lp rfl (vc Tryz.underlying62 rfl (Rd.ext f_a0 e22))<|lp rfl (vw rfl rfl)<|nx ?_
   rcases qg H with ⟨q28,H⟩ | ⟨q28,H⟩
   ·refine qn (cb q28)<|qp<|qf<|qi<|qB<|qK<|lp rfl (xm (.slice (some ⟨b2,0,none⟩) a0.length a0.length) (K21 3 rfl))<|lp rfl (qd h24)<|lp rfl (xm v_a0 (K21 0 rfl))<|lp rfl (qd h24) ?_
    obtain ⟨c29,H⟩:=qa H
    refine vo (.plain rfl) rfl (ltb rfl) rfl Tryz.underlying62 Tryz.sizeOf118 rfl (Rd.ext f_a0 e22) rfl c29<|fun p30 h31=>lp rfl (vK Tryz.isAgg118 Tryz.sizeOf118 rfl rfl h31)<|lc rfl rfl Tryz.call107 (yK.calls (w:=w20) (a0:=gt a0 x4_8)) rfl<|fun w32 e33=>?_
    obtain ⟨c36,H⟩:=qa H
    refine QB (.plain rfl) rfl (ltb rfl) rfl Tryz.underlying29 Tryz.sizeOf91 rfl (Ow.ext h25 e33) rfl c36<|fun p34 h35=>V3 (a:=(gt a0 x4_8)) (vs:=[(.int .i64 ((gt a0 x4_8).kind)),(S ((gt a0 x4_8).path)),(S ((gt a0 x4_8).body)),(.int .i64 ((gt a0 x4_8).mode))]) (off:=0) (.plain rfl) rfl rfl Tryz.sizeOf91 rfl h35 rfl rfl rfl rfl rfl rfl<|fun b37 w38 h39 h40 h41 o42=>qZ<|vM<|qf<|qK<|lp rfl (qd h24)<|lp rfl (vp rfl rfl)<|lp rfl (xa (.int .i64 (IntKind.wrap .i64 (x4_8 + 1))) rfl)<|nx ?_
    obtain rfl:=si H
    exact ⟨_,Nat.lt_succ_self _,IntKind.wrap .i64 (x4_8 + 1),j4 y9 x4_8 (gt a0 x4_8),(ku3 (ku4 (ku8 K21 rfl) rfl) rfl),rfl,o42,(Ext.wr (e22.t e33) h41 h40 (Nat.le_refl _)),S27⟩
   ·refine qj (cb q28)<|vu<|qY<|qY<|vZ<|qf ?_
    obtain rfl:=si H
    obtain rfl:=si S27
    exact ⟨y9,(ku4 K21 rfl),h25,e22,rfl⟩
 ·rintro s15 w14 ⟨y13,K16,h43,e17,y44⟩
  rw [y44] at C12
  have H:=C12
  replace H : _ = some _:=H
  refine qf<|wr<|lp rfl (xm (.slice (some ⟨b2,0,none⟩) a0.length a0.length) (K16 3 rfl))<|lp rfl (xa (.slice (some ⟨b2,0,none⟩) a0.length a0.length) rfl)<|nx<|qr<|qu ?_
  obtain rfl:=si H
  exact Q3 rfl e17 h43 (er).size
theorem qV.calls {w : World} {a0 : List Nd} {v_a0 : Value} (f_a0 : Rd 4 qJ w v_a0 a0) (h0 : a0.length≤1048576) :
  Calls Tryz.prog 41 #[v_a0] w (Rt (RO 91 4 qJ w a0)):=by
 obtain ⟨k,h⟩:=qV.eq a0 h0
 exact qV.walk f_a0 h
/-! laws.eqNodeS -/
theorem vA.calls {w : World} {a0 : List Nd} {a1 : List Nd} {v_a0 : Value} (f_a0 : Rd 4 qJ w v_a0 a0) {v_a1 : Value} (f_a1 : Rd 4 qJ w v_a1 a1) (h0 : a0.length≤4611686018427387904) :
  Calls Tryz.prog 44 #[v_a0,v_a1] w (Rt (RP w (.bool (decide (a0 = a1))))):=by
 obtain ⟨k,H⟩:=vA.eq a0 a1 h0
 generalize (decide (a0 = a1)) = r at H ⊢
 unfold vA.sh at H
 refine qk Tryz.func44 rfl (Nat.le_of_ble_eq_true rfl) Tryz.ntmps44 rfl ?_
 refine wr<|lp rfl (xa (.bool false) rfl)<|nx<|qi<|wr<|lp rfl (xm v_a0 rfl)<|lp rfl (vc Tryz.underlying29 rfl f_a0)<|lp rfl (xm v_a1 rfl)<|lp rfl (vc Tryz.underlying29 rfl f_a1)<|lp rfl (jf rfl rfl)<|nx ?_
 rcases qg H with ⟨q1,H⟩ | ⟨q1,H⟩
 ·refine qn (cb q1)<|wr<|lp rfl (xa (.bool false) rfl)<|nx<|qr<|qo<|qu ?_
  obtain rfl:=si H
  exact qS rfl er
 ·refine qj (cb q1)<|qp<|qf<|qi<|wr<|lp rfl (xa (.int .i64 0) rfl)<|nx ?_
  obtain ⟨z3,L4,C5⟩:=bind_some H
  clear H
  refine  vv (fun s0 sQ wQ=>Kp [(4,6),(11,27)] s0 sQ∧Ext w wQ∧z3 = .inr ()) ?_ ?_
  ·refine qB<|vh (fun s0 kk sQ wQ=>∃ (x5_2 : Int),Kp [(4,6),(11,27)] s0 sQ∧sQ 5 = .int .i64 x5_2∧Ext w wQ∧ql (vA.b1 a0 a1) kk x5_2 = some z3) k ⟨0,kz,rfl,er,L4⟩ ?_
   rintro k10 s11 w12 ⟨x5_2,K13,h16,e14,L15⟩
   cases k10 with
   | zero=>exact absurd L15 (by simp [ql])
   | succ k10=>
    obtain ⟨t17,H,S18⟩:=qL L15
    clear L15
    unfold vA.b1 at H
    refine qi<|wr<|lp rfl (qd h16)<|lp rfl (xm v_a0 (K13 0 rfl))<|lp rfl (vc Tryz.underlying29 rfl (Rd.ext f_a0 e14))<|lp rfl (vw rfl rfl)<|nx ?_
    rcases qg H with ⟨q19,H⟩ | ⟨q19,H⟩
    ·refine qn (cb q19)<|qp<|qf<|qi<|qB<|qi ?_
     obtain ⟨c20,H⟩:=qa H
     obtain ⟨c23,H⟩:=qa H
     refine Jf [LEq v_a0,LEq (.int .i64 x5_2),yW (qJ (gt a0 x5_2)),LEq (.agg (qJ (gt a0 x5_2)).toArray),LEq v_a1,LEq (.int .i64 x5_2),yW (qJ (gt a1 x5_2)),LEq (.agg (qJ (gt a1 x5_2)).toArray),LEq (.bool (decide ((gt a0 x5_2) = (gt a1 x5_2)))),LEq (.bool (!(decide ((gt a0 x5_2) = (gt a1 x5_2)))))] (by kernel_rfl) (by kernel_rfl) ⟨qm,qm,yW.mono,qm,qm,qm,yW.mono,qm,qm,qm,trivial⟩ ⟨?_,?_,?_,?_,?_,?_,?_,?_,?_,?_,trivial⟩ ?_
     ·exact fun s x e f d u=>lp rfl (xm v_a0 ((f 0 rfl).trans (K13 0 rfl)))<|se rfl rfl
     ·exact fun s x e f d u=>lp rfl (xm (.int .i64 x5_2) ((f 5 rfl).trans h16))<|se rfl rfl
     ·exact fun s x e f d u=>vo (.plain rfl) rfl (ltb rfl) rfl Tryz.underlying29 Tryz.sizeOf91 (d 0 rfl) (Rd.ext f_a0 (e14.t e)) (d 1 rfl) c20<|fun p29 h30=>se rfl ⟨_,rfl,h30⟩
     ·intro s x e f d u
      obtain ⟨p31,h32,h33⟩:=(d 2 rfl)
      exact lp rfl (vK Tryz.isAgg91 Tryz.sizeOf91 rfl h32 h33)<|se rfl rfl
     ·exact fun s x e f d u=>lp rfl (xm v_a1 ((f 1 rfl).trans (K13 1 rfl)))<|se rfl rfl
     ·exact fun s x e f d u=>lp rfl (xm (.int .i64 x5_2) ((f 5 rfl).trans h16))<|se rfl rfl
     ·exact fun s x e f d u=>vo (.plain rfl) rfl (ltb rfl) rfl Tryz.underlying29 Tryz.sizeOf91 (d 4 rfl) (Rd.ext f_a1 (e14.t e)) (d 5 rfl) c23<|fun p35 h36=>se rfl ⟨_,rfl,h36⟩
     ·intro s x e f d u
      obtain ⟨p37,h38,h39⟩:=(d 6 rfl)
      exact lp rfl (vK Tryz.isAgg91 Tryz.sizeOf91 rfl h38 h39)<|se rfl rfl
     ·exact fun s x e f d u=>lc rfl rfl Tryz.call111 (jg.calls (w:=x) (a0:=gt a0 x5_2) (a1:=gt a1 x5_2)) (ya (d 3 rfl) (ya (d 7 rfl) rfl))<|fun w40 e41=>sx rfl e41 rfl
     ·exact fun s x e f d u=>lp rfl (yG (d 8 rfl))<|se rfl rfl
     intro s42 w43 e44 hf45 ha46
     have K47:=Kp.ofD (kp:=[(17,27)]) rfl hf45
     have d48 : s42 26 = (.bool (!(decide ((gt a0 x5_2) = (gt a1 x5_2))))):=ha46 9 rfl
     clear ha46 hf45
     refine qf ?_
     rcases qg H with ⟨q49,H⟩ | ⟨q49,H⟩
     ·refine qn (d48.trans (cb q49))<|wr<|lp rfl (xa (.bool false) rfl)<|nx<|qr<|vl<|qo<|qo<|vl<|qo<|qo<|qu ?_
      obtain rfl:=si H
      obtain rfl:=si S18
      have H:=C5
      obtain rfl:=si H
      exact qS rfl (e14.t e44)
     ·refine qj (d48.trans (cb q49))<|qp<|vM<|qf<|qK<|lp rfl (xm (.int .i64 x5_2) ((K47 5 rfl).trans h16))<|lp rfl (vp rfl rfl)<|lp rfl (xa (.int .i64 (IntKind.wrap .i64 (x5_2 + 1))) rfl)<|nx ?_
      obtain rfl:=si H
      exact ⟨_,Nat.lt_succ_self _,IntKind.wrap .i64 (x5_2 + 1),(ku3 (Kp.cut (ku4 K13 rfl) K47 rfl) rfl),rfl,(e14.t e44),S18⟩
    ·refine qj (cb q19)<|vu<|qY<|qY<|vZ<|qf ?_
     obtain rfl:=si H
     obtain rfl:=si S18
     exact ⟨(ku4 K13 rfl),e14,rfl⟩
  ·rintro s7 w6 ⟨K8,e9,y50⟩
   rw [y50] at C5
   have H:=C5
   replace H : _ = some _:=H
   refine qf<|wr<|lp rfl (xa (.bool true) rfl)<|nx<|qr<|qu ?_
   obtain rfl:=si H
   exact qS rfl e9
/-! spec.l04Record -/
theorem yy.calls {w : World} {a0 : Nd} :
  Calls Tryz.prog 152 #[.agg (qJ a0).toArray] w (Rt (RP w (.agg (qv (qM a0)).toArray))):=by
 have H:=yy.eq a0
 generalize (qM a0) = r at H ⊢
 unfold yy.sh at H
 refine Qz Tryz.func152 rfl (Nat.le_of_ble_eq_true rfl) Tryz.ntmps152 ?_
 refine wr<|jm (.plain rfl) rfl (ltb rfl) rfl rfl<|fun b1 w2 z3 z4 e5 k6=>jK (.plain rfl) rfl (ltb rfl) rfl Tryz.zeroValue52<|fun b7 w8 z9 z10 e11 k12=>nx<|wr<|lp rfl (qc Tryz.underlying91 rfl Tryz.sizeOf3 rfl rfl)<|lp rfl (qy Tryz.isAgg3 (Blk.ext k6 e11) rfl rfl)<|lp rfl (qc Tryz.underlying91 rfl Tryz.sizeOf9 rfl rfl)<|lp rfl (qy Tryz.isAgg9 (Blk.ext k6 e11) rfl rfl)<|lp rfl (qc Tryz.underlying91 rfl Tryz.sizeOf9 rfl rfl)<|lp rfl (qy Tryz.isAgg9 (Blk.ext k6 e11) rfl rfl)<|lp rfl (qc Tryz.underlying91 rfl Tryz.sizeOf3 rfl rfl)<|lp rfl (qy Tryz.isAgg3 (Blk.ext k6 e11) rfl rfl)<|lp rfl (Vk (vs:=[(0,(.int .i64 a0.kind)),(1,(S a0.path)),(2,(S a0.body)),(3,(.int .i64 a0.mode))]) (pl:=#[(0,1),(1,1),(2,1),(3,1),(4,1)]) Tryz.underlying52 Tryz.zeroValue52 rfl (fun _=>by kernel_rfl) rfl rfl rfl)<|ji (.plain rfl) rfl rfl Tryz.sizeOf52 rfl rfl rfl rfl rfl k12<|fun w13 h14 k15=>nx<|qr<|Jk ?_
 obtain rfl:=si H
 exact Gy rfl rfl k15 Tryz.isAgg52 Tryz.sizeOf52 rfl (e5.t (Below.trans e11 (Wr.below h14 (Nat.le_of_eq z9))))
/-! spec.l04At -/
theorem vD.calls {w : World} {a0 : List Nd} {a1 : List UInt8} {v_a0 : Value} (f_a0 : Rd 4 qJ w v_a0 a0) (h0 : a0.length≤1048576) :
  Calls Tryz.prog 155 #[v_a0,S a1] w (Rt (RP w (.int .i64 (qC a0 a1)))):=by
 obtain ⟨k,H⟩:=vD.eq a0 a1 h0
 generalize (qC a0 a1) = r at H ⊢
 unfold vD.sh at H
 refine qk Tryz.func155 rfl (Nat.le_of_ble_eq_true rfl) Tryz.ntmps155 rfl ?_
 refine wr<|lp rfl (xa (.int .i64 0) rfl)<|nx<|qi<|wr<|lp rfl (xa (.int .i64 0) rfl)<|nx ?_
 obtain ⟨z2,L3,C4⟩:=bind_some H
 clear H
 refine  vv (fun s0 sQ wQ=>Kp [(4,20)] s0 sQ∧Ext w wQ∧z2 = .inr ()) ?_ ?_
 ·refine qB<|vh (fun s0 kk sQ wQ=>∃ (x5_1 : Int),Kp [(4,20)] s0 sQ∧sQ 5 = .int .i64 x5_1∧Ext w wQ∧ql (vD.b1 a0 a1) kk x5_1 = some z2) k ⟨0,kz,rfl,er,L3⟩ ?_
  rintro k9 s10 w11 ⟨x5_1,K12,h15,e13,L14⟩
  cases k9 with
  | zero=>exact absurd L14 (by simp [ql])
  | succ k9=>
   obtain ⟨t16,H,S17⟩:=qL L14
   clear L14
   unfold vD.b1 at H
   refine qi<|wr<|lp rfl (qd h15)<|lp rfl (xm v_a0 (K12 0 rfl))<|lp rfl (vc Tryz.underlying29 rfl (Rd.ext f_a0 e13))<|lp rfl (vw rfl rfl)<|nx ?_
   rcases qg H with ⟨q18,H⟩ | ⟨q18,H⟩
   ·refine qn (cb q18)<|qp<|qf<|qi<|qB<|wr<|lp rfl (xm v_a0 (K12 0 rfl))<|lp rfl (qd h15) ?_
    obtain ⟨c19,H⟩:=qa H
    refine vo (.plain rfl) rfl (ltb rfl) rfl Tryz.underlying29 Tryz.sizeOf91 rfl (Rd.ext f_a0 e13) rfl c19<|fun p20 h21=>lp rfl (qc Tryz.underlying91 rfl Tryz.sizeOf9 rfl rfl)<|lp rfl (vX Tryz.isAgg9 (j:=1) h21 rfl rfl)<|lp rfl (xm (S a1) (K12 1 rfl))<|lp rfl (VB rfl rfl)<|nx ?_
    rcases qg H with ⟨q22,H⟩ | ⟨q22,H⟩
    ·refine qn (cb q22)<|wr<|lp rfl (qd h15)<|lp rfl (xa (.int .i64 x5_1) rfl)<|nx<|qr<|vl<|qo<|qo<|vl<|qo<|qo<|qu ?_
     obtain rfl:=si H
     obtain rfl:=si S17
     have H:=C4
     obtain rfl:=si H
     exact qS rfl e13
    ·refine qj (cb q22)<|qp<|vM<|qf<|qK<|lp rfl (qd h15)<|lp rfl (vp rfl rfl)<|lp rfl (xa (.int .i64 (IntKind.wrap .i64 (x5_1 + 1))) rfl)<|nx ?_
     obtain rfl:=si H
     exact ⟨_,Nat.lt_succ_self _,IntKind.wrap .i64 (x5_1 + 1),(ku2 (ku4 (ku8 K12 rfl) rfl) rfl),rfl,e13,S17⟩
   ·refine qj (cb q18)<|vu<|qY<|qY<|vZ<|qf ?_
    obtain rfl:=si H
    obtain rfl:=si S17
    exact ⟨(ku4 K12 rfl),e13,rfl⟩
 ·rintro s6 w5 ⟨K7,e8,y23⟩
  rw [y23] at C4
  have H:=C4
  replace H : _ = some _:=H
  refine qf<|wr<|lp rfl (xa (.int .i64 (-1)) rfl)<|nx<|qr<|qu ?_
  obtain rfl:=si H
  exact qS rfl e8
/-! spec.l04OK -/
abbrev qx.e1 (a0 : List Nd) (x3_2 : Int):=((decide (((gt a0 x3_2).kind) = 4)) || (!(decide (qR (qM (gt a0 x3_2)) = 0))))
abbrev qx.e2 (a0 : List Nd) (x3_2 : Int):=((!(qx.e1 a0 x3_2)) && (decide (0 < x3_2)))
abbrev qx.e3 (a0 : List Nd) (x3_2 : Int):=(vC (cut 47 ((gt a0 (IntKind.wrap .i64 (x3_2 - 1))).path)) (cut 47 ((gt a0 x3_2).path)))
theorem qx.walk {k : Nat} {w : World} {a0 : List Nd} {v_a0 : Value} (f_a0 : Rd 4 qJ w v_a0 a0) {r : Bool} (H : qx.sh k a0 = some r) :
  Calls Tryz.prog 88 #[v_a0] w (Rt (RP w (.bool r))):=by
 unfold qx.sh at H
 refine qk Tryz.func88 rfl (Nat.le_of_ble_eq_true rfl) Tryz.ntmps88 rfl ?_
 refine wr<|lp rfl (xa (.bool false) rfl)<|nx<|qi<|wr<|lp rfl (xm v_a0 rfl)<|lp rfl (vc Tryz.underlying29 rfl f_a0)<|lp rfl (j1 rfl rfl)<|nx ?_
 rcases qg H with ⟨q1,H⟩ | ⟨q1,H⟩
 ·refine qn (cb q1)<|wr<|lp rfl (xa (.bool false) rfl)<|nx<|qr<|qo<|qu ?_
  obtain rfl:=si H
  exact qS rfl er
 ·refine qj (cb q1)<|qp<|qf<|qi<|wr<|lp rfl (xa (.int .i64 0) rfl)<|nx ?_
  obtain ⟨z3,L4,C5⟩:=bind_some H
  clear H
  refine  vv (fun s0 sQ wQ=>Kp [(2,6),(9,72)] s0 sQ∧Ext w wQ∧z3 = .inr ()) ?_ ?_
  ·refine qB<|vh (fun s0 kk sQ wQ=>∃ (x3_2 : Int),Kp [(2,6),(9,72)] s0 sQ∧sQ 3 = .int .i64 x3_2∧Ext w wQ∧ql (qx.b1 a0) kk x3_2 = some z3) k ⟨0,kz,rfl,er,L4⟩ ?_
   rintro k10 s11 w12 ⟨x3_2,K13,h16,e14,L15⟩
   cases k10 with
   | zero=>exact absurd L15 (by simp [ql])
   | succ k10=>
    obtain ⟨t17,H,S18⟩:=qL L15
    clear L15
    unfold qx.b1 at H
    refine qi<|wr<|lp rfl (qd h16)<|lp rfl (xm v_a0 (K13 0 rfl))<|lp rfl (vc Tryz.underlying29 rfl (Rd.ext f_a0 e14))<|lp rfl (vw rfl rfl)<|nx ?_
    rcases qg H with ⟨q19,H⟩ | ⟨q19,H⟩
    ·refine qn (cb q19)<|qp<|qf<|qi<|qB<|qi<|qi ?_
     obtain ⟨c20,H⟩:=qa H
     obtain ⟨c23,H⟩:=qa H
     obtain ⟨c30,H⟩:=qa H
     obtain ⟨c33,H⟩:=qa H
     obtain ⟨c36,H⟩:=qa H
     obtain ⟨c37,H⟩:=qa H
     refine Jf [LEq v_a0,LEq (.int .i64 x3_2),yW (qJ (gt a0 x3_2)),LAt 0 (qJ (gt a0 x3_2)),LEq (.int .i64 ((gt a0 x3_2).kind)),LEq (.bool (decide (((gt a0 x3_2).kind) = 4))),LEq (.bool (decide (((gt a0 x3_2).kind) = 4))),LIf (!(decide (((gt a0 x3_2).kind) = 4))) (LEq v_a0),LIf (!(decide (((gt a0 x3_2).kind) = 4))) (LEq (.int .i64 x3_2)),LIf (!(decide (((gt a0 x3_2).kind) = 4))) (yW (qJ (gt a0 x3_2))),LIf (!(decide (((gt a0 x3_2).kind) = 4))) (LEq (.agg (qJ (gt a0 x3_2)).toArray)),LIf (!(decide (((gt a0 x3_2).kind) = 4))) (LEq (.agg (qv (qM (gt a0 x3_2))).toArray)),LIf (!(decide (((gt a0 x3_2).kind) = 4))) (LEq (.bool (decide (qR (qM (gt a0 x3_2)) = 0)))),LIf (!(decide (((gt a0 x3_2).kind) = 4))) (LEq (.bool (!(decide (qR (qM (gt a0 x3_2)) = 0))))),LEq (.bool (qx.e1 a0 x3_2)),LEq (.bool (qx.e1 a0 x3_2)),LIf (!(qx.e1 a0 x3_2)) (LEq (.int .i64 x3_2)),LIf (!(qx.e1 a0 x3_2)) (LEq (.bool (decide (0 < x3_2)))),LIf (!(qx.e1 a0 x3_2)) (LEq (.bool (decide (0 < x3_2)))),LIf (qx.e2 a0 x3_2) (LEq v_a0),LIf (qx.e2 a0 x3_2) (LEq (.int .i64 x3_2)),LIf (qx.e2 a0 x3_2) (LEq (.int .i64 (IntKind.wrap .i64 (x3_2 - 1)))),LIf (qx.e2 a0 x3_2) (yW (qJ (gt a0 (IntKind.wrap .i64 (x3_2 - 1))))),LIf (qx.e2 a0 x3_2) (LAt 1 (qJ (gt a0 (IntKind.wrap .i64 (x3_2 - 1))))),LIf (qx.e2 a0 x3_2) (LEq (S ((gt a0 (IntKind.wrap .i64 (x3_2 - 1))).path))),LIf (qx.e2 a0 x3_2) (LEq v_a0),LIf (qx.e2 a0 x3_2) (LEq (.int .i64 x3_2)),LIf (qx.e2 a0 x3_2) (yW (qJ (gt a0 x3_2))),LIf (qx.e2 a0 x3_2) (LAt 1 (qJ (gt a0 x3_2))),LIf (qx.e2 a0 x3_2) (LEq (S ((gt a0 x3_2).path))),LIf (qx.e2 a0 x3_2) (LEq (.bool (qx.e3 a0 x3_2))),LIf (qx.e2 a0 x3_2) (LEq (.bool (!(qx.e3 a0 x3_2)))),LIf (!(qx.e1 a0 x3_2)) (LEq (.bool ((decide (0 < x3_2)) && (!(qx.e3 a0 x3_2))))),LEq (.bool ((qx.e1 a0 x3_2) || ((decide (0 < x3_2)) && (!(qx.e3 a0 x3_2)))))] (by kernel_rfl) (by kernel_rfl) ⟨qm,qm,yW.mono,LAt.mono,qm,qm,qm,lm,lm,(LIf.mono yW.mono),lm,lm,lm,lm,qm,qm,lm,lm,lm,lm,lm,lm,(LIf.mono yW.mono),(LIf.mono LAt.mono),lm,lm,lm,(LIf.mono yW.mono),(LIf.mono LAt.mono),lm,lm,lm,lm,qm,trivial⟩ ⟨?_,?_,?_,?_,?_,?_,?_,?_,?_,?_,?_,?_,?_,?_,?_,?_,?_,?_,?_,?_,?_,?_,?_,?_,?_,?_,?_,?_,?_,?_,?_,?_,?_,?_,trivial⟩ ?_
     ·exact fun s x e f d u=>lp rfl (xm v_a0 ((f 0 rfl).trans (K13 0 rfl)))<|se rfl rfl
     ·exact fun s x e f d u=>lp rfl (xm (.int .i64 x3_2) ((f 3 rfl).trans h16))<|se rfl rfl
     ·exact fun s x e f d u=>vo (.plain rfl) rfl (ltb rfl) rfl Tryz.underlying29 Tryz.sizeOf91 (d 0 rfl) (Rd.ext f_a0 (e14.t e)) (d 1 rfl) c20<|fun p41 h42=>se rfl ⟨_,rfl,h42⟩
     ·intro s x e f d u
      obtain ⟨p43,h44,h45⟩:=(d 2 rfl)
      exact lp rfl (qc Tryz.underlying91 rfl Tryz.sizeOf3 rfl h44)<|se rfl ⟨_,rfl,h45⟩
     ·intro s x e f d u
      obtain ⟨p46,h47,h48⟩:=(d 3 rfl)
      exact lp rfl (vX Tryz.isAgg3 (j:=0) h48 h47 rfl)<|se rfl rfl
     ·exact fun s x e f d u=>lp rfl (jo (d 4 rfl) rfl)<|se rfl rfl
     ·exact fun s x e f d u=>lp rfl (qd (d 5 rfl))<|se rfl rfl
     ·exact fun s x e f d u=>gF rfl rfl rfl rfl (d 6 rfl) rfl fun b t=>lt t rfl rfl (xm v_a0 ((f 0 rfl).trans (K13 0 rfl)))<|sg rfl rfl b rfl
     ·exact fun s x e f d u=>gF rfl rfl rfl rfl (d 6 rfl) rfl fun b t=>lt t rfl rfl (xm (.int .i64 x3_2) ((f 3 rfl).trans h16))<|sg rfl rfl b rfl
     ·exact fun s x e f d u=>gF rfl rfl rfl rfl (d 6 rfl) rfl fun b t=>vo t rfl (ltb rfl) rfl Tryz.underlying29 Tryz.sizeOf91 ((d 7 rfl).1 (qE (q3 b))) (Rd.ext f_a0 (e14.t e)) ((d 8 rfl).1 (qE (q3 b))) (yI b c23)<|fun p50 h51=>sg rfl rfl b ⟨_,rfl,h51⟩
     ·intro s x e f d u
      refine gF rfl rfl rfl rfl (d 6 rfl) rfl fun b t=>?_
      obtain ⟨p52,h53,h54⟩:=((d 9 rfl).1 (qE (q3 b)))
      exact lt t rfl rfl (vK Tryz.isAgg91 Tryz.sizeOf91 rfl h53 h54)<|sg rfl rfl b rfl
     ·exact fun s x e f d u=>gF rfl rfl rfl rfl (d 6 rfl) rfl fun b t=>vY t rfl (ltb rfl) rfl Tryz.call152 (yy.calls (w:=x) (a0:=gt a0 x3_2)) (ya ((d 10 rfl).1 (qE (q3 b))) rfl)<|fun w55 e56=>sgx rfl rfl b e56 rfl
     ·exact fun s x e f d u=>gF rfl rfl rfl rfl (d 6 rfl) rfl fun b t=>vY t rfl (ltb rfl) rfl Tryz.call151 (jR.calls (w:=x) (a0:=(qM (gt a0 x3_2)))) (ya ((d 11 rfl).1 (qE (q3 b))) rfl)<|fun w57 e58=>sgx rfl rfl b e58 rfl
     ·exact fun s x e f d u=>gF rfl rfl rfl rfl (d 6 rfl) rfl fun b t=>lt t rfl rfl (yG ((d 12 rfl).1 (qE (q3 b))))<|sg rfl rfl b rfl
     ·exact fun s x e f d u=>lp rfl (jV (d 6 rfl) rfl fun h=>((d 13 rfl).1 (qE h)))<|se rfl rfl
     ·exact fun s x e f d u=>lp rfl (qd (d 14 rfl))<|se rfl rfl
     ·exact fun s x e f d u=>gF rfl rfl rfl rfl (d 15 rfl) rfl fun b t=>lt t rfl rfl (xm (.int .i64 x3_2) ((f 3 rfl).trans h16))<|sg rfl rfl b rfl
     ·exact fun s x e f d u=>gF rfl rfl rfl rfl (d 15 rfl) rfl fun b t=>lt t rfl rfl (j1 ((d 16 rfl).1 (qE (q3 b))) rfl)<|sg rfl rfl b rfl
     ·exact fun s x e f d u=>gF rfl rfl rfl rfl (d 15 rfl) rfl fun b t=>lt t rfl rfl (xm (.bool (decide (0 < x3_2))) ((d 17 rfl).1 (qE (q3 b))))<|sg rfl rfl b rfl
     ·exact fun s x e f d u=>hT rfl rfl rfl rfl (d 18 rfl) rfl fun b t=>lt t rfl rfl (xm v_a0 ((f 0 rfl).trans (K13 0 rfl)))<|sg rfl rfl b rfl
     ·exact fun s x e f d u=>hT rfl rfl rfl rfl (d 18 rfl) rfl fun b t=>lt t rfl rfl (xm (.int .i64 x3_2) ((f 3 rfl).trans h16))<|sg rfl rfl b rfl
     ·exact fun s x e f d u=>hT rfl rfl rfl rfl (d 18 rfl) rfl fun b t=>lt t rfl rfl (Yb ((d 20 rfl).1 (qQ (qE (q3 (yS b))) (yP b))) rfl)<|sg rfl rfl b rfl
     ·exact fun s x e f d u=>hT rfl rfl rfl rfl (d 18 rfl) rfl fun b t=>vo t rfl (ltb rfl) rfl Tryz.underlying29 Tryz.sizeOf91 ((d 19 rfl).1 (qQ (qE (q3 (yS b))) (yP b))) (Rd.ext f_a0 (e14.t e)) ((d 21 rfl).1 (qQ (qE (q3 (yS b))) (yP b))) (yI b c30)<|fun p60 h61=>sg rfl rfl b ⟨_,rfl,h61⟩
     ·intro s x e f d u
      refine hT rfl rfl rfl rfl (d 18 rfl) rfl fun b t=>?_
      obtain ⟨p62,h63,h64⟩:=((d 22 rfl).1 (qQ (qE (q3 (yS b))) (yP b)))
      exact lt t rfl rfl (qc Tryz.underlying91 rfl Tryz.sizeOf9 rfl h63)<|sg rfl rfl b ⟨_,rfl,h64⟩
     ·intro s x e f d u
      refine hT rfl rfl rfl rfl (d 18 rfl) rfl fun b t=>?_
      obtain ⟨p65,h66,h67⟩:=((d 23 rfl).1 (qQ (qE (q3 (yS b))) (yP b)))
      exact lt t rfl rfl (vX Tryz.isAgg9 (j:=1) h67 h66 rfl)<|sg rfl rfl b rfl
     ·exact fun s x e f d u=>hT rfl rfl rfl rfl (d 18 rfl) rfl fun b t=>lt t rfl rfl (xm v_a0 ((f 0 rfl).trans (K13 0 rfl)))<|sg rfl rfl b rfl
     ·exact fun s x e f d u=>hT rfl rfl rfl rfl (d 18 rfl) rfl fun b t=>lt t rfl rfl (xm (.int .i64 x3_2) ((f 3 rfl).trans h16))<|sg rfl rfl b rfl
     ·exact fun s x e f d u=>hT rfl rfl rfl rfl (d 18 rfl) rfl fun b t=>vo t rfl (ltb rfl) rfl Tryz.underlying29 Tryz.sizeOf91 ((d 25 rfl).1 (qQ (qE (q3 (yS b))) (yP b))) (Rd.ext f_a0 (e14.t e)) ((d 26 rfl).1 (qQ (qE (q3 (yS b))) (yP b))) (yI b c33)<|fun p69 h70=>sg rfl rfl b ⟨_,rfl,h70⟩
     ·intro s x e f d u
      refine hT rfl rfl rfl rfl (d 18 rfl) rfl fun b t=>?_
      obtain ⟨p71,h72,h73⟩:=((d 27 rfl).1 (qQ (qE (q3 (yS b))) (yP b)))
      exact lt t rfl rfl (qc Tryz.underlying91 rfl Tryz.sizeOf9 rfl h72)<|sg rfl rfl b ⟨_,rfl,h73⟩
     ·intro s x e f d u
      refine hT rfl rfl rfl rfl (d 18 rfl) rfl fun b t=>?_
      obtain ⟨p74,h75,h76⟩:=((d 28 rfl).1 (qQ (qE (q3 (yS b))) (yP b)))
      exact lt t rfl rfl (vX Tryz.isAgg9 (j:=1) h76 h75 rfl)<|sg rfl rfl b rfl
     ·exact fun s x e f d u=>hT rfl rfl rfl rfl (d 18 rfl) rfl fun b t=>vY t rfl (ltb rfl) rfl Tryz.call153 (vq.calls (w:=x) (a0:=(gt a0 (IntKind.wrap .i64 (x3_2 - 1))).path) (a1:=(gt a0 x3_2).path) (od (yI b c36)) (od (yI b c37))) (ya ((d 24 rfl).1 (qQ (qE (q3 (yS b))) (yP b))) (ya ((d 29 rfl).1 (qQ (qE (q3 (yS b))) (yP b))) rfl))<|fun w79 e80=>sgx rfl rfl b e80 rfl
     ·exact fun s x e f d u=>hT rfl rfl rfl rfl (d 18 rfl) rfl fun b t=>lt t rfl rfl (yG ((d 30 rfl).1 (qQ (qE (q3 (yS b))) (yP b))))<|sg rfl rfl b rfl
     ·exact fun s x e f d u=>gF rfl rfl rfl rfl (d 15 rfl) rfl fun b t=>lt t rfl rfl (QW ((d 18 rfl).1 (qE (q3 b))) rfl fun h=>((d 31 rfl).1 (qQ (qE (q3 b)) h)))<|sg rfl rfl b rfl
     ·exact fun s x e f d u=>lp rfl (jV (d 15 rfl) rfl fun h=>((d 32 rfl).1 (qE h)))<|se rfl rfl
     intro s81 w82 e83 hf84 ha85
     have K86:=Kp.ofD (kp:=[(15,49)]) rfl hf84
     have d87 : s81 48 = (.bool ((qx.e1 a0 x3_2) || ((decide (0 < x3_2)) && (!(qx.e3 a0 x3_2))))):=ha85 33 rfl
     clear ha85 hf84
     refine qf ?_
     rcases qg H with ⟨q88,H⟩ | ⟨q88,H⟩
     ·refine qn (d87.trans (cb q88))<|wr<|lp rfl (xa (.bool false) rfl)<|nx<|qr<|qo<|vl<|qo<|qo<|vl<|qo<|qo<|qu ?_
      obtain rfl:=si H
      obtain rfl:=si S18
      have H:=C5
      obtain rfl:=si H
      exact qS rfl (e14.t e83)
     ·refine qj (d87.trans (cb q88))<|qp<|qf<|wr<|lp rfl (xm v_a0 ((K86 0 rfl).trans (K13 0 rfl)))<|lp rfl (xm (.int .i64 x3_2) ((K86 3 rfl).trans h16)) ?_
      obtain ⟨c89,H⟩:=qa H
      refine vo (.plain rfl) rfl (ltb rfl) rfl Tryz.underlying29 Tryz.sizeOf91 rfl (Rd.ext f_a0 (e14.t e83)) rfl c89<|fun p90 h91=>lp rfl (qc Tryz.underlying91 rfl Tryz.sizeOf9 rfl rfl)<|lp rfl (vX Tryz.isAgg9 (j:=1) h91 rfl rfl) ?_
      obtain ⟨c92,H⟩:=qa H
      refine lc rfl rfl Tryz.call154 (q4.calls (w:=w82) (a0:=(gt a0 x3_2).path) (od c92)) rfl<|fun w93 e94=>lp rfl (xa (S (qe ((gt a0 x3_2).path))) rfl)<|nx<|wr<|lp rfl (xm (S (qe ((gt a0 x3_2).path))) rfl)<|lp rfl (j3 rfl rfl)<|nx ?_
      rcases qg H with ⟨q95,H⟩ | ⟨q95,H⟩
      ·refine qn (cb q95)<|wr<|lp rfl (xm v_a0 ((K86 0 rfl).trans (K13 0 rfl)))<|lp rfl (xm (.int .i64 x3_2) ((K86 3 rfl).trans h16)) ?_
       obtain ⟨c96,H⟩:=qa H
       refine XI (.plain rfl) rfl (ltb rfl) rfl Tryz.underlying29 Tryz.sizeOf91 rfl (Rd.ext f_a0 ((e14.t e83).t e94)) (l:=0) (h:=x3_2) rfl ⟨_,rfl⟩ c96<|fun v97 h98=>lp rfl (xm (S (qe ((gt a0 x3_2).path))) rfl) ?_
       obtain ⟨c99,H⟩:=qa H
       refine lc rfl rfl Tryz.call155 (vD.calls (w:=w93) (a0:=sub a0 0 x3_2) (a1:=(qe ((gt a0 x3_2).path))) h98 (od c99)) rfl<|fun w100 e101=>lp rfl (xa (.int .i64 (qC (sub a0 0 x3_2) (qe ((gt a0 x3_2).path)))) rfl)<|nx<|wr<|lp rfl (xm (.int .i64 (qC (sub a0 0 x3_2) (qe ((gt a0 x3_2).path)))) rfl)<|lp rfl (vw rfl rfl)<|lp rfl (qd rfl) ?_
       obtain ⟨z103,x104,H⟩:=bind_some H
       refine jz 7 [(65,72)] 71 (fun q=>q = z103) ?_ ?_
       ·rcases qg x104 with ⟨b101_,H⟩ | ⟨b101_,H⟩
        ·refine ls rfl rfl rfl (cb b101_) rfl<|ls rfl rfl rfl (cb b101_) rfl<|ls rfl rfl rfl (cb b101_) rfl<|ls rfl rfl rfl (cb b101_) rfl<|ls rfl rfl rfl (cb b101_) rfl<|ls rfl rfl rfl (cb b101_) rfl<|lp rfl (qF (b:=true) (v:=(.bool true)) (cb b101_) rfl) ?_
         obtain rfl:=si H
         exact nx ⟨(ku3 (ku4 kz rfl) rfl),⟨_,rfl,rfl⟩,er⟩
        ·refine lg rfl rfl rfl rfl (cb b101_) (xm v_a0 ((K86 0 rfl).trans (K13 0 rfl)))<|lg rfl rfl rfl rfl (cb b101_) (xm (.int .i64 (qC (sub a0 0 x3_2) (qe ((gt a0 x3_2).path)))) rfl) ?_
         obtain ⟨c103,H⟩:=qa H
         refine vo (tg rfl rfl rfl (cb b101_)) rfl (ltb rfl) rfl Tryz.underlying29 Tryz.sizeOf91 rfl (Rd.ext f_a0 (((e14.t e83).t e94).t e101)) rfl c103<|fun p104 h105=>lg rfl rfl rfl rfl (cb b101_) (qc Tryz.underlying91 rfl Tryz.sizeOf3 rfl rfl)<|lg rfl rfl rfl rfl (cb b101_) (vX Tryz.isAgg3 (j:=0) h105 rfl rfl)<|lg rfl rfl rfl rfl (cb b101_) (jf rfl rfl)<|lp rfl (qF (b:=false) (v:=(.bool (!decide (((gt a0 (qC (sub a0 0 x3_2) (qe ((gt a0 x3_2).path)))).kind) = 3)))) (cb b101_) rfl) ?_
         obtain rfl:=si H
         exact nx ⟨(ku3 (ku4 kz rfl) rfl),⟨_,rfl,rfl⟩,er⟩
       intro s109 w105 z110 K106 hq h107 e108
       rw [hq] at h107; clear hq
       refine nx ?_
       rcases qg H with ⟨q111,H⟩ | ⟨q111,H⟩
       ·refine qn (h107.trans (cb q111))<|wr<|lp rfl (xa (.bool false) rfl)<|nx<|qr<|vl<|qo<|qo<|vl<|qo<|qo<|qu ?_
        obtain rfl:=si H
        obtain rfl:=si S18
        have H:=C5
        obtain rfl:=si H
        exact qS rfl ((((e14.t e83).t e94).t e101).t e108)
       ·refine qj (h107.trans (cb q111))<|qp<|vM<|qf<|qK<|lp rfl (xm (.int .i64 x3_2) ((K106 3 rfl).trans ((K86 3 rfl).trans h16)))<|lp rfl (vp rfl rfl)<|lp rfl (xa (.int .i64 (IntKind.wrap .i64 (x3_2 + 1))) rfl)<|nx ?_
        obtain rfl:=si H
        exact ⟨_,Nat.lt_succ_self _,IntKind.wrap .i64 (x3_2 + 1),(ku3 (Kp.cut (ku2 (ku8 (ku8 (Kp.cut (ku4 K13 rfl) K86 rfl) rfl) rfl) rfl) K106 rfl) rfl),rfl,((((e14.t e83).t e94).t e101).t e108),S18⟩
      ·refine qj (cb q95)<|qp<|vM<|qf<|qK<|lp rfl (xm (.int .i64 x3_2) ((K86 3 rfl).trans h16))<|lp rfl (vp rfl rfl)<|lp rfl (xa (.int .i64 (IntKind.wrap .i64 (x3_2 + 1))) rfl)<|nx ?_
       obtain rfl:=si H
       exact ⟨_,Nat.lt_succ_self _,IntKind.wrap .i64 (x3_2 + 1),(ku4 (ku8 (Kp.cut (ku4 K13 rfl) K86 rfl) rfl) rfl),rfl,((e14.t e83).t e94),S18⟩
    ·refine qj (cb q19)<|vu<|qY<|qY<|vZ<|qf ?_
     obtain rfl:=si H
     obtain rfl:=si S18
     exact ⟨(ku4 K13 rfl),e14,rfl⟩
  ·rintro s7 w6 ⟨K8,e9,y112⟩
   rw [y112] at C5
   have H:=C5
   replace H : _ = some _:=H
   refine qf<|wr<|lp rfl (xa (.bool true) rfl)<|nx<|qr<|qu ?_
   obtain rfl:=si H
   exact qS rfl e9
theorem qx.calls {w : World} {a0 : List Nd} {v_a0 : Value} (f_a0 : Rd 4 qJ w v_a0 a0) (h0 : ∀ x ∈ a0,x.path.length≤1048576) :
  Calls Tryz.prog 88 #[v_a0] w (Rt (RP w (.bool (qX a0)))):=by
 obtain ⟨k,h⟩:=qx.eq a0 h0
 exact qx.walk f_a0 h
/-! (impl.Node).record -/
theorem vN.calls {w : World} {a0 : Nd} :
  Calls Tryz.prog 158 #[.agg (qJ a0).toArray] w (Rt (RP w (.agg (qv (qM a0)).toArray))):=by
 have H:=vN.eq a0
 generalize (qM a0) = r at H ⊢
 unfold vN.sh at H
 refine Qz Tryz.func158 rfl (Nat.le_of_ble_eq_true rfl) Tryz.ntmps158 ?_
 refine wr<|jm (.plain rfl) rfl (ltb rfl) rfl rfl<|fun b1 w2 z3 z4 e5 k6=>jK (.plain rfl) rfl (ltb rfl) rfl Tryz.zeroValue52<|fun b7 w8 z9 z10 e11 k12=>nx<|wr<|lp rfl (qc Tryz.underlying91 rfl Tryz.sizeOf3 rfl rfl)<|lp rfl (qy Tryz.isAgg3 (Blk.ext k6 e11) rfl rfl)<|lp rfl (qc Tryz.underlying91 rfl Tryz.sizeOf9 rfl rfl)<|lp rfl (qy Tryz.isAgg9 (Blk.ext k6 e11) rfl rfl)<|lp rfl (qc Tryz.underlying91 rfl Tryz.sizeOf9 rfl rfl)<|lp rfl (qy Tryz.isAgg9 (Blk.ext k6 e11) rfl rfl)<|lp rfl (qc Tryz.underlying91 rfl Tryz.sizeOf3 rfl rfl)<|lp rfl (qy Tryz.isAgg3 (Blk.ext k6 e11) rfl rfl)<|lp rfl (Vk (vs:=[(0,(.int .i64 a0.kind)),(1,(S a0.path)),(2,(S a0.body)),(3,(.int .i64 a0.mode)),(4,(.bool false))]) (pl:=#[(0,1),(1,1),(2,1),(3,1),(4,1)]) Tryz.underlying52 Tryz.zeroValue52 rfl (fun _=>by kernel_rfl) rfl rfl rfl)<|ji (.plain rfl) rfl rfl Tryz.sizeOf52 rfl rfl rfl rfl rfl k12<|fun w13 h14 k15=>nx<|qr<|Jk ?_
 obtain rfl:=si H
 exact Gy rfl rfl k15 Tryz.isAgg52 Tryz.sizeOf52 rfl (e5.t (Below.trans e11 (Wr.below h14 (Nat.le_of_eq z9))))
/-! impl.nodeOK -/
theorem jF.calls {w : World} {a0 : Nd} (gv : GV 0 w) :
  Calls Tryz.prog 90 #[.agg (qJ a0).toArray] w (Rt (RP w (.bool (nodeOK a0)))):=by
 have H:=jF.eq a0
 generalize (nodeOK a0) = r at H ⊢
 unfold jF.sh at H
 refine qk Tryz.func90 rfl (Nat.le_of_ble_eq_true rfl) Tryz.ntmps90 rfl ?_
 refine wr<|jm (.plain rfl) rfl (ltb rfl) rfl rfl<|fun b1 w2 z3 z4 e5 k6=>lp rfl (xa (.bool false) rfl)<|nx<|wr<|lp rfl (vK Tryz.isAgg91 Tryz.sizeOf91 rfl rfl (Blk.at0 k6))<|lc rfl rfl Tryz.call158 (vN.calls (w:=w2) (a0:=a0)) rfl<|fun w7 e8=>lc rfl rfl Tryz.call157 (je.calls (w:=w7) (a0:=(qM a0)) (GV.ext gv (e5.t e8))) rfl<|fun w9 e10=>lp rfl (xm (.bool (decide (qR (qM a0) = 0))) rfl)<|jb 4 [(7,11)] 10 (.bool ((decide (qR (qM a0) = 0)) && (!decide (a0.kind = 4)))) ?_ ?_
 ·rcases qH (decide (qR (qM a0) = 0)) with b10_ | b10_
  ·exact lg rfl rfl rfl rfl (cb b10_) (qc Tryz.underlying91 rfl Tryz.sizeOf3 rfl rfl)<|lg rfl rfl rfl rfl (cb b10_) (qy Tryz.isAgg3 (Blk.ext k6 (e8.t e10)) rfl rfl)<|lg rfl rfl rfl rfl (cb b10_) (jf rfl rfl)<|lp rfl (qF (b:=true) (v:=(.bool (!decide (a0.kind = 4)))) (cb b10_) rfl)<|nx ⟨(ku4 kz rfl),(Vg b10_),er⟩
  ·exact ls rfl rfl rfl (cb b10_) rfl<|ls rfl rfl rfl (cb b10_) rfl<|ls rfl rfl rfl (cb b10_) rfl<|lp rfl (qF (b:=false) (v:=(.bool false)) (cb b10_) rfl)<|nx ⟨(ku4 kz rfl),(Vb b10_),er⟩
 intro s16 w12 K13 h14 e15
 refine lp rfl (qz h14)<|nx<|qr<|qu ?_
 obtain rfl:=si H
 exact qS rfl (((e5.t e8).t e10).t e15)
/-! impl.at$1 -/
theorem Qc.calls {w : World} {a0 : Nd} {a1 : List UInt8} {b_a1 : Nat} (k_a1 : Blk w b_a1 #[(S a1)] 9) :
  Calls Tryz.prog 202 #[.agg (qJ a0).toArray,.pointer (some ⟨b_a1,0,none⟩)] w (Rt (RP w (.bool (decide (a0.path = a1))))):=by
 have H:=Qc.eq a0 a1
 generalize (decide (a0.path = a1)) = r at H ⊢
 unfold Qc.sh at H
 refine qk Tryz.func202 rfl (Nat.le_of_ble_eq_true rfl) Tryz.ntmps202 rfl ?_
 refine wr<|jm (.plain rfl) rfl (ltb rfl) rfl rfl<|fun b1 w2 z3 z4 e5 k6=>lp rfl (xa (.bool false) rfl)<|nx<|wr<|lp rfl (qc Tryz.underlying91 rfl Tryz.sizeOf9 rfl rfl)<|lp rfl (qy Tryz.isAgg9 k6 rfl rfl)<|lp rfl (qy Tryz.isAgg9 (Blk.ext k_a1 e5) rfl rfl)<|lp rfl (VB rfl rfl)<|lp rfl (xa (.bool (decide (a0.path = a1))) rfl)<|nx<|qr<|qu ?_
 obtain rfl:=si H
 exact qS rfl e5
/-! slices.IndexFunc(()impl.Node,impl.Node) -/
theorem qN.walk {k : Nat} {w : World} {a0 : List Nd} {a1 : Nd→Option Bool} {v_a0 : Value} (f_a0 : Rd 4 qJ w v_a0 a0) {v_a1 : Value} (f_a1 : ∀ (x0 : Nd) (r : Bool),a1 x0 = some r→jr Tryz.prog w v_a1 [(.agg (qJ x0).toArray)] (.bool r)) (g_a1 : v_a1.cells = #[v_a1]) {r : Int} (H : qN.sh k a0 a1 = some r) :
  Calls Tryz.prog 201 #[v_a0,v_a1] w (Rt (RP w (.int .i64 r))):=by
 unfold qN.sh at H
 refine qk Tryz.func201 rfl (Nat.le_of_ble_eq_true rfl) Tryz.ntmps201 rfl ?_
 refine wr<|lp rfl (xa (.int .i64 0) rfl)<|nx<|qi<|wr<|lp rfl (xm v_a0 rfl)<|lp rfl (vc Tryz.underlying29 rfl f_a0)<|lp rfl (xm (.int .i64 0) rfl)<|nx ?_
 obtain ⟨z2,L3,C4⟩:=bind_some H
 clear H
 refine  vv (fun s0 sQ wQ=>Kp [(4,6),(8,19)] s0 sQ∧Ext w wQ∧z2 = .inr ()) ?_ ?_
 ·refine qB<|vh (fun s0 kk sQ wQ=>∃ (x8_1 : Int),Kp [(4,6),(8,19)] s0 sQ∧sQ 8 = .int .i64 x8_1∧Ext w wQ∧ql (qN.b1 a0 a1) kk x8_1 = some z2) k ⟨0,kz,rfl,er,L3⟩ ?_
  rintro k9 s10 w11 ⟨x8_1,K12,h15,e13,L14⟩
  cases k9 with
  | zero=>exact absurd L14 (by simp [ql])
  | succ k9=>
   obtain ⟨t16,H,S17⟩:=qL L14
   clear L14
   unfold qN.b1 at H
   refine wr<|lp rfl (vw h15 (K12 7 rfl))<|nx<|qi ?_
   rcases qg H with ⟨q18,H⟩ | ⟨q18,H⟩
   ·refine qn (cb q18)<|qp<|qf<|qi<|qB<|wr<|lp rfl (qd h15)<|lp rfl (xa (.int .i64 x8_1) rfl)<|nx<|wr<|lp rfl (xm v_a1 (K12 1 rfl))<|lp rfl (xm v_a0 (K12 0 rfl))<|lp rfl (xm (.int .i64 x8_1) rfl) ?_
    obtain ⟨c19,H⟩:=qa H
    refine vo (.plain rfl) rfl (ltb rfl) rfl Tryz.underlying29 Tryz.sizeOf91 rfl (Rd.ext f_a0 e13) rfl c19<|fun p20 h21=>lp rfl (vK Tryz.isAgg91 Tryz.sizeOf91 rfl rfl h21) ?_
    obtain ⟨z22,x23,H⟩:=bind_some H
    refine YN (.plain rfl) rfl (ltb rfl) rfl rfl (jr.ext (f_a1 _ _ x23) e13) rfl<|fun w24 e25=>nx ?_
    rcases qg H with ⟨q26,H⟩ | ⟨q26,H⟩
    ·refine qn (cb q26)<|wr<|lp rfl (xm (.int .i64 x8_1) rfl)<|lp rfl (xa (.int .i64 x8_1) rfl)<|nx<|qr<|vl<|qo<|qo<|vl<|qo<|qo<|qu ?_
     obtain rfl:=si H
     obtain rfl:=si S17
     have H:=C4
     obtain rfl:=si H
     exact qS rfl (e13.t e25)
    ·refine qj (cb q26)<|qp<|vM<|qf<|qK<|lp rfl (vp h15 rfl)<|lp rfl (xm (.int .i64 (IntKind.wrap .i64 (x8_1 + 1))) rfl)<|nx ?_
     obtain rfl:=si H
     exact ⟨_,Nat.lt_succ_self _,IntKind.wrap .i64 (x8_1 + 1),(ku3 (ku8 K12 rfl) rfl),rfl,(e13.t e25),S17⟩
   ·refine qj (cb q18)<|vu<|qY<|qY<|vZ<|qf ?_
    obtain rfl:=si H
    obtain rfl:=si S17
    exact ⟨(ku1 K12 rfl),e13,rfl⟩
 ·rintro s6 w5 ⟨K7,e8,y27⟩
  rw [y27] at C4
  have H:=C4
  replace H : _ = some _:=H
  refine qf<|wr<|lp rfl (xa (.int .i64 (-1)) rfl)<|nx<|qr<|qu ?_
  obtain rfl:=si H
  exact qS rfl e8
theorem qN.calls {w : World} {a0 : List Nd} {a1 : Nd→Option Bool} {r : Int} {v_a0 : Value} (f_a0 : Rd 4 qJ w v_a0 a0) {v_a1 : Value} (f_a1 : ∀ (x0 : Nd) (r : Bool),a1 x0 = some r→jr Tryz.prog w v_a1 [(.agg (qJ x0).toArray)] (.bool r)) (g_a1 : v_a1.cells = #[v_a1]) (h0 : a0.length≤4611686018427387904) (H : (QD a1 a0) = some r) :
  Calls Tryz.prog 201 #[v_a0,v_a1] w (Rt (RP w (.int .i64 r))):=by
 obtain ⟨k,h⟩:=qN.eq a0 a1 h0 H
 exact qN.walk f_a0 f_a1 g_a1 h
/-! impl.at -/
theorem Qx.calls {w : World} {a0 : List Nd} {a1 : List UInt8} {v_a0 : Value} (f_a0 : Rd 4 qJ w v_a0 a0) (h0 : a0.length≤1048576) :
  Calls Tryz.prog 147 #[v_a0,S a1] w (Rt (RP w (.int .i64 (qC a0 a1)))):=by
 have H:=Qx.eq a0 a1 h0
 generalize (qC a0 a1) = r at H ⊢
 unfold Qx.sh at H
 refine qk Tryz.func147 rfl (Nat.le_of_ble_eq_true rfl) Tryz.ntmps147 rfl ?_
 refine wr<|jm (.plain rfl) rfl (ltb rfl) rfl rfl<|fun b1 w2 z3 z4 e5 k6=>lp rfl (xa (.int .i64 0) rfl)<|nx<|wr<|lp rfl (xm v_a0 rfl)<|lp rfl (QZ (vs:=#[]) (us:=#[.pointer (some ⟨b1,0,none⟩)]) rfl rfl) ?_
 obtain ⟨c11,H⟩:=qa H
 obtain ⟨z12,x13,H⟩:=bind_some H
 refine lc rfl rfl Tryz.call201 (qN.calls (w:=w2) (a0:=a0) (a1:=(fun (x0_ : Nd)=>some (decide (x0_.path = a1)))) (Rd.ext f_a0 e5) (fun x0_ r h=>by have h:=si h; subst h; exact jr.mk Tryz.call202 (by rfl) fun w9 k10=>Qc.calls (w:=w9) (a0:=x0_) (a1:=a1) (Blk.ext k6 k10)) rfl (od c11) x13) rfl<|fun w14 e15=>lp rfl (xa (.int .i64 z12) rfl)<|nx<|qr<|qu ?_
 obtain rfl:=si H
 exact qS rfl (e5.t e15)
/-! impl.isDir -/
theorem jk.calls {w : World} {a0 : List Nd} {a1 : List UInt8} {v_a0 : Value} (f_a0 : Rd 4 qJ w v_a0 a0) (h0 : a0.length≤1048576) :
  Calls Tryz.prog 91 #[v_a0,S a1] w (Rt (RP w (.bool (yd a0 a1)))):=by
 have H:=jk.eq a0 a1 h0
 generalize (yd a0 a1) = r at H ⊢
 unfold jk.sh at H
 refine qk Tryz.func91 rfl (Nat.le_of_ble_eq_true rfl) Tryz.ntmps91 rfl ?_
 refine wr<|lp rfl (xa (.bool false) rfl)<|nx<|wr<|lp rfl (xm v_a0 rfl)<|lp rfl (xm (S a1) rfl) ?_
 obtain ⟨c1,H⟩:=qa H
 refine lc rfl rfl Tryz.call147 (Qx.calls (w:=w) (a0:=a0) (a1:=a1) f_a0 (od c1)) rfl<|fun w2 e3=>lp rfl (xa (.int .i64 (qC a0 a1)) rfl)<|nx<|wr<|lp rfl (xm (S a1) rfl)<|lp rfl (VB rfl rfl)<|lp rfl (xm (.bool (decide (a1 = ([] : List UInt8)))) rfl) ?_
 obtain ⟨z5,x6,H⟩:=bind_some H
 refine jz 11 [(12,23)] 22 (fun q=>q = z5) ?_ ?_
 ·rcases qg x6 with ⟨b3_,H⟩ | ⟨b3_,H⟩
  ·refine ls rfl rfl rfl (cb b3_) rfl<|ls rfl rfl rfl (cb b3_) rfl<|ls rfl rfl rfl (cb b3_) rfl<|lu rfl rfl rfl rfl rfl<|lu rfl rfl rfl rfl rfl<|lu rfl rfl rfl rfl rfl<|lu rfl rfl rfl rfl rfl<|lu rfl rfl rfl rfl rfl<|lu rfl rfl rfl rfl rfl<|ls rfl rfl rfl (cb b3_) rfl<|lp rfl (qF (b:=true) (v:=(.bool true)) (cb b3_) rfl) ?_
   obtain rfl:=si H
   exact nx ⟨(ku3 (ku8 kz rfl) rfl),⟨_,rfl,rfl⟩,er⟩
  ·refine lg rfl rfl rfl rfl (cb b3_) (xm (.int .i64 (qC a0 a1)) rfl)<|lg rfl rfl rfl rfl (cb b3_) (Q2 rfl rfl)<|lg rfl rfl rfl rfl (cb b3_) (xm (.bool (decide (0≤(qC a0 a1)))) rfl) ?_
   obtain ⟨z6,x7,H⟩:=bind_some H
   refine jz 7 [(15,22)] 21 (fun q=>q = z6) ?_ ?_
   ·rcases qg x7 with ⟨b4_,H⟩ | ⟨b4_,H⟩
    ·refine lg rfl rfl rfl rfl (cb b4_) (xm v_a0 rfl)<|lg rfl rfl rfl rfl (cb b4_) (xm (.int .i64 (qC a0 a1)) rfl) ?_
     obtain ⟨c6,H⟩:=qa H
     refine vo (tg rfl rfl rfl (cb b4_)) rfl (ltb rfl) rfl Tryz.underlying29 Tryz.sizeOf91 rfl (Rd.ext f_a0 e3) rfl c6<|fun p7 h8=>lg rfl rfl rfl rfl (cb b4_) (qc Tryz.underlying91 rfl Tryz.sizeOf3 rfl rfl)<|lg rfl rfl rfl rfl (cb b4_) (vX Tryz.isAgg3 (j:=0) h8 rfl rfl)<|lg rfl rfl rfl rfl (cb b4_) (jo rfl rfl)<|lg rfl rfl rfl rfl (cb b3_) (qF (b:=true) (v:=(.bool (decide (((gt a0 (qC a0 a1)).kind) = 3)))) (cb b4_) rfl) ?_
     obtain rfl:=si H
     exact nx ⟨(ku3 (ku4 kz rfl) rfl),⟨_,rfl,rfl⟩,er⟩
    ·refine ls rfl rfl rfl (cb b4_) rfl<|ls rfl rfl rfl (cb b4_) rfl<|ls rfl rfl rfl (cb b4_) rfl<|ls rfl rfl rfl (cb b4_) rfl<|ls rfl rfl rfl (cb b4_) rfl<|ls rfl rfl rfl (cb b4_) rfl<|lg rfl rfl rfl rfl (cb b3_) (qF (b:=false) (v:=(.bool false)) (cb b4_) rfl) ?_
     obtain rfl:=si H
     exact nx ⟨(ku3 (ku4 kz rfl) rfl),⟨_,rfl,rfl⟩,er⟩
   intro s12 w8 z13 K9 hq h10 e11
   rw [hq] at h10; clear hq
   refine lp rfl (qF (b:=false) (v:=(.bool z6)) ((K9 11 rfl).trans (cb b3_)) h10) ?_
   obtain rfl:=si H
   exact nx ⟨(ku1 (Kp.cut (ku3 kz rfl) K9 rfl) rfl),⟨_,rfl,rfl⟩,e11⟩
 intro s14 w7 z15 K8 hq h9 e10
 rw [hq] at h9; clear hq
 refine lp rfl (qz h9)<|nx<|qr<|qu ?_
 obtain rfl:=si H
 exact qS rfl (e3.t e10)
/-! impl.TreeOK -/
abbrev qA.e1 (a0 : List Nd) (x7_1 : Int):=(((decide (24≤x7_1)) || (!(nodeOK (gt a0 x7_1)))) || ((decide (0 < x7_1)) && (!(yk ((gt a0 (IntKind.wrap .i64 (x7_1 - 1))).path) ((gt a0 x7_1).path)))))
abbrev qA.e2 (a0 : List Nd) (x7_1 : Int):=((!((decide (24≤x7_1)) || (!(nodeOK (gt a0 x7_1))))) && (decide (0 < x7_1)))
theorem qA.walk {k : Nat} {w : World} {a0 : List Nd} (gv : GV 0 w) {v_a0 : Value} (f_a0 : Rd 4 qJ w v_a0 a0) {r : Bool} (H : qA.sh k a0 = some r) :
  Calls Tryz.prog 27 #[v_a0] w (Rt (RP w (.bool r))):=by
 unfold qA.sh at H
 refine qk Tryz.func27 rfl (Nat.le_of_ble_eq_true rfl) Tryz.ntmps27 rfl ?_
 refine wr<|lp rfl (xa (.bool false) rfl)<|nx<|qi<|wr<|lp rfl (xm v_a0 rfl)<|lp rfl (vc Tryz.underlying29 rfl f_a0)<|lp rfl (xm (.int .i64 0) rfl)<|nx ?_
 obtain ⟨z2,L3,C4⟩:=bind_some H
 clear H
 refine  vv (fun s0 sQ wQ=>Kp [(2,5),(7,46)] s0 sQ∧Ext w wQ∧z2 = .inr ()) ?_ ?_
 ·refine qB<|vh (fun s0 kk sQ wQ=>∃ (x7_1 : Int),Kp [(2,5),(7,46)] s0 sQ∧sQ 7 = .int .i64 x7_1∧Ext w wQ∧ql (qA.b1 a0) kk x7_1 = some z2) k ⟨0,kz,rfl,er,L3⟩ ?_
  rintro k9 s10 w11 ⟨x7_1,K12,h15,e13,L14⟩
  cases k9 with
  | zero=>exact absurd L14 (by simp [ql])
  | succ k9=>
   obtain ⟨t16,H,S17⟩:=qL L14
   clear L14
   unfold qA.b1 at H
   refine wr<|lp rfl (vw h15 (K12 6 rfl))<|nx<|qi ?_
   rcases qg H with ⟨q18,H⟩ | ⟨q18,H⟩
   ·refine qn (cb q18)<|qp<|qf<|qi<|qB<|wr<|lp rfl (qd h15) ?_
    obtain ⟨c19,H⟩:=qa H
    refine vo (.plain rfl) rfl (ltb rfl) rfl Tryz.underlying29 Tryz.sizeOf91 (K12 5 rfl) (Rd.ext f_a0 e13) h15 c19<|fun p20 h21=>lp rfl (vK Tryz.isAgg91 Tryz.sizeOf91 rfl rfl h21)<|jK (.plain rfl) rfl (ltb rfl) rfl Tryz.zeroValue91<|fun b22 w23 z24 z25 e26 k27=>lp rfl (xa (.int .i64 x7_1) rfl)<|ji (.plain rfl) rfl rfl Tryz.sizeOf91 rfl rfl rfl rfl rfl k27<|fun w28 h29 k30=>nx<|qi ?_
    obtain ⟨c33,H⟩:=qa H
    obtain ⟨c38,H⟩:=qa H
    obtain ⟨c41,H⟩:=qa H
    obtain ⟨c44,H⟩:=qa H
    refine Jf [LEq (.int .i64 x7_1),LEq (.bool (decide (24≤x7_1))),LEq (.bool (decide (24≤x7_1))),LIf (!(decide (24≤x7_1))) (LEq (.agg #[(.int .i64 ((gt a0 x7_1).kind)),(S ((gt a0 x7_1).path)),(S ((gt a0 x7_1).body)),(.int .i64 ((gt a0 x7_1).mode))])),LIf (!(decide (24≤x7_1))) (LEq (.bool (nodeOK (gt a0 x7_1)))),LIf (!(decide (24≤x7_1))) (LEq (.bool (!(nodeOK (gt a0 x7_1))))),LEq (.bool ((decide (24≤x7_1)) || (!(nodeOK (gt a0 x7_1))))),LEq (.bool ((decide (24≤x7_1)) || (!(nodeOK (gt a0 x7_1))))),LIf (!((decide (24≤x7_1)) || (!(nodeOK (gt a0 x7_1))))) (LEq (.int .i64 x7_1)),LIf (!((decide (24≤x7_1)) || (!(nodeOK (gt a0 x7_1))))) (LEq (.bool (decide (0 < x7_1)))),LIf (!((decide (24≤x7_1)) || (!(nodeOK (gt a0 x7_1))))) (LEq (.bool (decide (0 < x7_1)))),LIf (qA.e2 a0 x7_1) (LEq v_a0),LIf (qA.e2 a0 x7_1) (LEq (.int .i64 x7_1)),LIf (qA.e2 a0 x7_1) (LEq (.int .i64 (IntKind.wrap .i64 (x7_1 - 1)))),LIf (qA.e2 a0 x7_1) (yW (qJ (gt a0 (IntKind.wrap .i64 (x7_1 - 1))))),LIf (qA.e2 a0 x7_1) (LAt 1 (qJ (gt a0 (IntKind.wrap .i64 (x7_1 - 1))))),LIf (qA.e2 a0 x7_1) (LEq (S ((gt a0 (IntKind.wrap .i64 (x7_1 - 1))).path))),LIf (qA.e2 a0 x7_1) (LEq (.pointer (some ⟨b22,1,none⟩))),LIf (qA.e2 a0 x7_1) (LEq (S ((gt a0 x7_1).path))),LIf (qA.e2 a0 x7_1) (LEq (.bool (yk ((gt a0 (IntKind.wrap .i64 (x7_1 - 1))).path) ((gt a0 x7_1).path)))),LIf (qA.e2 a0 x7_1) (LEq (.bool (!(yk ((gt a0 (IntKind.wrap .i64 (x7_1 - 1))).path) ((gt a0 x7_1).path))))),LIf (!((decide (24≤x7_1)) || (!(nodeOK (gt a0 x7_1))))) (LEq (.bool ((decide (0 < x7_1)) && (!(yk ((gt a0 (IntKind.wrap .i64 (x7_1 - 1))).path) ((gt a0 x7_1).path)))))),LEq (.bool (qA.e1 a0 x7_1)),LEq (.bool (qA.e1 a0 x7_1)),LIf (!(qA.e1 a0 x7_1)) (LEq v_a0),LIf (!(qA.e1 a0 x7_1)) (LEq (.int .i64 x7_1)),LIf (!(qA.e1 a0 x7_1)) (LRd 4 qJ (sub a0 0 x7_1)),LIf (!(qA.e1 a0 x7_1)) (LEq (.pointer (some ⟨b22,1,none⟩))),LIf (!(qA.e1 a0 x7_1)) (LEq (S ((gt a0 x7_1).path))),LIf (!(qA.e1 a0 x7_1)) (LEq (S (qe ((gt a0 x7_1).path)))),LIf (!(qA.e1 a0 x7_1)) (LEq (.bool (yd (sub a0 0 x7_1) (qe ((gt a0 x7_1).path))))),LIf (!(qA.e1 a0 x7_1)) (LEq (.bool (!(yd (sub a0 0 x7_1) (qe ((gt a0 x7_1).path)))))),LEq (.bool ((qA.e1 a0 x7_1) || (!(yd (sub a0 0 x7_1) (qe ((gt a0 x7_1).path))))))] (by kernel_rfl) (by kernel_rfl) ⟨qm,qm,qm,lm,lm,lm,qm,qm,lm,lm,lm,lm,lm,lm,(LIf.mono yW.mono),(LIf.mono LAt.mono),lm,lm,lm,lm,lm,lm,qm,qm,lm,lm,(LIf.mono LRd.mono),lm,lm,lm,lm,lm,qm,trivial⟩ ⟨?_,?_,?_,?_,?_,?_,?_,?_,?_,?_,?_,?_,?_,?_,?_,?_,?_,?_,?_,?_,?_,?_,?_,?_,?_,?_,?_,?_,?_,?_,?_,?_,?_,trivial⟩ ?_
    ·exact fun s x e f d u=>lp rfl (xm (.int .i64 x7_1) (f 3 rfl))<|se rfl rfl
    ·exact fun s x e f d u=>lp rfl (Q2 (d 0 rfl) rfl)<|se rfl rfl
    ·exact fun s x e f d u=>lp rfl (qd (d 1 rfl))<|se rfl rfl
    ·exact fun s x e f d u=>gF rfl rfl rfl rfl (d 2 rfl) rfl fun b t=>lt t rfl rfl (vK Tryz.isAgg91 Tryz.sizeOf91 rfl (f 4 rfl) (Blk.at0 (Blk.ext k30 e)))<|sg rfl rfl b rfl
    ·exact fun s x e f d u=>gF rfl rfl rfl rfl (d 2 rfl) rfl fun b t=>vY t rfl (ltb rfl) rfl Tryz.call90 (jF.calls (w:=x) (a0:=(gt a0 x7_1)) (GV.ext gv ((e13.t (Below.trans e26 (Wr.below h29 (Nat.le_of_eq z24)))).t e))) (ya ((d 3 rfl).1 (qE (q3 b))) rfl)<|fun w47 e48=>sgx rfl rfl b e48 rfl
    ·exact fun s x e f d u=>gF rfl rfl rfl rfl (d 2 rfl) rfl fun b t=>lt t rfl rfl (yG ((d 4 rfl).1 (qE (q3 b))))<|sg rfl rfl b rfl
    ·exact fun s x e f d u=>lp rfl (jV (d 2 rfl) rfl fun h=>((d 5 rfl).1 (qE h)))<|se rfl rfl
    ·exact fun s x e f d u=>lp rfl (qd (d 6 rfl))<|se rfl rfl
    ·exact fun s x e f d u=>gF rfl rfl rfl rfl (d 7 rfl) rfl fun b t=>lt t rfl rfl (xm (.int .i64 x7_1) (f 3 rfl))<|sg rfl rfl b rfl
    ·exact fun s x e f d u=>gF rfl rfl rfl rfl (d 7 rfl) rfl fun b t=>lt t rfl rfl (j1 ((d 8 rfl).1 (qE (q3 b))) rfl)<|sg rfl rfl b rfl
    ·exact fun s x e f d u=>gF rfl rfl rfl rfl (d 7 rfl) rfl fun b t=>lt t rfl rfl (xm (.bool (decide (0 < x7_1))) ((d 9 rfl).1 (qE (q3 b))))<|sg rfl rfl b rfl
    ·exact fun s x e f d u=>hT rfl rfl rfl rfl (d 10 rfl) rfl fun b t=>lt t rfl rfl (xm v_a0 ((f 0 rfl).trans (K12 0 rfl)))<|sg rfl rfl b rfl
    ·exact fun s x e f d u=>hT rfl rfl rfl rfl (d 10 rfl) rfl fun b t=>lt t rfl rfl (xm (.int .i64 x7_1) (f 3 rfl))<|sg rfl rfl b rfl
    ·exact fun s x e f d u=>hT rfl rfl rfl rfl (d 10 rfl) rfl fun b t=>lt t rfl rfl (Yb ((d 12 rfl).1 (qQ (qE (q3 (yS b))) (yP b))) rfl)<|sg rfl rfl b rfl
    ·exact fun s x e f d u=>hT rfl rfl rfl rfl (d 10 rfl) rfl fun b t=>vo t rfl (ltb rfl) rfl Tryz.underlying29 Tryz.sizeOf91 ((d 11 rfl).1 (qQ (qE (q3 (yS b))) (yP b))) (Rd.ext f_a0 ((e13.t (Below.trans e26 (Wr.below h29 (Nat.le_of_eq z24)))).t e)) ((d 13 rfl).1 (qQ (qE (q3 (yS b))) (yP b))) (yI b c33)<|fun p50 h51=>sg rfl rfl b ⟨_,rfl,h51⟩
    ·intro s x e f d u
     refine hT rfl rfl rfl rfl (d 10 rfl) rfl fun b t=>?_
     obtain ⟨p52,h53,h54⟩:=((d 14 rfl).1 (qQ (qE (q3 (yS b))) (yP b)))
     exact lt t rfl rfl (qc Tryz.underlying91 rfl Tryz.sizeOf9 rfl h53)<|sg rfl rfl b ⟨_,rfl,h54⟩
    ·intro s x e f d u
     refine hT rfl rfl rfl rfl (d 10 rfl) rfl fun b t=>?_
     obtain ⟨p55,h56,h57⟩:=((d 15 rfl).1 (qQ (qE (q3 (yS b))) (yP b)))
     exact lt t rfl rfl (vX Tryz.isAgg9 (j:=1) h57 h56 rfl)<|sg rfl rfl b rfl
    ·exact fun s x e f d u=>hT rfl rfl rfl rfl (d 10 rfl) rfl fun b t=>lt t rfl rfl (qc Tryz.underlying91 rfl Tryz.sizeOf9 rfl (f 4 rfl))<|sg rfl rfl b rfl
    ·exact fun s x e f d u=>hT rfl rfl rfl rfl (d 10 rfl) rfl fun b t=>lt t rfl rfl (qy Tryz.isAgg9 (Blk.ext k30 e) ((d 17 rfl).1 (qQ (qE (q3 (yS b))) (yP b))) rfl)<|sg rfl rfl b rfl
    ·exact fun s x e f d u=>hT rfl rfl rfl rfl (d 10 rfl) rfl fun b t=>vY t rfl (ltb rfl) rfl Tryz.call37 (yL.calls (w:=x) (a0:=(gt a0 (IntKind.wrap .i64 (x7_1 - 1))).path) (a1:=(gt a0 x7_1).path) (GV.ext gv ((e13.t (Below.trans e26 (Wr.below h29 (Nat.le_of_eq z24)))).t e))) (ya ((d 16 rfl).1 (qQ (qE (q3 (yS b))) (yP b))) (ya ((d 18 rfl).1 (qQ (qE (q3 (yS b))) (yP b))) rfl))<|fun w58 e59=>sgx rfl rfl b e59 rfl
    ·exact fun s x e f d u=>hT rfl rfl rfl rfl (d 10 rfl) rfl fun b t=>lt t rfl rfl (yG ((d 19 rfl).1 (qQ (qE (q3 (yS b))) (yP b))))<|sg rfl rfl b rfl
    ·exact fun s x e f d u=>gF rfl rfl rfl rfl (d 7 rfl) rfl fun b t=>lt t rfl rfl (QW ((d 10 rfl).1 (qE (q3 b))) rfl fun h=>((d 20 rfl).1 (qQ (qE (q3 b)) h)))<|sg rfl rfl b rfl
    ·exact fun s x e f d u=>lp rfl (jV (d 7 rfl) rfl fun h=>((d 21 rfl).1 (qE h)))<|se rfl rfl
    ·exact fun s x e f d u=>lp rfl (qd (d 22 rfl))<|se rfl rfl
    ·exact fun s x e f d u=>gF rfl rfl rfl rfl (d 23 rfl) rfl fun b t=>lt t rfl rfl (xm v_a0 ((f 0 rfl).trans (K12 0 rfl)))<|sg rfl rfl b rfl
    ·exact fun s x e f d u=>gF rfl rfl rfl rfl (d 23 rfl) rfl fun b t=>lt t rfl rfl (xm (.int .i64 x7_1) (f 3 rfl))<|sg rfl rfl b rfl
    ·exact fun s x e f d u=>gF rfl rfl rfl rfl (d 23 rfl) rfl fun b t=>XI t rfl (ltb rfl) rfl Tryz.underlying29 Tryz.sizeOf91 ((d 24 rfl).1 (qE (q3 b))) (Rd.ext f_a0 ((e13.t (Below.trans e26 (Wr.below h29 (Nat.le_of_eq z24)))).t e)) (l:=0) (h:=x7_1) rfl ⟨_,((d 25 rfl).1 (qE (q3 b)))⟩ (yI b c38)<|fun v61 h62=>sg rfl rfl b h62
    ·exact fun s x e f d u=>gF rfl rfl rfl rfl (d 23 rfl) rfl fun b t=>lt t rfl rfl (qc Tryz.underlying91 rfl Tryz.sizeOf9 rfl (f 4 rfl))<|sg rfl rfl b rfl
    ·exact fun s x e f d u=>gF rfl rfl rfl rfl (d 23 rfl) rfl fun b t=>lt t rfl rfl (qy Tryz.isAgg9 (Blk.ext k30 e) ((d 27 rfl).1 (qE (q3 b))) rfl)<|sg rfl rfl b rfl
    ·exact fun s x e f d u=>gF rfl rfl rfl rfl (d 23 rfl) rfl fun b t=>vY t rfl (ltb rfl) rfl Tryz.call92 (yr.calls (w:=x) (a0:=(gt a0 x7_1).path) (od (yI b c41))) (ya ((d 28 rfl).1 (qE (q3 b))) rfl)<|fun w64 e65=>sgx rfl rfl b e65 rfl
    ·intro s x e f d u
     refine gF rfl rfl rfl rfl (d 23 rfl) rfl fun b t=>?_
     have d66 : Rd 4 qJ x (s 38) (sub a0 0 x7_1):=((d 26 rfl).1 (qE (q3 b)))
     exact vY t rfl (ltb rfl) rfl Tryz.call91 (jk.calls (w:=x) (a0:=sub a0 0 x7_1) (a1:=(qe ((gt a0 x7_1).path))) d66 (od (yI b c44))) (ya rfl (ya ((d 29 rfl).1 (qE (q3 b))) rfl))<|fun w68 e69=>sgx rfl rfl b e69 rfl
    ·exact fun s x e f d u=>gF rfl rfl rfl rfl (d 23 rfl) rfl fun b t=>lt t rfl rfl (yG ((d 30 rfl).1 (qE (q3 b))))<|sg rfl rfl b rfl
    ·exact fun s x e f d u=>lp rfl (jV (d 23 rfl) rfl fun h=>((d 31 rfl).1 (qE h)))<|se rfl rfl
    intro s70 w71 e72 hf73 ha74
    have K75:=Kp.ofD (kp:=[(12,45)]) rfl hf73
    have d76 : s70 44 = (.bool ((qA.e1 a0 x7_1) || (!(yd (sub a0 0 x7_1) (qe ((gt a0 x7_1).path)))))):=ha74 32 rfl
    clear ha74 hf73
    refine qf ?_
    rcases qg H with ⟨q77,H⟩ | ⟨q77,H⟩
    ·refine qn (d76.trans (cb q77))<|wr<|lp rfl (xa (.bool false) rfl)<|nx<|qr<|vl<|qo<|qo<|vl<|qo<|qo<|qu ?_
     obtain rfl:=si H
     obtain rfl:=si S17
     have H:=C4
     obtain rfl:=si H
     exact qS rfl ((e13.t (Below.trans e26 (Wr.below h29 (Nat.le_of_eq z24)))).t e72)
    ·refine qj (d76.trans (cb q77))<|qp<|vM<|qf<|qK<|lp rfl (vp ((K75 7 rfl).trans h15) rfl)<|lp rfl (xm (.int .i64 (IntKind.wrap .i64 (x7_1 + 1))) rfl)<|nx ?_
     obtain rfl:=si H
     exact ⟨_,Nat.lt_succ_self _,IntKind.wrap .i64 (x7_1 + 1),(ku2 (Kp.cut (ku2 (ku4 K12 rfl) rfl) K75 rfl) rfl),rfl,((e13.t (Below.trans e26 (Wr.below h29 (Nat.le_of_eq z24)))).t e72),S17⟩
   ·refine qj (cb q18)<|vu<|qY<|qY<|vZ<|qf ?_
    obtain rfl:=si H
    obtain rfl:=si S17
    exact ⟨(ku1 K12 rfl),e13,rfl⟩
 ·rintro s6 w5 ⟨K7,e8,y78⟩
  rw [y78] at C4
  have H:=C4
  replace H : _ = some _:=H
  refine qf<|wr<|lp rfl (xa (.bool true) rfl)<|nx<|qr<|qu ?_
  obtain rfl:=si H
  exact qS rfl e8
theorem qA.calls {w : World} {a0 : List Nd} (gv : GV 0 w) {v_a0 : Value} (f_a0 : Rd 4 qJ w v_a0 a0) (h0 : a0.length≤1048576) (h1 : ∀ x ∈ a0,x.path.length≤1048576) :
  Calls Tryz.prog 27 #[v_a0] w (Rt (RP w (.bool (qX a0)))):=by
 obtain ⟨k,h⟩:=qA.eq a0 h0 h1
 exact qA.walk gv f_a0 h
/-! impl.ancestors -/
theorem ve.calls {w : World} {a0 : List UInt8} (h0 : a0.length≤1048576) :
  Calls Tryz.prog 141 #[S a0] w (Rt (RO 9 1 vI w (yv a0))):=by
 obtain ⟨k,H⟩:=ve.eq a0 h0
 generalize (yv a0) = r at H ⊢
 unfold ve.sh at H
 refine qk Tryz.func141 rfl (Nat.le_of_ble_eq_true rfl) Tryz.ntmps141 rfl ?_
 refine wr<|lp rfl (xa (.slice none 0 0) rfl)<|nx<|wr<|yz (.plain rfl) rfl (ltb rfl) rfl Tryz.underlying44 Tryz.sizeOf9 Tryz.zeroValue9 rfl rfl rfl (vs:=[]) rfl (vH rfl)<|fun b1 w2 z3 z4 e5 k6=>lp rfl (xa (.slice (some ⟨b1,0,none⟩) 0 0) rfl)<|nx<|qi<|wr<|lp rfl (xm (S a0) rfl) ?_
 obtain ⟨c7,H⟩:=qa H
 refine lc rfl rfl Tryz.call92 (yr.calls (w:=w2) (a0:=a0) (od c7)) rfl<|fun w8 e9=>lp rfl (xa (S (qe a0)) rfl)<|nx ?_
 obtain ⟨z13,L14,C15⟩:=bind_some H
 clear H
 refine  vv (fun s0 sQ wQ=>∃ (x3_16 : List (List UInt8)) (v17 : Value),Kp [(0,1),(3,4),(7,15)] s0 sQ∧sQ 3 = v17∧Ow 9 1 vI w8.heap.size wQ v17 x3_16∧Ext w8 wQ∧z13 = .inr x3_16) ?_ ?_
 ·refine qB<|vh (fun s0 kk sQ wQ=>∃ (x0_10 : List UInt8) (x3_11 : List (List UInt8)) (v12 : Value),Kp [(0,1),(3,4),(7,15)] s0 sQ∧sQ 0 = S x0_10∧sQ 3 = v12∧Ow 9 1 vI w8.heap.size wQ v12 x3_11∧Ext w8 wQ∧ql (ve.b1) kk (x0_10,x3_11) = some z13) k ⟨(qe a0),([] : List (List UInt8)),(.slice (some ⟨b1,0,none⟩) 0 0),kz,rfl,rfl,(Ow.zero),er,L14⟩ ?_
  rintro k22 s23 w24 ⟨x0_10,x3_11,v12,K25,h28,h29,h30,e26,L27⟩
  cases k22 with
  | zero=>exact absurd L27 (by simp [ql])
  | succ k22=>
   obtain ⟨t31,H,S32⟩:=qL L27
   clear L27
   unfold ve.b1 at H
   refine qi<|wr<|lp rfl (qd h28)<|lp rfl (j3 rfl rfl)<|nx ?_
   rcases qg H with ⟨q33,H⟩ | ⟨q33,H⟩
   ·refine qn (cb q33)<|qp<|qf<|qi<|qB<|qK<|lp rfl (qd h29)<|lp rfl (qd h28)<|yz (.plain rfl) rfl (ltb rfl) rfl Tryz.underlying44 Tryz.sizeOf9 Tryz.zeroValue9 rfl rfl rfl (vs:=[(S x0_10)]) rfl (vH rfl)<|fun b34 w35 z36 z37 e38 k39=>?_
    obtain ⟨c40,H⟩:=qa H
    refine yH (enc:=vI) (.plain rfl) rfl (ltb rfl) rfl El.t44 rfl rfl (Ow.ext h30 e38) (Ow.rd (Ow.new (xs:=[x0_10]) (sz:=1) (enc:=vI) (base:=w24.heap.size) k39 (Nat.le_of_eq z36) rfl (fun _ _=>by rfl) (Nat.le_of_ble_eq_true rfl))) (Vi _) (od c40) ((e26.t e38)).size<|fun v41 w42 o43 z44 g45=>lp rfl (xa v41 rfl)<|qZ<|vM<|qf<|qK<|lp rfl (qd h28) ?_
    obtain ⟨c46,H⟩:=qa H
    refine lc rfl rfl Tryz.call92 (yr.calls (w:=w42) (a0:=x0_10) (od c46)) rfl<|fun w47 e48=>lp rfl (xa (S (qe x0_10)) rfl)<|nx ?_
    obtain rfl:=si H
    exact ⟨_,Nat.lt_succ_self _,(qe x0_10),x3_11 ++ ([x0_10] : List (List UInt8)),v41,(ku2 (ku8 K25 rfl) rfl),rfl,rfl,(Ow.ext o43 e48),(Ext.trans (g45 _ (e26.t e38)) e48),S32⟩
   ·refine qj (cb q33)<|vu<|qY<|qY<|vZ<|qf ?_
    obtain rfl:=si H
    obtain rfl:=si S32
    exact ⟨x3_11,v12,(ku2 K25 rfl),h29,h30,e26,rfl⟩
 ·rintro s19 w18 ⟨x3_16,v17,K20,h49,h50,e21,y51⟩
  rw [y51] at C15
  have H:=C15
  replace H : _ = some _:=H
  refine qf<|wr<|lp rfl (qd h49)<|lp rfl (xa v17 rfl)<|nx<|qr<|qu ?_
  obtain rfl:=si H
  exact Q3 rfl ((e5.t e9).t e21) h50 ((e5.t e9)).size
/-! impl.isLongList(impl.Node) -/
theorem vW.calls {w : World} {a0 : List Nd} {v_a0 : Value} (f_a0 : Rd 4 qJ w v_a0 a0) :
  Calls Tryz.prog 86 #[v_a0] w (Rt (RP w (.bool (decide (4096 < a0.length))))):=by
 have H:=vW.eq a0
 generalize (decide (4096 < a0.length)) = r at H ⊢
 unfold vW.sh at H
 refine qk Tryz.func86 rfl (Nat.le_of_ble_eq_true rfl) Tryz.ntmps86 rfl ?_
 refine wr<|lp rfl (xa (.bool false) rfl)<|nx<|wr<|lp rfl (xm v_a0 rfl)<|lp rfl (vc Tryz.underlying29 rfl f_a0)<|lp rfl (j1 rfl rfl)<|lp rfl (xa (.bool (decide (4096 < (a0.length : Int)))) rfl)<|nx<|qr<|qu ?_
 obtain rfl:=si H
 exact qS rfl er
/-! impl.records -/
theorem vx.calls {w : World} {a0 : List Nd} {v_a0 : Value} (f_a0 : Rd 4 qJ w v_a0 a0) (h0 : a0.length≤1048576) :
  Calls Tryz.prog 218 #[v_a0] w (Rt (RO 52 5 qv w (a0.map qM))):=by
 obtain ⟨k,H⟩:=vx.eq a0 h0
 generalize (a0.map qM) = r at H ⊢
 unfold vx.sh at H
 refine qk Tryz.func218 rfl (Nat.le_of_ble_eq_true rfl) Tryz.ntmps218 rfl ?_
 refine wr<|lp rfl (xa (.slice none 0 0) rfl)<|nx<|wr<|yz (.plain rfl) rfl (ltb rfl) rfl Tryz.underlying35 Tryz.sizeOf52 Tryz.zeroValue52 rfl rfl rfl (vs:=[]) rfl (vH rfl)<|fun b1 w2 z3 z4 e5 k6=>lp rfl (xa (.slice (some ⟨b1,0,none⟩) 0 0) rfl)<|nx<|qi<|wr<|lp rfl (xm v_a0 rfl)<|lp rfl (vc Tryz.underlying29 rfl (Rd.ext f_a0 e5))<|lp rfl (xm (.int .i64 0) rfl)<|nx ?_
 obtain ⟨z10,L11,C12⟩:=bind_some H
 clear H
 refine  vv (fun s0 sQ wQ=>∃ (x3_13 : List Rec) (v14 : Value),Kp [(3,4),(5,6),(9,19)] s0 sQ∧sQ 3 = v14∧Ow 52 5 qv w2.heap.size wQ v14 x3_13∧Ext w2 wQ∧z10 = .inr x3_13) ?_ ?_
 ·refine qB<|vh (fun s0 kk sQ wQ=>∃ (x3_7 : List Rec) (v8 : Value) (x9_9 : Int),Kp [(3,4),(5,6),(9,19)] s0 sQ∧sQ 3 = v8∧Ow 52 5 qv w2.heap.size wQ v8 x3_7∧sQ 9 = .int .i64 x9_9∧Ext w2 wQ∧ql (vx.b1 a0) kk (x3_7,x9_9) = some z10) k ⟨([] : List Rec),(.slice (some ⟨b1,0,none⟩) 0 0),0,kz,rfl,(Ow.zero),rfl,er,L11⟩ ?_
  rintro k19 s20 w21 ⟨x3_7,v8,x9_9,K22,h25,h26,h27,e23,L24⟩
  cases k19 with
  | zero=>exact absurd L24 (by simp [ql])
  | succ k19=>
   obtain ⟨t28,H,S29⟩:=qL L24
   clear L24
   unfold vx.b1 at H
   refine wr<|lp rfl (vw h27 (K22 8 rfl))<|nx<|qi ?_
   rcases qg H with ⟨q30,H⟩ | ⟨q30,H⟩
   ·refine qn (cb q30)<|qp<|qf<|qi<|qB<|wr ?_
    obtain ⟨c31,H⟩:=qa H
    refine vo (.plain rfl) rfl (ltb rfl) rfl Tryz.underlying29 Tryz.sizeOf91 (K22 7 rfl) (Rd.ext f_a0 (e5.t e23)) h27 c31<|fun p32 h33=>lp rfl (vK Tryz.isAgg91 Tryz.sizeOf91 rfl rfl h33)<|jK (.plain rfl) rfl (ltb rfl) rfl Tryz.zeroValue91<|fun b34 w35 z36 z37 e38 k39=>ji (.plain rfl) rfl rfl Tryz.sizeOf91 rfl rfl rfl rfl rfl k39<|fun w40 h41 k42=>nx<|qK<|lp rfl (qd h25)<|lp rfl (vK Tryz.isAgg91 Tryz.sizeOf91 rfl rfl (Blk.at0 k42))<|lc rfl rfl Tryz.call158 (vN.calls (w:=w40) (a0:=(gt a0 x9_9))) rfl<|fun w43 e44=>yz (.plain rfl) rfl (ltb rfl) rfl Tryz.underlying35 Tryz.sizeOf52 Tryz.zeroValue52 rfl rfl rfl (vs:=[(.agg (qv (qM (gt a0 x9_9))).toArray)]) rfl (vH rfl)<|fun b45 w46 z47 z48 e49 k50=>?_
    obtain ⟨c51,H⟩:=qa H
    refine yH (enc:=qv) (.plain rfl) rfl (ltb rfl) rfl El.t35 rfl rfl (Ow.ext h26 (Ext.trans (Ext.trans (Below.trans e38 (Wr.below h41 (Nat.le_of_eq z36))) e44) e49)) (Ow.rd (Ow.new (xs:=[(qM (gt a0 x9_9))]) (sz:=5) (enc:=qv) (base:=w43.heap.size) k50 (Nat.le_of_eq z47) rfl (fun _ _=>by rfl) (Nat.le_of_ble_eq_true rfl))) (jH _) (od c51) ((((e23.t (Below.trans e38 (Wr.below h41 (Nat.le_of_eq z36)))).t e44).t e49)).size<|fun v52 w53 o54 z55 g56=>lp rfl (xa v52 rfl)<|qZ<|vM<|qf<|qK<|lp rfl (vp h27 rfl)<|lp rfl (xm (.int .i64 (IntKind.wrap .i64 (x9_9 + 1))) rfl)<|nx ?_
    obtain rfl:=si H
    exact ⟨_,Nat.lt_succ_self _,x3_7 ++ ([(qM (gt a0 x9_9))] : List Rec),v52,IntKind.wrap .i64 (x9_9 + 1),(ku4 (ku8 K22 rfl) rfl),rfl,o54,rfl,(g56 _ (((e23.t (Below.trans e38 (Wr.below h41 (Nat.le_of_eq z36)))).t e44).t e49)),S29⟩
   ·refine qj (cb q30)<|vu<|qY<|qY<|vZ<|qf ?_
    obtain rfl:=si H
    obtain rfl:=si S29
    exact ⟨x3_7,v8,(ku1 K22 rfl),h25,h26,e23,rfl⟩
 ·rintro s16 w15 ⟨x3_13,v14,K17,h57,h58,e18,y59⟩
  rw [y59] at C12
  have H:=C12
  replace H : _ = some _:=H
  refine qf<|wr<|lp rfl (qd h57)<|lp rfl (xa v14 rfl)<|nx<|qr<|qu ?_
  obtain rfl:=si H
  exact Q3 rfl (e5.t e18) h58 (e5).size
/-! laws.markNodeS -/
abbrev qD.e1 (x1_1 : Int):=(IntKind.wrap .i64 ((IntKind.wrap .i64 (x1_1 + 1)) + 1))
theorem qD.walk {k : Nat} {w : World} {a0 : List Nd} {a1 : Int} {v_a0 : Value} {B_a0 : Nat} {T_a0 : Nat} (o_a0 : Ow 91 4 qJ B_a0 w v_a0 a0) (l_a0 : HB v_a0 T_a0) {r : Int × List Nd} (H : qD.sh k a0 a1 = some r) :
  Calls Tryz.prog 45 #[v_a0,.int .i64 a1] w (Rt (RM 91 4 qJ B_a0 T_a0 w (.int .i64 r.1) v_a0 r.2)):=by
 unfold qD.sh at H
 refine qk Tryz.func45 rfl (Nat.le_of_ble_eq_true rfl) Tryz.ntmps45 rfl ?_
 refine wr<|lp rfl (xa (.int .i64 0) rfl)<|nx<|qi<|wr<|lp rfl (xa (.int .i64 0) rfl)<|nx ?_
 obtain ⟨z4,L5,C6⟩:=bind_some H
 clear H
 refine  vv (fun s0 sQ wQ=>∃ (x1_7 : Int) (y8 : List Nd),Kp [(1,2),(5,42)] s0 sQ∧sQ 1 = .int .i64 x1_7∧Ow 91 4 qJ B_a0 wQ v_a0 y8∧Gr B_a0 T_a0 w wQ∧z4 = .inr (x1_7,y8)) ?_ ?_
 ·refine qB<|vh (fun s0 kk sQ wQ=>∃ (x1_1 : Int) (x5_2 : Int) (y3 : List Nd),Kp [(1,2),(5,42)] s0 sQ∧sQ 1 = .int .i64 x1_1∧sQ 5 = .int .i64 x5_2∧Ow 91 4 qJ B_a0 wQ v_a0 y3∧Gr B_a0 T_a0 w wQ∧ql (qD.b1) kk (x1_1,x5_2,y3) = some z4) k ⟨a1,0,a0,kz,rfl,rfl,o_a0,(Gr.refl _ _ _),L5⟩ ?_
  rintro k13 s14 w15 ⟨x1_1,x5_2,y3,K16,h19,h20,h21,e17,L18⟩
  cases k13 with
  | zero=>exact absurd L18 (by simp [ql])
  | succ k13=>
   obtain ⟨t22,H,S23⟩:=qL L18
   clear L18
   unfold qD.b1 at H
   refine qi<|wr<|lp rfl (qd h20)<|lp rfl (xm v_a0 (K16 0 rfl))<|lp rfl (vc Tryz.underlying29 rfl (Ow.rd h21))<|lp rfl (vw rfl rfl)<|nx ?_
   rcases qg H with ⟨q24,H⟩ | ⟨q24,H⟩
   ·refine qn (cb q24)<|qp<|qf<|qi<|qB<|wr<|lp rfl (xm v_a0 (K16 0 rfl))<|lp rfl (qd h20)<|lp rfl (qd h19) ?_
    obtain ⟨c27,H⟩:=qa H
    refine QB (.plain rfl) rfl (ltb rfl) rfl Tryz.underlying29 Tryz.sizeOf91 rfl h21 rfl c27<|fun p25 h26=>lp rfl (qc Tryz.underlying91 rfl Tryz.sizeOf3 rfl rfl)<|V3 (a:=(⟨x1_1,(gt y3 x5_2).path,(gt y3 x5_2).body,(gt y3 x5_2).mode⟩ : Nd)) (vs:=[(.int .i64 x1_1)]) (off:=0) (.plain rfl) rfl rfl Tryz.sizeOf3 rfl h26 rfl rfl rfl rfl rfl rfl<|fun b28 w29 h30 h31 h32 o33=>nx<|wr<|lp rfl (qd h19)<|lp rfl (vp rfl rfl)<|lp rfl (xa (.int .i64 (IntKind.wrap .i64 (x1_1 + 1))) rfl)<|nx<|wr<|lp rfl (xm v_a0 (K16 0 rfl))<|lp rfl (qd h20)<|lp rfl (xm (.int .i64 (IntKind.wrap .i64 (x1_1 + 1))) rfl) ?_
    obtain ⟨c34,H⟩:=qa H
    refine lc rfl rfl Tryz.call112 (qU.calls (w:=w29) (a0:=IntKind.wrap .i64 (x1_1 + 1)) (od c34)) rfl<|fun w35 e36=>QB (.plain rfl) rfl (ltb rfl) rfl Tryz.underlying29 Tryz.sizeOf91 rfl (Ow.ext o33 e36) rfl (yJ c27)<|fun p37 h38=>lp rfl (qc Tryz.underlying91 rfl Tryz.sizeOf9 rfl rfl)<|jL (a:=(⟨x1_1,(vU (IntKind.wrap .i64 (x1_1 + 1))),(gt y3 x5_2).body,(gt y3 x5_2).mode⟩ : Nd)) (vs:=[(S (vU (IntKind.wrap .i64 (x1_1 + 1))))]) (off:=1) (.plain rfl) rfl rfl Tryz.sizeOf9 rfl c27 h38 rfl rfl rfl rfl rfl rfl<|fun b39 w40 h41 h42 h43 o44=>nx<|wr<|lp rfl (xm (.int .i64 (IntKind.wrap .i64 (x1_1 + 1))) rfl)<|lp rfl (vp rfl rfl)<|lp rfl (xa (.int .i64 (qD.e1 x1_1)) rfl)<|nx<|wr<|lp rfl (xm v_a0 (K16 0 rfl))<|lp rfl (qd h20)<|lp rfl (xm (.int .i64 (qD.e1 x1_1)) rfl) ?_
    obtain ⟨c45,H⟩:=qa H
    refine lc rfl rfl Tryz.call112 (qU.calls (w:=w40) (a0:=IntKind.wrap .i64 ((IntKind.wrap .i64 (x1_1 + 1)) + 1)) (od c45)) rfl<|fun w46 e47=>QB (.plain rfl) rfl (ltb rfl) rfl Tryz.underlying29 Tryz.sizeOf91 rfl (Ow.ext o44 e47) rfl (yJ c27)<|fun p48 h49=>lp rfl (qc Tryz.underlying91 rfl Tryz.sizeOf9 rfl rfl)<|jL (a:=(⟨x1_1,(vU (IntKind.wrap .i64 (x1_1 + 1))),(vU (qD.e1 x1_1)),(gt y3 x5_2).mode⟩ : Nd)) (vs:=[(S (vU (qD.e1 x1_1)))]) (off:=2) (.plain rfl) rfl rfl Tryz.sizeOf9 rfl c27 h49 rfl rfl rfl rfl rfl rfl<|fun b50 w51 h52 h53 h54 o55=>nx<|wr<|lp rfl (xm (.int .i64 (qD.e1 x1_1)) rfl)<|lp rfl (vp rfl rfl)<|lp rfl (qz rfl)<|nx<|wr<|lp rfl (xm v_a0 (K16 0 rfl))<|lp rfl (qd h20)<|lp rfl (qd rfl)<|QB (.plain rfl) rfl (ltb rfl) rfl Tryz.underlying29 Tryz.sizeOf91 rfl o55 rfl (yJ c27)<|fun p56 h57=>lp rfl (qc Tryz.underlying91 rfl Tryz.sizeOf3 rfl rfl)<|jL (a:=(⟨x1_1,(vU (IntKind.wrap .i64 (x1_1 + 1))),(vU (qD.e1 x1_1)),IntKind.wrap .i64 ((qD.e1 x1_1) + 1)⟩ : Nd)) (vs:=[(.int .i64 (IntKind.wrap .i64 ((qD.e1 x1_1) + 1)))]) (off:=3) (.plain rfl) rfl rfl Tryz.sizeOf3 rfl c27 h57 rfl rfl rfl rfl rfl rfl<|fun b58 w59 h60 h61 h62 o63=>nx<|qK<|lp rfl (qd rfl)<|lp rfl (vp rfl rfl)<|lp rfl (qz rfl)<|qZ<|vM<|qf<|qK<|lp rfl (qd h20)<|lp rfl (vp rfl rfl)<|lp rfl (xa (.int .i64 (IntKind.wrap .i64 (x5_2 + 1))) rfl)<|nx ?_
    obtain rfl:=si H
    exact ⟨_,Nat.lt_succ_self _,IntKind.wrap .i64 ((IntKind.wrap .i64 ((qD.e1 x1_1) + 1)) + 1),IntKind.wrap .i64 (x5_2 + 1),j4 y3 x5_2 (⟨x1_1,(vU (IntKind.wrap .i64 (x1_1 + 1))),(vU (qD.e1 x1_1)),IntKind.wrap .i64 ((qD.e1 x1_1) + 1)⟩ : Nd),(ku1 (ku8 (ku8 (ku8 (ku8 (ku8 K16 rfl) rfl) rfl) rfl) rfl) rfl),rfl,rfl,o63,(Gr.trans (Gr.trans (Gr.trans (Gr.trans (Gr.trans (Gr.trans e17 (Gr.wr h32 h31 (HB.own l_a0 h30 (OP.own0 h26) (j9 c27)))) (Gr.ext e36)) (Gr.wr h43 h42 (HB.own l_a0 h41 (OP.own0 h38) (j9 (yJ c27))))) (Gr.ext e47)) (Gr.wr h54 h53 (HB.own l_a0 h52 (OP.own0 h49) (j9 (yJ c27))))) (Gr.wr h62 h61 (HB.own l_a0 h60 (OP.own0 h57) (j9 (yJ c27))))),S23⟩
   ·refine qj (cb q24)<|vu<|qY<|qY<|vZ<|qf ?_
    obtain rfl:=si H
    obtain rfl:=si S23
    exact ⟨x1_1,y3,(ku4 K16 rfl),h19,h21,e17,rfl⟩
 ·rintro s10 w9 ⟨x1_7,y8,K11,h64,h65,e12,y66⟩
  rw [y66] at C6
  have H:=C6
  replace H : _ = some _:=H
  refine qf<|wr<|lp rfl (qd h64)<|lp rfl (xa (.int .i64 x1_7) rfl)<|nx<|qr<|qu ?_
  obtain rfl:=si H
  exact fin1m rfl e12 h65
theorem qD.calls {w : World} {a0 : List Nd} {a1 : Int} {v_a0 : Value} {B_a0 : Nat} {T_a0 : Nat} (o_a0 : Ow 91 4 qJ B_a0 w v_a0 a0) (l_a0 : HB v_a0 T_a0) (h0 : a0.length≤1152921504606846976) (h1 : (0 : Int)≤a1) (h2 : (a1 : Int)≤4611686018427387904 - 4 * (a0.length : Int)) :
  Calls Tryz.prog 45 #[v_a0,.int .i64 a1] w (Rt (RM 91 4 qJ B_a0 T_a0 w (.int .i64 (a1 + 4 * (a0.length : Int))) v_a0 (Xl a0.length a1))):=by
 obtain ⟨k,h⟩:=qD.eq a0 a1 h0 h1 h2
 exact qD.walk o_a0 l_a0 h
/-! laws.markRecordS -/
abbrev qq.e1 (x1_1 : Int):=(IntKind.wrap .i64 ((IntKind.wrap .i64 (x1_1 + 1)) + 1))
theorem qq.walk {k : Nat} {w : World} {a0 : List Rec} {a1 : Int} {v_a0 : Value} {B_a0 : Nat} {T_a0 : Nat} (o_a0 : Ow 52 5 qv B_a0 w v_a0 a0) (l_a0 : HB v_a0 T_a0) {r : Int × List Rec} (H : qq.sh k a0 a1 = some r) :
  Calls Tryz.prog 46 #[v_a0,.int .i64 a1] w (Rt (RM 52 5 qv B_a0 T_a0 w (.int .i64 r.1) v_a0 r.2)):=by
 unfold qq.sh at H
 refine qk Tryz.func46 rfl (Nat.le_of_ble_eq_true rfl) Tryz.ntmps46 rfl ?_
 refine wr<|lp rfl (xa (.int .i64 0) rfl)<|nx<|qi<|wr<|lp rfl (xa (.int .i64 0) rfl)<|nx ?_
 obtain ⟨z4,L5,C6⟩:=bind_some H
 clear H
 refine  vv (fun s0 sQ wQ=>∃ (x1_7 : Int) (y8 : List Rec),Kp [(1,2),(5,51)] s0 sQ∧sQ 1 = .int .i64 x1_7∧Ow 52 5 qv B_a0 wQ v_a0 y8∧Gr B_a0 T_a0 w wQ∧z4 = .inr (x1_7,y8)) ?_ ?_
 ·refine qB<|vh (fun s0 kk sQ wQ=>∃ (x1_1 : Int) (x5_2 : Int) (y3 : List Rec),Kp [(1,2),(5,51)] s0 sQ∧sQ 1 = .int .i64 x1_1∧sQ 5 = .int .i64 x5_2∧Ow 52 5 qv B_a0 wQ v_a0 y3∧Gr B_a0 T_a0 w wQ∧ql (qq.b1) kk (x1_1,x5_2,y3) = some z4) k ⟨a1,0,a0,kz,rfl,rfl,o_a0,(Gr.refl _ _ _),L5⟩ ?_
  rintro k13 s14 w15 ⟨x1_1,x5_2,y3,K16,h19,h20,h21,e17,L18⟩
  cases k13 with
  | zero=>exact absurd L18 (by simp [ql])
  | succ k13=>
   obtain ⟨t22,H,S23⟩:=qL L18
   clear L18
   unfold qq.b1 at H
   refine qi<|wr<|lp rfl (qd h20)<|lp rfl (xm v_a0 (K16 0 rfl))<|lp rfl (vc Tryz.underlying35 rfl (Ow.rd h21))<|lp rfl (vw rfl rfl)<|nx ?_
   rcases qg H with ⟨q24,H⟩ | ⟨q24,H⟩
   ·refine qn (cb q24)<|qp<|qf<|qi<|qB<|wr<|lp rfl (xm v_a0 (K16 0 rfl))<|lp rfl (qd h20)<|lp rfl (qd h19) ?_
    obtain ⟨c27,H⟩:=qa H
    refine QB (.plain rfl) rfl (ltb rfl) rfl Tryz.underlying35 Tryz.sizeOf52 rfl h21 rfl c27<|fun p25 h26=>lp rfl (qc Tryz.underlying52 rfl Tryz.sizeOf3 rfl rfl)<|V3 (a:=(⟨x1_1,(gt y3 x5_2).path,(gt y3 x5_2).body,(gt y3 x5_2).mode,(gt y3 x5_2).opq⟩ : Rec)) (vs:=[(.int .i64 x1_1)]) (off:=0) (.plain rfl) rfl rfl Tryz.sizeOf3 rfl h26 rfl rfl rfl rfl rfl rfl<|fun b28 w29 h30 h31 h32 o33=>nx<|wr<|lp rfl (qd h19)<|lp rfl (vp rfl rfl)<|lp rfl (xa (.int .i64 (IntKind.wrap .i64 (x1_1 + 1))) rfl)<|nx<|wr<|lp rfl (xm v_a0 (K16 0 rfl))<|lp rfl (qd h20)<|lp rfl (xm (.int .i64 (IntKind.wrap .i64 (x1_1 + 1))) rfl) ?_
    obtain ⟨c34,H⟩:=qa H
    refine lc rfl rfl Tryz.call112 (qU.calls (w:=w29) (a0:=IntKind.wrap .i64 (x1_1 + 1)) (od c34)) rfl<|fun w35 e36=>QB (.plain rfl) rfl (ltb rfl) rfl Tryz.underlying35 Tryz.sizeOf52 rfl (Ow.ext o33 e36) rfl (yJ c27)<|fun p37 h38=>lp rfl (qc Tryz.underlying52 rfl Tryz.sizeOf9 rfl rfl)<|jL (a:=(⟨x1_1,(vU (IntKind.wrap .i64 (x1_1 + 1))),(gt y3 x5_2).body,(gt y3 x5_2).mode,(gt y3 x5_2).opq⟩ : Rec)) (vs:=[(S (vU (IntKind.wrap .i64 (x1_1 + 1))))]) (off:=1) (.plain rfl) rfl rfl Tryz.sizeOf9 rfl c27 h38 rfl rfl rfl rfl rfl rfl<|fun b39 w40 h41 h42 h43 o44=>nx<|wr<|lp rfl (xm (.int .i64 (IntKind.wrap .i64 (x1_1 + 1))) rfl)<|lp rfl (vp rfl rfl)<|lp rfl (xa (.int .i64 (qq.e1 x1_1)) rfl)<|nx<|wr<|lp rfl (xm v_a0 (K16 0 rfl))<|lp rfl (qd h20)<|lp rfl (xm (.int .i64 (qq.e1 x1_1)) rfl) ?_
    obtain ⟨c45,H⟩:=qa H
    refine lc rfl rfl Tryz.call112 (qU.calls (w:=w40) (a0:=IntKind.wrap .i64 ((IntKind.wrap .i64 (x1_1 + 1)) + 1)) (od c45)) rfl<|fun w46 e47=>QB (.plain rfl) rfl (ltb rfl) rfl Tryz.underlying35 Tryz.sizeOf52 rfl (Ow.ext o44 e47) rfl (yJ c27)<|fun p48 h49=>lp rfl (qc Tryz.underlying52 rfl Tryz.sizeOf9 rfl rfl)<|jL (a:=(⟨x1_1,(vU (IntKind.wrap .i64 (x1_1 + 1))),(vU (qq.e1 x1_1)),(gt y3 x5_2).mode,(gt y3 x5_2).opq⟩ : Rec)) (vs:=[(S (vU (qq.e1 x1_1)))]) (off:=2) (.plain rfl) rfl rfl Tryz.sizeOf9 rfl c27 h49 rfl rfl rfl rfl rfl rfl<|fun b50 w51 h52 h53 h54 o55=>nx<|wr<|lp rfl (xm (.int .i64 (qq.e1 x1_1)) rfl)<|lp rfl (vp rfl rfl)<|lp rfl (qz rfl)<|nx<|wr<|lp rfl (xm v_a0 (K16 0 rfl))<|lp rfl (qd h20)<|lp rfl (qd rfl)<|QB (.plain rfl) rfl (ltb rfl) rfl Tryz.underlying35 Tryz.sizeOf52 rfl o55 rfl (yJ c27)<|fun p56 h57=>lp rfl (qc Tryz.underlying52 rfl Tryz.sizeOf3 rfl rfl)<|jL (a:=(⟨x1_1,(vU (IntKind.wrap .i64 (x1_1 + 1))),(vU (qq.e1 x1_1)),IntKind.wrap .i64 ((qq.e1 x1_1) + 1),(gt y3 x5_2).opq⟩ : Rec)) (vs:=[(.int .i64 (IntKind.wrap .i64 ((qq.e1 x1_1) + 1)))]) (off:=3) (.plain rfl) rfl rfl Tryz.sizeOf3 rfl c27 h57 rfl rfl rfl rfl rfl rfl<|fun b58 w59 h60 h61 h62 o63=>nx<|wr<|lp rfl (qd rfl)<|lp rfl (vp rfl rfl)<|lp rfl (qz rfl)<|nx<|wr<|lp rfl (xm v_a0 (K16 0 rfl))<|lp rfl (qd h20)<|lp rfl (qd rfl)<|lp rfl (X_rem rfl rfl (by decide))<|lp rfl (jo rfl rfl)<|QB (.plain rfl) rfl (ltb rfl) rfl Tryz.underlying35 Tryz.sizeOf52 rfl o63 rfl (yJ c27)<|fun p64 h65=>lp rfl (qc Tryz.underlying52 rfl Tryz.sizeOf4 rfl rfl)<|jL (a:=(⟨x1_1,(vU (IntKind.wrap .i64 (x1_1 + 1))),(vU (qq.e1 x1_1)),IntKind.wrap .i64 ((qq.e1 x1_1) + 1),(decide (((IntKind.wrap .i64 ((IntKind.wrap .i64 ((qq.e1 x1_1) + 1)) + 1)).tmod 3) = 0))⟩ : Rec)) (vs:=[(.bool (decide (((IntKind.wrap .i64 ((IntKind.wrap .i64 ((qq.e1 x1_1) + 1)) + 1)).tmod 3) = 0)))]) (off:=4) (.plain rfl) rfl rfl Tryz.sizeOf4 rfl c27 h65 rfl rfl rfl rfl rfl rfl<|fun b66 w67 h68 h69 h70 o71=>nx<|qK<|lp rfl (qd rfl)<|lp rfl (vp rfl rfl)<|lp rfl (qz rfl)<|qZ<|vM<|qf<|qK<|lp rfl (qd h20)<|lp rfl (vp rfl rfl)<|lp rfl (xa (.int .i64 (IntKind.wrap .i64 (x5_2 + 1))) rfl)<|nx ?_
    obtain rfl:=si H
    exact ⟨_,Nat.lt_succ_self _,IntKind.wrap .i64 ((IntKind.wrap .i64 ((IntKind.wrap .i64 ((qq.e1 x1_1) + 1)) + 1)) + 1),IntKind.wrap .i64 (x5_2 + 1),j4 y3 x5_2 (⟨x1_1,(vU (IntKind.wrap .i64 (x1_1 + 1))),(vU (qq.e1 x1_1)),IntKind.wrap .i64 ((qq.e1 x1_1) + 1),(decide (((IntKind.wrap .i64 ((IntKind.wrap .i64 ((qq.e1 x1_1) + 1)) + 1)).tmod 3) = 0))⟩ : Rec),(ku3 (ku8 (ku8 (ku8 (ku8 (ku8 (ku8 K16 rfl) rfl) rfl) rfl) rfl) rfl) rfl),rfl,rfl,o71,(Gr.trans (Gr.trans (Gr.trans (Gr.trans (Gr.trans (Gr.trans (Gr.trans e17 (Gr.wr h32 h31 (HB.own l_a0 h30 (OP.own0 h26) (j9 c27)))) (Gr.ext e36)) (Gr.wr h43 h42 (HB.own l_a0 h41 (OP.own0 h38) (j9 (yJ c27))))) (Gr.ext e47)) (Gr.wr h54 h53 (HB.own l_a0 h52 (OP.own0 h49) (j9 (yJ c27))))) (Gr.wr h62 h61 (HB.own l_a0 h60 (OP.own0 h57) (j9 (yJ c27))))) (Gr.wr h70 h69 (HB.own l_a0 h68 (OP.own0 h65) (j9 (yJ c27))))),S23⟩
   ·refine qj (cb q24)<|vu<|qY<|qY<|vZ<|qf ?_
    obtain rfl:=si H
    obtain rfl:=si S23
    exact ⟨x1_1,y3,(ku4 K16 rfl),h19,h21,e17,rfl⟩
 ·rintro s10 w9 ⟨x1_7,y8,K11,h72,h73,e12,y74⟩
  rw [y74] at C6
  have H:=C6
  replace H : _ = some _:=H
  refine qf<|wr<|lp rfl (qd h72)<|lp rfl (xa (.int .i64 x1_7) rfl)<|nx<|qr<|qu ?_
  obtain rfl:=si H
  exact fin1m rfl e12 h73
theorem qq.calls {w : World} {a0 : List Rec} {a1 : Int} {v_a0 : Value} {B_a0 : Nat} {T_a0 : Nat} (o_a0 : Ow 52 5 qv B_a0 w v_a0 a0) (l_a0 : HB v_a0 T_a0) (h0 : a0.length≤576460752303423488) (h1 : (0 : Int)≤a1) (h2 : (a1 : Int)≤4611686018427387904 - 5 * (a0.length : Int)) :
  Calls Tryz.prog 46 #[v_a0,.int .i64 a1] w (Rt (RM 52 5 qv B_a0 T_a0 w (.int .i64 (a1 + 5 * (a0.length : Int))) v_a0 (yp a0.length a1))):=by
 obtain ⟨k,h⟩:=qq.eq a0 a1 h0 h1 h2
 exact qq.walk o_a0 l_a0 h
/-! laws.heldRecordS -/
theorem vd.calls {w : World} {a0 : List Rec} {a1 : Int} {v_a0 : Value} (f_a0 : Rd 5 qv w v_a0 a0) (h0 : a0.length≤576460752303423488) (h1 : (0 : Int)≤a1) (h2 : (a1 : Int)≤4611686018427387904 - 5 * (a0.length : Int)) :
  Calls Tryz.prog 47 #[v_a0,.int .i64 a1] w (Rt (RP w (.int .i64 (j6 a0 a1)))):=by
 obtain ⟨k,H⟩:=vd.eq a0 a1 h0 h1 h2
 generalize (j6 a0 a1) = r at H ⊢
 unfold vd.sh at H
 refine qk Tryz.func47 rfl (Nat.le_of_ble_eq_true rfl) Tryz.ntmps47 rfl ?_
 refine wr<|lp rfl (xa (.int .i64 0) rfl)<|nx<|qi<|wr<|lp rfl (xa (.int .i64 0) rfl)<|nx ?_
 obtain ⟨z3,L4,C5⟩:=bind_some H
 clear H
 refine  vv (fun s0 sQ wQ=>∃ (x1_6 : Int),Kp [(1,2),(4,61)] s0 sQ∧sQ 1 = .int .i64 x1_6∧Ext w wQ∧z3 = .inr x1_6) ?_ ?_
 ·refine qB<|vh (fun s0 kk sQ wQ=>∃ (x1_1 : Int) (x5_2 : Int),Kp [(1,2),(4,61)] s0 sQ∧sQ 1 = .int .i64 x1_1∧sQ 5 = .int .i64 x5_2∧Ext w wQ∧ql (vd.b1 a0) kk (x1_1,x5_2) = some z3) k ⟨a1,0,kz,rfl,rfl,er,L4⟩ ?_
  rintro k11 s12 w13 ⟨x1_1,x5_2,K14,h17,h18,e15,L16⟩
  cases k11 with
  | zero=>exact absurd L16 (by simp [ql])
  | succ k11=>
   obtain ⟨t19,H,S20⟩:=qL L16
   clear L16
   unfold vd.b1 at H
   refine qi<|wr<|lp rfl (qd h18)<|lp rfl (xm v_a0 (K14 0 rfl))<|lp rfl (vc Tryz.underlying35 rfl (Rd.ext f_a0 e15))<|lp rfl (vw rfl rfl)<|nx ?_
   rcases qg H with ⟨q21,H⟩ | ⟨q21,H⟩
   ·refine qn (cb q21)<|qp<|qf<|qi<|qB<|qi<|wr<|lp rfl (xm v_a0 (K14 0 rfl))<|lp rfl (qd h18) ?_
    obtain ⟨c22,H⟩:=qa H
    refine vo (.plain rfl) rfl (ltb rfl) rfl Tryz.underlying35 Tryz.sizeOf52 rfl (Rd.ext f_a0 e15) rfl c22<|fun p23 h24=>lp rfl (qc Tryz.underlying52 rfl Tryz.sizeOf3 rfl rfl)<|lp rfl (vX Tryz.isAgg3 (j:=0) h24 rfl rfl)<|lp rfl (qd h17)<|lp rfl (jf rfl rfl)<|nx ?_
    rcases qg H with ⟨q25,H⟩ | ⟨q25,H⟩
    ·refine qn (cb q25)<|wr<|lp rfl (xa (.int .i64 (-1)) rfl)<|nx<|qr<|qo<|vl<|qo<|qo<|vl<|qo<|qo<|qu ?_
     obtain rfl:=si H
     obtain rfl:=si S20
     have H:=C5
     obtain rfl:=si H
     exact qS rfl e15
    ·refine qj (cb q25)<|qp<|qf<|wr<|lp rfl (qd h17)<|lp rfl (vp rfl rfl)<|lp rfl (xa (.int .i64 (IntKind.wrap .i64 (x1_1 + 1))) rfl)<|nx<|qi<|qi ?_
     obtain ⟨c26,H⟩:=qa H
     obtain ⟨c29,H⟩:=qa H
     refine Jf [LEq v_a0,LEq (.int .i64 x5_2),yW (qv (gt a0 x5_2)),LAt 1 (qv (gt a0 x5_2)),LEq (S ((gt a0 x5_2).path)),LEq (.int .i64 (IntKind.wrap .i64 (x1_1 + 1))),LEq (S (vU (IntKind.wrap .i64 (x1_1 + 1)))),LEq (.bool (!decide (((gt a0 x5_2).path) = (vU (IntKind.wrap .i64 (x1_1 + 1))))))] (by kernel_rfl) (by kernel_rfl) ⟨qm,qm,yW.mono,LAt.mono,qm,qm,qm,qm,trivial⟩ ⟨?_,?_,?_,?_,?_,?_,?_,?_,trivial⟩ ?_
     ·exact fun s x e f d u=>lp rfl (xm v_a0 ((f 0 rfl).trans (K14 0 rfl)))<|se rfl rfl
     ·exact fun s x e f d u=>lp rfl (xm (.int .i64 x5_2) ((f 5 rfl).trans h18))<|se rfl rfl
     ·exact fun s x e f d u=>vo (.plain rfl) rfl (ltb rfl) rfl Tryz.underlying35 Tryz.sizeOf52 (d 0 rfl) (Rd.ext f_a0 (e15.t e)) (d 1 rfl) c26<|fun p33 h34=>se rfl ⟨_,rfl,h34⟩
     ·intro s x e f d u
      obtain ⟨p35,h36,h37⟩:=(d 2 rfl)
      exact lp rfl (qc Tryz.underlying52 rfl Tryz.sizeOf9 rfl h36)<|se rfl ⟨_,rfl,h37⟩
     ·intro s x e f d u
      obtain ⟨p38,h39,h40⟩:=(d 3 rfl)
      exact lp rfl (vX Tryz.isAgg9 (j:=1) h40 h39 rfl)<|se rfl rfl
     ·exact fun s x e f d u=>lp rfl (xm (.int .i64 (IntKind.wrap .i64 (x1_1 + 1))) (f 1 rfl))<|se rfl rfl
     ·exact fun s x e f d u=>lc rfl rfl Tryz.call112 (qU.calls (w:=x) (a0:=IntKind.wrap .i64 (x1_1 + 1)) (od c29)) (ya (d 5 rfl) rfl)<|fun w42 e43=>sx rfl e43 rfl
     ·exact fun s x e f d u=>lp rfl (j3 (d 4 rfl) (d 6 rfl))<|se rfl rfl
     intro s44 w45 e46 hf47 ha48
     have K49:=Kp.ofD (kp:=[(21,29)]) rfl hf47
     have d50 : s44 28 = (.bool (!decide (((gt a0 x5_2).path) = (vU (IntKind.wrap .i64 (x1_1 + 1)))))):=ha48 7 rfl
     clear ha48 hf47
     refine qf ?_
     rcases qg H with ⟨q51,H⟩ | ⟨q51,H⟩
     ·refine qn (d50.trans (cb q51))<|wr<|lp rfl (xa (.int .i64 (-1)) rfl)<|nx<|qr<|qo<|vl<|qo<|qo<|vl<|qo<|qo<|qu ?_
      obtain rfl:=si H
      obtain rfl:=si S20
      have H:=C5
      obtain rfl:=si H
      exact qS rfl (e15.t e46)
     ·refine qj (d50.trans (cb q51))<|qp<|qf<|wr<|lp rfl (xm (.int .i64 (IntKind.wrap .i64 (x1_1 + 1))) (K49 1 rfl))<|lp rfl (vp rfl rfl)<|lp rfl (xa (.int .i64 (IntKind.wrap .i64 ((IntKind.wrap .i64 (x1_1 + 1)) + 1))) rfl)<|nx<|qi<|qi ?_
      obtain ⟨c52,H⟩:=qa H
      obtain ⟨c55,H⟩:=qa H
      refine Jf [LEq v_a0,LEq (.int .i64 x5_2),yW (qv (gt a0 x5_2)),LAt 2 (qv (gt a0 x5_2)),LEq (S ((gt a0 x5_2).body)),LEq (.int .i64 (IntKind.wrap .i64 ((IntKind.wrap .i64 (x1_1 + 1)) + 1))),LEq (S (vU (IntKind.wrap .i64 ((IntKind.wrap .i64 (x1_1 + 1)) + 1)))),LEq (.bool (!decide (((gt a0 x5_2).body) = (vU (IntKind.wrap .i64 ((IntKind.wrap .i64 (x1_1 + 1)) + 1))))))] (by kernel_rfl) (by kernel_rfl) ⟨qm,qm,yW.mono,LAt.mono,qm,qm,qm,qm,trivial⟩ ⟨?_,?_,?_,?_,?_,?_,?_,?_,trivial⟩ ?_
      ·exact fun s x e f d u=>lp rfl (xm v_a0 ((f 0 rfl).trans ((K49 0 rfl).trans (K14 0 rfl))))<|se rfl rfl
      ·exact fun s x e f d u=>lp rfl (xm (.int .i64 x5_2) ((f 5 rfl).trans ((K49 5 rfl).trans h18)))<|se rfl rfl
      ·exact fun s x e f d u=>vo (.plain rfl) rfl (ltb rfl) rfl Tryz.underlying35 Tryz.sizeOf52 (d 0 rfl) (Rd.ext f_a0 ((e15.t e46).t e)) (d 1 rfl) c52<|fun p59 h60=>se rfl ⟨_,rfl,h60⟩
      ·intro s x e f d u
       obtain ⟨p61,h62,h63⟩:=(d 2 rfl)
       exact lp rfl (qc Tryz.underlying52 rfl Tryz.sizeOf9 rfl h62)<|se rfl ⟨_,rfl,h63⟩
      ·intro s x e f d u
       obtain ⟨p64,h65,h66⟩:=(d 3 rfl)
       exact lp rfl (vX Tryz.isAgg9 (j:=2) h66 h65 rfl)<|se rfl rfl
      ·exact fun s x e f d u=>lp rfl (xm (.int .i64 (IntKind.wrap .i64 ((IntKind.wrap .i64 (x1_1 + 1)) + 1))) (f 1 rfl))<|se rfl rfl
      ·exact fun s x e f d u=>lc rfl rfl Tryz.call112 (qU.calls (w:=x) (a0:=IntKind.wrap .i64 ((IntKind.wrap .i64 (x1_1 + 1)) + 1)) (od c55)) (ya (d 5 rfl) rfl)<|fun w68 e69=>sx rfl e69 rfl
      ·exact fun s x e f d u=>lp rfl (j3 (d 4 rfl) (d 6 rfl))<|se rfl rfl
      intro s70 w71 e72 hf73 ha74
      have K75:=Kp.ofD (kp:=[(31,39)]) rfl hf73
      have d76 : s70 38 = (.bool (!decide (((gt a0 x5_2).body) = (vU (IntKind.wrap .i64 ((IntKind.wrap .i64 (x1_1 + 1)) + 1)))))):=ha74 7 rfl
      clear ha74 hf73
      refine qf ?_
      rcases qg H with ⟨q77,H⟩ | ⟨q77,H⟩
      ·refine qn (d76.trans (cb q77))<|wr<|lp rfl (xa (.int .i64 (-1)) rfl)<|nx<|qr<|qo<|vl<|qo<|qo<|vl<|qo<|qo<|qu ?_
       obtain rfl:=si H
       obtain rfl:=si S20
       have H:=C5
       obtain rfl:=si H
       exact qS rfl ((e15.t e46).t e72)
      ·refine qj (d76.trans (cb q77))<|qp<|qf<|wr<|lp rfl (xm (.int .i64 (IntKind.wrap .i64 ((IntKind.wrap .i64 (x1_1 + 1)) + 1))) (K75 1 rfl))<|lp rfl (vp rfl rfl)<|lp rfl (qz rfl)<|nx<|qi<|wr<|lp rfl (xm v_a0 ((K75 0 rfl).trans ((K49 0 rfl).trans (K14 0 rfl))))<|lp rfl (xm (.int .i64 x5_2) ((K75 5 rfl).trans ((K49 5 rfl).trans h18))) ?_
       obtain ⟨c78,H⟩:=qa H
       refine vo (.plain rfl) rfl (ltb rfl) rfl Tryz.underlying35 Tryz.sizeOf52 rfl (Rd.ext f_a0 ((e15.t e46).t e72)) rfl c78<|fun p79 h80=>lp rfl (qc Tryz.underlying52 rfl Tryz.sizeOf3 rfl rfl)<|lp rfl (vX Tryz.isAgg3 (j:=3) h80 rfl rfl)<|lp rfl (qd rfl)<|lp rfl (jf rfl rfl)<|nx ?_
       rcases qg H with ⟨q81,H⟩ | ⟨q81,H⟩
       ·refine qn (cb q81)<|wr<|lp rfl (xa (.int .i64 (-1)) rfl)<|nx<|qr<|qo<|vl<|qo<|qo<|vl<|qo<|qo<|qu ?_
        obtain rfl:=si H
        obtain rfl:=si S20
        have H:=C5
        obtain rfl:=si H
        exact qS rfl ((e15.t e46).t e72)
       ·refine qj (cb q81)<|qp<|qf<|wr<|lp rfl (qd rfl)<|lp rfl (vp rfl rfl)<|lp rfl (qz rfl)<|nx<|qi<|wr<|lp rfl (xm v_a0 ((K75 0 rfl).trans ((K49 0 rfl).trans (K14 0 rfl))))<|lp rfl (xm (.int .i64 x5_2) ((K75 5 rfl).trans ((K49 5 rfl).trans h18))) ?_
        obtain ⟨c82,H⟩:=qa H
        refine vo (.plain rfl) rfl (ltb rfl) rfl Tryz.underlying35 Tryz.sizeOf52 rfl (Rd.ext f_a0 ((e15.t e46).t e72)) rfl c82<|fun p83 h84=>lp rfl (qc Tryz.underlying52 rfl Tryz.sizeOf4 rfl rfl)<|lp rfl (vX Tryz.isAgg4 (j:=4) h84 rfl rfl)<|lp rfl (qd rfl)<|lp rfl (X_rem rfl rfl (by decide))<|lp rfl (jo rfl rfl)<|lp rfl (X_bne Tryz.underlying4 rfl rfl)<|nx ?_
        rcases qg H with ⟨q85,H⟩ | ⟨q85,H⟩
        ·refine qn (cb q85)<|wr<|lp rfl (xa (.int .i64 (-1)) rfl)<|nx<|qr<|qo<|vl<|qo<|qo<|vl<|qo<|qo<|qu ?_
         obtain rfl:=si H
         obtain rfl:=si S20
         have H:=C5
         obtain rfl:=si H
         exact qS rfl ((e15.t e46).t e72)
        ·refine qj (cb q85)<|qp<|qf<|qK<|lp rfl (qd rfl)<|lp rfl (vp rfl rfl)<|lp rfl (qz rfl)<|qZ<|vM<|qf<|qK<|lp rfl (xm (.int .i64 x5_2) ((K75 5 rfl).trans ((K49 5 rfl).trans h18)))<|lp rfl (vp rfl rfl)<|lp rfl (xa (.int .i64 (IntKind.wrap .i64 (x5_2 + 1))) rfl)<|nx ?_
         obtain rfl:=si H
         exact ⟨_,Nat.lt_succ_self _,IntKind.wrap .i64 ((IntKind.wrap .i64 ((IntKind.wrap .i64 ((IntKind.wrap .i64 ((IntKind.wrap .i64 (x1_1 + 1)) + 1)) + 1)) + 1)) + 1),IntKind.wrap .i64 (x5_2 + 1),(ku4 (ku8 (ku8 (ku8 (Kp.cut (ku3 (Kp.cut (ku2 (ku4 (ku8 K14 rfl) rfl) rfl) K49 rfl) rfl) K75 rfl) rfl) rfl) rfl) rfl),rfl,rfl,((e15.t e46).t e72),S20⟩
   ·refine qj (cb q21)<|vu<|qY<|qY<|vZ<|qf ?_
    obtain rfl:=si H
    obtain rfl:=si S20
    exact ⟨x1_1,(ku4 K14 rfl),h17,e15,rfl⟩
 ·rintro s8 w7 ⟨x1_6,K9,h86,e10,y87⟩
  rw [y87] at C5
  have H:=C5
  replace H : _ = some _:=H
  refine qf<|wr<|lp rfl (qd h86)<|lp rfl (xa (.int .i64 x1_6) rfl)<|nx<|qr<|qu ?_
  obtain rfl:=si H
  exact qS rfl e10
/-! spec.l08Ask -/
theorem jh.calls {w : World} {a0 : List Nd} {a1 : List Nd} {v_a0 : Value} (f_a0 : Rd 4 qJ w v_a0 a0) {v_a1 : Value} (f_a1 : Rd 4 qJ w v_a1 a1) (h0 : ∀ x ∈ a0,x.path.length≤1048576) (h1 : ∀ x ∈ a1,x.path.length≤1048576) :
  Calls Tryz.prog 105 #[v_a0,v_a1] w (Rt (RP w (.int .i64 (treesCode a0 a1)))):=by
 have H:=jh.eq a0 a1 h0 h1
 generalize (treesCode a0 a1) = r at H ⊢
 unfold jh.sh at H
 refine qk Tryz.func105 rfl (Nat.le_of_ble_eq_true rfl) Tryz.ntmps105 rfl ?_
 refine wr<|lp rfl (xa (.int .i64 0) rfl)<|nx<|qi<|wr<|lp rfl (xm v_a0 rfl)<|lp rfl (vc Tryz.underlying29 rfl f_a0)<|lp rfl (j1 rfl rfl)<|lp rfl (xm (.bool (decide (4096 < (a0.length : Int)))) rfl)<|jb 4 [(9,13)] 12 (.bool ((decide (4096 < (a0.length : Int))) || (decide (4096 < (a1.length : Int))))) ?_ ?_
 ·rcases qH (decide (4096 < (a0.length : Int))) with b0_ | b0_
  ·exact ls rfl rfl rfl (cb b0_) rfl<|ls rfl rfl rfl (cb b0_) rfl<|ls rfl rfl rfl (cb b0_) rfl<|lp rfl (qF (b:=true) (v:=(.bool true)) (cb b0_) rfl)<|nx ⟨(ku4 kz rfl),(Ye b0_),er⟩
  ·exact lg rfl rfl rfl rfl (cb b0_) (xm v_a1 rfl)<|lg rfl rfl rfl rfl (cb b0_) (vc Tryz.underlying29 rfl f_a1)<|lg rfl rfl rfl rfl (cb b0_) (j1 rfl rfl)<|lp rfl (qF (b:=false) (v:=(.bool (decide (4096 < (a1.length : Int))))) (cb b0_) rfl)<|nx ⟨(ku4 kz rfl),(VX b0_),er⟩
 intro s6 w2 K3 h4 e5
 refine nx ?_
 rcases qg H with ⟨q7,H⟩ | ⟨q7,H⟩
 ·refine qn (h4.trans (cb q7))<|wr<|lp rfl (xa (.int .i64 2) rfl)<|nx<|qr<|qo<|qu ?_
  obtain rfl:=si H
  exact qS rfl e5
 ·refine qj (h4.trans (cb q7))<|qp<|qf<|qi<|wr<|lp rfl (xm v_a0 (K3 0 rfl)) ?_
  obtain ⟨c8,H⟩:=qa H
  refine lc rfl rfl Tryz.call88 (qx.calls (w:=w2) (a0:=a0) (Rd.ext f_a0 e5) (od c8)) rfl<|fun w9 e10=>lp rfl (yG rfl)<|lp rfl (xm (.bool (!(qX a0))) rfl) ?_
  obtain ⟨z12,x13,H⟩:=bind_some H
  refine jz 4 [(17,21)] 20 (fun q=>q = z12) ?_ ?_
  ·rcases qg x13 with ⟨b10_,H⟩ | ⟨b10_,H⟩
   ·refine ls rfl rfl rfl (cb b10_) rfl<|ls rfl rfl rfl (cb b10_) rfl<|ls rfl rfl rfl (cb b10_) rfl<|lp rfl (qF (b:=true) (v:=(.bool true)) (cb b10_) rfl) ?_
    obtain rfl:=si H
    exact nx ⟨(ku4 kz rfl),⟨_,rfl,rfl⟩,er⟩
   ·refine lg rfl rfl rfl rfl (cb b10_) (xm v_a1 (K3 1 rfl)) ?_
    obtain ⟨c12,H⟩:=qa H
    refine vY (tg rfl rfl rfl (cb b10_)) rfl (ltb rfl) rfl Tryz.call88 (qx.calls (w:=w9) (a0:=a1) (Rd.ext f_a1 (e5.t e10)) (od c12)) rfl<|fun w13 e14=>lg rfl rfl rfl rfl (cb b10_) (yG rfl)<|lp rfl (qF (b:=false) (v:=(.bool (!(qX a1)))) (cb b10_) rfl) ?_
    obtain rfl:=si H
    exact nx ⟨(ku4 kz rfl),⟨_,rfl,rfl⟩,e14⟩
  intro s18 w14 z19 K15 hq h16 e17
  rw [hq] at h16; clear hq
  refine nx ?_
  rcases qg H with ⟨q20,H⟩ | ⟨q20,H⟩
  ·refine qn (h16.trans (cb q20))<|wr<|lp rfl (xa (.int .i64 1) rfl)<|nx<|qr<|qo<|qu ?_
   obtain rfl:=si H
   exact qS rfl ((e5.t e10).t e17)
  ·refine qj (h16.trans (cb q20))<|qp<|qf<|wr<|lp rfl (xa (.int .i64 0) rfl)<|nx<|qr<|qu ?_
   obtain rfl:=si H
   exact qS rfl ((e5.t e10).t e17)
/-! impl.treesCode -/
theorem yw.calls {w : World} {a0 : List Nd} {a1 : List Nd} (gv : GV 0 w) {v_a0 : Value} (f_a0 : Rd 4 qJ w v_a0 a0) {v_a1 : Value} (f_a1 : Rd 4 qJ w v_a1 a1) (h0 : a0.length≤1048576) (h1 : a1.length≤1048576) (h2 : ∀ x ∈ a0,x.path.length≤1048576) (h3 : ∀ x ∈ a1,x.path.length≤1048576) :
  Calls Tryz.prog 108 #[v_a0,v_a1] w (Rt (RP w (.int .i64 (treesCode a0 a1)))):=by
 have H:=yw.eq a0 a1 h0 h1 h2 h3
 generalize (treesCode a0 a1) = r at H ⊢
 unfold yw.sh at H
 refine qk Tryz.func108 rfl (Nat.le_of_ble_eq_true rfl) Tryz.ntmps108 rfl ?_
 refine wr<|lp rfl (xa (.int .i64 0) rfl)<|nx<|wr<|lp rfl (xm v_a0 rfl)<|lc rfl rfl Tryz.call86 (vW.calls (w:=w) (a0:=a0) f_a0) rfl<|fun w1 e2=>lp rfl (xm (.bool (decide (4096 < a0.length))) rfl)<|jb 3 [(8,11)] 10 (.bool ((decide (4096 < a0.length)) || (decide (4096 < a1.length)))) ?_ ?_
 ·rcases qH (decide (4096 < a0.length)) with b2_ | b2_
  ·exact ls rfl rfl rfl (cb b2_) rfl<|ls rfl rfl rfl (cb b2_) rfl<|lp rfl (qF (b:=true) (v:=(.bool true)) (cb b2_) rfl)<|nx ⟨(ku3 kz rfl),(Ye b2_),er⟩
  ·exact lg rfl rfl rfl rfl (cb b2_) (xm v_a1 rfl)<|vY (tg rfl rfl rfl (cb b2_)) rfl (ltb rfl) rfl Tryz.call86 (vW.calls (w:=w1) (a0:=a1) (Rd.ext f_a1 e2)) rfl<|fun w4 e5=>lp rfl (qF (b:=false) (v:=(.bool (decide (4096 < a1.length)))) (cb b2_) rfl)<|nx ⟨(ku3 kz rfl),(VX b2_),e5⟩
 intro s8 w4 K5 h6 e7
 refine lp rfl (ym Tryz.underlying4 rfl h6)<|lp rfl (ym Tryz.underlying3 rfl rfl)<|lp rfl (xm v_a0 (K5 0 rfl)) ?_
 obtain ⟨c9,H⟩:=qa H
 obtain ⟨c10,H⟩:=qa H
 refine lc rfl rfl Tryz.call27 (qA.calls (w:=w4) (a0:=a0) (GV.ext gv (e2.t e7)) (Rd.ext f_a0 (e2.t e7)) (od c9) (od c10)) rfl<|fun w11 e12=>lp rfl (yG rfl)<|lp rfl (xm (.bool (!(qX a0))) rfl) ?_
 obtain ⟨z14,x15,H⟩:=bind_some H
 refine jz 4 [(17,21)] 20 (fun q=>q = z14) ?_ ?_
 ·rcases qg x15 with ⟨b12_,H⟩ | ⟨b12_,H⟩
  ·refine ls rfl rfl rfl (cb b12_) rfl<|ls rfl rfl rfl (cb b12_) rfl<|ls rfl rfl rfl (cb b12_) rfl<|lp rfl (qF (b:=true) (v:=(.bool true)) (cb b12_) rfl) ?_
   obtain rfl:=si H
   exact nx ⟨(ku4 kz rfl),⟨_,rfl,rfl⟩,er⟩
  ·refine lg rfl rfl rfl rfl (cb b12_) (xm v_a1 (K5 1 rfl)) ?_
   obtain ⟨c14,H⟩:=qa H
   obtain ⟨c15,H⟩:=qa H
   refine vY (tg rfl rfl rfl (cb b12_)) rfl (ltb rfl) rfl Tryz.call27 (qA.calls (w:=w11) (a0:=a1) (GV.ext gv ((e2.t e7).t e12)) (Rd.ext f_a1 ((e2.t e7).t e12)) (od c14) (od c15)) rfl<|fun w16 e17=>lg rfl rfl rfl rfl (cb b12_) (yG rfl)<|lp rfl (qF (b:=false) (v:=(.bool (!(qX a1)))) (cb b12_) rfl) ?_
   obtain rfl:=si H
   exact nx ⟨(ku4 kz rfl),⟨_,rfl,rfl⟩,e17⟩
 intro s20 w16 z21 K17 hq h18 e19
 rw [hq] at h18; clear hq
 refine lp rfl (ym Tryz.underlying4 rfl h18)<|lp rfl (ym Tryz.underlying3 rfl rfl)<|yz (.plain rfl) rfl (ltb rfl) rfl Tryz.underlying142 Tryz.sizeOf20 Tryz.zeroValue20 rfl rfl rfl (vs:=[(.iface 4 (.bool ((decide (4096 < a0.length)) || (decide (4096 < a1.length))))),(.iface 3 (.int .i64 2)),(.iface 4 (.bool z14)),(.iface 3 (.int .i64 1))]) (ya (K17 11 rfl) (ya (K17 12 rfl) (ya rfl (ya rfl rfl)))) (vH rfl)<|fun b22 w23 z24 z25 e26 k27=>?_
 obtain ⟨c28,H⟩:=qa H
 obtain ⟨z31,x32,H⟩:=bind_some H
 replace x32:=si x32
 refine lc rfl rfl Tryz.call77 (yc.calls (w:=w23) (a0:=([.inl ((decide (4096 < a0.length)) || (decide (4096 < a1.length))),.inr 2,.inl z14,.inr 1] : List (Bool ⊕ Int))) (Ow.rd (Ow.new (xs:=[.inl ((decide (4096 < a0.length)) || (decide (4096 < a1.length))),.inr 2,.inl z14,.inr 1]) (sz:=1) (enc:=(VL 4 3)) (base:=w16.heap.size) k27 (Nat.le_of_eq z24) rfl (fun _ _=>by first | rfl | exact Jh _ _ _) (Nat.le_of_ble_eq_true rfl))) (od c28)) rfl<|fun w29 e30=>lp rfl (xa (.int .i64 z31) (congrArg (Value.int .i64) x32))<|nx<|qr<|qu ?_
 obtain rfl:=si H
 exact qS rfl (((((e2.t e7).t e12).t e19).t e26).t e30)
/-! impl.nodeAt -/
theorem yu.calls {w : World} {a0 : List Nd} {a1 : List UInt8} {v_a0 : Value} (f_a0 : Rd 4 qJ w v_a0 a0) (h0 : a0.length≤1048576) :
  Calls Tryz.prog 176 #[v_a0,S a1] w (Rt (RP w (.agg (qJ (nodeAt a0 a1)).toArray))):=by
 have H:=yu.eq a0 a1 h0
 generalize (nodeAt a0 a1) = r at H ⊢
 unfold yu.sh at H
 refine Qz Tryz.func176 rfl (Nat.le_of_ble_eq_true rfl) Tryz.ntmps176 ?_
 refine wr<|jK (.plain rfl) rfl (ltb rfl) rfl Tryz.zeroValue91<|fun b1 w2 z3 z4 e5 k6=>nx<|qi<|wr<|lp rfl (xm v_a0 rfl)<|lp rfl (xm (S a1) rfl) ?_
 obtain ⟨c7,H⟩:=qa H
 refine lc rfl rfl Tryz.call147 (Qx.calls (w:=w2) (a0:=a0) (a1:=a1) (Rd.ext f_a0 e5) (od c7)) rfl<|fun w8 e9=>lp rfl (xa (.int .i64 (qC a0 a1)) rfl)<|nx<|wr<|lp rfl (xm (.int .i64 (qC a0 a1)) rfl)<|lp rfl (Q2 rfl rfl)<|nx ?_
 rcases qg H with ⟨q10,H⟩ | ⟨q10,H⟩
 ·refine qn (cb q10)<|wr<|lp rfl (xm v_a0 rfl)<|lp rfl (xm (.int .i64 (qC a0 a1)) rfl) ?_
  obtain ⟨c11,H⟩:=qa H
  refine vo (.plain rfl) rfl (ltb rfl) rfl Tryz.underlying29 Tryz.sizeOf91 rfl (Rd.ext f_a0 (e5.t e9)) rfl c11<|fun p12 h13=>lp rfl (vK Tryz.isAgg91 Tryz.sizeOf91 rfl rfl h13)<|ji (.plain rfl) rfl rfl Tryz.sizeOf91 rfl rfl rfl rfl rfl (Blk.ext k6 e9)<|fun w14 h15 k16=>nx<|qr<|qo<|Jk ?_
  obtain rfl:=si H
  exact Gy rfl rfl k16 Tryz.isAgg91 Tryz.sizeOf91 rfl (Below.trans (e5.t e9) (Wr.below h15 (Nat.le_of_eq z3)))
 ·refine qj (cb q10)<|qp<|qf<|wr<|lp rfl (Vk (vs:=[]) (pl:=#[(0,1),(1,1),(2,1),(3,1)]) Tryz.underlying91 Tryz.zeroValue91 rfl (fun _=>by kernel_rfl) rfl rfl rfl)<|ji (.plain rfl) rfl rfl Tryz.sizeOf91 rfl rfl rfl rfl rfl (Blk.ext k6 e9)<|fun w17 h18 k19=>nx<|qr<|Jk ?_
  obtain rfl:=si H
  exact Gy rfl rfl k19 Tryz.isAgg91 Tryz.sizeOf91 rfl (Below.trans (e5.t e9) (Wr.below h18 (Nat.le_of_eq z3)))
/-! impl.paths -/
theorem vb.calls {w : World} {a0 : List (List Rec)} (gv : GV 0 w) {v_a0 : Value} (f_a0 : Rd2 5 qv w v_a0 a0) (h0 : a0.length≤5) (h1 : ∀ l ∈ a0,l.length≤1048576) (h2 : ∀ l ∈ a0,∀ x ∈ l,x.path.length≤1048576) :
  Calls Tryz.prog 79 #[v_a0] w (Rt (RO 9 1 vI w (yx a0))):=by
 obtain ⟨k,H⟩:=vb.eq a0 h0 h1 h2
 generalize (yx a0) = r at H ⊢
 unfold vb.sh at H
 refine qk Tryz.func79 rfl (Nat.le_of_ble_eq_true rfl) Tryz.ntmps79 rfl ?_
 refine wr<|lp rfl (xa (.slice none 0 0) rfl)<|nx<|wr<|yz (.plain rfl) rfl (ltb rfl) rfl Tryz.underlying44 Tryz.sizeOf9 Tryz.zeroValue9 rfl rfl rfl (vs:=[]) rfl (vH rfl)<|fun b1 w2 z3 z4 e5 k6=>lp rfl (xa (.slice (some ⟨b1,0,none⟩) 0 0) rfl)<|nx<|qi<|wr<|lp rfl (xm v_a0 rfl)<|lp rfl (X_lenR2 Tryz.underlying23 rfl (Rd2.ext f_a0 e5))<|lp rfl (xm (.int .i64 0) rfl)<|nx ?_
 obtain ⟨z10,L11,C12⟩:=bind_some H
 clear H
 refine  vv (fun s0 sQ wQ=>∃ (x3_13 : List (List UInt8)) (v14 : Value),Kp [(3,4),(5,6),(7,8),(11,28)] s0 sQ∧sQ 3 = v14∧Ow 9 1 vI w2.heap.size wQ v14 x3_13∧Ext w2 wQ∧z10 = .inr x3_13) ?_ ?_
 ·refine qB<|vh (fun s0 kk sQ wQ=>∃ (x3_7 : List (List UInt8)) (v8 : Value) (x11_9 : Int),Kp [(3,4),(5,6),(7,8),(11,28)] s0 sQ∧sQ 3 = v8∧Ow 9 1 vI w2.heap.size wQ v8 x3_7∧sQ 11 = .int .i64 x11_9∧Ext w2 wQ∧ql (vb.b1 k a0) kk (x3_7,x11_9) = some z10) k ⟨([] : List (List UInt8)),(.slice (some ⟨b1,0,none⟩) 0 0),0,kz,rfl,(Ow.zero),rfl,er,L11⟩ ?_
  rintro k19 s20 w21 ⟨x3_7,v8,x11_9,K22,h25,h26,h27,e23,L24⟩
  cases k19 with
  | zero=>exact absurd L24 (by simp [ql])
  | succ k19=>
   obtain ⟨t28,H,S29⟩:=qL L24
   clear L24
   unfold vb.b1 at H
   refine wr<|lp rfl (vw h27 (K22 10 rfl))<|nx<|qi ?_
   rcases qg H with ⟨q30,H⟩ | ⟨q30,H⟩
   ·refine qn (cb q30)<|qp<|qf<|qi<|qB<|wr ?_
    obtain ⟨c31,H⟩:=qa H
    refine L_idx2o (.plain rfl) rfl (ltb rfl) rfl Tryz.underlying23 Tryz.sizeOf35 (K22 9 rfl) f_a0 (e5.t e23) h27 c31<|fun p32 v34 h33 h35=>lp rfl (yj Tryz.isAgg35 rfl h33 rfl)<|lp rfl (xa v34 rfl)<|nx<|wr<|lp rfl (xm v34 rfl)<|lp rfl (vc Tryz.underlying35 rfl (Rd.ext h35 (e5.t e23)))<|lp rfl (xm (.int .i64 0) rfl)<|nx ?_
    obtain ⟨z39,L40,C41⟩:=bind_some H
    clear H
    refine  vv (fun s0 sQ wQ=>∃ (x3_42 : List (List UInt8)) (v43 : Value),Kp [(3,4),(7,8),(17,27)] s0 sQ∧sQ 3 = v43∧Ow 9 1 vI w2.heap.size wQ v43 x3_42∧Ext w2 wQ∧z39 = .inr x3_42) ?_ ?_
    ·refine qB<|vh (fun s0 kk sQ wQ=>∃ (x3_36 : List (List UInt8)) (v37 : Value) (x17_38 : Int),Kp [(3,4),(7,8),(17,27)] s0 sQ∧sQ 3 = v37∧Ow 9 1 vI w2.heap.size wQ v37 x3_36∧sQ 17 = .int .i64 x17_38∧Ext w2 wQ∧ql (vb.b2 a0 x11_9) kk (x3_36,x17_38) = some z39) k ⟨x3_7,v8,0,kz,h25,h26,rfl,e23,L40⟩ ?_
     rintro k48 s49 w50 ⟨x3_36,v37,x17_38,K51,h54,h55,h56,e52,L53⟩
     cases k48 with
     | zero=>exact absurd L53 (by simp [ql])
     | succ k48=>
      obtain ⟨t57,H,S58⟩:=qL L53
      clear L53
      unfold vb.b2 at H
      refine wr<|lp rfl (vw h56 (K51 16 rfl))<|nx<|qi ?_
      rcases qg H with ⟨q59,H⟩ | ⟨q59,H⟩
      ·refine qn (cb q59)<|qp<|qf<|qi<|qB<|wr ?_
       obtain ⟨c60,H⟩:=qa H
       refine vo (.plain rfl) rfl (ltb rfl) rfl Tryz.underlying35 Tryz.sizeOf52 (K51 15 rfl) (Rd.ext h35 (e5.t e52)) h56 c60<|fun p61 h62=>lp rfl (vK Tryz.isAgg52 Tryz.sizeOf52 rfl rfl h62)<|jK (.plain rfl) rfl (ltb rfl) rfl Tryz.zeroValue52<|fun b63 w64 z65 z66 e67 k68=>ji (.plain rfl) rfl rfl Tryz.sizeOf52 rfl rfl rfl rfl rfl k68<|fun w69 h70 k71=>nx<|qK<|lp rfl (qd h54)<|lp rfl (qc Tryz.underlying52 rfl Tryz.sizeOf9 rfl rfl)<|lp rfl (qy Tryz.isAgg9 k71 rfl rfl)<|yz (.plain rfl) rfl (ltb rfl) rfl Tryz.underlying44 Tryz.sizeOf9 Tryz.zeroValue9 rfl rfl rfl (vs:=[(S ((gt (gt a0 x11_9) x17_38).path))]) rfl (vH rfl)<|fun b72 w73 z74 z75 e76 k77=>?_
       obtain ⟨c78,H⟩:=qa H
       refine yH (enc:=vI) (.plain rfl) rfl (ltb rfl) rfl El.t44 rfl rfl (Ow.ext h55 (Ext.trans (Below.trans e67 (Wr.below h70 (Nat.le_of_eq z65))) e76)) (Ow.rd (Ow.new (xs:=[(gt (gt a0 x11_9) x17_38).path]) (sz:=1) (enc:=vI) (base:=w69.heap.size) k77 (Nat.le_of_eq z74) rfl (fun _ _=>by rfl) (Nat.le_of_ble_eq_true rfl))) (Vi _) (od c78) (((e52.t (Below.trans e67 (Wr.below h70 (Nat.le_of_eq z65)))).t e76)).size<|fun v79 w80 o81 z82 g83=>lp rfl (xa v79 rfl)<|qZ<|vM<|qf<|qK<|lp rfl (vp h56 rfl)<|lp rfl (xm (.int .i64 (IntKind.wrap .i64 (x17_38 + 1))) rfl)<|nx ?_
       obtain rfl:=si H
       exact ⟨_,Nat.lt_succ_self _,x3_36 ++ ([(gt (gt a0 x11_9) x17_38).path] : List (List UInt8)),v79,IntKind.wrap .i64 (x17_38 + 1),(ku4 (ku8 K51 rfl) rfl),rfl,o81,rfl,(g83 _ ((e52.t (Below.trans e67 (Wr.below h70 (Nat.le_of_eq z65)))).t e76)),S58⟩
      ·refine qj (cb q59)<|vu<|qY<|qY<|vZ<|qf ?_
       obtain rfl:=si H
       obtain rfl:=si S58
       exact ⟨x3_36,v37,(ku1 K51 rfl),h54,h55,e52,rfl⟩
    ·rintro s45 w44 ⟨x3_42,v43,K46,h84,h85,e47,y86⟩
     rw [y86] at C41
     have H:=C41
     replace H : _ = some _:=H
     refine vM<|qf<|qK<|lp rfl (vp ((K46 11 rfl).trans h27) rfl)<|lp rfl (xm (.int .i64 (IntKind.wrap .i64 (x11_9 + 1))) rfl)<|nx ?_
     obtain rfl:=si H
     exact ⟨_,Nat.lt_succ_self _,x3_42,v43,IntKind.wrap .i64 (x11_9 + 1),(ku2 (Kp.cut (ku3 (ku4 K22 rfl) rfl) K46 rfl) rfl),h84,h85,rfl,e47,S29⟩
   ·refine qj (cb q30)<|vu<|qY<|qY<|vZ<|qf ?_
    obtain rfl:=si H
    obtain rfl:=si S29
    exact ⟨x3_7,v8,(ku1 K22 rfl),h25,h26,e23,rfl⟩
 ·rintro s16 w15 ⟨x3_13,v14,K17,h87,h88,e18,y89⟩
  rw [y89] at C12
  have H:=C12
  replace H : _ = some _:=H
  refine qf<|wr<|lp rfl (qd h87) ?_
  obtain ⟨c90,H⟩:=qa H
  obtain ⟨c91,H⟩:=qa H
  refine jX (.plain rfl) rfl (ltb rfl) rfl Tryz.call136 (Yq.calls (w:=w15) h88 (GV.ext gv (e5.t e18)) (GV.pos (GV.ext gv e5)) (od c90) (od c91)) rfl<|fun _ w92 A93=>?_
  obtain ⟨rfl,B94,ys95,p96,q97,o98⟩:=A93
  refine nx<|wr<|lp rfl (qd h87)<|jX (.plain rfl) rfl (ltb rfl) rfl Tryz.call137 (YI.calls (w:=w92) o98 p96 q97) rfl<|fun v103 w99 A100=>?_
  obtain ⟨B101,o102⟩:=A100
  refine lp rfl (xa v103 rfl)<|nx<|qr<|qu ?_
  obtain rfl:=si H
  exact Q3 rfl (e5.t (B101 _ (B94 _ e18))) o102 (e5).size
/-! impl.touched -/
abbrev qT.e1 (a0 : List Nd) (a1 : List Nd):=(yx ([(a0.map qM),(a1.map qM)] : List (List Rec)))
theorem qT.walk {k : Nat} {w : World} {a0 : List Nd} {a1 : List Nd} (gv : GV 0 w) {v_a0 : Value} (f_a0 : Rd 4 qJ w v_a0 a0) {v_a1 : Value} (f_a1 : Rd 4 qJ w v_a1 a1) {r : List (List UInt8)} (H : qT.sh k a0 a1 = some r) :
  Calls Tryz.prog 175 #[v_a0,v_a1] w (Rt (RO 9 1 vI w r)):=by
 unfold qT.sh at H
 refine qk Tryz.func175 rfl (Nat.le_of_ble_eq_true rfl) Tryz.ntmps175 rfl ?_
 refine wr<|lp rfl (xa (.slice none 0 0) rfl)<|nx<|wr<|yz (.plain rfl) rfl (ltb rfl) rfl Tryz.underlying44 Tryz.sizeOf9 Tryz.zeroValue9 rfl rfl rfl (vs:=[]) rfl (vH rfl)<|fun b1 w2 z3 z4 e5 k6=>lp rfl (xa (.slice (some ⟨b1,0,none⟩) 0 0) rfl)<|nx<|qi<|wr<|lp rfl (xm v_a0 rfl) ?_
 obtain ⟨c7,H⟩:=qa H
 refine vJ (.plain rfl) rfl (ltb rfl) rfl Tryz.call218 (vx.calls (w:=w2) (a0:=a0) (Rd.ext f_a0 e5) (od c7)) rfl<|fun v10 w8 e9 o11=>lp rfl (xm v_a1 rfl) ?_
 obtain ⟨c12,H⟩:=qa H
 refine vJ (.plain rfl) rfl (ltb rfl) rfl Tryz.call218 (vx.calls (w:=w8) (a0:=a1) (Rd.ext f_a1 (e5.t e9)) (od c12)) rfl<|fun v15 w13 e14 o16=>yz (.plain rfl) rfl (ltb rfl) rfl Tryz.underlying23 Tryz.sizeOf35 Tryz.zeroValue35 rfl rfl rfl (vs:=[v10,v15]) rfl (by simp; exact ⟨(Rd.one (Ow.rd (Ow.ext o11 e14))),(Rd.one (Ow.rd o16))⟩)<|fun b17 w18 z19 z20 e21 k22=>?_
 obtain ⟨c23,H⟩:=qa H
 obtain ⟨c24,H⟩:=qa H
 obtain ⟨c25,H⟩:=qa H
 refine vJ (.plain rfl) rfl (ltb rfl) rfl Tryz.call79 (vb.calls (w:=w18) (a0:=([(a0.map qM),(a1.map qM)] : List (List Rec))) (GV.ext gv (((e5.t e9).t e14).t e21)) (Rd2.new (vs:=[v10,v15]) k22 ⟨(Ow.rd (Ow.ext o11 (e14.t e21))),(Ow.rd (Ow.ext o16 e21)),trivial⟩ (Nat.le_of_ble_eq_true rfl)) (od c23) (od c24) (od c25)) rfl<|fun v28 w26 e27 o29=>lp rfl (vc Tryz.underlying44 rfl (Ow.rd o29))<|lp rfl (xm (.int .i64 0) rfl)<|nx ?_
 obtain ⟨z33,L34,C35⟩:=bind_some H
 clear H
 refine  vv (fun s0 sQ wQ=>∃ (x5_36 : List (List UInt8)) (v37 : Value),Kp [(5,6),(7,8),(16,32)] s0 sQ∧sQ 5 = v37∧Ow 9 1 vI w26.heap.size wQ v37 x5_36∧Ext w26 wQ∧z33 = .inr x5_36) ?_ ?_
 ·refine qB<|vh (fun s0 kk sQ wQ=>∃ (x5_30 : List (List UInt8)) (v31 : Value) (x16_32 : Int),Kp [(5,6),(7,8),(16,32)] s0 sQ∧sQ 5 = v31∧Ow 9 1 vI w26.heap.size wQ v31 x5_30∧sQ 16 = .int .i64 x16_32∧Ext w26 wQ∧ql (qT.b1 a0 a1) kk (x5_30,x16_32) = some z33) k ⟨([] : List (List UInt8)),(.slice (some ⟨b1,0,none⟩) 0 0),0,kz,rfl,(Ow.zero),rfl,er,L34⟩ ?_
  rintro k42 s43 w44 ⟨x5_30,v31,x16_32,K45,h48,h49,h50,e46,L47⟩
  cases k42 with
  | zero=>exact absurd L47 (by simp [ql])
  | succ k42=>
   obtain ⟨t51,H,S52⟩:=qL L47
   clear L47
   unfold qT.b1 at H
   refine wr<|lp rfl (vw h50 (K45 15 rfl))<|nx<|qi ?_
   rcases qg H with ⟨q53,H⟩ | ⟨q53,H⟩
   ·refine qn (cb q53)<|qp<|qf<|qi<|qB<|wr ?_
    obtain ⟨c54,H⟩:=qa H
    refine vo (.plain rfl) rfl (ltb rfl) rfl Tryz.underlying44 Tryz.sizeOf9 (K45 14 rfl) (Ow.rd (Ow.ext o29 e46)) h50 c54<|fun p55 h56=>lp rfl (yj Tryz.isAgg9 rfl h56 rfl)<|lp rfl (qz rfl)<|nx<|wr<|lp rfl (xm v_a0 (K45 0 rfl))<|lp rfl (qd rfl) ?_
    obtain ⟨c57,H⟩:=qa H
    refine lc rfl rfl Tryz.call176 (yu.calls (w:=w44) (a0:=a0) (a1:=gt (qT.e1 a0 a1) x16_32) (Rd.ext f_a0 (((((e5.t e9).t e14).t e21).t e27).t e46)) (od c57)) rfl<|fun w58 e59=>lp rfl (xm v_a1 (K45 1 rfl))<|lp rfl (qd rfl) ?_
    obtain ⟨c60,H⟩:=qa H
    refine lc rfl rfl Tryz.call176 (yu.calls (w:=w58) (a0:=a1) (a1:=gt (qT.e1 a0 a1) x16_32) (Rd.ext f_a1 ((((((e5.t e9).t e14).t e21).t e27).t e46).t e59)) (od c60)) rfl<|fun w61 e62=>lp rfl (X_neA Eqg.t91 (Eqs.t91 (nodeAt a0 (gt (qT.e1 a0 a1) x16_32)) (nodeAt a1 (gt (qT.e1 a0 a1) x16_32))) rfl rfl)<|nx ?_
    rcases qg H with ⟨q63,H⟩ | ⟨q63,H⟩
    ·refine qn (cb q63)<|qK<|lp rfl (qd h48)<|lp rfl (qd rfl)<|yz (.plain rfl) rfl (ltb rfl) rfl Tryz.underlying44 Tryz.sizeOf9 Tryz.zeroValue9 rfl rfl rfl (vs:=[(S (gt (qT.e1 a0 a1) x16_32))]) rfl (vH rfl)<|fun b64 w65 z66 z67 e68 k69=>?_
     obtain ⟨c70,H⟩:=qa H
     refine yH (enc:=vI) (.plain rfl) rfl (ltb rfl) rfl El.t44 rfl rfl (Ow.ext h49 ((e59.t e62).t e68)) (Ow.rd (Ow.new (xs:=[gt (qT.e1 a0 a1) x16_32]) (sz:=1) (enc:=vI) (base:=w61.heap.size) k69 (Nat.le_of_eq z66) rfl (fun _ _=>by rfl) (Nat.le_of_ble_eq_true rfl))) (Vi _) (od c70) ((((e46.t e59).t e62).t e68)).size<|fun v71 w72 o73 z74 g75=>lp rfl (xa v71 rfl)<|qZ<|vM<|qf<|qK<|lp rfl (vp h50 rfl)<|lp rfl (xm (.int .i64 (IntKind.wrap .i64 (x16_32 + 1))) rfl)<|nx ?_
     obtain rfl:=si H
     exact ⟨_,Nat.lt_succ_self _,x5_30 ++ ([gt (qT.e1 a0 a1) x16_32] : List (List UInt8)),v71,IntKind.wrap .i64 (x16_32 + 1),(ku2 (ku8 (ku8 K45 rfl) rfl) rfl),rfl,o73,rfl,(g75 _ (((e46.t e59).t e62).t e68)),S52⟩
    ·refine qj (cb q63)<|qp<|vM<|qf<|qK<|lp rfl (vp h50 rfl)<|lp rfl (xm (.int .i64 (IntKind.wrap .i64 (x16_32 + 1))) rfl)<|nx ?_
     obtain rfl:=si H
     exact ⟨_,Nat.lt_succ_self _,x5_30,v31,IntKind.wrap .i64 (x16_32 + 1),(ku1 (ku4 (ku8 K45 rfl) rfl) rfl),h48,(Ow.ext h49 (e59.t e62)),rfl,((e46.t e59).t e62),S52⟩
   ·refine qj (cb q53)<|vu<|qY<|qY<|vZ<|qf ?_
    obtain rfl:=si H
    obtain rfl:=si S52
    exact ⟨x5_30,v31,(ku1 K45 rfl),h48,h49,e46,rfl⟩
 ·rintro s39 w38 ⟨x5_36,v37,K40,h76,h77,e41,y78⟩
  rw [y78] at C35
  have H:=C35
  replace H : _ = some _:=H
  refine qf<|wr<|lp rfl (qd h76)<|lp rfl (xa v37 rfl)<|nx<|qr<|qu ?_
  obtain rfl:=si H
  exact Q3 rfl (((((e5.t e9).t e14).t e21).t e27).t e41) h77 (((((e5.t e9).t e14).t e21).t e27)).size
theorem qT.calls {w : World} {a0 : List Nd} {a1 : List Nd} (gv : GV 0 w) {v_a0 : Value} (f_a0 : Rd 4 qJ w v_a0 a0) {v_a1 : Value} (f_a1 : Rd 4 qJ w v_a1 a1) (h0 : a0.length≤1048576) (h1 : a1.length≤1048576) (h2 : ∀ x ∈ a0,x.path.length≤1048576) (h3 : ∀ x ∈ a1,x.path.length≤1048576) :
  Calls Tryz.prog 175 #[v_a0,v_a1] w (Rt (RO 9 1 vI w (yV a0 a1))):=by
 obtain ⟨k,h⟩:=qT.eq a0 a1 h0 h1 h2 h3
 exact qT.walk gv f_a0 f_a1 h
/-! spec.l08Changed -/
theorem yn.calls {w : World} {a0 : List Nd} {a1 : Nd} {v_a0 : Value} (f_a0 : Rd 4 qJ w v_a0 a0) (h0 : a0.length≤1048576) :
  Calls Tryz.prog 172 #[v_a0,.agg (qJ a1).toArray] w (Rt (RP w (.bool (yl a0 a1)))):=by
 have H:=yn.eq a0 a1 h0
 generalize (yl a0 a1) = r at H ⊢
 unfold yn.sh at H
 refine qk Tryz.func172 rfl (Nat.le_of_ble_eq_true rfl) Tryz.ntmps172 rfl ?_
 refine wr<|jm (.plain rfl) rfl (ltb rfl) rfl rfl<|fun b1 w2 z3 z4 e5 k6=>lp rfl (xa (.bool false) rfl)<|nx<|wr<|lp rfl (xm v_a0 rfl)<|lp rfl (qc Tryz.underlying91 rfl Tryz.sizeOf9 rfl rfl)<|lp rfl (qy Tryz.isAgg9 k6 rfl rfl) ?_
 obtain ⟨c7,H⟩:=qa H
 refine lc rfl rfl Tryz.call155 (vD.calls (w:=w2) (a0:=a0) (a1:=a1.path) (Rd.ext f_a0 e5) (od c7)) rfl<|fun w8 e9=>lp rfl (xa (.int .i64 (qC a0 a1.path)) rfl)<|nx<|qi ?_
 obtain ⟨c10,H⟩:=qa H
 refine Jf [LEq (.int .i64 (qC a0 a1.path)),LEq (.bool (decide ((qC a0 a1.path) < 0))),LEq (.bool (decide ((qC a0 a1.path) < 0))),LIf (!(decide ((qC a0 a1.path) < 0))) (LEq v_a0),LIf (!(decide ((qC a0 a1.path) < 0))) (LEq (.int .i64 (qC a0 a1.path))),LIf (!(decide ((qC a0 a1.path) < 0))) (yW (qJ (gt a0 (qC a0 a1.path)))),LIf (!(decide ((qC a0 a1.path) < 0))) (LEq (.agg (qJ (gt a0 (qC a0 a1.path))).toArray)),LIf (!(decide ((qC a0 a1.path) < 0))) (LEq (.agg #[(.int .i64 a1.kind),(S a1.path),(S a1.body),(.int .i64 a1.mode)])),LIf (!(decide ((qC a0 a1.path) < 0))) (LEq (.bool (!decide ((gt a0 (qC a0 a1.path)) = a1)))),LEq (.bool ((decide ((qC a0 a1.path) < 0)) || (!decide ((gt a0 (qC a0 a1.path)) = a1)))),LEq (.bool ((decide ((qC a0 a1.path) < 0)) || (!decide ((gt a0 (qC a0 a1.path)) = a1))))] (by kernel_rfl) (by kernel_rfl) ⟨qm,qm,qm,lm,lm,(LIf.mono yW.mono),lm,lm,lm,qm,qm,trivial⟩ ⟨?_,?_,?_,?_,?_,?_,?_,?_,?_,?_,?_,trivial⟩ ?_
 ·exact fun s x e f d u=>lp rfl (xm (.int .i64 (qC a0 a1.path)) (f 5 rfl))<|se rfl rfl
 ·exact fun s x e f d u=>lp rfl (vw (d 0 rfl) rfl)<|se rfl rfl
 ·exact fun s x e f d u=>lp rfl (qd (d 1 rfl))<|se rfl rfl
 ·exact fun s x e f d u=>gF rfl rfl rfl rfl (d 2 rfl) rfl fun b t=>lt t rfl rfl (xm v_a0 (f 0 rfl))<|sg rfl rfl b rfl
 ·exact fun s x e f d u=>gF rfl rfl rfl rfl (d 2 rfl) rfl fun b t=>lt t rfl rfl (xm (.int .i64 (qC a0 a1.path)) (f 5 rfl))<|sg rfl rfl b rfl
 ·exact fun s x e f d u=>gF rfl rfl rfl rfl (d 2 rfl) rfl fun b t=>vo t rfl (ltb rfl) rfl Tryz.underlying29 Tryz.sizeOf91 ((d 3 rfl).1 (qE (q3 b))) (Rd.ext f_a0 ((e5.t e9).t e)) ((d 4 rfl).1 (qE (q3 b))) (yI b c10)<|fun p14 h15=>sg rfl rfl b ⟨_,rfl,h15⟩
 ·intro s x e f d u
  refine gF rfl rfl rfl rfl (d 2 rfl) rfl fun b t=>?_
  obtain ⟨p16,h17,h18⟩:=((d 5 rfl).1 (qE (q3 b)))
  exact lt t rfl rfl (vK Tryz.isAgg91 Tryz.sizeOf91 rfl h17 h18)<|sg rfl rfl b rfl
 ·exact fun s x e f d u=>gF rfl rfl rfl rfl (d 2 rfl) rfl fun b t=>lt t rfl rfl (vK Tryz.isAgg91 Tryz.sizeOf91 rfl (f 3 rfl) (Blk.at0 (Blk.ext k6 (e9.t e))))<|sg rfl rfl b rfl
 ·exact fun s x e f d u=>gF rfl rfl rfl rfl (d 2 rfl) rfl fun b t=>lt t rfl rfl (X_neA Eqg.t91 (Eqs.t91 (gt a0 (qC a0 a1.path)) a1) ((d 6 rfl).1 (qE (q3 b))) ((d 7 rfl).1 (qE (q3 b))))<|sg rfl rfl b rfl
 ·exact fun s x e f d u=>lp rfl (jV (d 2 rfl) rfl fun h=>((d 8 rfl).1 (qE h)))<|se rfl rfl
 ·exact fun s x e f d u=>lp rfl (qz (d 9 rfl))<|se rfl rfl
 intro s19 w20 e21 hf22 ha23
 have K24:=Kp.ofD (kp:=[(4,5),(10,20)]) rfl hf22
 have d25 : s19 4 = (.bool ((decide ((qC a0 a1.path) < 0)) || (!decide ((gt a0 (qC a0 a1.path)) = a1)))):=ha23 10 rfl
 clear ha23 hf22
 refine qf<|qr<|qu ?_
 obtain rfl:=si H
 exact qS d25 ((e5.t e9).t e21)
end Go.Proofs.YtdhmlillkbjjjaaGreatDoor
