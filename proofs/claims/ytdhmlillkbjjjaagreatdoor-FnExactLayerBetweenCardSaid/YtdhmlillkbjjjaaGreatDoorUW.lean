import Derived.Test.YtdhmlillkbjjjaaGreatDoorProg
import Derived.Test.YtdhmlillkbjjjaaGreatDoorUH
set_option linter.unusedVariables false
set_option linter.unusedSimpArgs false
set_option maxRecDepth 10000
namespace Go.Proofs.YtdhmlillkbjjjaaGreatDoor.UD
open Go.UD Go.RowKit
theorem vy.calls {w : World} {a0 : List UInt8} (gv : GV 0 w) (h0 : a0.length≤1048576) :
  Calls Tryz.prog 132 #[S a0] w (Rt (RO 9 1 vI w (cut 47 a0))):=by
 have H:=vy.eq a0 h0
 generalize (cut 47 a0) = r at H ⊢
 unfold vy.sh at H
 refine qk Tryz.func132 rfl (Nat.le_of_ble_eq_true rfl) Tryz.ntmps132 rfl ?_
 refine qi<|qK<|vm (.plain rfl) rfl (ltb rfl) (qz (v:=(.slice none 0 0)) rfl)<|qZ<|qf<|qi<|qK<|vm (.plain rfl) rfl (ltb rfl) (qd (v:=(S a0)) rfl) ?_
 obtain ⟨c1,H⟩:=qa H
 obtain ⟨c2,H⟩:=qa H
 refine vJ (.plain rfl) rfl (ltb rfl) rfl Tryz.call193 (strings_Split.calls (w:=w) (a0:=a0) (a1:=([47] : List UInt8)) gv (of_decide_eq_true c1) (of_decide_eq_true c2)) rfl<|fun v5 w3 e4 o6=>vm (.plain rfl) rfl (ltb rfl) (qz (v:=v5) rfl)<|qZ<|qf<|qr<|qu ?_
 obtain rfl:=Option.some.inj H
 exact Q3 rfl e4 o6 ((Ext.refl w)).size
theorem vi.walk {w : World} {a0 : List UInt8} {r : Bool} (H : vi.sh a0 = some r) :
  Calls Tryz.prog 242 #[S a0] w (Rt (RP w (.bool r))):=by
 unfold vi.sh at H
 refine qk Tryz.func242 rfl (Nat.le_of_ble_eq_true rfl) Tryz.ntmps242 rfl ?_
 refine qi<|qK<|vm (.plain rfl) rfl (ltb rfl) (qz (v:=(.bool false)) rfl)<|qZ<|qf<|qi<|qK<|vm (.plain rfl) rfl (ltb rfl) (qd (v:=(S a0)) rfl)<|vm (.plain rfl) rfl (ltb rfl) (qd (v:=(S a0)) rfl)<|vm (.plain rfl) rfl (ltb rfl) (j3 rfl rfl)<|vm (.plain rfl) rfl (ltb rfl) (qz (v:=(.bool (!decide (a0 = a0)))) rfl)<|qZ<|qf<|qr<|qu ?_
 obtain rfl:=Option.some.inj H
 exact qS rfl (Ext.refl w)
theorem vi.calls {w : World} {a0 : List UInt8} :
  Calls Tryz.prog 242 #[S a0] w (Rt (RP w (.bool false))):=vi.walk (vi.eq a0)
theorem vz.calls {w : World} {a0 : List UInt8} {a1 : List UInt8} :
  Calls Tryz.prog 217 #[S a0,S a1] w (Rt (RP w (.int .i64 (cmpS a0 a1)))):=by
 have H:=vz.eq a0 a1
 generalize (cmpS a0 a1) = r at H ⊢
 unfold vz.sh at H
 refine qk Tryz.func217 rfl (Nat.le_of_ble_eq_true rfl) Tryz.ntmps217 rfl ?_
 refine qi<|qK<|vm (.plain rfl) rfl (ltb rfl) (qz (v:=(.int .i64 0)) rfl)<|qZ<|qf<|qi<|qK<|vm (.plain rfl) rfl (ltb rfl) (qd (v:=(S a0)) rfl)<|vY (.plain rfl) rfl (ltb rfl) rfl Tryz.call242 (vi.calls (w:=w) (a0:=a0)) rfl<|fun w1 e2=>vm (.plain rfl) rfl (ltb rfl) (qz (v:=(.bool false)) rfl)<|qZ<|qf<|qi<|qK<|vm (.plain rfl) rfl (ltb rfl) (qd (v:=(S a1)) rfl)<|vY (.plain rfl) rfl (ltb rfl) rfl Tryz.call242 (vi.calls (w:=w1) (a0:=a1)) rfl<|fun w3 e4=>vm (.plain rfl) rfl (ltb rfl) (qz (v:=(.bool false)) rfl)<|qZ<|qf<|qi<|qi<|qK<|vm (.plain rfl) rfl (ltb rfl) (qd (v:=(.bool false)) rfl)<|qZ<|qf ?_
 rcases qg H with ⟨q5,H⟩ | ⟨q5,H⟩
 ·refine qn (congrArg Value.bool q5)<|qi<|qi<|qK<|vm (.plain rfl) rfl (ltb rfl) (qd (v:=(.bool false)) rfl)<|qZ<|qf ?_
  rcases qg H with ⟨q6,H⟩ | ⟨q6,H⟩
  ·refine qn (congrArg Value.bool q6)<|qi<|qK<|vm (.plain rfl) rfl (ltb rfl) (qz (v:=(.int .i64 0)) rfl)<|qZ<|qf<|qr<|qo<|qo<|qu ?_
   obtain rfl:=Option.some.inj H
   exact qS rfl (Ext.trans e2 e4)
  ·refine qj (congrArg Value.bool q6)<|qp<|qf<|qi<|qK<|vm (.plain rfl) rfl (ltb rfl) (qz (v:=(.int .i64 (-1))) rfl)<|qZ<|qf<|qr<|qo<|qu ?_
   obtain rfl:=Option.some.inj H
   exact qS rfl (Ext.trans e2 e4)
 ·refine qj (congrArg Value.bool q5)<|qp<|qf<|qi<|qi<|qK<|vm (.plain rfl) rfl (ltb rfl) (qd (v:=(.bool false)) rfl)<|qZ<|qf ?_
  rcases qg H with ⟨q7,H⟩ | ⟨q7,H⟩
  ·refine qn (congrArg Value.bool q7)<|qi<|qK<|vm (.plain rfl) rfl (ltb rfl) (qz (v:=(.int .i64 1)) rfl)<|qZ<|qf<|qr<|qo<|qu ?_
   obtain rfl:=Option.some.inj H
   exact qS rfl (Ext.trans e2 e4)
  ·refine qj (congrArg Value.bool q7)<|qp<|qf<|qi<|qi<|qK<|vm (.plain rfl) rfl (ltb rfl) (qd (v:=(S a0)) rfl)<|vm (.plain rfl) rfl (ltb rfl) (qd (v:=(S a1)) rfl)<|vm (.plain rfl) rfl (ltb rfl) (XC rfl rfl)<|qZ<|qf ?_
   rcases qg H with ⟨q8,H⟩ | ⟨q8,H⟩
   ·refine qn (congrArg Value.bool q8)<|qi<|qK<|vm (.plain rfl) rfl (ltb rfl) (qz (v:=(.int .i64 (-1))) rfl)<|qZ<|qf<|qr<|qo<|qu ?_
    obtain rfl:=Option.some.inj H
    exact qS rfl (Ext.trans e2 e4)
   ·refine qj (congrArg Value.bool q8)<|qp<|qf<|qi<|qi<|qK<|vm (.plain rfl) rfl (ltb rfl) (qd (v:=(S a0)) rfl)<|vm (.plain rfl) rfl (ltb rfl) (qd (v:=(S a1)) rfl)<|vm (.plain rfl) rfl (ltb rfl) (X_sgt rfl rfl)<|qZ<|qf ?_
    rcases qg H with ⟨q9,H⟩ | ⟨q9,H⟩
    ·refine qn (congrArg Value.bool q9)<|qi<|qK<|vm (.plain rfl) rfl (ltb rfl) (qz (v:=(.int .i64 1)) rfl)<|qZ<|qf<|qr<|qo<|qu ?_
     obtain rfl:=Option.some.inj H
     exact qS rfl (Ext.trans e2 e4)
    ·refine qj (congrArg Value.bool q9)<|qp<|qf<|qi<|qK<|vm (.plain rfl) rfl (ltb rfl) (qz (v:=(.int .i64 0)) rfl)<|qZ<|qf<|qr<|qu ?_
     obtain rfl:=Option.some.inj H
     exact qS rfl (Ext.trans e2 e4)
theorem qw.calls {w : World} {a0 : List (List UInt8)} {a1 : List (List UInt8)} {v_a0 : Value} (f_a0 : Rd 1 vI w v_a0 a0) {v_a1 : Value} (f_a1 : Rd 1 vI w v_a1 a1) (h0 : a0.length≤4611686018427387904) (h1 : a1.length≤4611686018427387904) :
  Calls Tryz.prog 169 #[v_a0,v_a1] w (Rt (RP w (.int .i64 (cmpL a0 a1)))):=by
 obtain ⟨k,H⟩:=qw.eq a0 a1 h0 h1
 generalize (cmpL a0 a1) = r at H ⊢
 unfold qw.sh at H
 refine qk Tryz.func169 rfl (Nat.le_of_ble_eq_true rfl) Tryz.ntmps169 rfl ?_
 refine qi<|qK<|vm (.plain rfl) rfl (ltb rfl) (qz (v:=(.int .i64 0)) rfl)<|qZ<|qf<|qi<|qi<|qK<|vm (.plain rfl) rfl (ltb rfl) (qd (v:=v_a0) rfl)<|vm (.plain rfl) rfl (ltb rfl) (vc Tryz.underlying44 rfl f_a0)<|vm (.plain rfl) rfl (ltb rfl) (qd (v:=(.int .i64 0)) rfl)<|qZ<|qf ?_
 obtain ⟨z2,L3,C4⟩:=bind_some H
 clear H
 refine  vv (fun s0 sQ wQ=>Kp [(4,9),(11,31)] s0 sQ∧Ext w wQ∧z2 = .inr ()) ?_ ?_
 ·refine qB<|vh (fun s0 kk sQ wQ=>∃ (x11_1 : Int),Kp [(4,9),(11,31)] s0 sQ∧sQ 11 = .int .i64 x11_1∧Ext w wQ∧ql (qw.b1 a0 a1) kk x11_1 = some z2) k ⟨0,(Kp.refl _ _),rfl,(Ext.refl w),L3⟩ ?_
  rintro k9 s10 w11 ⟨x11_1,K12,h15,e13,L14⟩
  cases k9 with
  | zero=>exact absurd L14 (by simp [ql])
  | succ k9=>
   obtain ⟨t16,H,S17⟩:=qL L14
   clear L14
   unfold qw.b1 at H
   refine qi<|qK<|vm (.plain rfl) rfl (ltb rfl) (vw h15 (K12 10 rfl))<|qZ<|qf<|qi ?_
   rcases qg H with ⟨q18,H⟩ | ⟨q18,H⟩
   ·refine qn (congrArg Value.bool q18)<|qp<|qf<|qi<|qB<|qi<|qK<|vm (.plain rfl) rfl (ltb rfl) (qd (v:=(.int .i64 x11_1)) h15) ?_
    obtain ⟨c19,H⟩:=qa H
    refine vo (.plain rfl) rfl (ltb rfl) rfl Tryz.underlying44 Tryz.sizeOf9 (K12 9 rfl) (Rd.ext f_a0 e13) h15 c19<|fun p20 h21=>vm (.plain rfl) rfl (ltb rfl) (yj Tryz.isAgg9 rfl h21 rfl)<|vm (.plain rfl) rfl (ltb rfl) (qz (v:=(.int .i64 x11_1)) rfl)<|vm (.plain rfl) rfl (ltb rfl) (qz (v:=(S (gt a0 x11_1))) rfl)<|qZ<|qf<|qi<|qi<|qK<|vm (.plain rfl) rfl (ltb rfl) (qd (v:=(.int .i64 x11_1)) rfl)<|vm (.plain rfl) rfl (ltb rfl) (qd (v:=v_a1) (K12 1 rfl))<|vm (.plain rfl) rfl (ltb rfl) (vc Tryz.underlying44 rfl (Rd.ext f_a1 e13))<|vm (.plain rfl) rfl (ltb rfl) (Q2 rfl rfl)<|qZ<|qf ?_
    rcases qg H with ⟨q22,H⟩ | ⟨q22,H⟩
    ·refine qn (congrArg Value.bool q22)<|qi<|qK<|vm (.plain rfl) rfl (ltb rfl) (qz (v:=(.int .i64 1)) rfl)<|qZ<|qf<|qr<|qo<|vl<|qo<|qo<|vl<|qo<|qo<|qu ?_
     obtain rfl:=Option.some.inj H
     obtain rfl:=Option.some.inj S17
     have H:=C4
     obtain rfl:=Option.some.inj H
     exact qS rfl e13
    ·refine qj (congrArg Value.bool q22)<|qp<|qf<|qi<|qK<|vm (.plain rfl) rfl (ltb rfl) (qd (v:=v_a1) (K12 1 rfl))<|vm (.plain rfl) rfl (ltb rfl) (qd (v:=(.int .i64 x11_1)) rfl) ?_
     obtain ⟨c23,H⟩:=qa H
     refine vo (.plain rfl) rfl (ltb rfl) rfl Tryz.underlying44 Tryz.sizeOf9 rfl (Rd.ext f_a1 e13) rfl c23<|fun p24 h25=>vm (.plain rfl) rfl (ltb rfl) (yj Tryz.isAgg9 rfl h25 rfl)<|vm (.plain rfl) rfl (ltb rfl) (qz (v:=(S (gt a1 x11_1))) rfl)<|qZ<|qf<|qi<|qK<|vm (.plain rfl) rfl (ltb rfl) (qd (v:=(S (gt a0 x11_1))) rfl)<|vm (.plain rfl) rfl (ltb rfl) (qd (v:=(S (gt a1 x11_1))) rfl)<|vY (.plain rfl) rfl (ltb rfl) rfl Tryz.call217 (vz.calls (w:=w11) (a0:=gt a0 x11_1) (a1:=gt a1 x11_1)) rfl<|fun w26 e27=>vm (.plain rfl) rfl (ltb rfl) (qz (v:=(.int .i64 (cmpS (gt a0 x11_1) (gt a1 x11_1)))) rfl)<|qZ<|qf<|qi<|qK<|vm (.plain rfl) rfl (ltb rfl) (qd (v:=(.int .i64 (cmpS (gt a0 x11_1) (gt a1 x11_1)))) rfl)<|vm (.plain rfl) rfl (ltb rfl) (jf rfl rfl)<|qZ<|qf ?_
     rcases qg H with ⟨q28,H⟩ | ⟨q28,H⟩
     ·refine qn (congrArg Value.bool q28)<|qi<|qK<|vm (.plain rfl) rfl (ltb rfl) (qd (v:=(.int .i64 (cmpS (gt a0 x11_1) (gt a1 x11_1)))) rfl)<|vm (.plain rfl) rfl (ltb rfl) (qz (v:=(.int .i64 (cmpS (gt a0 x11_1) (gt a1 x11_1)))) rfl)<|qZ<|qf<|qr<|vl<|qo<|qo<|vl<|qo<|qo<|qu ?_
      obtain rfl:=Option.some.inj H
      obtain rfl:=Option.some.inj S17
      have H:=C4
      obtain rfl:=Option.some.inj H
      exact qS rfl (Ext.trans e13 e27)
     ·refine qj (congrArg Value.bool q28)<|qp<|vM<|qf<|qK<|vm (.plain rfl) rfl (ltb rfl) (vp h15 rfl)<|vm (.plain rfl) rfl (ltb rfl) (qd (v:=(.int .i64 (IntKind.wrap .i64 (x11_1 + 1)))) rfl)<|qZ<|qf ?_
      obtain rfl:=Option.some.inj H
      exact ⟨_,Nat.lt_succ_self _,IntKind.wrap .i64 (x11_1 + 1),(Kp.upd (Kp.upd (Kp.upd (Kp.upd (Kp.upd (Kp.upd (Kp.upd (Kp.upd (Kp.upd (Kp.upd (Kp.upd (Kp.upd (Kp.upd (Kp.upd (Kp.upd (Kp.upd (Kp.upd (Kp.upd (Kp.upd (Kp.upd (Kp.upd (Kp.upd (Kp.upd K12 rfl) rfl) rfl) rfl) rfl) rfl) rfl) rfl) rfl) rfl) rfl) rfl) rfl) rfl) rfl) rfl) rfl) rfl) rfl) rfl) rfl) rfl) rfl),rfl,(Ext.trans e13 e27),S17⟩
   ·refine qj (congrArg Value.bool q18)<|vu<|qY<|qY<|vZ<|qf ?_
    obtain rfl:=Option.some.inj H
    obtain rfl:=Option.some.inj S17
    exact ⟨(Kp.upd K12 rfl),e13,rfl⟩
 ·rintro s6 w5 ⟨K7,e8,y29⟩
  rw [y29] at C4
  have H:=C4
  replace H : _ = some _:=H
  refine qf<|qi<|qi<|qK<|vm (.plain rfl) rfl (ltb rfl) (qd (v:=v_a0) (K7 0 rfl))<|vm (.plain rfl) rfl (ltb rfl) (vc Tryz.underlying44 rfl (Rd.ext f_a0 e8))<|vm (.plain rfl) rfl (ltb rfl) (qd (v:=v_a1) (K7 1 rfl))<|vm (.plain rfl) rfl (ltb rfl) (vc Tryz.underlying44 rfl (Rd.ext f_a1 e8))<|vm (.plain rfl) rfl (ltb rfl) (vw rfl rfl)<|qZ<|qf ?_
  rcases qg H with ⟨q30,H⟩ | ⟨q30,H⟩
  ·refine qn (congrArg Value.bool q30)<|qi<|qK<|vm (.plain rfl) rfl (ltb rfl) (qz (v:=(.int .i64 (-1))) rfl)<|qZ<|qf<|qr<|qo<|qu ?_
   obtain rfl:=Option.some.inj H
   exact qS rfl e8
  ·refine qj (congrArg Value.bool q30)<|qp<|qf<|qi<|qK<|vm (.plain rfl) rfl (ltb rfl) (qz (v:=(.int .i64 0)) rfl)<|qZ<|qf<|qr<|qu ?_
   obtain rfl:=Option.some.inj H
   exact qS rfl e8
theorem impl_compare.calls {w : World} {a0 : List UInt8} {a1 : List UInt8} (gv : GV 0 w) (h0 : a0.length≤1048576) (h1 : a1.length≤1048576) :
  Calls Tryz.prog 102 #[S a0,S a1] w (Rt (RP w (.int .i64 (cmpL (cut 47 a0) (cut 47 a1))))):=by
 have H:=impl_compare.eq a0 a1 h0 h1
 generalize (cmpL (cut 47 a0) (cut 47 a1)) = r at H ⊢
 unfold impl_compare.sh at H
 refine qk Tryz.func102 rfl (Nat.le_of_ble_eq_true rfl) Tryz.ntmps102 rfl ?_
 refine qi<|qK<|vm (.plain rfl) rfl (ltb rfl) (qz (v:=(.int .i64 0)) rfl)<|qZ<|qf<|qi<|qK<|vm (.plain rfl) rfl (ltb rfl) (qd (v:=(S a0)) rfl) ?_
 obtain ⟨c1,H⟩:=qa H
 refine vJ (.plain rfl) rfl (ltb rfl) rfl Tryz.call132 (vy.calls (w:=w) (a0:=a0) gv (of_decide_eq_true c1)) rfl<|fun v4 w2 e3 o5=>vm (.plain rfl) rfl (ltb rfl) (qd (v:=(S a1)) rfl) ?_
 obtain ⟨c6,H⟩:=qa H
 refine vJ (.plain rfl) rfl (ltb rfl) rfl Tryz.call132 (vy.calls (w:=w2) (a0:=a1) (GV.ext gv e3) (of_decide_eq_true c6)) rfl<|fun v9 w7 e8 o10=>?_
 obtain ⟨c11,H⟩:=qa H
 obtain ⟨c12,H⟩:=qa H
 refine vY (.plain rfl) rfl (ltb rfl) rfl Tryz.call169 (qw.calls (w:=w7) (a0:=(cut 47 a0)) (a1:=(cut 47 a1)) (Ow.rd (Ow.ext o5 e8)) (Ow.rd o10) (of_decide_eq_true c11) (of_decide_eq_true c12)) rfl<|fun w13 e14=>vm (.plain rfl) rfl (ltb rfl) (qz (v:=(.int .i64 (cmpL (cut 47 a0) (cut 47 a1)))) rfl)<|qZ<|qf<|qr<|qu ?_
 obtain rfl:=Option.some.inj H
 exact qS rfl (Ext.trans (Ext.trans e3 e8) e14)
theorem impl_between_2.calls {w : World} {a0 : Rec} {a1 : Rec} (gv : GV 0 w) (h0 : a0.path.length≤1048576) (h1 : a1.path.length≤1048576) :
  Calls Tryz.prog 178 #[.agg (qv a0).toArray,.agg (qv a1).toArray] w (Rt (RP w (.int .i64 (cmpL (cut 47 a0.path) (cut 47 a1.path))))):=by
 have H:=impl_between_2.eq a0 a1 h0 h1
 generalize (cmpL (cut 47 a0.path) (cut 47 a1.path)) = r at H ⊢
 unfold impl_between_2.sh at H
 refine qk Tryz.func178 rfl (Nat.le_of_ble_eq_true rfl) Tryz.ntmps178 rfl ?_
 refine qi<|qK<|jm (.plain rfl) rfl (ltb rfl) rfl rfl<|fun b1 w2 z3 z4 e5 k6=>jm (.plain rfl) rfl (ltb rfl) rfl rfl<|fun b7 w8 z9 z10 e11 k12=>vm (.plain rfl) rfl (ltb rfl) (qz (v:=(.int .i64 0)) rfl)<|qZ<|qf<|qi<|qK<|vm (.plain rfl) rfl (ltb rfl) (qc Tryz.underlying52 rfl Tryz.sizeOf9 rfl rfl)<|vm (.plain rfl) rfl (ltb rfl) (qy Tryz.isAgg9 (Blk.ext k6 e11) rfl rfl)<|vm (.plain rfl) rfl (ltb rfl) (qc Tryz.underlying52 rfl Tryz.sizeOf9 rfl rfl)<|vm (.plain rfl) rfl (ltb rfl) (qy Tryz.isAgg9 k12 rfl rfl) ?_
 obtain ⟨c13,H⟩:=qa H
 obtain ⟨c14,H⟩:=qa H
 refine vY (.plain rfl) rfl (ltb rfl) rfl Tryz.call102 (impl_compare.calls (w:=w8) (a0:=a0.path) (a1:=a1.path) (GV.ext gv (Ext.trans e5 e11)) (of_decide_eq_true c13) (of_decide_eq_true c14)) rfl<|fun w15 e16=>vm (.plain rfl) rfl (ltb rfl) (qz (v:=(.int .i64 (cmpL (cut 47 a0.path) (cut 47 a1.path)))) rfl)<|qZ<|qf<|qr<|qu ?_
 obtain rfl:=Option.some.inj H
 exact qS rfl (Ext.trans (Ext.trans e5 e11) e16)
end Go.Proofs.YtdhmlillkbjjjaaGreatDoor.UD
