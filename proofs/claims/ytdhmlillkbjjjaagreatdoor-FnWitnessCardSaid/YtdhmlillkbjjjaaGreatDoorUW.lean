import Derived.Test.YtdhmlillkbjjjaaGreatDoorProg
import Derived.Test.YtdhmlillkbjjjaaGreatDoorUH
set_option linter.unusedVariables false
set_option linter.unusedSimpArgs false
set_option maxRecDepth 10000
namespace Go.Proofs.YtdhmlillkbjjjaaGreatDoor.UD
open Go.UD Go.RowKit
theorem yz.calls {w : World} {a0 : List UInt8} (gv : GV 0 w) (h0 : a0.length≤1048576) :
  Calls Tryz.prog 132 #[S a0] w (Rt (RO 9 1 y4 w (cut 47 a0))):=by
 have H:=yz.eq a0 h0
 generalize (cut 47 a0) = r at H ⊢
 unfold yz.sh at H
 refine qi Tryz.func132 rfl (Nat.le_of_ble_eq_true rfl) Tryz.ntmps132 rfl ?_
 refine qk<|qO<|yC (.plain rfl) rfl (ltb rfl) (qA (v:=(.slice none 0 0)) rfl)<|qP<|qg<|qk<|qO<|yC (.plain rfl) rfl (ltb rfl) (qf (v:=(S a0)) rfl) ?_
 obtain ⟨c1,H⟩:=qa H
 obtain ⟨c2,H⟩:=qa H
 refine vp (.plain rfl) rfl (ltb rfl) rfl Tryz.call193 (strings_Split.calls (w:=w) (a0:=a0) (a1:=([47] : List UInt8)) gv (of_decide_eq_true c1) (of_decide_eq_true c2)) rfl<|fun v5 w3 e4 o6=>yC (.plain rfl) rfl (ltb rfl) (qA (v:=v5) rfl)<|qP<|qg<|qr<|qy ?_
 obtain rfl:=Option.some.inj H
 exact QD rfl e4 o6 ((Ext.refl w)).size
theorem yb.walk {w : World} {a0 : List UInt8} {r : Bool} (H : yb.sh a0 = some r) :
  Calls Tryz.prog 242 #[S a0] w (Rt (RP w (.bool r))):=by
 unfold yb.sh at H
 refine qi Tryz.func242 rfl (Nat.le_of_ble_eq_true rfl) Tryz.ntmps242 rfl ?_
 refine qk<|qO<|yC (.plain rfl) rfl (ltb rfl) (qA (v:=(.bool false)) rfl)<|qP<|qg<|qk<|qO<|yC (.plain rfl) rfl (ltb rfl) (qf (v:=(S a0)) rfl)<|yC (.plain rfl) rfl (ltb rfl) (qf (v:=(S a0)) rfl)<|yC (.plain rfl) rfl (ltb rfl) (VL rfl rfl)<|yC (.plain rfl) rfl (ltb rfl) (qA (v:=(.bool (!decide (a0 = a0)))) rfl)<|qP<|qg<|qr<|qy ?_
 obtain rfl:=Option.some.inj H
 exact vt rfl (Ext.refl w)
theorem yb.calls {w : World} {a0 : List UInt8} :
  Calls Tryz.prog 242 #[S a0] w (Rt (RP w (.bool false))):=yb.walk (yb.eq a0)
theorem yG.calls {w : World} {a0 : List UInt8} {a1 : List UInt8} :
  Calls Tryz.prog 217 #[S a0,S a1] w (Rt (RP w (.int .i64 (cmpS a0 a1)))):=by
 have H:=yG.eq a0 a1
 generalize (cmpS a0 a1) = r at H ⊢
 unfold yG.sh at H
 refine qi Tryz.func217 rfl (Nat.le_of_ble_eq_true rfl) Tryz.ntmps217 rfl ?_
 refine qk<|qO<|yC (.plain rfl) rfl (ltb rfl) (qA (v:=(.int .i64 0)) rfl)<|qP<|qg<|qk<|qO<|yC (.plain rfl) rfl (ltb rfl) (qf (v:=(S a0)) rfl)<|vL (.plain rfl) rfl (ltb rfl) rfl Tryz.call242 (yb.calls (w:=w) (a0:=a0)) rfl<|fun w1 e2=>yC (.plain rfl) rfl (ltb rfl) (qA (v:=(.bool false)) rfl)<|qP<|qg<|qk<|qO<|yC (.plain rfl) rfl (ltb rfl) (qf (v:=(S a1)) rfl)<|vL (.plain rfl) rfl (ltb rfl) rfl Tryz.call242 (yb.calls (w:=w1) (a0:=a1)) rfl<|fun w3 e4=>yC (.plain rfl) rfl (ltb rfl) (qA (v:=(.bool false)) rfl)<|qP<|qg<|qk<|qk<|qO<|yC (.plain rfl) rfl (ltb rfl) (qf (v:=(.bool false)) rfl)<|qP<|qg ?_
 rcases qe H with ⟨q5,H⟩ | ⟨q5,H⟩
 ·refine ql (congrArg Value.bool q5)<|qk<|qk<|qO<|yC (.plain rfl) rfl (ltb rfl) (qf (v:=(.bool false)) rfl)<|qP<|qg ?_
  rcases qe H with ⟨q6,H⟩ | ⟨q6,H⟩
  ·refine ql (congrArg Value.bool q6)<|qk<|qO<|yC (.plain rfl) rfl (ltb rfl) (qA (v:=(.int .i64 0)) rfl)<|qP<|qg<|qr<|qv<|qv<|qy ?_
   obtain rfl:=Option.some.inj H
   exact vt rfl (Ext.trans e2 e4)
  ·refine qh (congrArg Value.bool q6)<|qw<|qg<|qk<|qO<|yC (.plain rfl) rfl (ltb rfl) (qA (v:=(.int .i64 (-1))) rfl)<|qP<|qg<|qr<|qv<|qy ?_
   obtain rfl:=Option.some.inj H
   exact vt rfl (Ext.trans e2 e4)
 ·refine qh (congrArg Value.bool q5)<|qw<|qg<|qk<|qk<|qO<|yC (.plain rfl) rfl (ltb rfl) (qf (v:=(.bool false)) rfl)<|qP<|qg ?_
  rcases qe H with ⟨q7,H⟩ | ⟨q7,H⟩
  ·refine ql (congrArg Value.bool q7)<|qk<|qO<|yC (.plain rfl) rfl (ltb rfl) (qA (v:=(.int .i64 1)) rfl)<|qP<|qg<|qr<|qv<|qy ?_
   obtain rfl:=Option.some.inj H
   exact vt rfl (Ext.trans e2 e4)
  ·refine qh (congrArg Value.bool q7)<|qw<|qg<|qk<|qk<|qO<|yC (.plain rfl) rfl (ltb rfl) (qf (v:=(S a0)) rfl)<|yC (.plain rfl) rfl (ltb rfl) (qf (v:=(S a1)) rfl)<|yC (.plain rfl) rfl (ltb rfl) (X_slt rfl rfl)<|qP<|qg ?_
   rcases qe H with ⟨q8,H⟩ | ⟨q8,H⟩
   ·refine ql (congrArg Value.bool q8)<|qk<|qO<|yC (.plain rfl) rfl (ltb rfl) (qA (v:=(.int .i64 (-1))) rfl)<|qP<|qg<|qr<|qv<|qy ?_
    obtain rfl:=Option.some.inj H
    exact vt rfl (Ext.trans e2 e4)
   ·refine qh (congrArg Value.bool q8)<|qw<|qg<|qk<|qk<|qO<|yC (.plain rfl) rfl (ltb rfl) (qf (v:=(S a0)) rfl)<|yC (.plain rfl) rfl (ltb rfl) (qf (v:=(S a1)) rfl)<|yC (.plain rfl) rfl (ltb rfl) (X_sgt rfl rfl)<|qP<|qg ?_
    rcases qe H with ⟨q9,H⟩ | ⟨q9,H⟩
    ·refine ql (congrArg Value.bool q9)<|qk<|qO<|yC (.plain rfl) rfl (ltb rfl) (qA (v:=(.int .i64 1)) rfl)<|qP<|qg<|qr<|qv<|qy ?_
     obtain rfl:=Option.some.inj H
     exact vt rfl (Ext.trans e2 e4)
    ·refine qh (congrArg Value.bool q9)<|qw<|qg<|qk<|qO<|yC (.plain rfl) rfl (ltb rfl) (qA (v:=(.int .i64 0)) rfl)<|qP<|qg<|qr<|qy ?_
     obtain rfl:=Option.some.inj H
     exact vt rfl (Ext.trans e2 e4)
theorem qH.calls {w : World} {a0 : List (List UInt8)} {a1 : List (List UInt8)} {v_a0 : Value} (f_a0 : Rd 1 y4 w v_a0 a0) {v_a1 : Value} (f_a1 : Rd 1 y4 w v_a1 a1) (h0 : a0.length≤4611686018427387904) (h1 : a1.length≤4611686018427387904) :
  Calls Tryz.prog 169 #[v_a0,v_a1] w (Rt (RP w (.int .i64 (cmpL a0 a1)))):=by
 obtain ⟨k,H⟩:=qH.eq a0 a1 h0 h1
 generalize (cmpL a0 a1) = r at H ⊢
 unfold qH.sh at H
 refine qi Tryz.func169 rfl (Nat.le_of_ble_eq_true rfl) Tryz.ntmps169 rfl ?_
 refine qk<|qO<|yC (.plain rfl) rfl (ltb rfl) (qA (v:=(.int .i64 0)) rfl)<|qP<|qg<|qk<|qk<|qO<|yC (.plain rfl) rfl (ltb rfl) (qf (v:=v_a0) rfl)<|yC (.plain rfl) rfl (ltb rfl) (qS Tryz.underlying44 rfl f_a0)<|yC (.plain rfl) rfl (ltb rfl) (qf (v:=(.int .i64 0)) rfl)<|qP<|qg ?_
 obtain ⟨z2,L3,C4⟩:=bind_some H
 clear H
 refine  vT (fun s0 sQ wQ=>Kp [(4,9),(11,31)] s0 sQ∧Ext w wQ∧z2 = .inr ()) ?_ ?_
 ·refine qF<|vA (fun s0 kk sQ wQ=>∃ (x11_1 : Int),Kp [(4,9),(11,31)] s0 sQ∧sQ 11 = .int .i64 x11_1∧Ext w wQ∧qt (qH.b1 a0 a1) kk x11_1 = some z2) k ⟨0,(Kp.refl _ _),rfl,(Ext.refl w),L3⟩ ?_
  rintro k9 s10 w11 ⟨x11_1,K12,h15,e13,L14⟩
  cases k9 with
  | zero=>exact absurd L14 (by simp [qt])
  | succ k9=>
   obtain ⟨t16,H,S17⟩:=qQ L14
   clear L14
   unfold qH.b1 at H
   refine qk<|qO<|yC (.plain rfl) rfl (ltb rfl) (ym h15 (K12 10 rfl))<|qP<|qg<|qk ?_
   rcases qe H with ⟨q18,H⟩ | ⟨q18,H⟩
   ·refine ql (congrArg Value.bool q18)<|qw<|qg<|qk<|qF<|qk<|qO<|yC (.plain rfl) rfl (ltb rfl) (qf (v:=(.int .i64 x11_1)) h15) ?_
    obtain ⟨c19,H⟩:=qa H
    refine vg (.plain rfl) rfl (ltb rfl) rfl Tryz.underlying44 Tryz.sizeOf9 (K12 9 rfl) (Rd.ext f_a0 e13) h15 c19<|fun p20 h21=>yC (.plain rfl) rfl (ltb rfl) (y8 Tryz.isAgg9 rfl h21 rfl)<|yC (.plain rfl) rfl (ltb rfl) (qA (v:=(.int .i64 x11_1)) rfl)<|yC (.plain rfl) rfl (ltb rfl) (qA (v:=(S (gt a0 x11_1))) rfl)<|qP<|qg<|qk<|qk<|qO<|yC (.plain rfl) rfl (ltb rfl) (qf (v:=(.int .i64 x11_1)) rfl)<|yC (.plain rfl) rfl (ltb rfl) (qf (v:=v_a1) (K12 1 rfl))<|yC (.plain rfl) rfl (ltb rfl) (qS Tryz.underlying44 rfl (Rd.ext f_a1 e13))<|yC (.plain rfl) rfl (ltb rfl) (Yd rfl rfl)<|qP<|qg ?_
    rcases qe H with ⟨q22,H⟩ | ⟨q22,H⟩
    ·refine ql (congrArg Value.bool q22)<|qk<|qO<|yC (.plain rfl) rfl (ltb rfl) (qA (v:=(.int .i64 1)) rfl)<|qP<|qg<|qr<|qv<|vc<|qv<|qv<|vc<|qv<|qv<|qy ?_
     obtain rfl:=Option.some.inj H
     obtain rfl:=Option.some.inj S17
     have H:=C4
     obtain rfl:=Option.some.inj H
     exact vt rfl e13
    ·refine qh (congrArg Value.bool q22)<|qw<|qg<|qk<|qO<|yC (.plain rfl) rfl (ltb rfl) (qf (v:=v_a1) (K12 1 rfl))<|yC (.plain rfl) rfl (ltb rfl) (qf (v:=(.int .i64 x11_1)) rfl) ?_
     obtain ⟨c23,H⟩:=qa H
     refine vg (.plain rfl) rfl (ltb rfl) rfl Tryz.underlying44 Tryz.sizeOf9 rfl (Rd.ext f_a1 e13) rfl c23<|fun p24 h25=>yC (.plain rfl) rfl (ltb rfl) (y8 Tryz.isAgg9 rfl h25 rfl)<|yC (.plain rfl) rfl (ltb rfl) (qA (v:=(S (gt a1 x11_1))) rfl)<|qP<|qg<|qk<|qO<|yC (.plain rfl) rfl (ltb rfl) (qf (v:=(S (gt a0 x11_1))) rfl)<|yC (.plain rfl) rfl (ltb rfl) (qf (v:=(S (gt a1 x11_1))) rfl)<|vL (.plain rfl) rfl (ltb rfl) rfl Tryz.call217 (yG.calls (w:=w11) (a0:=gt a0 x11_1) (a1:=gt a1 x11_1)) rfl<|fun w26 e27=>yC (.plain rfl) rfl (ltb rfl) (qA (v:=(.int .i64 (cmpS (gt a0 x11_1) (gt a1 x11_1)))) rfl)<|qP<|qg<|qk<|qO<|yC (.plain rfl) rfl (ltb rfl) (qf (v:=(.int .i64 (cmpS (gt a0 x11_1) (gt a1 x11_1)))) rfl)<|yC (.plain rfl) rfl (ltb rfl) (QJ rfl rfl)<|qP<|qg ?_
     rcases qe H with ⟨q28,H⟩ | ⟨q28,H⟩
     ·refine ql (congrArg Value.bool q28)<|qk<|qO<|yC (.plain rfl) rfl (ltb rfl) (qf (v:=(.int .i64 (cmpS (gt a0 x11_1) (gt a1 x11_1)))) rfl)<|yC (.plain rfl) rfl (ltb rfl) (qA (v:=(.int .i64 (cmpS (gt a0 x11_1) (gt a1 x11_1)))) rfl)<|qP<|qg<|qr<|vc<|qv<|qv<|vc<|qv<|qv<|qy ?_
      obtain rfl:=Option.some.inj H
      obtain rfl:=Option.some.inj S17
      have H:=C4
      obtain rfl:=Option.some.inj H
      exact vt rfl (Ext.trans e13 e27)
     ·refine qh (congrArg Value.bool q28)<|qw<|vK<|qg<|qO<|yC (.plain rfl) rfl (ltb rfl) (vz h15 rfl)<|yC (.plain rfl) rfl (ltb rfl) (qf (v:=(.int .i64 (IntKind.wrap .i64 (x11_1 + 1)))) rfl)<|qP<|qg ?_
      obtain rfl:=Option.some.inj H
      exact ⟨_,Nat.lt_succ_self _,IntKind.wrap .i64 (x11_1 + 1),(Kp.upd (Kp.upd (Kp.upd (Kp.upd (Kp.upd (Kp.upd (Kp.upd (Kp.upd (Kp.upd (Kp.upd (Kp.upd (Kp.upd (Kp.upd (Kp.upd (Kp.upd (Kp.upd (Kp.upd (Kp.upd (Kp.upd (Kp.upd (Kp.upd (Kp.upd (Kp.upd K12 rfl) rfl) rfl) rfl) rfl) rfl) rfl) rfl) rfl) rfl) rfl) rfl) rfl) rfl) rfl) rfl) rfl) rfl) rfl) rfl) rfl) rfl) rfl),rfl,(Ext.trans e13 e27),S17⟩
   ·refine qh (congrArg Value.bool q18)<|yc<|vm<|vm<|yV<|qg ?_
    obtain rfl:=Option.some.inj H
    obtain rfl:=Option.some.inj S17
    exact ⟨(Kp.upd K12 rfl),e13,rfl⟩
 ·rintro s6 w5 ⟨K7,e8,y29⟩
  rw [y29] at C4
  have H:=C4
  replace H : _ = some _:=H
  refine qg<|qk<|qk<|qO<|yC (.plain rfl) rfl (ltb rfl) (qf (v:=v_a0) (K7 0 rfl))<|yC (.plain rfl) rfl (ltb rfl) (qS Tryz.underlying44 rfl (Rd.ext f_a0 e8))<|yC (.plain rfl) rfl (ltb rfl) (qf (v:=v_a1) (K7 1 rfl))<|yC (.plain rfl) rfl (ltb rfl) (qS Tryz.underlying44 rfl (Rd.ext f_a1 e8))<|yC (.plain rfl) rfl (ltb rfl) (ym rfl rfl)<|qP<|qg ?_
  rcases qe H with ⟨q30,H⟩ | ⟨q30,H⟩
  ·refine ql (congrArg Value.bool q30)<|qk<|qO<|yC (.plain rfl) rfl (ltb rfl) (qA (v:=(.int .i64 (-1))) rfl)<|qP<|qg<|qr<|qv<|qy ?_
   obtain rfl:=Option.some.inj H
   exact vt rfl e8
  ·refine qh (congrArg Value.bool q30)<|qw<|qg<|qk<|qO<|yC (.plain rfl) rfl (ltb rfl) (qA (v:=(.int .i64 0)) rfl)<|qP<|qg<|qr<|qy ?_
   obtain rfl:=Option.some.inj H
   exact vt rfl e8
theorem impl_compare.calls {w : World} {a0 : List UInt8} {a1 : List UInt8} (gv : GV 0 w) (h0 : a0.length≤1048576) (h1 : a1.length≤1048576) :
  Calls Tryz.prog 102 #[S a0,S a1] w (Rt (RP w (.int .i64 (cmpL (cut 47 a0) (cut 47 a1))))):=by
 have H:=impl_compare.eq a0 a1 h0 h1
 generalize (cmpL (cut 47 a0) (cut 47 a1)) = r at H ⊢
 unfold impl_compare.sh at H
 refine qi Tryz.func102 rfl (Nat.le_of_ble_eq_true rfl) Tryz.ntmps102 rfl ?_
 refine qk<|qO<|yC (.plain rfl) rfl (ltb rfl) (qA (v:=(.int .i64 0)) rfl)<|qP<|qg<|qk<|qO<|yC (.plain rfl) rfl (ltb rfl) (qf (v:=(S a0)) rfl) ?_
 obtain ⟨c1,H⟩:=qa H
 refine vp (.plain rfl) rfl (ltb rfl) rfl Tryz.call132 (yz.calls (w:=w) (a0:=a0) gv (of_decide_eq_true c1)) rfl<|fun v4 w2 e3 o5=>yC (.plain rfl) rfl (ltb rfl) (qf (v:=(S a1)) rfl) ?_
 obtain ⟨c6,H⟩:=qa H
 refine vp (.plain rfl) rfl (ltb rfl) rfl Tryz.call132 (yz.calls (w:=w2) (a0:=a1) (GV.ext gv e3) (of_decide_eq_true c6)) rfl<|fun v9 w7 e8 o10=>?_
 obtain ⟨c11,H⟩:=qa H
 obtain ⟨c12,H⟩:=qa H
 refine vL (.plain rfl) rfl (ltb rfl) rfl Tryz.call169 (qH.calls (w:=w7) (a0:=(cut 47 a0)) (a1:=(cut 47 a1)) (Ow.rd (Ow.ext o5 e8)) (Ow.rd o10) (of_decide_eq_true c11) (of_decide_eq_true c12)) rfl<|fun w13 e14=>yC (.plain rfl) rfl (ltb rfl) (qA (v:=(.int .i64 (cmpL (cut 47 a0) (cut 47 a1)))) rfl)<|qP<|qg<|qr<|qy ?_
 obtain rfl:=Option.some.inj H
 exact vt rfl (Ext.trans (Ext.trans e3 e8) e14)
end Go.Proofs.YtdhmlillkbjjjaaGreatDoor.UD
