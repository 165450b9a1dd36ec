/- The walks,by program (wip/tools). -/
import Derived.Test.YtdhmlillkbjjjaaGreatDoorProg
import Derived.Test.YtdhmlillkbjjjaaGreatDooryWA
set_option linter.unusedVariables false
set_option linter.unusedSimpArgs false
set_option maxRecDepth 10000
namespace Go.Proofs.YtdhmlillkbjjjaaGreatDoor
open Go.UL Go.RowKit
/-! spec.l08Gone -/
theorem vG.calls {w : World} {a0 : List Nd} {a1 : List Nd} {v_a0 : Value} (f_a0 : Rd 4 qJ w v_a0 a0) {v_a1 : Value} (f_a1 : Rd 4 qJ w v_a1 a1) (h0 : qX a0 = true) (h1 : qX a1 = true) :
  Calls Tryz.prog 171 #[v_a0,v_a1] w (Rt (RO 9 1 vI w (Qs a0 a1))):=by
 obtain ⟨k,H⟩:=vG.eq a0 a1 h0 h1
 generalize (Qs a0 a1) = r at H ⊢
 unfold vG.sh at H
 refine qk Tryz.func171 rfl (Nat.le_of_ble_eq_true rfl) Tryz.ntmps171 rfl ?_
 refine wr<|lp rfl (xa (.slice none 0 0) rfl)<|nx<|wr<|yz (.plain rfl) rfl (ltb rfl) rfl Tryz.underlying44 Tryz.sizeOf9 Tryz.zeroValue9 rfl rfl rfl (vs:=[]) rfl (vH rfl)<|fun b1 w2 z3 z4 e5 k6=>lp rfl (xa (.slice (some ⟨b1,0,none⟩) 0 0) rfl)<|nx<|qi<|wr<|lp rfl (xa (.int .i64 0) rfl)<|nx ?_
 obtain ⟨z10,L11,C12⟩:=bind_some H
 clear H
 refine  vv (fun s0 sQ wQ=>∃ (x5_13 : List (List UInt8)) (v14 : Value),Kp [(5,9),(10,57)] s0 sQ∧sQ 5 = v14∧Ow 9 1 vI w2.heap.size wQ v14 x5_13∧Ext w2 wQ∧z10 = .inr x5_13) ?_ ?_
 ·refine qB<|vh (fun s0 kk sQ wQ=>∃ (x5_7 : List (List UInt8)) (v8 : Value) (x6_9 : Int),Kp [(5,9),(10,57)] s0 sQ∧sQ 5 = v8∧Ow 9 1 vI w2.heap.size wQ v8 x5_7∧sQ 6 = .int .i64 x6_9∧Ext w2 wQ∧ql (vG.b1 a0 a1) kk (x5_7,x6_9) = some z10) k ⟨([] : List (List UInt8)),(.slice (some ⟨b1,0,none⟩) 0 0),0,kz,rfl,(Ow.zero),rfl,er,L11⟩ ?_
  rintro k19 s20 w21 ⟨x5_7,v8,x6_9,K22,h25,h26,h27,e23,L24⟩
  cases k19 with
  | zero=>exact absurd L24 (by simp [ql])
  | succ k19=>
   obtain ⟨t28,H,S29⟩:=qL L24
   clear L24
   unfold vG.b1 at H
   refine qi<|wr<|lp rfl (qd h27)<|lp rfl (xm v_a0 (K22 0 rfl))<|lp rfl (vc Tryz.underlying29 rfl (Rd.ext f_a0 (e5.t e23)))<|lp rfl (vw rfl rfl)<|nx ?_
   rcases qg H with ⟨q30,H⟩ | ⟨q30,H⟩
   ·refine qn (cb q30)<|qp<|qf<|qi<|qB<|wr<|lp rfl (xm v_a0 (K22 0 rfl))<|lp rfl (qd h27) ?_
    obtain ⟨c31,H⟩:=qa H
    refine vo (.plain rfl) rfl (ltb rfl) rfl Tryz.underlying29 Tryz.sizeOf91 rfl (Rd.ext f_a0 (e5.t e23)) rfl c31<|fun p32 h33=>lp rfl (qc Tryz.underlying91 rfl Tryz.sizeOf9 rfl rfl)<|lp rfl (vX Tryz.isAgg9 (j:=1) h33 rfl rfl) ?_
    obtain ⟨c34,H⟩:=qa H
    refine lc rfl rfl Tryz.call154 (q4.calls (w:=w21) (a0:=(gt a0 x6_9).path) (od c34)) rfl<|fun w35 e36=>lp rfl (xa (S (qe ((gt a0 x6_9).path))) rfl)<|nx<|wr<|lp rfl (xm v_a1 (K22 1 rfl))<|lp rfl (xm (S (qe ((gt a0 x6_9).path))) rfl) ?_
    obtain ⟨c37,H⟩:=qa H
    refine lc rfl rfl Tryz.call155 (vD.calls (w:=w35) (a0:=a1) (a1:=(qe ((gt a0 x6_9).path))) (Rd.ext f_a1 ((e5.t e23).t e36)) (od c37)) rfl<|fun w38 e39=>lp rfl (xa (.int .i64 (qC a1 (qe ((gt a0 x6_9).path)))) rfl)<|nx<|wr<|lp rfl (xm v_a1 (K22 1 rfl))<|lp rfl (xm v_a0 (K22 0 rfl))<|lp rfl (qd h27) ?_
    obtain ⟨c40,H⟩:=qa H
    refine vo (.plain rfl) rfl (ltb rfl) rfl Tryz.underlying29 Tryz.sizeOf91 rfl (Rd.ext f_a0 (((e5.t e23).t e36).t e39)) rfl c40<|fun p41 h42=>lp rfl (qc Tryz.underlying91 rfl Tryz.sizeOf9 rfl rfl)<|lp rfl (vX Tryz.isAgg9 (j:=1) h42 rfl rfl) ?_
    obtain ⟨c43,H⟩:=qa H
    refine lc rfl rfl Tryz.call155 (vD.calls (w:=w38) (a0:=a1) (a1:=(gt a0 x6_9).path) (Rd.ext f_a1 (((e5.t e23).t e36).t e39)) (od c43)) rfl<|fun w44 e45=>lp rfl (vw rfl rfl)<|lp rfl (xm (.bool (decide ((qC a1 ((gt a0 x6_9).path)) < 0))) rfl) ?_
    obtain ⟨z47,x48,H⟩:=bind_some H
    refine jz 15 [(34,49)] 48 (fun q=>q = z47) ?_ ?_
    ·rcases qg x48 with ⟨b45_,H⟩ | ⟨b45_,H⟩
     ·refine lg rfl rfl rfl rfl (cb b45_) (xm (S (qe ((gt a0 x6_9).path))) rfl)<|lg rfl rfl rfl rfl (cb b45_) (VB rfl rfl)<|lg rfl rfl rfl rfl (cb b45_) (xm (.bool (decide ((qe ((gt a0 x6_9).path)) = ([] : List UInt8)))) rfl) ?_
      obtain ⟨z48,x49,H⟩:=bind_some H
      refine jz 11 [(37,48)] 47 (fun q=>q = z48) ?_ ?_
      ·rcases qg x49 with ⟨b46_,H⟩ | ⟨b46_,H⟩
       ·refine ls rfl rfl rfl (cb b46_) rfl<|ls rfl rfl rfl (cb b46_) rfl<|ls rfl rfl rfl (cb b46_) rfl<|lu rfl rfl rfl rfl rfl<|lu rfl rfl rfl rfl rfl<|lu rfl rfl rfl rfl rfl<|lu rfl rfl rfl rfl rfl<|lu rfl rfl rfl rfl rfl<|lu rfl rfl rfl rfl rfl<|ls rfl rfl rfl (cb b46_) rfl<|lg rfl rfl rfl rfl (cb b45_) (qF (b:=true) (v:=(.bool true)) (cb b46_) rfl) ?_
        obtain rfl:=si H
        exact nx ⟨(ku3 (ku8 kz rfl) rfl),⟨_,rfl,rfl⟩,er⟩
       ·refine lg rfl rfl rfl rfl (cb b46_) (xm (.int .i64 (qC a1 (qe ((gt a0 x6_9).path)))) rfl)<|lg rfl rfl rfl rfl (cb b46_) (Q2 rfl rfl)<|lg rfl rfl rfl rfl (cb b46_) (xm (.bool (decide (0≤(qC a1 (qe ((gt a0 x6_9).path)))))) rfl) ?_
        obtain ⟨z49,x50,H⟩:=bind_some H
        refine jz 7 [(40,47)] 46 (fun q=>q = z49) ?_ ?_
        ·rcases qg x50 with ⟨b47_,H⟩ | ⟨b47_,H⟩
         ·refine lg rfl rfl rfl rfl (cb b47_) (xm v_a1 (K22 1 rfl))<|lg rfl rfl rfl rfl (cb b47_) (xm (.int .i64 (qC a1 (qe ((gt a0 x6_9).path)))) rfl) ?_
          obtain ⟨c49,H⟩:=qa H
          refine vo (tg rfl rfl rfl (cb b47_)) rfl (ltb rfl) rfl Tryz.underlying29 Tryz.sizeOf91 rfl (Rd.ext f_a1 ((((e5.t e23).t e36).t e39).t e45)) rfl c49<|fun p50 h51=>lg rfl rfl rfl rfl (cb b47_) (qc Tryz.underlying91 rfl Tryz.sizeOf3 rfl rfl)<|lg rfl rfl rfl rfl (cb b47_) (vX Tryz.isAgg3 (j:=0) h51 rfl rfl)<|lg rfl rfl rfl rfl (cb b47_) (jo rfl rfl)<|lg rfl rfl rfl rfl (cb b46_) (qF (b:=true) (v:=(.bool (decide (((gt a1 (qC a1 (qe ((gt a0 x6_9).path)))).kind) = 3)))) (cb b47_) rfl) ?_
          obtain rfl:=si H
          exact nx ⟨(ku3 (ku4 kz rfl) rfl),⟨_,rfl,rfl⟩,er⟩
         ·refine ls rfl rfl rfl (cb b47_) rfl<|ls rfl rfl rfl (cb b47_) rfl<|ls rfl rfl rfl (cb b47_) rfl<|ls rfl rfl rfl (cb b47_) rfl<|ls rfl rfl rfl (cb b47_) rfl<|ls rfl rfl rfl (cb b47_) rfl<|lg rfl rfl rfl rfl (cb b46_) (qF (b:=false) (v:=(.bool false)) (cb b47_) rfl) ?_
          obtain rfl:=si H
          exact nx ⟨(ku3 (ku4 kz rfl) rfl),⟨_,rfl,rfl⟩,er⟩
        intro s55 w51 z56 K52 hq h53 e54
        rw [hq] at h53; clear hq
        refine lg rfl rfl rfl rfl ((K52 33 rfl).trans (cb b45_)) (qF (b:=false) (v:=(.bool z49)) ((K52 36 rfl).trans (cb b46_)) h53) ?_
        obtain rfl:=si H
        exact nx ⟨(ku1 (Kp.cut (ku3 kz rfl) K52 rfl) rfl),⟨_,rfl,rfl⟩,e54⟩
      intro s57 w50 z58 K51 hq h52 e53
      rw [hq] at h52; clear hq
      refine lp rfl (qF (b:=true) (v:=(.bool z48)) ((K51 33 rfl).trans (cb b45_)) h52) ?_
      obtain rfl:=si H
      exact nx ⟨(ku1 (Kp.cut (ku3 kz rfl) K51 rfl) rfl),⟨_,rfl,rfl⟩,e53⟩
     ·refine ls rfl rfl rfl (cb b45_) rfl<|ls rfl rfl rfl (cb b45_) rfl<|ls rfl rfl rfl (cb b45_) rfl<|lu rfl rfl rfl rfl rfl<|lu rfl rfl rfl rfl rfl<|lu rfl rfl rfl rfl rfl<|lu rfl rfl rfl rfl rfl<|lu rfl rfl rfl rfl rfl<|lu rfl rfl rfl rfl rfl<|lu rfl rfl rfl rfl rfl<|lu rfl rfl rfl rfl rfl<|lu rfl rfl rfl rfl rfl<|lu rfl rfl rfl rfl rfl<|ls rfl rfl rfl (cb b45_) rfl<|lp rfl (qF (b:=false) (v:=(.bool false)) (cb b45_) rfl) ?_
      obtain rfl:=si H
      exact nx ⟨(ku3 (ku4 (ku8 kz rfl) rfl) rfl),⟨_,rfl,rfl⟩,er⟩
    intro s59 w49 z60 K50 hq h51 e52
    rw [hq] at h51; clear hq
    refine nx ?_
    rcases qg H with ⟨q61,H⟩ | ⟨q61,H⟩
    ·refine qn (h51.trans (cb q61))<|qK<|lp rfl (xm v8 ((K50 5 rfl).trans h25))<|lp rfl (xm v_a0 ((K50 0 rfl).trans (K22 0 rfl)))<|lp rfl (xm (.int .i64 x6_9) ((K50 6 rfl).trans h27)) ?_
     obtain ⟨c62,H⟩:=qa H
     refine vo (.plain rfl) rfl (ltb rfl) rfl Tryz.underlying29 Tryz.sizeOf91 rfl (Rd.ext f_a0 (((((e5.t e23).t e36).t e39).t e45).t e52)) rfl c62<|fun p63 h64=>lp rfl (qc Tryz.underlying91 rfl Tryz.sizeOf9 rfl rfl)<|lp rfl (vX Tryz.isAgg9 (j:=1) h64 rfl rfl)<|yz (.plain rfl) rfl (ltb rfl) rfl Tryz.underlying44 Tryz.sizeOf9 Tryz.zeroValue9 rfl rfl rfl (vs:=[(S ((gt a0 x6_9).path))]) rfl (vH rfl)<|fun b65 w66 z67 z68 e69 k70=>?_
     obtain ⟨c71,H⟩:=qa H
     refine yH (enc:=vI) (.plain rfl) rfl (ltb rfl) rfl El.t44 rfl rfl (Ow.ext h26 ((((e36.t e39).t e45).t e52).t e69)) (Ow.rd (Ow.new (xs:=[(gt a0 x6_9).path]) (sz:=1) (enc:=vI) (base:=w49.heap.size) k70 (Nat.le_of_eq z67) rfl (fun _ _=>by rfl) (Nat.le_of_ble_eq_true rfl))) (Vi _) (od c71) ((((((e23.t e36).t e39).t e45).t e52).t e69)).size<|fun v72 w73 o74 z75 g76=>lp rfl (xa v72 rfl)<|qZ<|vM<|qf<|qK<|lp rfl (xm (.int .i64 x6_9) ((K50 6 rfl).trans h27))<|lp rfl (vp rfl rfl)<|lp rfl (xa (.int .i64 (IntKind.wrap .i64 (x6_9 + 1))) rfl)<|nx ?_
     obtain rfl:=si H
     exact ⟨_,Nat.lt_succ_self _,x5_7 ++ ([(gt a0 x6_9).path] : List (List UInt8)),v72,IntKind.wrap .i64 (x6_9 + 1),(ku4 (ku8 (Kp.cut (ku8 (ku8 (ku8 K22 rfl) rfl) rfl) K50 rfl) rfl) rfl),rfl,o74,rfl,(g76 _ (((((e23.t e36).t e39).t e45).t e52).t e69)),S29⟩
    ·refine qj (h51.trans (cb q61))<|qp<|vM<|qf<|qK<|lp rfl (xm (.int .i64 x6_9) ((K50 6 rfl).trans h27))<|lp rfl (vp rfl rfl)<|lp rfl (xa (.int .i64 (IntKind.wrap .i64 (x6_9 + 1))) rfl)<|nx ?_
     obtain rfl:=si H
     exact ⟨_,Nat.lt_succ_self _,x5_7,v8,IntKind.wrap .i64 (x6_9 + 1),(ku3 (Kp.cut (ku8 (ku8 (ku8 K22 rfl) rfl) rfl) K50 rfl) rfl),((K50 5 rfl).trans h25),(Ow.ext h26 (((e36.t e39).t e45).t e52)),rfl,((((e23.t e36).t e39).t e45).t e52),S29⟩
   ·refine qj (cb q30)<|vu<|qY<|qY<|vZ<|qf ?_
    obtain rfl:=si H
    obtain rfl:=si S29
    exact ⟨x5_7,v8,(ku4 K22 rfl),h25,h26,e23,rfl⟩
 ·rintro s16 w15 ⟨x5_13,v14,K17,h77,h78,e18,y79⟩
  rw [y79] at C12
  have H:=C12
  replace H : _ = some _:=H
  refine qf<|wr<|lp rfl (qd h77)<|lp rfl (xa v14 rfl)<|nx<|qr<|qu ?_
  obtain rfl:=si H
  exact Q3 rfl (e5.t e18) h78 (e5).size
/-! spec.l08Sort -/
abbrev qG.e1 (a0 : List Rec) (x3_7 : List Rec) (x4_9 : Int) (x5_35 : Int):=(((([] : List Rec) ++ (sub x3_7 0 x5_35)) ++ ([gt a0 x4_9] : List Rec)) ++ (sub x3_7 x5_35 (x3_7.length : Int)))
theorem qG.walk {k : Nat} {w : World} {a0 : List Rec} {v_a0 : Value} (f_a0 : Rd 5 qv w v_a0 a0) {r : List Rec} (H : qG.sh k a0 = some r) :
  Calls Tryz.prog 173 #[v_a0] w (Rt (RO 52 5 qv w r)):=by
 unfold qG.sh at H
 refine qk Tryz.func173 rfl (Nat.le_of_ble_eq_true rfl) Tryz.ntmps173 rfl ?_
 refine wr<|lp rfl (xa (.slice none 0 0) rfl)<|nx<|wr<|yz (.plain rfl) rfl (ltb rfl) rfl Tryz.underlying35 Tryz.sizeOf52 Tryz.zeroValue52 rfl rfl rfl (vs:=[]) rfl (vH rfl)<|fun b1 w2 z3 z4 e5 k6=>lp rfl (xa (.slice (some ⟨b1,0,none⟩) 0 0) rfl)<|nx<|qi<|wr<|lp rfl (xa (.int .i64 0) rfl)<|nx ?_
 obtain ⟨z10,L11,C12⟩:=bind_some H
 clear H
 refine  vv (fun s0 sQ wQ=>∃ (x3_13 : List Rec) (v14 : Value),Kp [(3,6),(7,48)] s0 sQ∧sQ 3 = v14∧Ow 52 5 qv w2.heap.size wQ v14 x3_13∧Ext w2 wQ∧z10 = .inr x3_13) ?_ ?_
 ·refine qB<|vh (fun s0 kk sQ wQ=>∃ (x3_7 : List Rec) (v8 : Value) (x4_9 : Int),Kp [(3,6),(7,48)] s0 sQ∧sQ 3 = v8∧Ow 52 5 qv w2.heap.size wQ v8 x3_7∧sQ 4 = .int .i64 x4_9∧Ext w2 wQ∧ql (qG.b1 k a0) kk (x3_7,x4_9) = some z10) k ⟨([] : List Rec),(.slice (some ⟨b1,0,none⟩) 0 0),0,kz,rfl,(Ow.zero),rfl,er,L11⟩ ?_
  rintro k19 s20 w21 ⟨x3_7,v8,x4_9,K22,h25,h26,h27,e23,L24⟩
  cases k19 with
  | zero=>exact absurd L24 (by simp [ql])
  | succ k19=>
   obtain ⟨t28,H,S29⟩:=qL L24
   clear L24
   unfold qG.b1 at H
   refine qi<|wr<|lp rfl (qd h27)<|lp rfl (xm v_a0 (K22 0 rfl))<|lp rfl (vc Tryz.underlying35 rfl (Rd.ext f_a0 (e5.t e23)))<|lp rfl (vw rfl rfl)<|nx ?_
   rcases qg H with ⟨q30,H⟩ | ⟨q30,H⟩
   ·refine qn (cb q30)<|qp<|qf<|qi<|qB<|wr<|lp rfl (qd h25)<|lp rfl (vc Tryz.underlying35 rfl (Ow.rd h26))<|lp rfl (xa (.int .i64 (x3_7.length : Int)) rfl)<|nx<|qi ?_
    obtain ⟨z32,L33,C34⟩:=bind_some H
    clear H
    refine  vv (fun s0 sQ wQ=>∃ (x5_35 : Int),Kp [(5,6),(15,33)] s0 sQ∧sQ 5 = .int .i64 x5_35∧Ext w21 wQ∧z32 = .inr x5_35) ?_ ?_
    ·refine qB<|vh (fun s0 kk sQ wQ=>∃ (x5_31 : Int),Kp [(5,6),(15,33)] s0 sQ∧sQ 5 = .int .i64 x5_31∧Ext w21 wQ∧ql (qG.b2 a0 x3_7 x4_9) kk x5_31 = some z32) k ⟨(x3_7.length : Int),kz,rfl,er,L33⟩ ?_
     rintro k40 s41 w42 ⟨x5_31,K43,h46,e44,L45⟩
     cases k40 with
     | zero=>exact absurd L45 (by simp [ql])
     | succ k40=>
      obtain ⟨t47,H,S48⟩:=qL L45
      clear L45
      unfold qG.b2 at H
      refine qi<|qi ?_
      obtain ⟨c49,H⟩:=qa H
      obtain ⟨c52,H⟩:=qa H
      obtain ⟨c55,H⟩:=qa H
      obtain ⟨c56,H⟩:=qa H
      refine Jf [LEq (.int .i64 x5_31),LEq (.bool (decide (0 < x5_31))),LEq (.bool (decide (0 < x5_31))),LIf (decide (0 < x5_31)) (LEq v_a0),LIf (decide (0 < x5_31)) (LEq (.int .i64 x4_9)),LIf (decide (0 < x5_31)) (yW (qv (gt a0 x4_9))),LIf (decide (0 < x5_31)) (LAt 1 (qv (gt a0 x4_9))),LIf (decide (0 < x5_31)) (LEq (S ((gt a0 x4_9).path))),LIf (decide (0 < x5_31)) (LEq v8),LIf (decide (0 < x5_31)) (LEq (.int .i64 x5_31)),LIf (decide (0 < x5_31)) (LEq (.int .i64 (IntKind.wrap .i64 (x5_31 - 1)))),LIf (decide (0 < x5_31)) (yW (qv (gt x3_7 (IntKind.wrap .i64 (x5_31 - 1))))),LIf (decide (0 < x5_31)) (LAt 1 (qv (gt x3_7 (IntKind.wrap .i64 (x5_31 - 1))))),LIf (decide (0 < x5_31)) (LEq (S ((gt x3_7 (IntKind.wrap .i64 (x5_31 - 1))).path))),LIf (decide (0 < x5_31)) (LEq (.bool (vC (cut 47 ((gt a0 x4_9).path)) (cut 47 ((gt x3_7 (IntKind.wrap .i64 (x5_31 - 1))).path))))),LEq (.bool ((decide (0 < x5_31)) && (vC (cut 47 ((gt a0 x4_9).path)) (cut 47 ((gt x3_7 (IntKind.wrap .i64 (x5_31 - 1))).path)))))] (by kernel_rfl) (by kernel_rfl) ⟨qm,qm,qm,lm,lm,(LIf.mono yW.mono),(LIf.mono LAt.mono),lm,lm,lm,lm,(LIf.mono yW.mono),(LIf.mono LAt.mono),lm,lm,qm,trivial⟩ ⟨?_,?_,?_,?_,?_,?_,?_,?_,?_,?_,?_,?_,?_,?_,?_,?_,trivial⟩ ?_
      ·exact fun s x e f d u=>lp rfl (xm (.int .i64 x5_31) ((f 5 rfl).trans h46))<|se rfl rfl
      ·exact fun s x e f d u=>lp rfl (j1 (d 0 rfl) rfl)<|se rfl rfl
      ·exact fun s x e f d u=>lp rfl (qd (d 1 rfl))<|se rfl rfl
      ·exact fun s x e f d u=>gT rfl rfl rfl rfl (d 2 rfl) rfl fun b t=>lt t rfl rfl (xm v_a0 ((f 0 rfl).trans ((K43 0 rfl).trans (K22 0 rfl))))<|sg rfl rfl b rfl
      ·exact fun s x e f d u=>gT rfl rfl rfl rfl (d 2 rfl) rfl fun b t=>lt t rfl rfl (xm (.int .i64 x4_9) ((f 4 rfl).trans ((K43 4 rfl).trans h27)))<|sg rfl rfl b rfl
      ·exact fun s x e f d u=>gT rfl rfl rfl rfl (d 2 rfl) rfl fun b t=>vo t rfl (ltb rfl) rfl Tryz.underlying35 Tryz.sizeOf52 ((d 3 rfl).1 b) (Rd.ext f_a0 (((e5.t e23).t e44).t e)) ((d 4 rfl).1 b) (yI b c49)<|fun p60 h61=>sg rfl rfl b ⟨_,rfl,h61⟩
      ·intro s x e f d u
       refine gT rfl rfl rfl rfl (d 2 rfl) rfl fun b t=>?_
       obtain ⟨p62,h63,h64⟩:=((d 5 rfl).1 b)
       exact lt t rfl rfl (qc Tryz.underlying52 rfl Tryz.sizeOf9 rfl h63)<|sg rfl rfl b ⟨_,rfl,h64⟩
      ·intro s x e f d u
       refine gT rfl rfl rfl rfl (d 2 rfl) rfl fun b t=>?_
       obtain ⟨p65,h66,h67⟩:=((d 6 rfl).1 b)
       exact lt t rfl rfl (vX Tryz.isAgg9 (j:=1) h67 h66 rfl)<|sg rfl rfl b rfl
      ·exact fun s x e f d u=>gT rfl rfl rfl rfl (d 2 rfl) rfl fun b t=>lt t rfl rfl (xm v8 ((f 3 rfl).trans ((K43 3 rfl).trans h25)))<|sg rfl rfl b rfl
      ·exact fun s x e f d u=>gT rfl rfl rfl rfl (d 2 rfl) rfl fun b t=>lt t rfl rfl (xm (.int .i64 x5_31) ((f 5 rfl).trans h46))<|sg rfl rfl b rfl
      ·exact fun s x e f d u=>gT rfl rfl rfl rfl (d 2 rfl) rfl fun b t=>lt t rfl rfl (Yb ((d 9 rfl).1 b) rfl)<|sg rfl rfl b rfl
      ·exact fun s x e f d u=>gT rfl rfl rfl rfl (d 2 rfl) rfl fun b t=>vo t rfl (ltb rfl) rfl Tryz.underlying35 Tryz.sizeOf52 ((d 8 rfl).1 b) (Ow.rd (Ow.ext h26 (e44.t e))) ((d 10 rfl).1 b) (yI b c52)<|fun p69 h70=>sg rfl rfl b ⟨_,rfl,h70⟩
      ·intro s x e f d u
       refine gT rfl rfl rfl rfl (d 2 rfl) rfl fun b t=>?_
       obtain ⟨p71,h72,h73⟩:=((d 11 rfl).1 b)
       exact lt t rfl rfl (qc Tryz.underlying52 rfl Tryz.sizeOf9 rfl h72)<|sg rfl rfl b ⟨_,rfl,h73⟩
      ·intro s x e f d u
       refine gT rfl rfl rfl rfl (d 2 rfl) rfl fun b t=>?_
       obtain ⟨p74,h75,h76⟩:=((d 12 rfl).1 b)
       exact lt t rfl rfl (vX Tryz.isAgg9 (j:=1) h76 h75 rfl)<|sg rfl rfl b rfl
      ·exact fun s x e f d u=>gT rfl rfl rfl rfl (d 2 rfl) rfl fun b t=>vY t rfl (ltb rfl) rfl Tryz.call153 (vq.calls (w:=x) (a0:=(gt a0 x4_9).path) (a1:=(gt x3_7 (IntKind.wrap .i64 (x5_31 - 1))).path) (od (yI b c55)) (od (yI b c56))) (ya ((d 7 rfl).1 b) (ya ((d 13 rfl).1 b) rfl))<|fun w79 e80=>sgx rfl rfl b e80 rfl
      ·exact fun s x e f d u=>lp rfl (QW (d 2 rfl) rfl fun h=>((d 14 rfl).1 h))<|se rfl rfl
      intro s81 w82 e83 hf84 ha85
      have K86:=Kp.ofD (kp:=[(15,31)]) rfl hf84
      have d87 : s81 30 = (.bool ((decide (0 < x5_31)) && (vC (cut 47 ((gt a0 x4_9).path)) (cut 47 ((gt x3_7 (IntKind.wrap .i64 (x5_31 - 1))).path))))):=ha85 15 rfl
      clear ha85 hf84
      refine qf ?_
      rcases qg H with ⟨q88,H⟩ | ⟨q88,H⟩
      ·refine qn (d87.trans (cb q88))<|qp<|qf<|qB<|qK<|lp rfl (xm (.int .i64 x5_31) ((K86 5 rfl).trans h46))<|lp rfl (Yb rfl rfl)<|lp rfl (xa (.int .i64 (IntKind.wrap .i64 (x5_31 - 1))) rfl)<|qZ<|vM<|qf ?_
       obtain rfl:=si H
       exact ⟨_,Nat.lt_succ_self _,IntKind.wrap .i64 (x5_31 - 1),(ku3 (Kp.cut K43 K86 rfl) rfl),rfl,(e44.t e83),S48⟩
      ·refine qj (d87.trans (cb q88))<|vu<|qY<|qY<|vZ<|qf ?_
       obtain rfl:=si H
       obtain rfl:=si S48
       exact ⟨x5_31,(Kp.cut K43 K86 rfl),((K86 5 rfl).trans h46),(e44.t e83),rfl⟩
    ·rintro s37 w36 ⟨x5_35,K38,h89,e39,y90⟩
     rw [y90] at C34
     have H:=C34
     replace H : _ = some _:=H
     refine qf ?_
     obtain ⟨c97,H⟩:=qa H
     obtain ⟨c100,H⟩:=qa H
     obtain ⟨c106,H⟩:=qa H
     obtain ⟨c115,H⟩:=qa H
     obtain ⟨c121,H⟩:=qa H
     obtain ⟨c124,H⟩:=qa H
     refine W_drawR (B:=w36.heap.size) [X0,LEq v8,LEq (.int .i64 x5_35),Gh w36 5 qv (sub x3_7 0 x5_35),LOw 52 5 qv w36.heap.size (([] : List Rec) ++ (sub x3_7 0 x5_35)),LEq v_a0,LEq (.int .i64 x4_9),JF w36 (qv (gt a0 x4_9)),LEq (.agg (qv (gt a0 x4_9)).toArray),LRd 5 qv ([gt a0 x4_9] : List Rec),LOw 52 5 qv w36.heap.size ((([] : List Rec) ++ (sub x3_7 0 x5_35)) ++ ([gt a0 x4_9] : List Rec)),LEq v8,LEq (.int .i64 x5_35),Gh w36 5 qv (sub x3_7 x5_35 (x3_7.length : Int)),LOw 52 5 qv w36.heap.size (qG.e1 a0 x3_7 x4_9 x5_35),LOw 52 5 qv w36.heap.size (qG.e1 a0 x3_7 x4_9 x5_35)] [⟨true,true,true,false,[]⟩,⟨true,true,true,false,[]⟩,⟨true,true,true,false,[]⟩,⟨true,true,true,false,[1,2]⟩,⟨true,false,true,false,[0,3]⟩,⟨true,true,true,false,[]⟩,⟨true,true,true,false,[]⟩,⟨true,true,true,false,[5,6]⟩,⟨true,true,true,false,[7]⟩,⟨true,false,true,false,[8]⟩,⟨false,false,true,false,[4,9]⟩,⟨true,true,false,false,[]⟩,⟨true,true,false,false,[]⟩,⟨true,true,false,false,[11,12]⟩,⟨false,false,false,false,[10,13]⟩,⟨true,false,false,true,[14]⟩] [(10,0,[4]),(14,0,[10,4]),(10,1,[4,3]),(14,1,[10,4,3]),(10,2,[4,3]),(14,2,[10,4,3]),(10,3,[4]),(14,3,[10,4]),(10,4,[]),(14,4,[10]),(10,5,[9,8,7]),(14,5,[10,9,8,7]),(10,6,[9,8,7]),(14,6,[10,9,8,7]),(10,7,[9,8]),(14,7,[10,9,8]),(10,8,[9]),(14,8,[10,9]),(10,9,[]),(14,9,[10]),(14,10,[]),(15,10,[]),(15,14,[])] (by kernel_rfl) (by kernel_rfl) (Nat.le_refl _) ⟨⟨X0.rig.mono,fun _=>X0.rig⟩,⟨LEq.rig.mono,fun _=>LEq.rig⟩,⟨LEq.rig.mono,fun _=>LEq.rig⟩,⟨Gh.rig.mono,fun _=>Gh.rig⟩,⟨LOw.mono,noR⟩,⟨LEq.rig.mono,fun _=>LEq.rig⟩,⟨LEq.rig.mono,fun _=>LEq.rig⟩,⟨JF.rig.mono,fun _=>JF.rig⟩,⟨LEq.rig.mono,fun _=>LEq.rig⟩,⟨LRd.mono,noR⟩,⟨LOw.mono,noR⟩,⟨LEq.rig.mono,fun _=>LEq.rig⟩,⟨LEq.rig.mono,fun _=>LEq.rig⟩,⟨Gh.rig.mono,fun _=>Gh.rig⟩,⟨LOw.mono,noR⟩,⟨LOw.mono,noR⟩,trivial⟩ ⟨?_,?_,?_,?_,?_,?_,?_,?_,?_,?_,?_,?_,?_,?_,?_,?_,trivial⟩ ?_
     ·intro s130 w131 hb132 hx133 hf134 hd135 hu136
      have e137 : Ext w36 w131:=hx133 rfl
      exact yz (.plain rfl) rfl (ltb rfl) rfl Tryz.underlying35 Tryz.sizeOf52 Tryz.zeroValue52 rfl rfl rfl (vs:=[]) rfl (vH rfl)<|fun b138 w139 z140 z141 e142 k143=>qZ<|Qy rfl rfl rfl e142 ⟨_,rfl⟩
     ·intro s144 w145 hb146 hx147 hf148 hd149 hu150
      have e151 : Ext w36 w145:=hx147 rfl
      exact lp rfl (xm v8 ((hu150 15 rfl).trans ((K38 3 rfl).trans h25)))<|qZ<|Qy rfl rfl rfl er rfl
     ·intro s152 w153 hb154 hx155 hf156 hd157 hu158
      have e159 : Ext w36 w153:=hx155 rfl
      exact lp rfl (xm (.int .i64 x5_35) ((hf156 5 rfl).trans h89))<|qZ<|Qy rfl rfl rfl er rfl
     ·intro s160 w161 hb162 hx163 hf164 hd165 hu166
      have e167 : Ext w36 w161:=hx163 rfl
      have d168 : s160 34 = v8:=(hd165 1 rfl)
      have d169 : s160 35 = (.int .i64 x5_35):=(hd165 2 rfl)
      have c170:=c97
      exact XI (.plain rfl) rfl (ltb rfl) rfl Tryz.underlying35 Tryz.sizeOf52 d168 (Ow.rd (Ow.ext h26 e39)) (l:=0) (h:=x5_35) rfl ⟨_,d169⟩ c170<|fun v171 h172=>qZ<|Qy rfl rfl rfl er h172
     ·intro s173 w174 hb175 hx176 hf177 hd178 hu179
      have e180 : Ext w36 w174:=hx176 rfl
      obtain ⟨b181,h182⟩:=(hd178 0 rfl)
      have d183 : Rd 5 qv w36 (s173 36) (sub x3_7 0 x5_35):=(hd178 3 rfl)
      have c184:=c100
      exact yH (enc:=qv) (.plain rfl) rfl (ltb rfl) rfl El.t35 h182 rfl (Ow.zero (base:=w174.heap.size) (w:=w174)) (Rd.ext d183 e180) (jH _) (od c184) (Nat.le_refl _)<|fun v185 w186 o187 z188 g189=>qZ<|Qy rfl rfl rfl (g189 _ er) (Ow.base o187 e180.size)
     ·intro s190 w191 hb192 hx193 hf194 hd195 hu196
      have e197 : Ext w36 w191:=hx193 rfl
      exact lp rfl (xm v_a0 ((hf194 0 rfl).trans ((K38 0 rfl).trans (K22 0 rfl))))<|qZ<|Qy rfl rfl rfl er rfl
     ·intro s198 w199 hb200 hx201 hf202 hd203 hu204
      have e205 : Ext w36 w199:=hx201 rfl
      exact lp rfl (xm (.int .i64 x4_9) ((hf202 4 rfl).trans ((K38 4 rfl).trans h27)))<|qZ<|Qy rfl rfl rfl er rfl
     ·intro s206 w207 hb208 hx209 hf210 hd211 hu212
      have e213 : Ext w36 w207:=hx209 rfl
      have d214 : s206 38 = v_a0:=(hd211 5 rfl)
      have d215 : s206 39 = (.int .i64 x4_9):=(hd211 6 rfl)
      have c216:=c106
      exact vo (.plain rfl) rfl (ltb rfl) rfl Tryz.underlying35 Tryz.sizeOf52 d214 (Rd.ext f_a0 ((e5.t e23).t e39)) d215 c216<|fun p217 h218=>qZ<|Qy rfl rfl rfl er ⟨_,rfl,h218⟩
     ·intro s219 w220 hb221 hx222 hf223 hd224 hu225
      have e226 : Ext w36 w220:=hx222 rfl
      obtain ⟨p227,h228,h229⟩:=(hd224 7 rfl)
      exact lp rfl (vK Tryz.isAgg52 Tryz.sizeOf52 rfl h228 (At.ext h229 e226))<|qZ<|Qy rfl rfl rfl er rfl
     ·intro s230 w231 hb232 hx233 hf234 hd235 hu236
      have e237 : Ext w36 w231:=hx233 rfl
      have d238 : s230 41 = (.agg (qv (gt a0 x4_9)).toArray):=(hd235 8 rfl)
      exact yz (.plain rfl) rfl (ltb rfl) rfl Tryz.underlying35 Tryz.sizeOf52 Tryz.zeroValue52 rfl rfl rfl (vs:=[(.agg (qv (gt a0 x4_9)).toArray)]) (ya d238 rfl) (vH rfl)<|fun b239 w240 z241 z242 e243 k244=>qZ<|Qy rfl rfl rfl e243 (Ow.rd (Ow.new (xs:=[gt a0 x4_9]) (sz:=5) (enc:=qv) (base:=w231.heap.size) k244 (Nat.le_of_eq z241) rfl (fun _ _=>by rfl) (Nat.le_of_ble_eq_true rfl)))
     ·intro s245 w246 hb247 hx248 hf249 hd250 hu251
      have e252 : Ext w36 w246:=hx248 rfl
      have d253 : Ow 52 5 qv w36.heap.size w246 (s245 37) (([] : List Rec) ++ (sub x3_7 0 x5_35)):=(hd250 4 rfl)
      have d254 : Rd 5 qv w246 (s245 42) ([gt a0 x4_9] : List Rec):=(hd250 9 rfl)
      have c255:=c115
      exact yH (enc:=qv) (.plain rfl) rfl (ltb rfl) rfl El.t35 rfl rfl d253 d254 (jH _) (od c255) (e252).size<|fun v256 w257 o258 z259 g260=>qZ<|stepH rfl rfl rfl (g260 _ (Below.refl _ _)) o258
     ·intro s261 w262 hb263 hx264 hf265 hd266 hu267
      have e268 : Ext w36 w262:=Below.trans er hb263
      exact lp rfl (xm v8 ((hu267 15 rfl).trans ((K38 3 rfl).trans h25)))<|qZ<|Qy rfl rfl rfl er rfl
     ·intro s269 w270 hb271 hx272 hf273 hd274 hu275
      have e276 : Ext w36 w270:=Below.trans er hb271
      exact lp rfl (xm (.int .i64 x5_35) ((hf273 5 rfl).trans h89))<|qZ<|Qy rfl rfl rfl er rfl
     ·intro s277 w278 hb279 hx280 hf281 hd282 hu283
      have e284 : Ext w36 w278:=Below.trans er hb279
      have d285 : s277 44 = v8:=(hd282 11 rfl)
      have d286 : s277 45 = (.int .i64 x5_35):=(hd282 12 rfl)
      have c287:=c121
      exact XI (.plain rfl) rfl (ltb rfl) rfl Tryz.underlying35 Tryz.sizeOf52 d285 (Ow.rd (Ow.ext h26 e39)) (l:=x5_35) (h:=(x3_7.length : Int)) ⟨_,d286⟩ rfl c287<|fun v288 h289=>qZ<|Qy rfl rfl rfl er h289
     ·intro s290 w291 hb292 hx293 hf294 hd295 hu296
      have e297 : Ext w36 w291:=Below.trans er hb292
      have d298 : Ow 52 5 qv w36.heap.size w291 (s290 43) ((([] : List Rec) ++ (sub x3_7 0 x5_35)) ++ ([gt a0 x4_9] : List Rec)):=(hd295 10 rfl)
      have d299 : Rd 5 qv w36 (s290 46) (sub x3_7 x5_35 (x3_7.length : Int)):=(hd295 13 rfl)
      have c300:=c124
      exact yH (enc:=qv) (.plain rfl) rfl (ltb rfl) rfl El.t35 rfl rfl d298 (Rd.ext d299 e297) (jH _) (od c300) (e297).size<|fun v301 w302 o303 z304 g305=>qZ<|stepH rfl rfl rfl (g305 _ (Below.refl _ _)) o303
     ·intro s306 w307 hb308 hx309 hf310 hd311 hu312
      have e313 : Ext w36 w307:=Below.trans er hb308
      have d314 : Ow 52 5 qv w36.heap.size w307 (s306 47) (qG.e1 a0 x3_7 x4_9 x5_35):=(hd311 14 rfl)
      exact lp rfl (xa (s306 47) rfl)<|qZ<|Qy rfl rfl rfl er d314
     intro s315 w316 hb317 hf319 ha320
     have K321:=Kp.ofD (kp:=[(3,4),(33,48)]) rfl hf319
     have e318 : Ext w36 w316:=hb317
     have d322 : Ow 52 5 qv w36.heap.size w316 (s315 3) (qG.e1 a0 x3_7 x4_9 x5_35):=ha320 15 rfl rfl
     clear ha320 hf319
     refine vM<|qf<|qK<|lp rfl (xm (.int .i64 x4_9) ((K321 4 rfl).trans ((K38 4 rfl).trans h27)))<|lp rfl (vp rfl rfl)<|lp rfl (xa (.int .i64 (IntKind.wrap .i64 (x4_9 + 1))) rfl)<|nx ?_
     obtain rfl:=si H
     exact ⟨_,Nat.lt_succ_self _,((([] : List Rec) ++ (sub x3_7 0 x5_35)) ++ ([gt a0 x4_9] : List Rec)) ++ (sub x3_7 x5_35 (x3_7.length : Int)),(s315 3),IntKind.wrap .i64 (x4_9 + 1),(ku3 (Kp.cut (Kp.cut (ku3 (ku4 K22 rfl) rfl) K38 rfl) K321 rfl) rfl),rfl,(Ow.base d322 (e23.t e39).size),rfl,((e23.t e39).t e318),S29⟩
   ·refine qj (cb q30)<|vu<|qY<|qY<|vZ<|qf ?_
    obtain rfl:=si H
    obtain rfl:=si S29
    exact ⟨x3_7,v8,(ku4 K22 rfl),h25,h26,e23,rfl⟩
 ·rintro s16 w15 ⟨x3_13,v14,K17,h323,h324,e18,y325⟩
  rw [y325] at C12
  have H:=C12
  replace H : _ = some _:=H
  refine qf<|wr<|lp rfl (qd h323)<|lp rfl (xa v14 rfl)<|nx<|qr<|qu ?_
  obtain rfl:=si H
  exact Q3 rfl (e5.t e18) h324 (e5).size
theorem qG.calls {w : World} {a0 : List Rec} {v_a0 : Value} (f_a0 : Rd 5 qv w v_a0 a0) (h0 : a0.length≤100000) (h1 : ∀ x ∈ a0,x.path.length≤1048576) :
  Calls Tryz.prog 173 #[v_a0] w (Rt (RO 52 5 qv w (G3 a0))):=by
 obtain ⟨k,h⟩:=qG.eq a0 h0 h1
 exact qG.walk f_a0 h
/-! spec.l08Between -/
theorem qt.calls {w : World} {a0 : List Nd} {a1 : List Nd} {v_a0 : Value} (f_a0 : Rd 4 qJ w v_a0 a0) {v_a1 : Value} (f_a1 : Rd 4 qJ w v_a1 a1) (h0 : qX a0 = true) (h1 : qX a1 = true) :
  Calls Tryz.prog 106 #[v_a0,v_a1] w (Rt (RO 52 5 qv w (yD a0 a1))):=by
 obtain ⟨k,H⟩:=qt.eq a0 a1 h0 h1
 generalize (yD a0 a1) = r at H ⊢
 unfold qt.sh at H
 refine qk Tryz.func106 rfl (Nat.le_of_ble_eq_true rfl) Tryz.ntmps106 rfl ?_
 refine wr<|lp rfl (xa (.slice none 0 0) rfl)<|nx<|wr<|lp rfl (xm v_a0 rfl)<|lp rfl (xm v_a1 rfl) ?_
 obtain ⟨c1,H⟩:=qa H
 obtain ⟨c2,H⟩:=qa H
 refine vJ (.plain rfl) rfl (ltb rfl) rfl Tryz.call171 (vG.calls (w:=w) (a0:=a0) (a1:=a1) f_a0 f_a1 (od c1) (od c2)) rfl<|fun v5 w3 e4 o6=>lp rfl (xa v5 rfl)<|nx<|wr<|yz (.plain rfl) rfl (ltb rfl) rfl Tryz.underlying44 Tryz.sizeOf9 Tryz.zeroValue9 rfl rfl rfl (vs:=[]) rfl (vH rfl)<|fun b7 w8 z9 z10 e11 k12=>lp rfl (xm v5 rfl) ?_
 obtain ⟨c13,H⟩:=qa H
 refine yH (enc:=vI) (.plain rfl) rfl (ltb rfl) rfl El.t44 rfl rfl (Ow.zero (base:=w8.heap.size) (w:=w8)) (Ow.rd (Ow.ext o6 e11)) (Vi _) (od c13) (Nat.le_refl _)<|fun v14 w15 o16 z17 g18=>lp rfl (xa v14 rfl)<|nx<|qi<|wr<|lp rfl (xa (.int .i64 0) rfl)<|nx ?_
 obtain ⟨z22,L23,C24⟩:=bind_some H
 clear H
 refine  vv (fun s0 sQ wQ=>∃ (x6_25 : List (List UInt8)) (v26 : Value),Kp [(6,8),(19,39)] s0 sQ∧sQ 6 = v26∧Ow 9 1 vI w8.heap.size wQ v26 x6_25∧Ext w8 wQ∧z22 = .inr x6_25) ?_ ?_
 ·refine qB<|vh (fun s0 kk sQ wQ=>∃ (x6_19 : List (List UInt8)) (v20 : Value) (x7_21 : Int),Kp [(6,8),(19,39)] s0 sQ∧sQ 6 = v20∧Ow 9 1 vI w8.heap.size wQ v20 x6_19∧sQ 7 = .int .i64 x7_21∧Ext w8 wQ∧ql (qt.b1 a0 a1) kk (x6_19,x7_21) = some z22) k ⟨([] : List (List UInt8)) ++ (Qs a0 a1),v14,0,kz,rfl,o16,rfl,(g18 _ er),L23⟩ ?_
  rintro k31 s32 w33 ⟨x6_19,v20,x7_21,K34,h37,h38,h39,e35,L36⟩
  cases k31 with
  | zero=>exact absurd L36 (by simp [ql])
  | succ k31=>
   obtain ⟨t40,H,S41⟩:=qL L36
   clear L36
   unfold qt.b1 at H
   refine qi<|wr<|lp rfl (qd h39)<|lp rfl (xm v_a1 (K34 1 rfl))<|lp rfl (vc Tryz.underlying29 rfl (Rd.ext f_a1 ((e4.t e11).t e35)))<|lp rfl (vw rfl rfl)<|nx ?_
   rcases qg H with ⟨q42,H⟩ | ⟨q42,H⟩
   ·refine qn (cb q42)<|qp<|qf<|qi<|qB<|wr<|lp rfl (xm v_a0 (K34 0 rfl))<|lp rfl (xm v_a1 (K34 1 rfl))<|lp rfl (qd h39) ?_
    obtain ⟨c43,H⟩:=qa H
    refine vo (.plain rfl) rfl (ltb rfl) rfl Tryz.underlying29 Tryz.sizeOf91 rfl (Rd.ext f_a1 ((e4.t e11).t e35)) rfl c43<|fun p44 h45=>lp rfl (vK Tryz.isAgg91 Tryz.sizeOf91 rfl rfl h45) ?_
    obtain ⟨c46,H⟩:=qa H
    refine lc rfl rfl Tryz.call172 (yn.calls (w:=w33) (a0:=a0) (a1:=gt a1 x7_21) (Rd.ext f_a0 ((e4.t e11).t e35)) (od c46)) rfl<|fun w47 e48=>nx ?_
    rcases qg H with ⟨q49,H⟩ | ⟨q49,H⟩
    ·refine qn (cb q49)<|qK<|lp rfl (qd h37)<|lp rfl (xm v_a1 (K34 1 rfl))<|lp rfl (qd h39) ?_
     obtain ⟨c50,H⟩:=qa H
     refine vo (.plain rfl) rfl (ltb rfl) rfl Tryz.underlying29 Tryz.sizeOf91 rfl (Rd.ext f_a1 (((e4.t e11).t e35).t e48)) rfl c50<|fun p51 h52=>lp rfl (qc Tryz.underlying91 rfl Tryz.sizeOf9 rfl rfl)<|lp rfl (vX Tryz.isAgg9 (j:=1) h52 rfl rfl)<|yz (.plain rfl) rfl (ltb rfl) rfl Tryz.underlying44 Tryz.sizeOf9 Tryz.zeroValue9 rfl rfl rfl (vs:=[(S ((gt a1 x7_21).path))]) rfl (vH rfl)<|fun b53 w54 z55 z56 e57 k58=>?_
     obtain ⟨c59,H⟩:=qa H
     refine yH (enc:=vI) (.plain rfl) rfl (ltb rfl) rfl El.t44 rfl rfl (Ow.ext h38 (e48.t e57)) (Ow.rd (Ow.new (xs:=[(gt a1 x7_21).path]) (sz:=1) (enc:=vI) (base:=w47.heap.size) k58 (Nat.le_of_eq z55) rfl (fun _ _=>by rfl) (Nat.le_of_ble_eq_true rfl))) (Vi _) (od c59) (((e35.t e48).t e57)).size<|fun v60 w61 o62 z63 g64=>lp rfl (xa v60 rfl)<|qZ<|vM<|qf<|qK<|lp rfl (qd h39)<|lp rfl (vp rfl rfl)<|lp rfl (xa (.int .i64 (IntKind.wrap .i64 (x7_21 + 1))) rfl)<|nx ?_
     obtain rfl:=si H
     exact ⟨_,Nat.lt_succ_self _,x6_19 ++ ([(gt a1 x7_21).path] : List (List UInt8)),v60,IntKind.wrap .i64 (x7_21 + 1),(ku2 (ku4 (ku8 (ku8 K34 rfl) rfl) rfl) rfl),rfl,o62,rfl,(g64 _ ((e35.t e48).t e57)),S41⟩
    ·refine qj (cb q49)<|qp<|vM<|qf<|qK<|lp rfl (qd h39)<|lp rfl (vp rfl rfl)<|lp rfl (xa (.int .i64 (IntKind.wrap .i64 (x7_21 + 1))) rfl)<|nx ?_
     obtain rfl:=si H
     exact ⟨_,Nat.lt_succ_self _,x6_19,v20,IntKind.wrap .i64 (x7_21 + 1),(ku1 (ku4 (ku8 K34 rfl) rfl) rfl),h37,(Ow.ext h38 e48),rfl,(e35.t e48),S41⟩
   ·refine qj (cb q42)<|vu<|qY<|qY<|vZ<|qf ?_
    obtain rfl:=si H
    obtain rfl:=si S41
    exact ⟨x6_19,v20,(ku4 K34 rfl),h37,h38,e35,rfl⟩
 ·rintro s28 w27 ⟨x6_25,v26,K29,h65,h66,e30,y67⟩
  rw [y67] at C24
  have H:=C24
  replace H : _ = some _:=H
  refine qf<|wr<|yz (.plain rfl) rfl (ltb rfl) rfl Tryz.underlying35 Tryz.sizeOf52 Tryz.zeroValue52 rfl rfl rfl (vs:=[]) rfl (vH rfl)<|fun b68 w69 z70 z71 e72 k73=>lp rfl (xa (.slice (some ⟨b68,0,none⟩) 0 0) rfl)<|nx<|qi<|wr<|lp rfl (xa (.int .i64 0) rfl)<|nx ?_
  obtain ⟨z77,L78,C79⟩:=bind_some H
  clear H
  refine  vv (fun s0 sQ wQ=>∃ (x8_80 : List Rec) (v81 : Value),Kp [(8,13),(40,74)] s0 sQ∧sQ 8 = v81∧Ow 52 5 qv w69.heap.size wQ v81 x8_80∧Ext w69 wQ∧z77 = .inr x8_80) ?_ ?_
  ·refine qB<|vh (fun s0 kk sQ wQ=>∃ (x8_74 : List Rec) (v75 : Value) (x9_76 : Int),Kp [(8,13),(40,74)] s0 sQ∧sQ 8 = v75∧Ow 52 5 qv w69.heap.size wQ v75 x8_74∧sQ 9 = .int .i64 x9_76∧Ext w69 wQ∧ql (qt.b2 k a1 x6_25) kk (x8_74,x9_76) = some z77) k ⟨([] : List Rec),(.slice (some ⟨b68,0,none⟩) 0 0),0,kz,rfl,(Ow.zero),rfl,er,L78⟩ ?_
   rintro k86 s87 w88 ⟨x8_74,v75,x9_76,K89,h92,h93,h94,e90,L91⟩
   cases k86 with
   | zero=>exact absurd L91 (by simp [ql])
   | succ k86=>
    obtain ⟨t95,H,S96⟩:=qL L91
    clear L91
    unfold qt.b2 at H
    refine qi<|wr<|lp rfl (qd h94)<|lp rfl (xm v26 ((K89 6 rfl).trans h65))<|lp rfl (vc Tryz.underlying44 rfl (Ow.rd (Ow.ext h66 (e72.t e90))))<|lp rfl (vw rfl rfl)<|nx ?_
    rcases qg H with ⟨q97,H⟩ | ⟨q97,H⟩
    ·refine qn (cb q97)<|qp<|qf<|qi<|qB<|wr<|lp rfl (xm v26 ((K89 6 rfl).trans h65))<|lp rfl (qd h94) ?_
     obtain ⟨c98,H⟩:=qa H
     refine vo (.plain rfl) rfl (ltb rfl) rfl Tryz.underlying44 Tryz.sizeOf9 rfl (Ow.rd (Ow.ext h66 (e72.t e90))) rfl c98<|fun p99 h100=>lp rfl (yj Tryz.isAgg9 rfl h100 rfl)<|lp rfl (xa (S (gt x6_25 x9_76)) rfl)<|nx ?_
     obtain ⟨z104,L105,C106⟩:=bind_some H
     clear H
     refine  vv (fun s0 sQ wQ=>∃ (x8_107 : List Rec) (v108 : Value),Kp [(8,9),(10,13),(50,74)] s0 sQ∧sQ 8 = v108∧Ow 52 5 qv w69.heap.size wQ v108 x8_107∧Ext w69 wQ∧z104 = .inr x8_107) ?_ ?_
     ·refine qB<|vh (fun s0 kk sQ wQ=>∃ (x8_101 : List Rec) (v102 : Value) (x10_103 : List UInt8),Kp [(8,9),(10,13),(50,74)] s0 sQ∧sQ 8 = v102∧Ow 52 5 qv w69.heap.size wQ v102 x8_101∧sQ 10 = S x10_103∧Ext w69 wQ∧ql (qt.b3 a1) kk (x8_101,x10_103) = some z104) k ⟨x8_74,v75,gt x6_25 x9_76,kz,h92,h93,rfl,e90,L105⟩ ?_
      rintro k113 s114 w115 ⟨x8_101,v102,x10_103,K116,h119,h120,h121,e117,L118⟩
      cases k113 with
      | zero=>exact absurd L118 (by simp [ql])
      | succ k113=>
       obtain ⟨t122,H,S123⟩:=qL L118
       clear L118
       unfold qt.b3 at H
       refine qi<|wr<|lp rfl (qd h121)<|lp rfl (j3 rfl rfl)<|nx ?_
       rcases qg H with ⟨q124,H⟩ | ⟨q124,H⟩
       ·refine qn (cb q124)<|qp<|qf<|qi<|qB<|qi<|wr<|lp rfl (qd h119)<|lp rfl (qd h121) ?_
        obtain ⟨c125,H⟩:=qa H
        refine lc rfl rfl Tryz.call162 (yf.calls (w:=w115) (a0:=x8_101) (a1:=x10_103) (Ow.rd h120) (od c125)) rfl<|fun w126 e127=>lp rfl (Q2 rfl rfl)<|nx ?_
        rcases qg H with ⟨q128,H⟩ | ⟨q128,H⟩
        ·refine qn (cb q128)<|vu<|qY<|vZ<|qf<|qK<|lp rfl (qd h121) ?_
         obtain ⟨c129,H⟩:=qa H
         refine lc rfl rfl Tryz.call154 (q4.calls (w:=w126) (a0:=x10_103) (od c129)) rfl<|fun w130 e131=>lp rfl (xa (S (qe x10_103)) rfl)<|nx ?_
         obtain rfl:=si H
         exact ⟨_,Nat.lt_succ_self _,x8_101,v102,(qe x10_103),(ku1 (ku8 K116 rfl) rfl),h119,(Ow.ext h120 (e127.t e131)),rfl,((e117.t e127).t e131),S123⟩
        ·refine qj (cb q128)<|qp<|qf<|wr<|lp rfl (qd h121)<|lp rfl (Vk (vs:=[(0,(.int .i64 4)),(1,(S x10_103))]) (pl:=#[(0,1),(1,1),(2,1),(3,1),(4,1)]) Tryz.underlying52 Tryz.zeroValue52 rfl (fun _=>by kernel_rfl) rfl rfl rfl)<|jK (.plain rfl) rfl (ltb rfl) rfl Tryz.zeroValue52<|fun b132 w133 z134 z135 e136 k137=>ji (.plain rfl) rfl rfl Tryz.sizeOf52 rfl rfl rfl rfl rfl k137<|fun w138 h139 k140=>nx<|qi<|wr<|lp rfl (xm v_a1 ((K116 1 rfl).trans ((K89 1 rfl).trans (K29 1 rfl))))<|lp rfl (qd h121) ?_
         obtain ⟨c141,H⟩:=qa H
         refine lc rfl rfl Tryz.call155 (vD.calls (w:=w138) (a0:=a1) (a1:=x10_103) (Rd.ext f_a1 ((((((e4.t e11).t e30).t e72).t e117).t e127).t (Below.trans e136 (Wr.below h139 (Nat.le_of_eq z134))))) (od c141)) rfl<|fun w142 e143=>lp rfl (xa (.int .i64 (qC a1 x10_103)) rfl)<|nx<|wr<|lp rfl (xm (.int .i64 (qC a1 x10_103)) rfl)<|lp rfl (Q2 rfl rfl)<|nx ?_
         rcases qg H with ⟨q144,H⟩ | ⟨q144,H⟩
         ·refine qn (cb q144)<|qK<|lp rfl (xm v_a1 ((K116 1 rfl).trans ((K89 1 rfl).trans (K29 1 rfl))))<|lp rfl (xm (.int .i64 (qC a1 x10_103)) rfl) ?_
          obtain ⟨c145,H⟩:=qa H
          refine vo (.plain rfl) rfl (ltb rfl) rfl Tryz.underlying29 Tryz.sizeOf91 rfl (Rd.ext f_a1 (((((((e4.t e11).t e30).t e72).t e117).t e127).t (Below.trans e136 (Wr.below h139 (Nat.le_of_eq z134)))).t e143)) rfl c145<|fun p146 h147=>lp rfl (vK Tryz.isAgg91 Tryz.sizeOf91 rfl rfl h147)<|lc rfl rfl Tryz.call152 (yy.calls (w:=w142) (a0:=gt a1 (qC a1 x10_103))) rfl<|fun w148 e149=>ji (.plain rfl) rfl rfl Tryz.sizeOf52 rfl rfl rfl rfl rfl (Blk.ext k140 (e143.t e149))<|fun w150 h151 k152=>nx<|qK<|lp rfl (qd h119)<|lp rfl (vK Tryz.isAgg52 Tryz.sizeOf52 rfl rfl (Blk.at0 k152))<|yz (.plain rfl) rfl (ltb rfl) rfl Tryz.underlying35 Tryz.sizeOf52 Tryz.zeroValue52 rfl rfl rfl (vs:=[(.agg #[(.int .i64 ((qM (gt a1 (qC a1 x10_103))).kind)),(S ((qM (gt a1 (qC a1 x10_103))).path)),(S ((qM (gt a1 (qC a1 x10_103))).body)),(.int .i64 ((qM (gt a1 (qC a1 x10_103))).mode)),(.bool ((qM (gt a1 (qC a1 x10_103))).opq))])]) rfl (vH rfl)<|fun b153 w154 z155 z156 e157 k158=>?_
          obtain ⟨c159,H⟩:=qa H
          refine yH (enc:=qv) (.plain rfl) rfl (ltb rfl) rfl El.t35 rfl rfl (Ow.ext h120 ((e127.t (Below.trans (Ext.trans (Ext.trans (Below.trans e136 (Wr.below h139 (Nat.le_of_eq z134))) e143) e149) (Wr.below h151 (Nat.le_of_eq z134)))).t e157)) (Ow.rd (Ow.new (xs:=[(qM (gt a1 (qC a1 x10_103)))]) (sz:=5) (enc:=qv) (base:=w150.heap.size) k158 (Nat.le_of_eq z155) rfl (fun _ _=>by rfl) (Nat.le_of_ble_eq_true rfl))) (jH _) (od c159) ((((e117.t e127).t (Below.trans (Ext.trans (Ext.trans (Below.trans e136 (Wr.below h139 (Nat.le_of_eq z134))) e143) e149) (Wr.below h151 (Nat.le_of_eq z134)))).t e157)).size<|fun v160 w161 o162 z163 g164=>lp rfl (xa v160 rfl)<|qZ<|vM<|qf<|qK<|lp rfl (qd h121) ?_
          obtain ⟨c165,H⟩:=qa H
          refine lc rfl rfl Tryz.call154 (q4.calls (w:=w161) (a0:=x10_103) (od c165)) rfl<|fun w166 e167=>lp rfl (xa (S (qe x10_103)) rfl)<|nx ?_
          obtain rfl:=si H
          exact ⟨_,Nat.lt_succ_self _,x8_101 ++ ([(qM (gt a1 (qC a1 x10_103)))] : List Rec),v160,(qe x10_103),(ku4 (ku8 (ku8 (ku8 K116 rfl) rfl) rfl) rfl),rfl,(Ow.ext o162 e167),rfl,(Ext.trans (g164 _ (((e117.t e127).t (Below.trans (Ext.trans (Ext.trans (Below.trans e136 (Wr.below h139 (Nat.le_of_eq z134))) e143) e149) (Wr.below h151 (Nat.le_of_eq z134)))).t e157)) e167),S123⟩
         ·refine qj (cb q144)<|qp<|qf<|qK<|lp rfl (qd h119)<|lp rfl (vK Tryz.isAgg52 Tryz.sizeOf52 rfl rfl (Blk.at0 (Blk.ext k140 e143)))<|yz (.plain rfl) rfl (ltb rfl) rfl Tryz.underlying35 Tryz.sizeOf52 Tryz.zeroValue52 rfl rfl rfl (vs:=[(.agg #[(.int .i64 4),(S x10_103),(S ([] : List UInt8)),(.int .i64 0),(.bool false)])]) rfl (vH rfl)<|fun b168 w169 z170 z171 e172 k173=>?_
          obtain ⟨c174,H⟩:=qa H
          refine yH (enc:=qv) (.plain rfl) rfl (ltb rfl) rfl El.t35 rfl rfl (Ow.ext h120 (((e127.t (Below.trans e136 (Wr.below h139 (Nat.le_of_eq z134)))).t e143).t e172)) (Ow.rd (Ow.new (xs:=[(⟨4,x10_103,([] : List UInt8),0,false⟩ : Rec)]) (sz:=5) (enc:=qv) (base:=w142.heap.size) k173 (Nat.le_of_eq z170) rfl (fun _ _=>by rfl) (Nat.le_of_ble_eq_true rfl))) (jH _) (od c174) (((((e117.t e127).t (Below.trans e136 (Wr.below h139 (Nat.le_of_eq z134)))).t e143).t e172)).size<|fun v175 w176 o177 z178 g179=>lp rfl (xa v175 rfl)<|qZ<|vM<|qf<|qK<|lp rfl (qd h121) ?_
          obtain ⟨c180,H⟩:=qa H
          refine lc rfl rfl Tryz.call154 (q4.calls (w:=w176) (a0:=x10_103) (od c180)) rfl<|fun w181 e182=>lp rfl (xa (S (qe x10_103)) rfl)<|nx ?_
          obtain rfl:=si H
          exact ⟨_,Nat.lt_succ_self _,x8_101 ++ ([(⟨4,x10_103,([] : List UInt8),0,false⟩ : Rec)] : List Rec),v175,(qe x10_103),(ku3 (ku4 (ku8 (ku8 K116 rfl) rfl) rfl) rfl),rfl,(Ow.ext o177 e182),rfl,(Ext.trans (g179 _ ((((e117.t e127).t (Below.trans e136 (Wr.below h139 (Nat.le_of_eq z134)))).t e143).t e172)) e182),S123⟩
       ·refine qj (cb q124)<|vu<|qY<|qY<|vZ<|qf ?_
        obtain rfl:=si H
        obtain rfl:=si S123
        exact ⟨x8_101,v102,(ku2 K116 rfl),h119,h120,e117,rfl⟩
     ·rintro s110 w109 ⟨x8_107,v108,K111,h183,h184,e112,y185⟩
      rw [y185] at C106
      have H:=C106
      replace H : _ = some _:=H
      refine vM<|qf<|qK<|lp rfl (xm (.int .i64 x9_76) ((K111 9 rfl).trans h94))<|lp rfl (vp rfl rfl)<|lp rfl (xa (.int .i64 (IntKind.wrap .i64 (x9_76 + 1))) rfl)<|nx ?_
      obtain rfl:=si H
      exact ⟨_,Nat.lt_succ_self _,x8_107,v108,IntKind.wrap .i64 (x9_76 + 1),(ku3 (Kp.cut (ku1 (ku8 K89 rfl) rfl) K111 rfl) rfl),h183,h184,rfl,e112,S96⟩
    ·refine qj (cb q97)<|vu<|qY<|qY<|vZ<|qf ?_
     obtain rfl:=si H
     obtain rfl:=si S96
     exact ⟨x8_74,v75,(ku4 K89 rfl),h92,h93,e90,rfl⟩
  ·rintro s83 w82 ⟨x8_80,v81,K84,h186,h187,e85,y188⟩
   rw [y188] at C79
   have H:=C79
   replace H : _ = some _:=H
   refine qf<|wr<|lp rfl (qd h186) ?_
   obtain ⟨c189,H⟩:=qa H
   obtain ⟨c190,H⟩:=qa H
   refine vJ (.plain rfl) rfl (ltb rfl) rfl Tryz.call173 (qG.calls (w:=w82) (a0:=x8_80) (Ow.rd h187) (od c189) (od c190)) rfl<|fun v193 w191 e192 o194=>lp rfl (xa v193 rfl)<|nx<|qr<|qu ?_
   obtain rfl:=si H
   exact Q3 rfl (((((e4.t e11).t e30).t e72).t e85).t e192) o194 (((((e4.t e11).t e30).t e72).t e85)).size
/-! spec.LayerBetween -/
theorem vt.walk {w : World} {a0 : List Nd} {a1 : List Nd} {v_a0 : Value} (f_a0 : Rd 4 qJ w v_a0 a0) {v_a1 : Value} (f_a1 : Rd 4 qJ w v_a1 a1) {r : List Rec × Int} (H : vt.sh a0 a1 = some r) :
  Calls Tryz.prog 40 #[v_a0,v_a1] w (Rt (RT 52 5 qv w r.1 (.int .i64 r.2))):=by
 unfold vt.sh at H
 refine qk Tryz.func40 rfl (Nat.le_of_ble_eq_true rfl) Tryz.ntmps40 rfl ?_
 refine wr<|lp rfl (xa (.slice none 0 0) rfl)<|lp rfl (xa (.int .i64 0) rfl)<|nx<|qi<|wr<|lp rfl (xm v_a0 rfl)<|lp rfl (vc Tryz.underlying29 rfl f_a0)<|lp rfl (j1 rfl rfl)<|lp rfl (xm (.bool (decide (4096 < (a0.length : Int)))) rfl)<|jb 4 [(12,16)] 15 (.bool ((decide (4096 < (a0.length : Int))) || (decide (4096 < (a1.length : Int))))) ?_ ?_
 ·rcases qH (decide (4096 < (a0.length : Int))) with b0_ | b0_
  ·exact ls rfl rfl rfl (cb b0_) rfl<|ls rfl rfl rfl (cb b0_) rfl<|ls rfl rfl rfl (cb b0_) rfl<|lp rfl (qF (b:=true) (v:=(.bool true)) (cb b0_) rfl)<|nx ⟨(ku4 kz rfl),(Ye b0_),er⟩
  ·exact lg rfl rfl rfl rfl (cb b0_) (xm v_a1 rfl)<|lg rfl rfl rfl rfl (cb b0_) (vc Tryz.underlying29 rfl f_a1)<|lg rfl rfl rfl rfl (cb b0_) (j1 rfl rfl)<|lp rfl (qF (b:=false) (v:=(.bool (decide (4096 < (a1.length : Int))))) (cb b0_) rfl)<|nx ⟨(ku4 kz rfl),(VX b0_),er⟩
 intro s6 w2 K3 h4 e5
 refine nx ?_
 rcases qg H with ⟨q7,H⟩ | ⟨q7,H⟩
 ·refine qn (h4.trans (cb q7))<|wr<|yz (.plain rfl) rfl (ltb rfl) rfl Tryz.underlying35 Tryz.sizeOf52 Tryz.zeroValue52 rfl rfl rfl (vs:=[]) rfl (vH rfl)<|fun b8 w9 z10 z11 e12 k13=>lp rfl (xa (.slice (some ⟨b8,0,none⟩) 0 0) rfl)<|lp rfl (xa (.int .i64 2) rfl)<|nx<|qr<|qo<|qu ?_
  obtain rfl:=si H
  exact YA rfl rfl (e5.t e12) (Ow.zero (base:=w.heap.size)) (Nat.le_refl _)
 ·refine qj (h4.trans (cb q7))<|qp<|qf<|qi<|wr<|lp rfl (xm v_a0 (K3 0 rfl))<|lp rfl (xm v_a1 (K3 1 rfl)) ?_
  obtain ⟨c14,H⟩:=qa H
  obtain ⟨c15,H⟩:=qa H
  refine lc rfl rfl Tryz.call105 (jh.calls (w:=w2) (a0:=a0) (a1:=a1) (Rd.ext f_a0 e5) (Rd.ext f_a1 e5) (od c14) (od c15)) rfl<|fun w16 e17=>lp rfl (xa (.int .i64 (treesCode a0 a1)) rfl)<|nx<|wr<|lp rfl (xm (.int .i64 (treesCode a0 a1)) rfl)<|lp rfl (jf rfl rfl)<|nx ?_
  rcases qg H with ⟨q18,H⟩ | ⟨q18,H⟩
  ·refine qn (cb q18)<|wr<|yz (.plain rfl) rfl (ltb rfl) rfl Tryz.underlying35 Tryz.sizeOf52 Tryz.zeroValue52 rfl rfl rfl (vs:=[]) rfl (vH rfl)<|fun b19 w20 z21 z22 e23 k24=>lp rfl (xm (.int .i64 (treesCode a0 a1)) rfl)<|lp rfl (xa (.slice (some ⟨b19,0,none⟩) 0 0) rfl)<|lp rfl (xa (.int .i64 (treesCode a0 a1)) rfl)<|nx<|qr<|qo<|qu ?_
   obtain rfl:=si H
   exact YA rfl rfl ((e5.t e17).t e23) (Ow.zero (base:=w.heap.size)) (Nat.le_refl _)
  ·refine qj (cb q18)<|qp<|qf<|wr<|lp rfl (xm v_a0 (K3 0 rfl))<|lp rfl (xm v_a1 (K3 1 rfl)) ?_
   obtain ⟨c25,H⟩:=qa H
   obtain ⟨c26,H⟩:=qa H
   refine vJ (.plain rfl) rfl (ltb rfl) rfl Tryz.call106 (qt.calls (w:=w16) (a0:=a0) (a1:=a1) (Rd.ext f_a0 (e5.t e17)) (Rd.ext f_a1 (e5.t e17)) (od c25) (od c26)) rfl<|fun v29 w27 e28 o30=>lp rfl (xa v29 rfl)<|nx<|qi<|wr<|lp rfl (xm v29 rfl)<|lp rfl (vc Tryz.underlying35 rfl (Ow.rd o30))<|lp rfl (j1 rfl rfl)<|nx ?_
   rcases qg H with ⟨q31,H⟩ | ⟨q31,H⟩
   ·refine qn (cb q31)<|wr<|yz (.plain rfl) rfl (ltb rfl) rfl Tryz.underlying35 Tryz.sizeOf52 Tryz.zeroValue52 rfl rfl rfl (vs:=[]) rfl (vH rfl)<|fun b32 w33 z34 z35 e36 k37=>lp rfl (xa (.slice (some ⟨b32,0,none⟩) 0 0) rfl)<|lp rfl (xa (.int .i64 6) rfl)<|nx<|qr<|qo<|qu ?_
    obtain rfl:=si H
    exact YA rfl rfl (((e5.t e17).t e28).t e36) (Ow.zero (base:=w.heap.size)) (Nat.le_refl _)
   ·refine qj (cb q31)<|qp<|qf<|wr<|lp rfl (xm v29 rfl)<|lp rfl (xa v29 rfl)<|lp rfl (xa (.int .i64 0) rfl)<|nx<|qr<|qu ?_
    obtain rfl:=si H
    exact YA rfl rfl ((e5.t e17).t e28) o30 ((e5.t e17)).size
theorem vt.calls {w : World} {a0 : List Nd} {a1 : List Nd} {v_a0 : Value} (f_a0 : Rd 4 qJ w v_a0 a0) {v_a1 : Value} (f_a1 : Rd 4 qJ w v_a1 a1) (h0 : a0.length≤1048576) (h1 : a1.length≤1048576) (h2 : ∀ x ∈ a0,x.path.length≤1048576) (h3 : ∀ x ∈ a1,x.path.length≤1048576) :
  Calls Tryz.prog 40 #[v_a0,v_a1] w (Rt (RT 52 5 qv w ((qb a0 a1).1) (.int .i64 ((qb a0 a1).2)))):=vt.walk f_a0 f_a1 (vt.eq a0 a1 h0 h1 h2 h3)
/-! impl.between,by text -/
/-- What lies apart from a row that grows,and above the box that is written,stays. -/
def KeepA (b : Nat) (v v' : Value) (w w' : World) : Prop:=∀ (β : Type) (e sz base : Nat) (enc : β→List Value) (q : Value) (zs : List β),b < base→Ow e sz enc base w q zs→y7 v q→Ow e sz enc base w' q zs∧y7 v' q
theorem JN {B b T : Nat} {w w' : World} {cs : Array Value} (h : Below B w w') (hb : b < B) (k : Blk w b cs T) : Blk w' b cs T:=by
  unfold Blk at k ⊢
  rw [h.block _ hb]; exact k
theorem Jn.put {w : World} {b B : Nat} {v : Value} {xs : List Rec} {r : Rec} (hb : b < B) (kb : Blk w b #[v] 35) (hO : Ow 52 5 qv B w v xs) (hB : B ≤ w.heap.size) (hx : xs.length ≤ 1000000) :
    Calls Tryz.prog 174 #[.agg (qv r).toArray,.pointer (some ⟨b,0,none⟩)] w (Rt (fun _ w'=>∃ v',Blk w' b #[v'] 35∧Ow 52 5 qv B w' v' (YH xs r)∧w.heap.size≤w'.heap.size∧Below b w w'∧KeepA b v v' w w')):=by
  refine qk Tryz.func174 rfl (Nat.le_of_ble_eq_true rfl) Tryz.ntmps174 rfl ?_
  refine wr<|jm (.plain rfl) rfl (ltb rfl) rfl rfl<|fun b2 w2 z2 z2' e2 k2=>nx<|wr<|lp rfl (qy (v:=v) Tryz.isAgg35 (kb.ext e2) rfl rfl)<|lp rfl (qc Tryz.underlying52 rfl Tryz.sizeOf9 rfl rfl)<|lp rfl (vX Tryz.isAgg9 (j:=1) (Blk.at0 k2) rfl rfl)<|
    lc rfl rfl Tryz.call80 (jN.calls (w:=w2) (a0:=xs) (a1:=r.path) (Ow.rd (hO.ext e2)) (by omega)) rfl<|fun w3 e3=>lp rfl (vw rfl rfl)<|nx ?_
  have e23 : Ext w w3:=Ext.trans e2 e3
  by_cases hf : yR xs r.path < 0
  · refine qn (cb (decide_eq_true hf))<|qK<|lp rfl (qy (v:=v) Tryz.isAgg35 (kb.ext e23) rfl rfl)<|lp rfl (vK Tryz.isAgg52 Tryz.sizeOf52 rfl rfl (Blk.at0 (k2.ext e3)))<|
      yz (.plain rfl) rfl (ltb rfl) rfl Tryz.underlying35 Tryz.sizeOf52 Tryz.zeroValue52 rfl rfl rfl (vs:=[.agg (qv r).toArray]) rfl (vH rfl)<|fun b4 w4 z4 z4' e4 k4=>?_
    have e24 : Ext w w4:=Ext.trans e23 e4
    refine XZ (enc:=qv) (.plain rfl) rfl (ltb rfl) rfl El.t35 rfl rfl (hO.ext e24) (Ow.rd (Ow.new (xs:=[r]) (sz:=5) (enc:=qv) (base:=w3.heap.size) k4 (Nat.le_of_eq z4) rfl (fun _ _=>rfl) (Nat.le_of_ble_eq_true rfl))) (jH _) (by simp only [List.length_cons,List.length_nil]; omega) (Nat.le_trans hB e24.size)<|fun v5 w5 o5 z5 g5 a5=>?_
    have B5 : Below B w4 w5:=g5 _ (Below.refl _ _)
    refine QN (.plain rfl) rfl rfl Tryz.sizeOf35 rfl rfl (by obtain ⟨A9,c9,e9⟩:=o5.rd.shape; rw [e9]; rfl) (JN B5 hb (kb.ext e24)) (ltb rfl)<|fun w6 hw6 k6=>qZ<|fin_n ?_
    have hp : YH xs r = xs ++ [r]:=by unfold YH; rw [if_pos hf]
    refine ⟨_,rfl,v5,k6,by rw [hp]; exact Ow.wr o5 hw6 hb,Nat.le_trans (Nat.le_trans e24.size B5.size) hw6.grown.size,Below.trans (Below.trans (e24.mono (by omega)) (B5.mono (by omega))) (hw6.below (Nat.le_refl _)),fun β e sz base enc q zs hq h hd=>?_⟩
    obtain ⟨h1,h2⟩:=a5 (h.ext e24) hd
    exact ⟨h1.wr hw6 hq,h2⟩
  · refine qj (cb (decide_eq_false hf))<|qp<|fin_n ?_
    have hp : YH xs r = xs:=by unfold YH; rw [if_neg hf]
    exact ⟨_,rfl,v,kb.ext e23,by rw [hp]; exact hO.ext e23,e23.size,e23.mono (by omega),fun β e sz base enc q zs hq h hd=>⟨h.ext e23,hd⟩⟩
abbrev BtS (σ : Fr) (v1 vT : Value) (b6 n i : Nat) : Prop:=σ 1 = v1∧σ 6 = .pointer (some ⟨b6,0,none⟩)∧σ 7 = .func (.func 174) #[] #[.pointer (some ⟨b6,0,none⟩)]∧σ 17 = vT∧σ 18 = .int .i64 (n : Int)∧σ 19 = .int .i64 (i : Int)
/-- What the walk holds: the box,the row in it,the touched paths. -/
structure BtW (w W : World) (b6 C B : Nat) (v vT : Value) (T : List (List UInt8)) (xs : List Rec) : Prop where
  box : Blk W b6 #[v] 35
  row : Ow 52 5 qv B W v xs
  tch : Ow 9 1 vI C W vT T
  dis : y7 v vT
  ext : Ext w W
  big : B≤W.heap.size
theorem BtW.on {w W W' : World} {b6 C B : Nat} {v vT : Value} {T : List (List UInt8)} {xs : List Rec} (h : BtW w W b6 C B v vT T xs) (e : Ext W W') : BtW w W' b6 C B v vT T xs:=
  ⟨h.box.ext e,h.row.ext e,h.tch.ext e,h.dis,Ext.trans h.ext e,Nat.le_trans h.big e.size⟩
theorem BtW.calls {w W : World} {b6 C B : Nat} {v vT : Value} {T : List (List UInt8)} {xs : List Rec} (h : BtW w W b6 C B v vT T xs) (h1 : w.heap.size ≤ b6) (h2 : b6 < C) (h3 : C ≤ B) (hx : xs.length ≤ 1000000) (r : Rec) :
    Calls Tryz.prog 174 (#[] ++ #[.agg (qv r).toArray] ++ #[.pointer (some ⟨b6,0,none⟩)]) W (Rt (fun _ W'=>∃ v',BtW w W' b6 C B v' vT T (YH xs r)∧KeepA b6 v v' W W')):=by
  refine Calls.mono (Jn.put (b:=b6) (B:=B) (r:=r) (by omega) h.box h.row h.big hx) ?_
  rintro e W' ⟨u,rfl,v',k1,k2,k3,k4,k5⟩
  have ht:=k5 _ _ _ _ _ _ _ h2 h.tch h.dis
  exact ⟨u,rfl,v',⟨k1,k2,ht.1,ht.2,Below.trans h.ext (k4.mono h1),Nat.le_trans h.big k3⟩,k5⟩
theorem node_at {W : World} {b : Nat} {n : Nd} (h : Rd 4 qJ W (.slice (some ⟨b,0,none⟩) 1 1) [n]) : At W ⟨b,0,none⟩ (qJ n):=by
  obtain ⟨ad,c,hv,hA⟩:=h.at (qW (show 0 < [n].length by simp))
  injection hv with h1 _ _
  injection h1 with h1
  have h2 : ad.add (((0 : Nat) : Int).toNat * 4) = ad:=by rw [← h1]; rfl
  rw [h2] at hA
  rw [h1]; exact hA
theorem Gn.calls {w : World} {a0 a1 : List Nd} (gv : GV 0 w) {v_a0 : Value} (f_a0 : Rd 4 qJ w v_a0 a0) {v_a1 : Value} (f_a1 : Rd 4 qJ w v_a1 a1) (h0 : qX a0 = true) (h1 : qX a1 = true) :
    Calls Tryz.prog 109 #[v_a0,v_a1] w (Rt (RT 52 5 qv w ((jw a0 a1).1) (.int .i64 ((jw a0 a1).2)))):=by
  have l0:=jS h0
  have l1:=jS h1
  have w1k:=j0 h1
  have p0 : ∀ x ∈ a0,x.path.length≤1048576:=fun x hx=>jG (yY ((j0 h0).ok x hx))
  have p1 : ∀ x ∈ a1,x.path.length≤1048576:=fun x hx=>jG (yY (w1k.ok x hx))
  have hok : ∀ q ∈ yV a0 a1,qI q = true:=fun q hq=>QT h0 h1 hq
  have htl:=J4 a0 a1
  have hpn:=J0 a0 a1
  have hpok:=JR h0 h1
  have hbl : yD a0 a1 = (jy (Vf a0 a1)).map (yh a1):=rfl
  have hpd : Vf a0 a1 = (yV a0 a1).foldl (stI a1) []:=rfl
  have hbc : jw a0 a1 = if 16 < (yD a0 a1).length then ([],6) else (yD a0 a1,0):=rfl
  generalize yD a0 a1 = L at hbl hbc
  generalize Vf a0 a1 = PS at hpn hpok hbl hpd
  refine qk Tryz.func109 rfl (Nat.le_of_ble_eq_true rfl) Tryz.ntmps109 rfl ?_
  refine wr<|lp rfl (qz (v:=.slice none 0 0) rfl)<|lp rfl (qz (v:=.int .i64 0) rfl)<|nx<|
    wr<|yz (.plain rfl) rfl (ltb rfl) rfl Tryz.underlying35 Tryz.sizeOf52 Tryz.zeroValue52 rfl rfl rfl (vs:=[]) rfl (vH rfl)<|fun b13 w1 z1 z1' e1 k1=>jK (.plain rfl) rfl (ltb rfl) rfl Tryz.zeroValue35<|fun b6 w2 z2 z2' e2 k2=>
    QN (.plain rfl) rfl rfl Tryz.sizeOf35 rfl rfl rfl k2 (ltb rfl)<|fun w3 hw3 k3=>nx<|wr<|lp rfl (QZ (vs:=#[]) (us:=#[.pointer (some ⟨b6,0,none⟩)]) rfl rfl)<|lp rfl (qz (v:=.func (.func 174) #[] #[.pointer (some ⟨b6,0,none⟩)]) rfl)<|nx ?_
  have hb6 : w.heap.size≤b6:=by have:=e1.size; omega
  have e3 : Ext w w3:=Ext.wr (e1.t e2) hw3 hb6 (Nat.le_refl _)
  have k3' : Blk w3 b6 #[.slice (some ⟨b13,0,none⟩) 0 0] 35:=k3
  have l3:=k3'.lt
  refine qi<|wr<|lp rfl (xm v_a0 rfl)<|lp rfl (xm v_a1 rfl)<|vJ (.plain rfl) rfl (ltb rfl) rfl Tryz.call175 (qT.calls (w:=w3) (a0:=a0) (a1:=a1) (GV.ext gv e3) (f_a0.ext e3) (f_a1.ext e3) (by omega) (by omega) p0 p1) rfl<|fun vT w4 e4 oT=>?_
  generalize yV a0 a1 = T at hok htl hpd oT
  refine lp rfl (vc Tryz.underlying44 rfl oT.rd)<|lp rfl (qd (v:=.int .i64 0) rfl)<|nx ?_
  have hCB:=e4.size
  refine vv (fun s0 σ W=>∃ v,σ 6 = .pointer (some ⟨b6,0,none⟩)∧BtW w W b6 w3.heap.size w4.heap.size v vT T (PS.map (yh a1))∧PS.length≤40 * T.length) ?_ ?_
  · refine qB<|vh (fun s0 m σ W=>∃ (i : Nat) (v : Value),i + m = T.length∧BtS σ v_a1 vT b6 T.length i∧BtW w W b6 w3.heap.size w4.heap.size v vT T (((T.take i).foldl (stI a1) []).map (yh a1))∧((T.take i).foldl (stI a1) []).length≤40 * i) T.length
      ⟨0,.slice (some ⟨b13,0,none⟩) 0 0,by omega,⟨rfl,rfl,rfl,rfl,rfl,rfl⟩,⟨k3'.ext e4,Ow.zero,oT,y7.zero,Ext.trans e3 e4,Nat.le_refl _⟩,by simp⟩ ?_
    rintro m s1 W1 ⟨i,v,him,⟨q1,q6,q7,q17,q18,q19⟩,hW,hlen⟩
    refine wr<|lp rfl (vw q19 q18)<|nx ?_
    by_cases hi : i < T.length
    · have hq:=hok (gt T (i : Int)) (by rw [vr,vS hi]; exact List.getElem_mem hi)
      have htk : (T.take (i + 1)).foldl (stI a1) [] = stI a1 ((T.take i).foldl (stI a1) []) (gt T (i : Int)):=by
        rw [List.take_succ_eq_append_getElem hi,List.foldl_append,vr,vS hi]; rfl
      generalize (T.take i).foldl (stI a1) [] = ps at hW hlen htk
      have hql:=jQ hq
      have hal:=G5 (gt T (i : Int))
      refine qi<|qn (cb (decide_eq_true (by omega)))<|qp<|qf<|qi ?_
      refine vv (fun s0 σ W=>∃ v,BtS σ v_a1 vT b6 T.length i∧BtW w W b6 w3.heap.size w4.heap.size v vT T ((stI a1 ps (gt T (i : Int))).map (yh a1))) ?_ ?_
      · refine qB<|wr<|vo (.plain rfl) rfl (ltb rfl) rfl Tryz.underlying44 Tryz.sizeOf9 q17 hW.tch.rd q19 (qW hi)<|fun p1 hp1=>lp rfl (yj Tryz.isAgg9 rfl hp1 rfl)<|lp rfl (qz (v:=S (gt T (i : Int))) rfl)<|nx ?_
        generalize gt T (i : Int) = q at hq htk hql hal
        have hnk:=Yr w1k (p:=q)
        refine wr<|lp rfl (qd q1)<|lp rfl (qd (v:=S q) rfl)<|lc rfl rfl Tryz.call176 (yu.calls (w:=W1) (a0:=a1) (a1:=q) (f_a1.ext hW.ext) (by omega)) rfl<|fun w5 e5=>?_
        have hrn : vR a1 q ≠ none→qM (nodeAt a1 q) = yh a1 q:=JH
        have hcd : Va a1 q = !(decide ((nodeAt a1 q).kind = 0) && !yd a1 (qe q)):=rfl
        generalize nodeAt a1 q = n at hnk hrn hcd
        refine jK (.plain rfl) rfl (ltb rfl) rfl Tryz.zeroValue91<|fun b10 w6 z6 z6' e6 k6=>ji (.plain rfl) rfl rfl Tryz.sizeOf91 rfl (vs:=qJ n) rfl rfl rfl rfl k6<|fun w7 h7 k7=>nx ?_
        have hb10 : W1.heap.size≤b10:=by have:=e5.size; omega
        have e7 : Ext W1 w7:=Ext.wr (e5.t e6) h7 hb10 (Nat.le_refl _)
        have hW7:=hW.on e7
        have oN : Ow 91 4 qJ W1.heap.size w7 (.slice (some ⟨b10,0,none⟩) 1 1) [n]:=Ow.new (xs:=[n]) (sz:=4) (enc:=qJ) k7 hb10 (by simp) (fun _ _=>rfl) (Nat.le_of_ble_eq_true rfl)
        have dN : y7 v (.slice (some ⟨b10,0,none⟩) 1 1):=y7.of oN hW.row.hb
        have hb6W : b6 < W1.heap.size:=hW.box.lt
        refine qi<|qi<|vv (fun s0 σ W=>BtS σ v_a1 vT b6 T.length i∧σ 9 = S q∧σ 10 = .pointer (some ⟨b10,0,none⟩)∧σ 35 = .bool (!Va a1 q)∧Ext w7 W) ?_ ?_
        · refine qK<|lp rfl (qc Tryz.underlying91 rfl Tryz.sizeOf3 rfl rfl)<|lp rfl (vX Tryz.isAgg3 (j:=0) (Blk.at0 k7) rfl rfl)<|lp rfl (jo rfl rfl)<|lp rfl (qd (v:=.bool (decide (n.kind = 0))) rfl) ?_
          by_cases hk : n.kind = 0
          · have hk1:=decide_eq_true hk
            refine lg rfl rfl rfl rfl (cb hk1) (qd q1)<|lg rfl rfl rfl rfl (cb hk1) (qd (v:=S q) rfl)<|
              vY (tg rfl rfl rfl (cb hk1)) rfl (ltb rfl) rfl Tryz.call92 (yr.calls (w:=w7) (a0:=q) (by omega)) rfl<|fun w8 e8=>vY (tg rfl rfl rfl (cb hk1)) rfl (ltb rfl) rfl Tryz.call91 (jk.calls (w:=w8) (a0:=a1) (a1:=qe q) (f_a1.ext (Ext.trans hW7.ext e8)) (by omega)) rfl<|fun w9 e9=>
              lg rfl rfl rfl rfl (cb hk1) (yG rfl)<|lp rfl (qF (b:=true) (v:=.bool (!yd a1 (qe q))) (cb hk1) rfl)<|nx ?_
            exact ⟨⟨q1,q6,q7,q17,q18,q19⟩,rfl,rfl,by rw [hcd,hk1]; simp; rfl,Ext.trans e8 e9⟩
          · have hk1:=decide_eq_false hk
            refine ls rfl rfl rfl (cb hk1) rfl<|ls rfl rfl rfl (cb hk1) rfl<|ls rfl rfl rfl (cb hk1) rfl<|ls rfl rfl rfl (cb hk1) rfl<|ls rfl rfl rfl (cb hk1) rfl<|
              lp rfl (qF (b:=false) (v:=.bool false) (cb hk1) rfl)<|nx ?_
            exact ⟨⟨q1,q6,q7,q17,q18,q19⟩,rfl,rfl,by rw [hcd,hk1]; simp; rfl,Ext.refl _⟩
        · rintro s2 W2 ⟨⟨q1,q6,q7,q17,q18,q19⟩,q9,q10,q35,eW2⟩
          refine qf ?_
          have hW2:=hW7.on eW2
          rcases qH (Va a1 q) with hc | hc
          · rw [hc] at q35
            have hst : stI a1 ps q = yU ps (yv q ++ [q]):=by unfold stI; rw [if_pos hc]
            have hanc : ∀ z ∈ yv q,vR a1 z ≠ none:=fun z hz=>X8 w1k hc hz
            rw [hst,YD]
            refine qj q35<|qp<|qf<|qi<|wr<|lp rfl (qd q9)<|vJ (.plain rfl) rfl (ltb rfl) rfl Tryz.call141 (ve.calls (w:=W2) (a0:=q) (by omega)) rfl<|fun v37 w8 e8 o8=>?_
            generalize yv q = qs at hal hst hanc o8
            refine lp rfl (vc Tryz.underlying44 rfl o8.rd)<|lp rfl (qd (v:=.int .i64 0) rfl)<|nx ?_
            have hb6W2 : b6 < W2.heap.size:=hW2.box.lt
            refine vv (fun s0 σ W=>∃ v,BtS σ v_a1 vT b6 T.length i∧σ 9 = S q∧σ 10 = .pointer (some ⟨b10,0,none⟩)∧BtW w W b6 w3.heap.size w4.heap.size v vT T ((yU ps qs).map (yh a1))∧Ow 91 4 qJ W1.heap.size W (.slice (some ⟨b10,0,none⟩) 1 1) [n]) ?_ ?_
            · refine qB <| vh (fun s0 m σ W => ∃ (j : Nat) (v : Value), j + m = qs.length ∧ BtS σ v_a1 vT b6 T.length i ∧ σ 9 = S q ∧ σ 10 = .pointer (some ⟨b10, 0, none⟩) ∧ σ 37 = v37 ∧ σ 38 = .int .i64 (qs.length : Int) ∧ σ 39 = .int .i64 (j : Int) ∧ BtW w W b6 w3.heap.size w4.heap.size v vT T ((yU ps (qs.take j)).map (yh a1)) ∧
                  Ow 91 4 qJ W1.heap.size W (.slice (some ⟨b10,0,none⟩) 1 1) [n]∧y7 v (.slice (some ⟨b10,0,none⟩) 1 1)∧Ow 9 1 vI W2.heap.size W v37 qs∧y7 v v37) qs.length
                ⟨0,v,by omega,⟨q1,q6,q7,q17,q18,q19⟩,q9,q10,rfl,rfl,rfl,hW2.on e8,oN.ext (Ext.trans eW2 e8),dN,o8,y7.of o8 hW2.row.hb⟩ ?_
              rintro m3 s3 W3 ⟨j,v3,hjm,⟨q1,q6,q7,q17,q18,q19⟩,q9,q10,q37,q38,q39,hW3,oN3,dN3,o3,d3⟩
              refine wr<|lp rfl (vw q39 q38)<|nx ?_
              by_cases hj : j < qs.length
              · have hzm : gt qs (j : Int) ∈ qs:=by rw [vr,vS hj]; exact List.getElem_mem hj
                have hzt : yU ps (qs.take (j + 1)) = QJ (yU ps (qs.take j)) (gt qs (j : Int)):=by
                  rw [List.take_succ_eq_append_getElem hj,YD,vr,vS hj]
                have hzl:=Q0 (qs.take j) ps
                have hzk : (qs.take j).length≤qs.length:=by simp; omega
                refine qi<|qn (cb (decide_eq_true (by omega)))<|qp<|qf<|qi<|qB<|wr<|vo (.plain rfl) rfl (ltb rfl) rfl Tryz.underlying44 Tryz.sizeOf9 q37 o3.rd q39 (qW hj)<|fun p2 hp2=>lp rfl (yj Tryz.isAgg9 rfl hp2 rfl)<|lp rfl (qz (v:=S (gt qs (j : Int))) rfl)<|nx ?_
                generalize gt qs (j : Int) = z at hzm hzt
                have hrz : qM (nodeAt a1 z) = yh a1 z:=JH (hanc z hzm)
                have hw : IntKind.wrap .i64 ((j : Int) + 1) = ((j + 1 : Nat) : Int):=by rw [Go.UL.wrap_small (by omega) (by omega)]; omega
                refine qK<|lp rfl (qd q7)<|lp rfl (qd q1)<|lp rfl (qd (v:=S z) rfl)<|lc rfl rfl Tryz.call176 (yu.calls (w:=W3) (a0:=a1) (a1:=z) (f_a1.ext hW3.ext) (by omega)) rfl<|fun w9 e9=>lc rfl rfl Tryz.call158 (vN.calls (w:=w9) (a0:=nodeAt a1 z)) rfl<|fun w10 e10=>?_
                rw [hrz]
                have e39 : Ext W3 w10:=Ext.trans e9 e10
                refine VS (vs:=#[.agg (qv (yh a1 z)).toArray]) (.plain rfl) rfl (ltb rfl) rfl rfl Tryz.call174 ((hW3.on e39).calls hb6 l3 hCB (by rw [List.length_map]; omega) (yh a1 z)) rfl<|fun u11 w11 hA11=>?_
                obtain ⟨v11,hW11,ka⟩:=hA11
                rw [Vd,← hzt] at hW11
                obtain ⟨oN11,dN11⟩:=ka _ _ _ _ _ _ _ hb6W (oN3.ext e39) dN3
                obtain ⟨o11,d11⟩:=ka _ _ _ _ _ _ _ hb6W2 (o3.ext e39) d3
                refine qZ<|vM<|qf<|qK<|lp rfl (vp q39 rfl)<|lp rfl (qd (v:=.int .i64 ((j + 1 : Nat) : Int)) (congrArg (Value.int .i64) hw))<|nx ?_
                exact ⟨m3 - 1,by omega,j + 1,v11,by omega,⟨q1,q6,q7,q17,q18,q19⟩,q9,q10,q37,q38,rfl,hW11,oN11,dN11,o11,d11⟩
              · have hje : j = qs.length:=by omega
                rw [hje,List.take_length] at hW3
                refine qi<|qj (cb (decide_eq_false (by omega)))<|vu<|qY<|qY<|vZ ?_
                exact ⟨v3,⟨q1,q6,q7,q17,q18,q19⟩,q9,q10,hW3,oN3⟩
            · rintro s4 W4 ⟨v4,⟨q1,q6,q7,q17,q18,q19⟩,q9,q10,hW4,oN4⟩
              have hA4:=node_at oN4.rd
              have hzl:=Q0 qs ps
              refine qf<|wr<|lp rfl (qc Tryz.underlying91 rfl Tryz.sizeOf3 rfl q10)<|lp rfl (vX Tryz.isAgg3 (j:=0) hA4 rfl rfl)<|lp rfl (jo rfl rfl)<|nx ?_
              by_cases hk : n.kind = 0
              · have hr4 : yh a1 q = ⟨4,q,[],0,false⟩:=by unfold yh; rw [hnk.1 hk]
                refine qn (cb (decide_eq_true hk))<|qK<|lp rfl (qd q7)<|lp rfl (qd q9)<|lp rfl (Vk (vs:=[(0,.int .i64 4),(1,S q)]) (pl:=#[(0,1),(1,1),(2,1),(3,1),(4,1)]) Tryz.underlying52 Tryz.zeroValue52 rfl (fun _=>by kernel_rfl) rfl rfl rfl)<|
                  VS (vs:=#[.agg (qv (⟨4,q,[],0,false⟩ : Rec)).toArray]) (.plain rfl) rfl (ltb rfl) rfl rfl Tryz.call174 (hW4.calls hb6 l3 hCB (by rw [List.length_map]; omega) (⟨4,q,[],0,false⟩ : Rec)) rfl<|fun u11 w11 hA11=>?_
                obtain ⟨v11,hW11,ka⟩:=hA11
                rw [← hr4,Vd] at hW11
                refine qZ<|vM<|qf ?_
                exact ⟨v11,⟨q1,q6,q7,q17,q18,q19⟩,hW11⟩
              · have hr4:=hrn (fun h=>hk (hnk.2 h))
                refine qj (cb (decide_eq_false hk))<|qK<|lp rfl (qd q7)<|lp rfl (vK Tryz.isAgg91 Tryz.sizeOf91 rfl q10 hA4)<|lc rfl rfl Tryz.call158 (vN.calls (w:=W4) (a0:=n)) rfl<|fun w10 e10=>?_
                rw [hr4]
                refine VS (vs:=#[.agg (qv (yh a1 q)).toArray]) (.plain rfl) rfl (ltb rfl) rfl rfl Tryz.call174 ((hW4.on e10).calls hb6 l3 hCB (by rw [List.length_map]; omega) (yh a1 q)) rfl<|fun u11 w11 hA11=>?_
                obtain ⟨v11,hW11,ka⟩:=hA11
                rw [Vd] at hW11
                refine qZ<|vM<|qf ?_
                exact ⟨v11,⟨q1,q6,q7,q17,q18,q19⟩,hW11⟩
          · rw [hc] at q35
            have hst : stI a1 ps q = ps:=by unfold stI; rw [hc]; rfl
            rw [hst]
            refine qn q35<|vu<|qY<|vZ<|qf ?_
            exact ⟨v,⟨q1,q6,q7,q17,q18,q19⟩,hW2⟩
      · rintro s5 W5 ⟨v5,⟨q1,q6,q7,q17,q18,q19⟩,hW5⟩
        have hw : IntKind.wrap .i64 ((i : Int) + 1) = ((i + 1 : Nat) : Int):=by rw [Go.UL.wrap_small (by omega) (by omega)]; omega
        have hsl : (stI a1 ps (gt T (i : Int))).length≤ps.length + 40:=by
          unfold stI; split
          · have:=Q0 (yv (gt T (i : Int)) ++ [gt T (i : Int)]) ps
            rw [List.length_append] at this
            simp only [List.length_cons,List.length_nil] at this; omega
          · omega
        refine qf<|qK<|lp rfl (vp q19 rfl)<|lp rfl (qd (v:=.int .i64 ((i + 1 : Nat) : Int)) (congrArg (Value.int .i64) hw))<|nx ?_
        exact ⟨m - 1,by omega,i + 1,v5,by omega,⟨q1,q6,q7,q17,q18,rfl⟩,by rw [htk]; exact hW5,by rw [htk]; omega⟩
    · have hie : i = T.length:=by omega
      rw [hie,List.take_length,← hpd] at hW hlen
      refine qi<|qj (cb (decide_eq_false (by omega)))<|vu<|qY<|qY<|vZ ?_
      exact ⟨v,q6,hW,hlen⟩
  · rintro s6 W6 ⟨v6,q6,hW6,hlen⟩
    refine qf<|wr<|lp rfl (qy (v:=v6) Tryz.isAgg35 hW6.box q6 rfl)<|jX (.plain rfl) rfl (ltb rfl) rfl Tryz.call177 (Yo.calls hW6.row (GV.ext gv hW6.ext) (by omega) (fun x hx=>by
      obtain ⟨p,hp,rfl⟩:=List.mem_map.1 hx
      rw [jO]; exact jG (hpok p hp)) (by rw [List.length_map]; omega)) rfl<|fun u7 w7 hA7=>?_
    obtain ⟨hu7,g7,ys,hy1,hy2,o7⟩:=hA7
    subst hu7
    have B7 : Below w4.heap.size W6 w7:=g7 _ (Below.refl _ _)
    have k7 : Blk w7 b6 #[v6] 35:=JN B7 (by omega) hW6.box
    have e7 : Ext w w7:=Below.trans hW6.ext (B7.mono (by omega))
    have hys : ys = L:=by rw [hbl]; exact Yz hpn hy1 hy2
    rw [hys] at o7
    refine nx<|qi<|wr<|lp rfl (qy (v:=v6) Tryz.isAgg35 k7 q6 rfl)<|lp rfl (vc Tryz.underlying35 rfl o7.rd)<|lp rfl (j1 rfl rfl)<|nx ?_
    by_cases h16 : 16 < L.length
    · rw [hbc,if_pos h16]
      refine qn (cb (decide_eq_true (by omega)))<|wr<|lp rfl (qz (v:=.slice none 0 0) rfl)<|lp rfl (qz (v:=.int .i64 6) rfl)<|nx<|qr<|qo<|qu ?_
      exact YA rfl rfl e7 (Ow.zero (base:=w.heap.size)) (Nat.le_refl _)
    · rw [hbc,if_neg h16]
      refine qj (cb (decide_eq_false (by omega)))<|qp<|qf<|wr<|lp rfl (qy (v:=v6) Tryz.isAgg35 k7 q6 rfl)<|lp rfl (xa v6 rfl)<|lp rfl (qz (v:=.int .i64 0) rfl)<|nx<|qr<|qu ?_
      exact YA rfl rfl e7 o7 (Nat.le_trans e3.size e4.size)

/-! impl.LayerBetween -/
theorem vk.walk {w : World} {a0 : List Nd} {a1 : List Nd} (gv : GV 0 w) {v_a0 : Value} (f_a0 : Rd 4 qJ w v_a0 a0) {v_a1 : Value} (f_a1 : Rd 4 qJ w v_a1 a1) {r : List Rec × Int} (H : vk.sh a0 a1 = some r) :
  Calls Tryz.prog 42 #[v_a0,v_a1] w (Rt (RT 52 5 qv w r.1 (.int .i64 r.2))):=by
 unfold vk.sh at H
 refine qk Tryz.func42 rfl (Nat.le_of_ble_eq_true rfl) Tryz.ntmps42 rfl ?_
 refine wr<|lp rfl (xa (.slice none 0 0) rfl)<|lp rfl (xa (.int .i64 0) rfl)<|nx<|qi<|wr<|lp rfl (xm v_a0 rfl)<|lp rfl (xm v_a1 rfl) ?_
 obtain ⟨c1,H⟩:=qa H
 obtain ⟨c2,H⟩:=qa H
 obtain ⟨c3,H⟩:=qa H
 obtain ⟨c4,H⟩:=qa H
 refine lc rfl rfl Tryz.call108 (yw.calls (w:=w) (a0:=a0) (a1:=a1) gv f_a0 f_a1 (od c1) (od c2) (od c3) (od c4)) rfl<|fun w5 e6=>lp rfl (xa (.int .i64 (treesCode a0 a1)) rfl)<|nx<|wr<|lp rfl (xm (.int .i64 (treesCode a0 a1)) rfl)<|lp rfl (jf rfl rfl)<|nx ?_
 rcases qg H with ⟨q7,H⟩ | ⟨q7,H⟩
 ·refine qn (cb q7)<|wr<|lp rfl (xm (.int .i64 (treesCode a0 a1)) rfl)<|lp rfl (xa (.slice none 0 0) rfl)<|lp rfl (xa (.int .i64 (treesCode a0 a1)) rfl)<|nx<|qr<|qo<|qu ?_
  obtain rfl:=si H
  exact YA rfl rfl e6 (Ow.zero (base:=w.heap.size)) (Nat.le_refl _)
 ·refine qj (cb q7)<|qp<|qf<|wr<|lp rfl (xm v_a0 rfl)<|lp rfl (xm v_a1 rfl) ?_
  obtain ⟨c8,H⟩:=qa H
  obtain ⟨c9,H⟩:=qa H
  refine YP (.plain rfl) rfl (ltb rfl) rfl Tryz.call109 (Gn.calls (w:=w5) (a0:=a0) (a1:=a1) (GV.ext gv e6) (Rd.ext f_a0 e6) (Rd.ext f_a1 e6) (od c8) (od c9)) rfl<|fun v12 w10 e11 o13=>lp rfl (yA (v:=v12) rfl rfl)<|lp rfl (yA (v:=(.int .i64 ((jw a0 a1).2))) rfl rfl)<|lp rfl (xa v12 rfl)<|lp rfl (xa (.int .i64 ((jw a0 a1).2)) rfl)<|nx<|qr<|qu ?_
  obtain rfl:=si H
  exact YA rfl rfl (e6.t e11) o13 (e6).size
theorem vk.calls {w : World} {a0 : List Nd} {a1 : List Nd} (gv : GV 0 w) {v_a0 : Value} (f_a0 : Rd 4 qJ w v_a0 a0) {v_a1 : Value} (f_a1 : Rd 4 qJ w v_a1 a1) (h0 : a0.length≤1048576) (h1 : a1.length≤1048576) (h2 : ∀ x ∈ a0,x.path.length≤1048576) (h3 : ∀ x ∈ a1,x.path.length≤1048576) :
  Calls Tryz.prog 42 #[v_a0,v_a1] w (Rt (RT 52 5 qv w ((qb a0 a1).1) (.int .i64 ((qb a0 a1).2)))):=vk.walk gv f_a0 f_a1 (vk.eq a0 a1 h0 h1 h2 h3)
/-! laws.FnExactLayerBetween -/
theorem law_LayerBetween.walk {w : World} {a0 : List Nd} {a1 : List Nd} (gv : GV 0 w) {v_a0 : Value} (f_a0 : Rd 4 qJ w v_a0 a0) {v_a1 : Value} (f_a1 : Rd 4 qJ w v_a1 a1) {r : Bool} (H : law_LayerBetween.sh a0 a1 = some r) :
  Calls Tryz.prog 6 #[v_a0,v_a1] w (Rt (RP w (.bool r))):=by
 unfold law_LayerBetween.sh at H
 refine qk Tryz.func6 rfl (Nat.le_of_ble_eq_true rfl) Tryz.ntmps6 rfl ?_
 refine wr<|lp rfl (xa (.bool false) rfl)<|nx<|wr<|lp rfl (xa (.int .i64 1048576) rfl)<|nx<|wr<|lp rfl (xm v_a0 rfl)<|lp rfl (xm (.int .i64 1048576) rfl) ?_
 obtain ⟨c1,H⟩:=qa H
 obtain ⟨c2,H⟩:=qa H
 obtain ⟨c3,H⟩:=qa H
 obtain ⟨c4,H⟩:=qa H
 refine lc rfl rfl Tryz.call39 (vB.calls (w:=w) (a0:=a0) (a1:=1048576) f_a0 (od c1) (od c2) (od c3) (od c4)) rfl<|fun w5 e6=>lp rfl (xa (.int .i64 (yX a0 1048576)) rfl)<|nx<|qi<|wr<|lp rfl (xm (.int .i64 (yX a0 1048576)) rfl)<|lp rfl (vw rfl rfl)<|nx ?_
 rcases qg H with ⟨q7,H⟩ | ⟨q7,H⟩
 ·refine qn (cb q7)<|wr<|lp rfl (xa (.bool true) rfl)<|nx<|qr<|qo<|qu ?_
  obtain rfl:=si H
  exact qS rfl e6
 ·refine qj (cb q7)<|qp<|qf<|wr<|lp rfl (xm v_a1 rfl)<|lp rfl (xm (.int .i64 (yX a0 1048576)) rfl) ?_
  obtain ⟨c8,H⟩:=qa H
  obtain ⟨c9,H⟩:=qa H
  obtain ⟨c10,H⟩:=qa H
  obtain ⟨c11,H⟩:=qa H
  refine lc rfl rfl Tryz.call39 (vB.calls (w:=w5) (a0:=a1) (a1:=(yX a0 1048576)) (Rd.ext f_a1 e6) (od c8) (od c9) (od c10) (od c11)) rfl<|fun w12 e13=>lp rfl (xa (.int .i64 (yX a1 (yX a0 1048576))) rfl)<|nx<|qi<|wr<|lp rfl (xm (.int .i64 (yX a1 (yX a0 1048576))) rfl)<|lp rfl (vw rfl rfl)<|nx ?_
  rcases qg H with ⟨q14,H⟩ | ⟨q14,H⟩
  ·refine qn (cb q14)<|wr<|lp rfl (xa (.bool true) rfl)<|nx<|qr<|qo<|qu ?_
   obtain rfl:=si H
   exact qS rfl (e6.t e13)
  ·refine qj (cb q14)<|qp<|qf<|wr<|lp rfl (xm v_a0 rfl) ?_
   obtain ⟨c15,H⟩:=qa H
   refine vJ (.plain rfl) rfl (ltb rfl) rfl Tryz.call41 (qV.calls (w:=w12) (a0:=a0) (Rd.ext f_a0 (e6.t e13)) (od c15)) rfl<|fun v18 w16 e17 o19=>lp rfl (xm v_a1 rfl) ?_
   obtain ⟨c20,H⟩:=qa H
   refine vJ (.plain rfl) rfl (ltb rfl) rfl Tryz.call41 (qV.calls (w:=w16) (a0:=a1) (Rd.ext f_a1 ((e6.t e13).t e17)) (od c20)) rfl<|fun v23 w21 e22 o24=>?_
   obtain ⟨c25,H⟩:=qa H
   obtain ⟨c26,H⟩:=qa H
   obtain ⟨c27,H⟩:=qa H
   obtain ⟨c28,H⟩:=qa H
   refine YP (.plain rfl) rfl (ltb rfl) rfl Tryz.call40 (vt.calls (w:=w21) (a0:=a0) (a1:=a1) (Ow.rd (Ow.ext o19 e22)) (Ow.rd o24) (od c25) (od c26) (od c27) (od c28)) rfl<|fun v31 w29 e30 o32=>lp rfl (xm (.tuple #[v31,(.int .i64 ((qb a0 a1).2))]) rfl)<|lp rfl (yA (v:=v31) rfl rfl)<|lp rfl (yA (v:=(.int .i64 ((qb a0 a1).2))) rfl rfl)<|lp rfl (xa v31 rfl)<|lp rfl (xa (.int .i64 ((qb a0 a1).2)) rfl)<|nx<|wr<|lp rfl (xm v_a0 rfl) ?_
   obtain ⟨c33,H⟩:=qa H
   refine vJ (.plain rfl) rfl (ltb rfl) rfl Tryz.call41 (qV.calls (w:=w29) (a0:=a0) (Rd.ext f_a0 ((((e6.t e13).t e17).t e22).t e30)) (od c33)) rfl<|fun v36 w34 e35 o37=>lp rfl (xa v36 rfl)<|nx<|wr<|lp rfl (xm v_a1 rfl) ?_
   obtain ⟨c38,H⟩:=qa H
   refine vJ (.plain rfl) rfl (ltb rfl) rfl Tryz.call41 (qV.calls (w:=w34) (a0:=a1) (Rd.ext f_a1 (((((e6.t e13).t e17).t e22).t e30).t e35)) (od c38)) rfl<|fun v41 w39 e40 o42=>lp rfl (xa v41 rfl)<|nx<|wr<|lp rfl (xm v36 rfl)<|lp rfl (xm v41 rfl) ?_
   obtain ⟨c43,H⟩:=qa H
   obtain ⟨c44,H⟩:=qa H
   obtain ⟨c45,H⟩:=qa H
   obtain ⟨c46,H⟩:=qa H
   refine YP (.plain rfl) rfl (ltb rfl) rfl Tryz.call42 (vk.calls (w:=w39) (a0:=a0) (a1:=a1) (GV.ext gv ((((((e6.t e13).t e17).t e22).t e30).t e35).t e40)) (Ow.rd (Ow.ext o37 e40)) (Ow.rd o42) (od c43) (od c44) (od c45) (od c46)) rfl<|fun v49 w47 e48 o50=>lp rfl (xm (.tuple #[v49,(.int .i64 ((qb a0 a1).2))]) rfl)<|lp rfl (yA (v:=v49) rfl rfl)<|lp rfl (yA (v:=(.int .i64 ((qb a0 a1).2))) rfl rfl)<|lp rfl (xa v49 rfl)<|lp rfl (xa (.int .i64 ((qb a0 a1).2)) rfl)<|nx<|qi<|wr<|lp rfl (xm v49 rfl)<|lp rfl (xm v31 rfl) ?_
   obtain ⟨c51,H⟩:=qa H
   refine lc rfl rfl Tryz.call43 (vf.calls (w:=w47) (a0:=(qb a0 a1).1) (a1:=(qb a0 a1).1) (Ow.rd o50) (Ow.rd (Ow.ext o32 ((e35.t e40).t e48))) (od c51)) rfl<|fun w52 e53=>lp rfl (yG rfl)<|lp rfl (qd rfl)<|jb 4 [(50,54)] 53 (.bool ((!(decide (((qb a0 a1).1) = ((qb a0 a1).1)))) || (!decide (((qb a0 a1).2) = ((qb a0 a1).2))))) ?_ ?_
   ·rcases qH (!(decide (((qb a0 a1).1) = ((qb a0 a1).1)))) with b53_ | b53_
    ·exact ls rfl rfl rfl (cb b53_) rfl<|ls rfl rfl rfl (cb b53_) rfl<|ls rfl rfl rfl (cb b53_) rfl<|lp rfl (qF (b:=true) (v:=(.bool true)) (cb b53_) rfl)<|nx ⟨(ku4 kz rfl),(Ye b53_),er⟩
    ·exact lg rfl rfl rfl rfl (cb b53_) (xm (.int .i64 ((qb a0 a1).2)) rfl)<|lg rfl rfl rfl rfl (cb b53_) (xm (.int .i64 ((qb a0 a1).2)) rfl)<|lg rfl rfl rfl rfl (cb b53_) (jf rfl rfl)<|lp rfl (qF (b:=false) (v:=(.bool (!decide (((qb a0 a1).2) = ((qb a0 a1).2))))) (cb b53_) rfl)<|nx ⟨(ku4 kz rfl),(VX b53_),er⟩
   intro s59 w55 K56 h57 e58
   refine nx ?_
   rcases qg H with ⟨q60,H⟩ | ⟨q60,H⟩
   ·refine qn (h57.trans (cb q60))<|wr<|lp rfl (xa (.bool false) rfl)<|nx<|qr<|qo<|qu ?_
    obtain rfl:=si H
    exact qS rfl (((((((((e6.t e13).t e17).t e22).t e30).t e35).t e40).t e48).t e53).t e58)
   ·refine qj (h57.trans (cb q60))<|qp<|qf<|qi<|wr<|lp rfl (xm v36 (K56 8 rfl))<|lp rfl (xm v_a0 (K56 0 rfl)) ?_
    obtain ⟨c61,H⟩:=qa H
    refine vJ (.plain rfl) rfl (ltb rfl) rfl Tryz.call41 (qV.calls (w:=w55) (a0:=a0) (Rd.ext f_a0 (((((((((e6.t e13).t e17).t e22).t e30).t e35).t e40).t e48).t e53).t e58)) (od c61)) rfl<|fun v64 w62 e63 o65=>?_
    obtain ⟨c66,H⟩:=qa H
    refine lc rfl rfl Tryz.call44 (vA.calls (w:=w62) (a0:=a0) (a1:=a0) (Ow.rd (Ow.ext o37 ((((e40.t e48).t e53).t e58).t e63))) (Ow.rd o65) (od c66)) rfl<|fun w67 e68=>lp rfl (yG rfl)<|nx ?_
    rcases qg H with ⟨q69,H⟩ | ⟨q69,H⟩
    ·refine qn (cb q69)<|wr<|lp rfl (xa (.bool false) rfl)<|nx<|qr<|qo<|qu ?_
     obtain rfl:=si H
     exact qS rfl (((((((((((e6.t e13).t e17).t e22).t e30).t e35).t e40).t e48).t e53).t e58).t e63).t e68)
    ·refine qj (cb q69)<|qp<|qf<|qi<|wr<|lp rfl (xm v41 (K56 9 rfl))<|lp rfl (xm v_a1 (K56 1 rfl)) ?_
     obtain ⟨c70,H⟩:=qa H
     refine vJ (.plain rfl) rfl (ltb rfl) rfl Tryz.call41 (qV.calls (w:=w67) (a0:=a1) (Rd.ext f_a1 (((((((((((e6.t e13).t e17).t e22).t e30).t e35).t e40).t e48).t e53).t e58).t e63).t e68)) (od c70)) rfl<|fun v73 w71 e72 o74=>?_
     obtain ⟨c75,H⟩:=qa H
     refine lc rfl rfl Tryz.call44 (vA.calls (w:=w71) (a0:=a1) (a1:=a1) (Ow.rd (Ow.ext o42 (((((e48.t e53).t e58).t e63).t e68).t e72))) (Ow.rd o74) (od c75)) rfl<|fun w76 e77=>lp rfl (yG rfl)<|nx ?_
     rcases qg H with ⟨q78,H⟩ | ⟨q78,H⟩
     ·refine qn (cb q78)<|wr<|lp rfl (xa (.bool false) rfl)<|nx<|qr<|qo<|qu ?_
      obtain rfl:=si H
      exact qS rfl (((((((((((((e6.t e13).t e17).t e22).t e30).t e35).t e40).t e48).t e53).t e58).t e63).t e68).t e72).t e77)
     ·refine qj (cb q78)<|qp<|qf<|wr<|lp rfl (xa (.int .i64 1) rfl)<|nx<|wr<|lp rfl (xm v36 (K56 8 rfl))<|lp rfl (xm (.int .i64 1) rfl) ?_
      obtain ⟨c79,H⟩:=qa H
      obtain ⟨c80,H⟩:=qa H
      obtain ⟨c81,H⟩:=qa H
      refine Gd (.plain rfl) rfl (ltb rfl) rfl Tryz.call45 (qD.calls (w:=w76) (a0:=a0) (a1:=1) (Ow.ext o37 (((((((e40.t e48).t e53).t e58).t e63).t e68).t e72).t e77)) (Ow.hb o37) (od c79) (od c80) (od c81)) rfl<|fun w82 e83 o84=>lp rfl (xa (.int .i64 (1 + 4 * (a0.length : Int))) rfl)<|nx<|wr<|lp rfl (xm v41 (K56 9 rfl))<|lp rfl (xm (.int .i64 (1 + 4 * (a0.length : Int))) rfl) ?_
      obtain ⟨c85,H⟩:=qa H
      obtain ⟨c86,H⟩:=qa H
      obtain ⟨c87,H⟩:=qa H
      refine Gd (.plain rfl) rfl (ltb rfl) rfl Tryz.call45 (qD.calls (w:=w82) (a0:=a1) (a1:=(1 + 4 * (a0.length : Int))) (Ow.later (Ow.ext o42 ((((((e48.t e53).t e58).t e63).t e68).t e72).t e77)) e83 er.size) (Ow.hb o42) (od c85) (od c86) (od c87)) rfl<|fun w88 e89 o90=>lp rfl (xa (.int .i64 ((1 + 4 * (a0.length : Int)) + 4 * (a1.length : Int))) rfl)<|nx<|qi<|wr<|lp rfl (xm (.int .i64 ((1 + 4 * (a0.length : Int)) + 4 * (a1.length : Int))) rfl)<|lp rfl (vw rfl rfl)<|lp rfl (qd rfl) ?_
      obtain ⟨z92,x93,H⟩:=bind_some H
      refine jz 5 [(73,78)] 77 (fun q=>q = z92) ?_ ?_
      ·rcases qg x93 with ⟨b90_,H⟩ | ⟨b90_,H⟩
       ·refine ls rfl rfl rfl (cb b90_) rfl<|ls rfl rfl rfl (cb b90_) rfl<|ls rfl rfl rfl (cb b90_) rfl<|ls rfl rfl rfl (cb b90_) rfl<|lp rfl (qF (b:=true) (v:=(.bool true)) (cb b90_) rfl) ?_
        obtain rfl:=si H
        exact nx ⟨(ku1 (ku4 kz rfl) rfl),⟨_,rfl,rfl⟩,er⟩
       ·refine lg rfl rfl rfl rfl (cb b90_) (xm v49 (K56 10 rfl))<|lg rfl rfl rfl rfl (cb b90_) (xm v31 (K56 6 rfl)) ?_
        obtain ⟨c92,H⟩:=qa H
        refine vY (tg rfl rfl rfl (cb b90_)) rfl (ltb rfl) rfl Tryz.call43 (vf.calls (w:=w88) (a0:=(qb a0 a1).1) (a1:=(qb a0 a1).1) (Ow.rd (Ow.later (Ow.later (Ow.ext o50 (((((e53.t e58).t e63).t e68).t e72).t e77)) e83 e40.size) e89 er.size)) (Ow.rd (Ow.ext o32 (Ext.gr (Ext.gr ((((((((e35.t e40).t e48).t e53).t e58).t e63).t e68).t e72).t e77) e83 er.size) e89 e35.size))) (od c92)) rfl<|fun w93 e94=>lg rfl rfl rfl rfl (cb b90_) (yG rfl)<|lp rfl (qF (b:=false) (v:=(.bool (!(decide (((qb a0 a1).1) = ((qb a0 a1).1)))))) (cb b90_) rfl) ?_
        obtain rfl:=si H
        exact nx ⟨(ku1 (ku4 kz rfl) rfl),⟨_,rfl,rfl⟩,e94⟩
      intro s98 w94 z99 K95 hq h96 e97
      rw [hq] at h96; clear hq
      refine lp rfl (qd h96)<|jb 4 [(79,83)] 82 (.bool (z92 || (!decide (((qb a0 a1).2) = ((qb a0 a1).2))))) ?_ ?_
      ·rcases qH z92 with b99_ | b99_
       ·exact ls rfl rfl rfl (cb b99_) rfl<|ls rfl rfl rfl (cb b99_) rfl<|ls rfl rfl rfl (cb b99_) rfl<|lp rfl (qF (b:=true) (v:=(.bool true)) (cb b99_) rfl)<|nx ⟨(ku4 kz rfl),(Ye b99_),er⟩
       ·exact lg rfl rfl rfl rfl (cb b99_) (xm (.int .i64 ((qb a0 a1).2)) ((K95 11 rfl).trans (K56 11 rfl)))<|lg rfl rfl rfl rfl (cb b99_) (xm (.int .i64 ((qb a0 a1).2)) ((K95 7 rfl).trans (K56 7 rfl)))<|lg rfl rfl rfl rfl (cb b99_) (jf rfl rfl)<|lp rfl (qF (b:=false) (v:=(.bool (!decide (((qb a0 a1).2) = ((qb a0 a1).2))))) (cb b99_) rfl)<|nx ⟨(ku4 kz rfl),(VX b99_),er⟩
      intro s105 w101 K102 h103 e104
      refine nx ?_
      rcases qg H with ⟨q106,H⟩ | ⟨q106,H⟩
      ·refine qn (h103.trans (cb q106))<|wr<|lp rfl (xa (.bool false) rfl)<|nx<|qr<|qo<|qu ?_
       obtain rfl:=si H
       exact qS rfl (((((((e6.t e13).t e17).t e22).t e30).t (Ext.gr (Ext.gr ((((((((e35.t e40).t e48).t e53).t e58).t e63).t e68).t e72).t e77) e83 er.size) e89 e35.size)).t e97).t e104)
      ·refine qj (h103.trans (cb q106))<|qp<|qf<|wr<|lp rfl (xa (.int .i64 1) rfl)<|nx<|wr<|lp rfl (xm v49 ((K102 10 rfl).trans ((K95 10 rfl).trans (K56 10 rfl))))<|lp rfl (xm (.int .i64 1) rfl) ?_
       obtain ⟨c107,H⟩:=qa H
       obtain ⟨c108,H⟩:=qa H
       obtain ⟨c109,H⟩:=qa H
       refine Gd (.plain rfl) rfl (ltb rfl) rfl Tryz.call46 (qq.calls (w:=w101) (a0:=(qb a0 a1).1) (a1:=1) (Ow.ext (Ow.later (Ow.later (Ow.ext o50 (((((e53.t e58).t e63).t e68).t e72).t e77)) e83 e40.size) e89 er.size) (e97.t e104)) (Ow.hb o50) (od c107) (od c108) (od c109)) rfl<|fun w110 e111 o112=>lp rfl (xa (.int .i64 (1 + 5 * (((qb a0 a1).1).length : Int))) rfl)<|nx<|wr<|lp rfl (xa (.int .i64 1) rfl)<|nx<|wr<|lp rfl (xm v49 ((K102 10 rfl).trans ((K95 10 rfl).trans (K56 10 rfl))))<|lp rfl (xm (.int .i64 1) rfl) ?_
       obtain ⟨c113,H⟩:=qa H
       obtain ⟨c114,H⟩:=qa H
       obtain ⟨c115,H⟩:=qa H
       refine lc rfl rfl Tryz.call47 (vd.calls (w:=w110) (a0:=(yp ((qb a0 a1).1).length 1)) (a1:=1) (Ow.rd o112) (od c113) (od c114) (od c115)) rfl<|fun w116 e117=>lp rfl (xa (.int .i64 (j6 (yp ((qb a0 a1).1).length 1) 1)) rfl)<|nx<|qi<|wr<|lp rfl (xm (.int .i64 (j6 (yp ((qb a0 a1).1).length 1) 1)) rfl)<|lp rfl (vw rfl rfl)<|nx ?_
       rcases qg H with ⟨q118,H⟩ | ⟨q118,H⟩
       ·refine qn (cb q118)<|wr<|lp rfl (xa (.bool false) rfl)<|nx<|qr<|qo<|qu ?_
        obtain rfl:=si H
        exact qS rfl ((((((e6.t e13).t e17).t e22).t e30).t (Ext.gr (Ext.trans (Ext.trans (Ext.gr (Ext.gr ((((((((e35.t e40).t e48).t e53).t e58).t e63).t e68).t e72).t e77) e83 er.size) e89 e35.size) e97) e104) e111 (e35.t e40).size)).t e117)
       ·refine qj (cb q118)<|qp<|qf<|qi<|wr<|lp rfl (xm (.int .i64 (j6 (yp ((qb a0 a1).1).length 1) 1)) rfl)<|lp rfl (xm (.int .i64 (1 + 5 * (((qb a0 a1).1).length : Int))) rfl)<|lp rfl (jf rfl rfl)<|nx ?_
        rcases qg H with ⟨q119,H⟩ | ⟨q119,H⟩
        ·refine qn (cb q119)<|wr<|lp rfl (xa (.bool false) rfl)<|nx<|qr<|qo<|qu ?_
         obtain rfl:=si H
         exact qS rfl ((((((e6.t e13).t e17).t e22).t e30).t (Ext.gr (Ext.trans (Ext.trans (Ext.gr (Ext.gr ((((((((e35.t e40).t e48).t e53).t e58).t e63).t e68).t e72).t e77) e83 er.size) e89 e35.size) e97) e104) e111 (e35.t e40).size)).t e117)
        ·refine qj (cb q119)<|qp<|qf<|wr<|lp rfl (xm v_a0 ((K102 0 rfl).trans ((K95 0 rfl).trans (K56 0 rfl)))) ?_
         obtain ⟨c120,H⟩:=qa H
         refine vJ (.plain rfl) rfl (ltb rfl) rfl Tryz.call41 (qV.calls (w:=w116) (a0:=a0) (Rd.ext f_a0 ((((((e6.t e13).t e17).t e22).t e30).t (Ext.gr (Ext.trans (Ext.trans (Ext.gr (Ext.gr ((((((((e35.t e40).t e48).t e53).t e58).t e63).t e68).t e72).t e77) e83 er.size) e89 e35.size) e97) e104) e111 (e35.t e40).size)).t e117)) (od c120)) rfl<|fun v123 w121 e122 o124=>lp rfl (xm v_a1 ((K102 1 rfl).trans ((K95 1 rfl).trans (K56 1 rfl)))) ?_
         obtain ⟨c125,H⟩:=qa H
         refine vJ (.plain rfl) rfl (ltb rfl) rfl Tryz.call41 (qV.calls (w:=w121) (a0:=a1) (Rd.ext f_a1 (((((((e6.t e13).t e17).t e22).t e30).t (Ext.gr (Ext.trans (Ext.trans (Ext.gr (Ext.gr ((((((((e35.t e40).t e48).t e53).t e58).t e63).t e68).t e72).t e77) e83 er.size) e89 e35.size) e97) e104) e111 (e35.t e40).size)).t e117).t e122)) (od c125)) rfl<|fun v128 w126 e127 o129=>?_
         obtain ⟨c130,H⟩:=qa H
         obtain ⟨c131,H⟩:=qa H
         obtain ⟨c132,H⟩:=qa H
         obtain ⟨c133,H⟩:=qa H
         refine YP (.plain rfl) rfl (ltb rfl) rfl Tryz.call42 (vk.calls (w:=w126) (a0:=a0) (a1:=a1) (GV.ext gv ((((((((e6.t e13).t e17).t e22).t e30).t (Ext.gr (Ext.trans (Ext.trans (Ext.gr (Ext.gr ((((((((e35.t e40).t e48).t e53).t e58).t e63).t e68).t e72).t e77) e83 er.size) e89 e35.size) e97) e104) e111 (e35.t e40).size)).t e117).t e122).t e127)) (Ow.rd (Ow.ext o124 e127)) (Ow.rd o129) (od c130) (od c131) (od c132) (od c133)) rfl<|fun v136 w134 e135 o137=>lp rfl (xm (.tuple #[v136,(.int .i64 ((qb a0 a1).2))]) rfl)<|lp rfl (yA (v:=v136) rfl rfl)<|lp rfl (yA (v:=(.int .i64 ((qb a0 a1).2))) rfl rfl)<|lp rfl (xa v136 rfl)<|lp rfl (xa (.int .i64 ((qb a0 a1).2)) rfl)<|nx<|qi<|wr<|lp rfl (xm v136 rfl)<|lp rfl (xm v31 ((K102 6 rfl).trans ((K95 6 rfl).trans (K56 6 rfl)))) ?_
         obtain ⟨c138,H⟩:=qa H
         refine lc rfl rfl Tryz.call43 (vf.calls (w:=w134) (a0:=(qb a0 a1).1) (a1:=(qb a0 a1).1) (Ow.rd o137) (Ow.rd (Ow.ext o32 (Ext.trans (Ext.trans (Ext.trans (Ext.trans (Ext.gr (Ext.trans (Ext.trans (Ext.gr (Ext.gr ((((((((e35.t e40).t e48).t e53).t e58).t e63).t e68).t e72).t e77) e83 er.size) e89 e35.size) e97) e104) e111 (e35.t e40).size) e117) e122) e127) e135))) (od c138)) rfl<|fun w139 e140=>lp rfl (yG rfl)<|lp rfl (qd rfl)<|jb 4 [(107,111)] 110 (.bool ((!(decide (((qb a0 a1).1) = ((qb a0 a1).1)))) || (!decide (((qb a0 a1).2) = ((qb a0 a1).2))))) ?_ ?_
         ·rcases qH (!(decide (((qb a0 a1).1) = ((qb a0 a1).1)))) with b140_ | b140_
          ·exact ls rfl rfl rfl (cb b140_) rfl<|ls rfl rfl rfl (cb b140_) rfl<|ls rfl rfl rfl (cb b140_) rfl<|lp rfl (qF (b:=true) (v:=(.bool true)) (cb b140_) rfl)<|nx ⟨(ku4 kz rfl),(Ye b140_),er⟩
          ·exact lg rfl rfl rfl rfl (cb b140_) (xm (.int .i64 ((qb a0 a1).2)) rfl)<|lg rfl rfl rfl rfl (cb b140_) (xm (.int .i64 ((qb a0 a1).2)) ((K102 7 rfl).trans ((K95 7 rfl).trans (K56 7 rfl))))<|lg rfl rfl rfl rfl (cb b140_) (jf rfl rfl)<|lp rfl (qF (b:=false) (v:=(.bool (!decide (((qb a0 a1).2) = ((qb a0 a1).2))))) (cb b140_) rfl)<|nx ⟨(ku4 kz rfl),(VX b140_),er⟩
         intro s146 w142 K143 h144 e145
         refine nx ?_
         rcases qg H with ⟨q147,H⟩ | ⟨q147,H⟩
         ·refine qn (h144.trans (cb q147))<|wr<|lp rfl (xa (.bool false) rfl)<|nx<|qr<|qo<|qu ?_
          obtain rfl:=si H
          exact qS rfl (((((((((((e6.t e13).t e17).t e22).t e30).t (Ext.gr (Ext.trans (Ext.trans (Ext.gr (Ext.gr ((((((((e35.t e40).t e48).t e53).t e58).t e63).t e68).t e72).t e77) e83 er.size) e89 e35.size) e97) e104) e111 (e35.t e40).size)).t e117).t e122).t e127).t e135).t e140).t e145)
         ·refine qj (h144.trans (cb q147))<|qp<|qf<|wr<|lp rfl (xa (.int .i64 1) rfl)<|nx<|wr<|lp rfl (xm v49 ((K143 10 rfl).trans ((K102 10 rfl).trans ((K95 10 rfl).trans (K56 10 rfl)))))<|lp rfl (xm (.int .i64 1) rfl) ?_
          obtain ⟨c148,H⟩:=qa H
          obtain ⟨c149,H⟩:=qa H
          obtain ⟨c150,H⟩:=qa H
          refine lc rfl rfl Tryz.call47 (vd.calls (w:=w142) (a0:=(yp ((qb a0 a1).1).length 1)) (a1:=1) (Ow.rd (Ow.ext o112 (((((e117.t e122).t e127).t e135).t e140).t e145))) (od c148) (od c149) (od c150)) rfl<|fun w151 e152=>lp rfl (xa (.int .i64 (j6 (yp ((qb a0 a1).1).length 1) 1)) rfl)<|nx<|qi<|wr<|lp rfl (xm (.int .i64 (j6 (yp ((qb a0 a1).1).length 1) 1)) rfl)<|lp rfl (vw rfl rfl)<|nx ?_
          rcases qg H with ⟨q153,H⟩ | ⟨q153,H⟩
          ·refine qn (cb q153)<|wr<|lp rfl (xa (.bool false) rfl)<|nx<|qr<|qo<|qu ?_
           obtain rfl:=si H
           exact qS rfl ((((((((((((e6.t e13).t e17).t e22).t e30).t (Ext.gr (Ext.trans (Ext.trans (Ext.gr (Ext.gr ((((((((e35.t e40).t e48).t e53).t e58).t e63).t e68).t e72).t e77) e83 er.size) e89 e35.size) e97) e104) e111 (e35.t e40).size)).t e117).t e122).t e127).t e135).t e140).t e145).t e152)
          ·refine qj (cb q153)<|qp<|qf<|qi<|wr<|lp rfl (xm (.int .i64 (j6 (yp ((qb a0 a1).1).length 1) 1)) rfl)<|lp rfl (xm (.int .i64 (1 + 5 * (((qb a0 a1).1).length : Int))) (K143 13 rfl))<|lp rfl (jf rfl rfl)<|nx ?_
           rcases qg H with ⟨q154,H⟩ | ⟨q154,H⟩
           ·refine qn (cb q154)<|wr<|lp rfl (xa (.bool false) rfl)<|nx<|qr<|qo<|qu ?_
            obtain rfl:=si H
            exact qS rfl ((((((((((((e6.t e13).t e17).t e22).t e30).t (Ext.gr (Ext.trans (Ext.trans (Ext.gr (Ext.gr ((((((((e35.t e40).t e48).t e53).t e58).t e63).t e68).t e72).t e77) e83 er.size) e89 e35.size) e97) e104) e111 (e35.t e40).size)).t e117).t e122).t e127).t e135).t e140).t e145).t e152)
           ·refine qj (cb q154)<|qp<|qf<|wr<|lp rfl (xa (.bool true) rfl)<|nx<|qr<|qu ?_
            obtain rfl:=si H
            exact qS rfl ((((((((((((e6.t e13).t e17).t e22).t e30).t (Ext.gr (Ext.trans (Ext.trans (Ext.gr (Ext.gr ((((((((e35.t e40).t e48).t e53).t e58).t e63).t e68).t e72).t e77) e83 er.size) e89 e35.size) e97) e104) e111 (e35.t e40).size)).t e117).t e122).t e127).t e135).t e140).t e145).t e152)
theorem law_LayerBetween.calls {w : World} {a0 : List Nd} {a1 : List Nd} (gv : GV 0 w) {v_a0 : Value} (f_a0 : Rd 4 qJ w v_a0 a0) {v_a1 : Value} (f_a1 : Rd 4 qJ w v_a1 a1) (h0 : ∀ x ∈ a0,YG x) (h1 : a0.length≤9223372036854775807) (h2 : ∀ x ∈ a1,YG x) (h3 : a1.length≤9223372036854775807) :
  Calls Tryz.prog 6 #[v_a0,v_a1] w (Rt (RP w (.bool true))):=law_LayerBetween.walk gv f_a0 f_a1 (law_LayerBetween.eq a0 a1 h0 h1 h2 h3)
end Go.Proofs.YtdhmlillkbjjjaaGreatDoor
