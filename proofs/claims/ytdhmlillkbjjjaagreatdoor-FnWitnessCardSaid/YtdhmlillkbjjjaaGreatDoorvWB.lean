/- The walks,by program (wip/tools). -/
import Derived.Test.YtdhmlillkbjjjaaGreatDoorProg
import Derived.Test.YtdhmlillkbjjjaaGreatDoorKI
import Derived.Test.YtdhmlillkbjjjaaGreatDoorKJ
import Derived.Test.YtdhmlillkbjjjaaGreatDoorKL
import Derived.Test.YtdhmlillkbjjjaaGreatDoorvWA
set_option linter.unusedVariables false
set_option linter.unusedSimpArgs false
set_option maxRecDepth 10000
namespace Go.Proofs.YtdhmlillkbjjjaaGreatDoor
open Go.UL Go.RowKit
/-! spec.l03Canon -/
theorem vQ.calls {w : World} {a0 : List Rec} {v_a0 : Value} (f_a0 : Rd 5 qj w v_a0 a0) (h0 : a0.length≤1048576) (h1 : ∀ x ∈ a0,qC x.path = true) :
  Calls Tryz.prog 76 #[v_a0] w (Rt (RO 52 5 qj w (qb a0))):=by
 obtain ⟨k,H⟩:=vQ.eq a0 h0 h1
 generalize (qb a0) = r at H ⊢
 unfold vQ.sh at H
 refine qi Tryz.func76 rfl (Nat.le_of_ble_eq_true rfl) Tryz.ntmps76 rfl ?_
 refine wr<|lp rfl (xa (.slice none 0 0) rfl)<|nx<|wr<|yt (.plain rfl) rfl (ltb rfl) rfl Tryz.underlying35 Tryz.sizeOf52 Tryz.zeroValue52 rfl rfl rfl (vs:=[]) rfl (qX rfl)<|fun b1 w2 z3 z4 e5 k6=>lp rfl (xa (.slice (some ⟨b1,0,none⟩) 0 0) rfl)<|nx<|qk<|wr<|lp rfl (xa (.int .i64 0) rfl)<|nx ?_
 obtain ⟨z10,L11,C12⟩:=bind_some H
 clear H
 refine  vT (fun s0 sQ wQ=>∃ (x3_13 : List Rec) (v14 : Value),Kp [(3,6),(7,44)] s0 sQ∧sQ 3 = v14∧Ow 52 5 qj w2.heap.size wQ v14 x3_13∧Ext w2 wQ∧z10 = .inr x3_13) ?_ ?_
 ·refine qF<|vA (fun s0 kk sQ wQ=>∃ (x3_7 : List Rec) (v8 : Value) (x4_9 : Int),Kp [(3,6),(7,44)] s0 sQ∧sQ 3 = v8∧Ow 52 5 qj w2.heap.size wQ v8 x3_7∧sQ 4 = .int .i64 x4_9∧Ext w2 wQ∧qt (vQ.b1 a0) kk (x3_7,x4_9) = some z10) k ⟨([] : List Rec),(.slice (some ⟨b1,0,none⟩) 0 0),0,kz,rfl,(Ow.zero),rfl,er,L11⟩ ?_
  rintro k19 s20 w21 ⟨x3_7,v8,x4_9,K22,h25,h26,h27,e23,L24⟩
  cases k19 with
  | zero=>exact absurd L24 (by simp [qt])
  | succ k19=>
   obtain ⟨t28,H,S29⟩:=qQ L24
   clear L24
   unfold vQ.b1 at H
   refine qk<|wr<|lp rfl (qf h27)<|lp rfl (xm v_a0 (K22 0 rfl))<|lp rfl (qS Tryz.underlying35 rfl (Rd.ext f_a0 (e5.t e23)))<|lp rfl (ym rfl rfl)<|nx ?_
   rcases qe H with ⟨q30,H⟩ | ⟨q30,H⟩
   ·refine ql (cb q30)<|qw<|qg<|qk<|qF<|wr<|lp rfl (xm v_a0 (K22 0 rfl))<|lp rfl (qf h27) ?_
    obtain ⟨c31,H⟩:=qa H
    refine vg (.plain rfl) rfl (ltb rfl) rfl Tryz.underlying35 Tryz.sizeOf52 rfl (Rd.ext f_a0 (e5.t e23)) rfl c31<|fun p32 h33=>lp rfl (qW Tryz.isAgg52 Tryz.sizeOf52 rfl rfl h33)<|jU (.plain rfl) rfl (ltb rfl) rfl Tryz.zeroValue52<|fun b34 w35 z36 z37 e38 k39=>vU (.plain rfl) rfl rfl Tryz.sizeOf52 rfl rfl rfl rfl rfl k39<|fun w40 h41 k42=>nx<|qk<|wr<|lp rfl (xm v_a0 (K22 0 rfl))<|lp rfl (qc Tryz.underlying52 rfl Tryz.sizeOf9 rfl rfl)<|lp rfl (qz Tryz.isAgg9 k42 rfl rfl) ?_
    obtain ⟨c43,H⟩:=qa H
    obtain ⟨c44,H⟩:=qa H
    refine lc rfl rfl Tryz.call134 (yD.calls (w:=w40) (a0:=a0) (a1:=(gt a0 x4_9).path) (Rd.ext f_a0 ((e5.t e23).t (Below.trans e38 (Wr.below h41 (Nat.le_of_eq z36))))) (od c43) (od c44)) rfl<|fun w45 e46=>lp rfl (yR rfl)<|nx ?_
    rcases qe H with ⟨q47,H⟩ | ⟨q47,H⟩
    ·refine ql (cb q47)<|wr<|lp rfl (qc Tryz.underlying52 rfl Tryz.sizeOf4 rfl rfl)<|lp rfl (qz Tryz.isAgg4 (Blk.ext k42 e46) rfl rfl)<|lp rfl (xm (.bool ((gt a0 x4_9).opq)) rfl) ?_
     obtain ⟨z49,x50,H⟩:=bind_some H
     refine yf 6 [(25,31)] 30 (fun q=>q = z49) ?_ ?_
     ·rcases qe x50 with ⟨b47_,H⟩ | ⟨b47_,H⟩
      ·refine lg rfl rfl rfl rfl (cb b47_) (qc Tryz.underlying52 rfl Tryz.sizeOf9 rfl rfl)<|lg rfl rfl rfl rfl (cb b47_) (qz Tryz.isAgg9 (Blk.ext k42 e46) rfl rfl) ?_
       obtain ⟨c49,H⟩:=qa H
       refine vp (tg rfl rfl rfl (cb b47_)) rfl (ltb rfl) rfl Tryz.call135 (yJ.calls (w:=w45) (a0:=(gt a0 x4_9).path) (a1:=47) (od c49)) rfl<|fun v52 w50 e51 o53=>lg rfl rfl rfl rfl (cb b47_) (qS Tryz.underlying44 rfl (Ow.rd o53))<|lg rfl rfl rfl rfl (cb b47_) (ym rfl rfl)<|lp rfl (qq (b:=true) (v:=(.bool (decide (((cut 47 ((gt a0 x4_9).path)).length : Int) < 4)))) (cb b47_) rfl) ?_
       obtain rfl:=si H
       exact nx ⟨(ku2 (ku4 kz rfl) rfl),⟨_,rfl,rfl⟩,e51⟩
      ·refine ls rfl rfl rfl (cb b47_) rfl<|ls rfl rfl rfl (cb b47_) rfl<|ls rfl rfl rfl (cb b47_) rfl<|ls rfl rfl rfl (cb b47_) rfl<|ls rfl rfl rfl (cb b47_) rfl<|lp rfl (qq (b:=false) (v:=(.bool false)) (cb b47_) rfl) ?_
       obtain rfl:=si H
       exact nx ⟨(ku2 (ku4 kz rfl) rfl),⟨_,rfl,rfl⟩,er⟩
     intro s55 w51 z56 K52 hq h53 e54
     rw [hq] at h53; clear hq
     refine lp rfl (qc Tryz.underlying52 rfl Tryz.sizeOf4 rfl (K52 5 rfl))<|Yf (.plain rfl) rfl rfl Tryz.sizeOf4 rfl h53 rfl (Blk.ext k42 (e46.t e54)) (ltb rfl)<|fun w57 h58 k59=>nx<|wr<|lp rfl (xm v8 ((K52 3 rfl).trans h25))<|lp rfl (qW Tryz.isAgg52 Tryz.sizeOf52 rfl (K52 5 rfl) (Blk.at0 k59))<|yt (.plain rfl) rfl (ltb rfl) rfl Tryz.underlying35 Tryz.sizeOf52 Tryz.zeroValue52 rfl rfl rfl (vs:=[(.agg #[(.int .i64 ((gt a0 x4_9).kind)),(S ((gt a0 x4_9).path)),(S ((gt a0 x4_9).body)),(.int .i64 ((gt a0 x4_9).mode)),(.bool z49)])]) rfl (qX rfl)<|fun b60 w61 z62 z63 e64 k65=>?_
     obtain ⟨c66,H⟩:=qa H
     refine yP (enc:=qj) (.plain rfl) rfl (ltb rfl) rfl El.t35 rfl rfl (Ow.ext h26 (Ext.trans (Below.trans (Ext.trans (Ext.trans (Below.trans e38 (Wr.below h41 (Nat.le_of_eq z36))) e46) e54) (Wr.below h58 (Nat.le_of_eq z36))) e64)) (Ow.rd (Ow.new (xs:=[(⟨(gt a0 x4_9).kind,(gt a0 x4_9).path,(gt a0 x4_9).body,(gt a0 x4_9).mode,z49⟩ : Rec)]) (sz:=5) (enc:=qj) (base:=w57.heap.size) k65 (Nat.le_of_eq z62) rfl (fun _ _=>by rfl) (Nat.le_of_ble_eq_true rfl))) (Yg _) (od c66) (((e23.t (Below.trans (Ext.trans (Ext.trans (Below.trans e38 (Wr.below h41 (Nat.le_of_eq z36))) e46) e54) (Wr.below h58 (Nat.le_of_eq z36)))).t e64)).size<|fun v67 w68 o69 z70 g71=>lp rfl (xa v67 rfl)<|nx<|yc<|vm<|yV<|qg<|qO<|lp rfl (xm (.int .i64 x4_9) ((K52 4 rfl).trans h27))<|lp rfl (vz rfl rfl)<|lp rfl (xa (.int .i64 (IntKind.wrap .i64 (x4_9 + 1))) rfl)<|nx ?_
     obtain rfl:=si H
     exact ⟨_,Nat.lt_succ_self _,x3_7 ++ ([(⟨(gt a0 x4_9).kind,(gt a0 x4_9).path,(gt a0 x4_9).body,(gt a0 x4_9).mode,z49⟩ : Rec)] : List Rec),v67,IntKind.wrap .i64 (x4_9 + 1),(ku1 (ku8 (Kp.cut (ku1 (ku8 (ku8 K22 rfl) rfl) rfl) K52 rfl) rfl) rfl),rfl,o69,rfl,(g71 _ ((e23.t (Below.trans (Ext.trans (Ext.trans (Below.trans e38 (Wr.below h41 (Nat.le_of_eq z36))) e46) e54) (Wr.below h58 (Nat.le_of_eq z36)))).t e64)),S29⟩
    ·refine qh (cb q47)<|qw<|qg<|wr<|lp rfl (qc Tryz.underlying52 rfl Tryz.sizeOf4 rfl rfl)<|Yf (.plain rfl) rfl rfl Tryz.sizeOf4 rfl rfl rfl (Blk.ext k42 e46) (ltb rfl)<|fun w72 h73 k74=>nx<|wr<|lp rfl (qc Tryz.underlying52 rfl Tryz.sizeOf3 rfl rfl)<|lp rfl (qz Tryz.isAgg3 k74 rfl rfl)<|lp rfl (QJ rfl rfl)<|nx ?_
     rcases qe H with ⟨q75,H⟩ | ⟨q75,H⟩
     ·refine ql (cb q75)<|qO<|lp rfl (qf h25)<|lp rfl (qW Tryz.isAgg52 Tryz.sizeOf52 rfl rfl (Blk.at0 k74))<|yt (.plain rfl) rfl (ltb rfl) rfl Tryz.underlying35 Tryz.sizeOf52 Tryz.zeroValue52 rfl rfl rfl (vs:=[(.agg #[(.int .i64 ((gt a0 x4_9).kind)),(S ((gt a0 x4_9).path)),(S ((gt a0 x4_9).body)),(.int .i64 ((gt a0 x4_9).mode)),(.bool false)])]) rfl (qX rfl)<|fun b76 w77 z78 z79 e80 k81=>?_
      obtain ⟨c82,H⟩:=qa H
      refine yP (enc:=qj) (.plain rfl) rfl (ltb rfl) rfl El.t35 rfl rfl (Ow.ext h26 (Ext.trans (Below.trans (Ext.trans (Below.trans e38 (Wr.below h41 (Nat.le_of_eq z36))) e46) (Wr.below h73 (Nat.le_of_eq z36))) e80)) (Ow.rd (Ow.new (xs:=[(⟨(gt a0 x4_9).kind,(gt a0 x4_9).path,(gt a0 x4_9).body,(gt a0 x4_9).mode,false⟩ : Rec)]) (sz:=5) (enc:=qj) (base:=w72.heap.size) k81 (Nat.le_of_eq z78) rfl (fun _ _=>by rfl) (Nat.le_of_ble_eq_true rfl))) (Yg _) (od c82) (((e23.t (Below.trans (Ext.trans (Below.trans e38 (Wr.below h41 (Nat.le_of_eq z36))) e46) (Wr.below h73 (Nat.le_of_eq z36)))).t e80)).size<|fun v83 w84 o85 z86 g87=>lp rfl (xa v83 rfl)<|qP<|vK<|qg<|qO<|lp rfl (qf h27)<|lp rfl (vz rfl rfl)<|lp rfl (xa (.int .i64 (IntKind.wrap .i64 (x4_9 + 1))) rfl)<|nx ?_
      obtain rfl:=si H
      exact ⟨_,Nat.lt_succ_self _,x3_7 ++ ([(⟨(gt a0 x4_9).kind,(gt a0 x4_9).path,(gt a0 x4_9).body,(gt a0 x4_9).mode,false⟩ : Rec)] : List Rec),v83,IntKind.wrap .i64 (x4_9 + 1),(ku2 (ku8 (ku8 (ku8 K22 rfl) rfl) rfl) rfl),rfl,o85,rfl,(g87 _ ((e23.t (Below.trans (Ext.trans (Below.trans e38 (Wr.below h41 (Nat.le_of_eq z36))) e46) (Wr.below h73 (Nat.le_of_eq z36)))).t e80)),S29⟩
     ·refine qh (cb q75)<|qw<|vK<|qg<|qO<|lp rfl (qf h27)<|lp rfl (vz rfl rfl)<|lp rfl (xa (.int .i64 (IntKind.wrap .i64 (x4_9 + 1))) rfl)<|nx ?_
      obtain rfl:=si H
      exact ⟨_,Nat.lt_succ_self _,x3_7,v8,IntKind.wrap .i64 (x4_9 + 1),(ku1 (ku4 (ku8 (ku8 K22 rfl) rfl) rfl) rfl),h25,(Ow.ext h26 (Below.trans (Ext.trans (Below.trans e38 (Wr.below h41 (Nat.le_of_eq z36))) e46) (Wr.below h73 (Nat.le_of_eq z36)))),rfl,(e23.t (Below.trans (Ext.trans (Below.trans e38 (Wr.below h41 (Nat.le_of_eq z36))) e46) (Wr.below h73 (Nat.le_of_eq z36)))),S29⟩
   ·refine qh (cb q30)<|yc<|vm<|vm<|yV<|qg ?_
    obtain rfl:=si H
    obtain rfl:=si S29
    exact ⟨x3_7,v8,(ku4 K22 rfl),h25,h26,e23,rfl⟩
 ·rintro s16 w15 ⟨x3_13,v14,K17,h88,h89,e18,y90⟩
  rw [y90] at C12
  have H:=C12
  replace H : _ = some _:=H
  refine qg<|wr<|lp rfl (qf h88)<|lp rfl (xa v14 rfl)<|nx<|qr<|qy ?_
  obtain rfl:=si H
  exact QD rfl (e5.t e18) h89 (e5).size
/-! impl.canonical -/
theorem vE.calls {w : World} {a0 : List Rec} (gv : GV 0 w) {v_a0 : Value} (f_a0 : Rd 5 qj w v_a0 a0) (h0 : a0.length≤1048576) (h1 : ∀ x ∈ a0,qC x.path = true) :
  Calls Tryz.prog 73 #[v_a0] w (Rt (RO 52 5 qj w (qb a0))):=by
 obtain ⟨k,H⟩:=vE.eq a0 h0 h1
 generalize (qb a0) = r at H ⊢
 unfold vE.sh at H
 refine qi Tryz.func73 rfl (Nat.le_of_ble_eq_true rfl) Tryz.ntmps73 rfl ?_
 refine wr<|lp rfl (xa (.slice none 0 0) rfl)<|nx<|wr<|yt (.plain rfl) rfl (ltb rfl) rfl Tryz.underlying35 Tryz.sizeOf52 Tryz.zeroValue52 rfl rfl rfl (vs:=[]) rfl (qX rfl)<|fun b1 w2 z3 z4 e5 k6=>lp rfl (xa (.slice (some ⟨b1,0,none⟩) 0 0) rfl)<|nx<|qk<|wr<|lp rfl (xm v_a0 rfl)<|lp rfl (qS Tryz.underlying35 rfl (Rd.ext f_a0 e5))<|lp rfl (xm (.int .i64 0) rfl)<|nx ?_
 obtain ⟨z10,L11,C12⟩:=bind_some H
 clear H
 refine  vT (fun s0 sQ wQ=>∃ (x3_13 : List Rec) (v14 : Value),Kp [(3,4),(5,7),(10,38)] s0 sQ∧sQ 3 = v14∧Ow 52 5 qj w2.heap.size wQ v14 x3_13∧Ext w2 wQ∧z10 = .inr x3_13) ?_ ?_
 ·refine qF<|vA (fun s0 kk sQ wQ=>∃ (x3_7 : List Rec) (v8 : Value) (x10_9 : Int),Kp [(3,4),(5,7),(10,38)] s0 sQ∧sQ 3 = v8∧Ow 52 5 qj w2.heap.size wQ v8 x3_7∧sQ 10 = .int .i64 x10_9∧Ext w2 wQ∧qt (vE.b1 a0) kk (x3_7,x10_9) = some z10) k ⟨([] : List Rec),(.slice (some ⟨b1,0,none⟩) 0 0),0,kz,rfl,(Ow.zero),rfl,er,L11⟩ ?_
  rintro k19 s20 w21 ⟨x3_7,v8,x10_9,K22,h25,h26,h27,e23,L24⟩
  cases k19 with
  | zero=>exact absurd L24 (by simp [qt])
  | succ k19=>
   obtain ⟨t28,H,S29⟩:=qQ L24
   clear L24
   unfold vE.b1 at H
   refine wr<|lp rfl (ym h27 (K22 9 rfl))<|nx<|qk ?_
   rcases qe H with ⟨q30,H⟩ | ⟨q30,H⟩
   ·refine ql (cb q30)<|qw<|qg<|qk<|qF<|wr ?_
    obtain ⟨c31,H⟩:=qa H
    refine vg (.plain rfl) rfl (ltb rfl) rfl Tryz.underlying35 Tryz.sizeOf52 (K22 8 rfl) (Rd.ext f_a0 (e5.t e23)) h27 c31<|fun p32 h33=>lp rfl (qW Tryz.isAgg52 Tryz.sizeOf52 rfl rfl h33)<|jU (.plain rfl) rfl (ltb rfl) rfl Tryz.zeroValue52<|fun b34 w35 z36 z37 e38 k39=>vU (.plain rfl) rfl rfl Tryz.sizeOf52 rfl rfl rfl rfl rfl k39<|fun w40 h41 k42=>nx<|wr<|lp rfl (xm v_a0 (K22 0 rfl))<|lp rfl (qc Tryz.underlying52 rfl Tryz.sizeOf9 rfl rfl)<|lp rfl (qz Tryz.isAgg9 k42 rfl rfl) ?_
    obtain ⟨c43,H⟩:=qa H
    obtain ⟨c44,H⟩:=qa H
    refine lc rfl rfl Tryz.call131 (jw.calls (w:=w40) (a0:=a0) (a1:=(gt a0 x10_9).path) (Rd.ext f_a0 ((e5.t e23).t (Below.trans e38 (Wr.below h41 (Nat.le_of_eq z36))))) (od c43) (od c44)) rfl<|fun w45 e46=>lp rfl (xa (.bool (yi a0 ((gt a0 x10_9).path))) rfl)<|nx<|qk<|wr<|lp rfl (xm (.bool (yi a0 ((gt a0 x10_9).path))) rfl)<|lp rfl (xm (.bool (yi a0 ((gt a0 x10_9).path))) rfl)<|jj 4 [(20,24)] 23 (.bool ((yi a0 ((gt a0 x10_9).path)) && (decide (((gt a0 x10_9).kind) = 4)))) ?_ ?_
    ·rcases qo (yi a0 ((gt a0 x10_9).path)) with b46_ | b46_
     ·exact lg rfl rfl rfl rfl (cb b46_) (qc Tryz.underlying52 rfl Tryz.sizeOf3 rfl rfl)<|lg rfl rfl rfl rfl (cb b46_) (qz Tryz.isAgg3 (Blk.ext k42 e46) rfl rfl)<|lg rfl rfl rfl rfl (cb b46_) (vx rfl rfl)<|lp rfl (qq (b:=true) (v:=(.bool (decide (((gt a0 x10_9).kind) = 4)))) (cb b46_) rfl)<|nx ⟨(ku4 kz rfl),(QP b46_),er⟩
     ·exact ls rfl rfl rfl (cb b46_) rfl<|ls rfl rfl rfl (cb b46_) rfl<|ls rfl rfl rfl (cb b46_) rfl<|lp rfl (qq (b:=false) (v:=(.bool false)) (cb b46_) rfl)<|nx ⟨(ku4 kz rfl),(QQ b46_),er⟩
    intro s52 w48 K49 h50 e51
    refine nx ?_
    rcases qe H with ⟨q53,H⟩ | ⟨q53,H⟩
    ·refine ql (h50.trans (cb q53))<|yc<|vm<|yV<|qg<|qO<|lp rfl (vz ((K49 10 rfl).trans h27) rfl)<|lp rfl (xm (.int .i64 (IntKind.wrap .i64 (x10_9 + 1))) rfl)<|nx ?_
     obtain rfl:=si H
     exact ⟨_,Nat.lt_succ_self _,x3_7,v8,IntKind.wrap .i64 (x10_9 + 1),(ku2 (Kp.cut (ku3 (ku8 K22 rfl) rfl) K49 rfl) rfl),((K49 3 rfl).trans h25),(Ow.ext h26 (Ext.trans (Ext.trans (Below.trans e38 (Wr.below h41 (Nat.le_of_eq z36))) e46) e51)),rfl,(((e23.t (Below.trans e38 (Wr.below h41 (Nat.le_of_eq z36)))).t e46).t e51),S29⟩
    ·refine qh (h50.trans (cb q53))<|qw<|qg<|qk<|wr<|lp rfl (xm (.bool (yi a0 ((gt a0 x10_9).path))) (K49 6 rfl))<|lp rfl (xm (.bool (yi a0 ((gt a0 x10_9).path))) rfl) ?_
     obtain ⟨z55,x56,H⟩:=bind_some H
     refine yf 6 [(26,32)] 31 (fun q=>q = z55) ?_ ?_
     ·rcases qe x56 with ⟨b53_,H⟩ | ⟨b53_,H⟩
      ·refine ls rfl rfl rfl (cb b53_) rfl<|ls rfl rfl rfl (cb b53_) rfl<|ls rfl rfl rfl (cb b53_) rfl<|ls rfl rfl rfl (cb b53_) rfl<|ls rfl rfl rfl (cb b53_) rfl<|lp rfl (qq (b:=true) (v:=(.bool true)) (cb b53_) rfl) ?_
       obtain rfl:=si H
       exact nx ⟨(ku2 (ku4 kz rfl) rfl),⟨_,rfl,rfl⟩,er⟩
      ·refine lg rfl rfl rfl rfl (cb b53_) (qc Tryz.underlying52 rfl Tryz.sizeOf9 rfl (K49 5 rfl))<|lg rfl rfl rfl rfl (cb b53_) (qz Tryz.isAgg9 (Blk.ext k42 (e46.t e51)) rfl rfl) ?_
       obtain ⟨c55,H⟩:=qa H
       refine vp (tg rfl rfl rfl (cb b53_)) rfl (ltb rfl) rfl Tryz.call132 (yz.calls (w:=w48) (a0:=(gt a0 x10_9).path) (GV.ext gv ((((e5.t e23).t (Below.trans e38 (Wr.below h41 (Nat.le_of_eq z36)))).t e46).t e51)) (od c55)) rfl<|fun v58 w56 e57 o59=>lg rfl rfl rfl rfl (cb b53_) (qS Tryz.underlying44 rfl (Ow.rd o59))<|lg rfl rfl rfl rfl (cb b53_) (vx rfl rfl)<|lp rfl (qq (b:=false) (v:=(.bool (decide (((cut 47 ((gt a0 x10_9).path)).length : Int) = 4)))) (cb b53_) rfl) ?_
       obtain rfl:=si H
       exact nx ⟨(ku2 (ku4 kz rfl) rfl),⟨_,rfl,rfl⟩,e57⟩
     intro s61 w57 z62 K58 hq h59 e60
     rw [hq] at h59; clear hq
     refine nx ?_
     rcases qe H with ⟨q63,H⟩ | ⟨q63,H⟩
     ·refine ql (h59.trans (cb q63))<|qO<|lp rfl (qc Tryz.underlying52 rfl Tryz.sizeOf4 rfl ((K58 5 rfl).trans (K49 5 rfl)))<|Yf (.plain rfl) rfl rfl Tryz.sizeOf4 rfl rfl rfl (Blk.ext k42 ((e46.t e51).t e60)) (ltb rfl)<|fun w64 h65 k66=>nx<|qO<|lp rfl (xm v8 ((K58 3 rfl).trans ((K49 3 rfl).trans h25)))<|lp rfl (qW Tryz.isAgg52 Tryz.sizeOf52 rfl ((K58 5 rfl).trans (K49 5 rfl)) (Blk.at0 k66))<|yt (.plain rfl) rfl (ltb rfl) rfl Tryz.underlying35 Tryz.sizeOf52 Tryz.zeroValue52 rfl rfl rfl (vs:=[(.agg #[(.int .i64 ((gt a0 x10_9).kind)),(S ((gt a0 x10_9).path)),(S ((gt a0 x10_9).body)),(.int .i64 ((gt a0 x10_9).mode)),(.bool false)])]) rfl (qX rfl)<|fun b67 w68 z69 z70 e71 k72=>?_
      obtain ⟨c73,H⟩:=qa H
      refine yP (enc:=qj) (.plain rfl) rfl (ltb rfl) rfl El.t35 rfl rfl (Ow.ext h26 (Ext.trans (Below.trans (Ext.trans (Ext.trans (Ext.trans (Below.trans e38 (Wr.below h41 (Nat.le_of_eq z36))) e46) e51) e60) (Wr.below h65 (Nat.le_of_eq z36))) e71)) (Ow.rd (Ow.new (xs:=[(⟨(gt a0 x10_9).kind,(gt a0 x10_9).path,(gt a0 x10_9).body,(gt a0 x10_9).mode,false⟩ : Rec)]) (sz:=5) (enc:=qj) (base:=w64.heap.size) k72 (Nat.le_of_eq z69) rfl (fun _ _=>by rfl) (Nat.le_of_ble_eq_true rfl))) (Yg _) (od c73) (((e23.t (Below.trans (Ext.trans (Ext.trans (Ext.trans (Below.trans e38 (Wr.below h41 (Nat.le_of_eq z36))) e46) e51) e60) (Wr.below h65 (Nat.le_of_eq z36)))).t e71)).size<|fun v74 w75 o76 z77 g78=>lp rfl (xa v74 rfl)<|qP<|vK<|qg<|qO<|lp rfl (vz ((K58 10 rfl).trans ((K49 10 rfl).trans h27)) rfl)<|lp rfl (xm (.int .i64 (IntKind.wrap .i64 (x10_9 + 1))) rfl)<|nx ?_
      obtain rfl:=si H
      exact ⟨_,Nat.lt_succ_self _,x3_7 ++ ([(⟨(gt a0 x10_9).kind,(gt a0 x10_9).path,(gt a0 x10_9).body,(gt a0 x10_9).mode,false⟩ : Rec)] : List Rec),v74,IntKind.wrap .i64 (x10_9 + 1),(ku8 (Kp.cut (ku2 (Kp.cut (ku3 (ku8 K22 rfl) rfl) K49 rfl) rfl) K58 rfl) rfl),rfl,o76,rfl,(g78 _ ((e23.t (Below.trans (Ext.trans (Ext.trans (Ext.trans (Below.trans e38 (Wr.below h41 (Nat.le_of_eq z36))) e46) e51) e60) (Wr.below h65 (Nat.le_of_eq z36)))).t e71)),S29⟩
     ·refine qh (h59.trans (cb q63))<|qw<|qg<|qO<|lp rfl (xm v8 ((K58 3 rfl).trans ((K49 3 rfl).trans h25)))<|lp rfl (qW Tryz.isAgg52 Tryz.sizeOf52 rfl ((K58 5 rfl).trans (K49 5 rfl)) (Blk.at0 (Blk.ext k42 ((e46.t e51).t e60))))<|yt (.plain rfl) rfl (ltb rfl) rfl Tryz.underlying35 Tryz.sizeOf52 Tryz.zeroValue52 rfl rfl rfl (vs:=[(.agg #[(.int .i64 ((gt a0 x10_9).kind)),(S ((gt a0 x10_9).path)),(S ((gt a0 x10_9).body)),(.int .i64 ((gt a0 x10_9).mode)),(.bool ((gt a0 x10_9).opq))])]) rfl (qX rfl)<|fun b79 w80 z81 z82 e83 k84=>?_
      obtain ⟨c85,H⟩:=qa H
      refine yP (enc:=qj) (.plain rfl) rfl (ltb rfl) rfl El.t35 rfl rfl (Ow.ext h26 (Ext.trans (Ext.trans (Ext.trans (Ext.trans (Below.trans e38 (Wr.below h41 (Nat.le_of_eq z36))) e46) e51) e60) e83)) (Ow.rd (Ow.new (xs:=[(gt a0 x10_9)]) (sz:=5) (enc:=qj) (base:=w57.heap.size) k84 (Nat.le_of_eq z81) rfl (fun _ _=>by rfl) (Nat.le_of_ble_eq_true rfl))) (Yg _) (od c85) ((((((e23.t (Below.trans e38 (Wr.below h41 (Nat.le_of_eq z36)))).t e46).t e51).t e60).t e83)).size<|fun v86 w87 o88 z89 g90=>lp rfl (xa v86 rfl)<|qP<|vK<|qg<|qO<|lp rfl (vz ((K58 10 rfl).trans ((K49 10 rfl).trans h27)) rfl)<|lp rfl (xm (.int .i64 (IntKind.wrap .i64 (x10_9 + 1))) rfl)<|nx ?_
      obtain rfl:=si H
      exact ⟨_,Nat.lt_succ_self _,x3_7 ++ ([(gt a0 x10_9)] : List Rec),v86,IntKind.wrap .i64 (x10_9 + 1),(ku3 (ku4 (Kp.cut (ku2 (Kp.cut (ku3 (ku8 K22 rfl) rfl) K49 rfl) rfl) K58 rfl) rfl) rfl),rfl,o88,rfl,(g90 _ (((((e23.t (Below.trans e38 (Wr.below h41 (Nat.le_of_eq z36)))).t e46).t e51).t e60).t e83)),S29⟩
   ·refine qh (cb q30)<|yc<|vm<|vm<|yV<|qg ?_
    obtain rfl:=si H
    obtain rfl:=si S29
    exact ⟨x3_7,v8,(ku1 K22 rfl),h25,h26,e23,rfl⟩
 ·rintro s16 w15 ⟨x3_13,v14,K17,h91,h92,e18,y93⟩
  rw [y93] at C12
  have H:=C12
  replace H : _ = some _:=H
  refine qg<|wr<|lp rfl (qf h91)<|lp rfl (xa v14 rfl)<|nx<|qr<|qy ?_
  obtain rfl:=si H
  exact QD rfl (e5.t e18) h92 (e5).size
/-! spec.Alike -/
theorem Qi.walk {w : World} {a0 : List Rec} {a1 : List Rec} {v_a0 : Value} (f_a0 : Rd 5 qj w v_a0 a0) {v_a1 : Value} (f_a1 : Rd 5 qj w v_a1 a1) {r : Bool × Int} (H : Qi.sh a0 a1 = some r) :
  Calls Tryz.prog 21 #[v_a0,v_a1] w (Rt (RP w (.tuple #[.bool r.1,.int .i64 r.2]))):=by
 unfold Qi.sh at H
 refine qi Tryz.func21 rfl (Nat.le_of_ble_eq_true rfl) Tryz.ntmps21 rfl ?_
 refine wr<|lp rfl (xa (.bool false) rfl)<|lp rfl (xa (.int .i64 0) rfl)<|nx<|qk<|wr<|lp rfl (xm v_a0 rfl)<|lp rfl (qS Tryz.underlying35 rfl f_a0)<|lp rfl (j8 rfl rfl)<|lp rfl (xm (.bool (decide (4096 < (a0.length : Int)))) rfl)<|jj 4 [(10,14)] 13 (.bool ((decide (4096 < (a0.length : Int))) || (decide (4096 < (a1.length : Int))))) ?_ ?_
 ·rcases qo (decide (4096 < (a0.length : Int))) with b0_ | b0_
  ·exact ls rfl rfl rfl (cb b0_) rfl<|ls rfl rfl rfl (cb b0_) rfl<|ls rfl rfl rfl (cb b0_) rfl<|lp rfl (qq (b:=true) (v:=(.bool true)) (cb b0_) rfl)<|nx ⟨(ku4 kz rfl),(J6 b0_),er⟩
  ·exact lg rfl rfl rfl rfl (cb b0_) (xm v_a1 rfl)<|lg rfl rfl rfl rfl (cb b0_) (qS Tryz.underlying35 rfl f_a1)<|lg rfl rfl rfl rfl (cb b0_) (j8 rfl rfl)<|lp rfl (qq (b:=false) (v:=(.bool (decide (4096 < (a1.length : Int))))) (cb b0_) rfl)<|nx ⟨(ku4 kz rfl),(J7 b0_),er⟩
 intro s6 w2 K3 h4 e5
 refine nx ?_
 rcases qe H with ⟨q7,H⟩ | ⟨q7,H⟩
 ·refine ql (h4.trans (cb q7))<|wr<|lp rfl (xa (.bool false) rfl)<|lp rfl (xa (.int .i64 2) rfl)<|nx<|qr<|qv<|qy ?_
  obtain rfl:=si H
  exact JF rfl rfl e5
 ·refine qh (h4.trans (cb q7))<|qw<|qg<|qk<|wr<|lp rfl (xm v_a0 (K3 0 rfl)) ?_
  obtain ⟨c8,H⟩:=qa H
  obtain ⟨c9,H⟩:=qa H
  refine lc rfl rfl Tryz.call74 (j7.calls (w:=w2) (a0:=a0) (Rd.ext f_a0 e5) (od c8) (od c9)) rfl<|fun w10 e11=>lp rfl (yR rfl)<|lp rfl (xm (.bool (!(decide ((qn a0).2 = 0)))) rfl) ?_
  obtain ⟨z13,x14,H⟩:=bind_some H
  refine yf 4 [(18,22)] 21 (fun q=>q = z13) ?_ ?_
  ·rcases qe x14 with ⟨b11_,H⟩ | ⟨b11_,H⟩
   ·refine ls rfl rfl rfl (cb b11_) rfl<|ls rfl rfl rfl (cb b11_) rfl<|ls rfl rfl rfl (cb b11_) rfl<|lp rfl (qq (b:=true) (v:=(.bool true)) (cb b11_) rfl) ?_
    obtain rfl:=si H
    exact nx ⟨(ku4 kz rfl),⟨_,rfl,rfl⟩,er⟩
   ·refine lg rfl rfl rfl rfl (cb b11_) (xm v_a1 (K3 1 rfl)) ?_
    obtain ⟨c13,H⟩:=qa H
    obtain ⟨c14,H⟩:=qa H
    refine vL (tg rfl rfl rfl (cb b11_)) rfl (ltb rfl) rfl Tryz.call74 (j7.calls (w:=w10) (a0:=a1) (Rd.ext f_a1 (e5.t e11)) (od c13) (od c14)) rfl<|fun w15 e16=>lg rfl rfl rfl rfl (cb b11_) (yR rfl)<|lp rfl (qq (b:=false) (v:=(.bool (!(decide ((qn a1).2 = 0))))) (cb b11_) rfl) ?_
    obtain rfl:=si H
    exact nx ⟨(ku4 kz rfl),⟨_,rfl,rfl⟩,e16⟩
  intro s19 w15 z20 K16 hq h17 e18
  rw [hq] at h17; clear hq
  refine nx ?_
  rcases qe H with ⟨q21,H⟩ | ⟨q21,H⟩
  ·refine ql (h17.trans (cb q21))<|wr<|lp rfl (xa (.bool false) rfl)<|lp rfl (xa (.int .i64 1) rfl)<|nx<|qr<|qv<|qy ?_
   obtain rfl:=si H
   exact JF rfl rfl ((e5.t e11).t e18)
  ·refine qh (h17.trans (cb q21))<|qw<|qg<|wr<|lp rfl (xm v_a0 ((K16 0 rfl).trans (K3 0 rfl))) ?_
   obtain ⟨c22,H⟩:=qa H
   obtain ⟨c23,H⟩:=qa H
   refine vp (.plain rfl) rfl (ltb rfl) rfl Tryz.call76 (vQ.calls (w:=w15) (a0:=a0) (Rd.ext f_a0 ((e5.t e11).t e18)) (od c22) (od c23)) rfl<|fun v26 w24 e25 o27=>lp rfl (xm v_a1 ((K16 1 rfl).trans (K3 1 rfl))) ?_
   obtain ⟨c28,H⟩:=qa H
   obtain ⟨c29,H⟩:=qa H
   refine vp (.plain rfl) rfl (ltb rfl) rfl Tryz.call76 (vQ.calls (w:=w24) (a0:=a1) (Rd.ext f_a1 (((e5.t e11).t e18).t e25)) (od c28) (od c29)) rfl<|fun v32 w30 e31 o33=>?_
   obtain ⟨c34,H⟩:=qa H
   refine lc rfl rfl Tryz.call75 (yQ.calls (w:=w30) (a0:=(qb a0)) (a1:=(qb a1)) (Ow.rd (Ow.ext o27 e31)) (Ow.rd o33) (od c34)) rfl<|fun w35 e36=>lp rfl (xa (.bool (decide ((qb a0) = (qb a1)))) rfl)<|lp rfl (xa (.int .i64 0) rfl)<|nx<|qr<|qy ?_
   obtain rfl:=si H
   exact JF rfl rfl (((((e5.t e11).t e18).t e25).t e31).t e36)
theorem Qi.calls {w : World} {a0 : List Rec} {a1 : List Rec} {v_a0 : Value} (f_a0 : Rd 5 qj w v_a0 a0) {v_a1 : Value} (f_a1 : Rd 5 qj w v_a1 a1) (h0 : a0.length≤1048576) (h1 : a1.length≤1048576) (h2 : ∀ x ∈ a0,x.path.length≤1048576) (h3 : ∀ x ∈ a1,x.path.length≤1048576) :
  Calls Tryz.prog 21 #[v_a0,v_a1] w (Rt (RP w (.tuple #[.bool ((jL a0 a1).1),.int .i64 ((jL a0 a1).2)]))):=Qi.walk f_a0 f_a1 (Qi.eq a0 a1 h0 h1 h2 h3)
/-! impl.pairCode -/
theorem Qk.calls {w : World} {a0 : List Rec} {a1 : List Rec} (gv : GV 0 w) {v_a0 : Value} (f_a0 : Rd 5 qj w v_a0 a0) {v_a1 : Value} (f_a1 : Rd 5 qj w v_a1 a1) (h0 : a0.length≤1048576) (h1 : a1.length≤1048576) (h2 : ∀ x ∈ a0,x.path.length≤1048576) (h3 : ∀ x ∈ a1,x.path.length≤1048576) :
  Calls Tryz.prog 71 #[v_a0,v_a1] w (Rt (RP w (.int .i64 (pairCode a0 a1)))):=by
 have H:=Qk.eq a0 a1 h0 h1 h2 h3
 generalize (pairCode a0 a1) = r at H ⊢
 unfold Qk.sh at H
 refine qi Tryz.func71 rfl (Nat.le_of_ble_eq_true rfl) Tryz.ntmps71 rfl ?_
 refine wr<|lp rfl (xa (.int .i64 0) rfl)<|nx<|wr<|lp rfl (xm v_a0 rfl)<|lc rfl rfl Tryz.call78 (yk.calls (w:=w) (a0:=a0) f_a0) rfl<|fun w1 e2=>lp rfl (xm (.bool (decide (4096 < a0.length))) rfl)<|jj 3 [(8,11)] 10 (.bool ((decide (4096 < a0.length)) || (decide (4096 < a1.length)))) ?_ ?_
 ·rcases qo (decide (4096 < a0.length)) with b2_ | b2_
  ·exact ls rfl rfl rfl (cb b2_) rfl<|ls rfl rfl rfl (cb b2_) rfl<|lp rfl (qq (b:=true) (v:=(.bool true)) (cb b2_) rfl)<|nx ⟨(ku3 kz rfl),(J6 b2_),er⟩
  ·exact lg rfl rfl rfl rfl (cb b2_) (xm v_a1 rfl)<|vL (tg rfl rfl rfl (cb b2_)) rfl (ltb rfl) rfl Tryz.call78 (yk.calls (w:=w1) (a0:=a1) (Rd.ext f_a1 e2)) rfl<|fun w4 e5=>lp rfl (qq (b:=false) (v:=(.bool (decide (4096 < a1.length)))) (cb b2_) rfl)<|nx ⟨(ku3 kz rfl),(J7 b2_),e5⟩
 intro s8 w4 K5 h6 e7
 refine lp rfl (vo Tryz.underlying4 rfl h6)<|lp rfl (vo Tryz.underlying3 rfl rfl)<|lp rfl (xm v_a0 (K5 0 rfl)) ?_
 obtain ⟨c9,H⟩:=qa H
 obtain ⟨c10,H⟩:=qa H
 refine lc rfl rfl Tryz.call68 (jm.calls (w:=w4) (a0:=a0) (GV.ext gv (e2.t e7)) (Rd.ext f_a0 (e2.t e7)) (od c9) (od c10)) rfl<|fun w11 e12=>lp rfl (yR rfl)<|lp rfl (xm (.bool (!(decide ((vf a0).2 = 0)))) rfl) ?_
 obtain ⟨z14,x15,H⟩:=bind_some H
 refine yf 4 [(17,21)] 20 (fun q=>q = z14) ?_ ?_
 ·rcases qe x15 with ⟨b12_,H⟩ | ⟨b12_,H⟩
  ·refine ls rfl rfl rfl (cb b12_) rfl<|ls rfl rfl rfl (cb b12_) rfl<|ls rfl rfl rfl (cb b12_) rfl<|lp rfl (qq (b:=true) (v:=(.bool true)) (cb b12_) rfl) ?_
   obtain rfl:=si H
   exact nx ⟨(ku4 kz rfl),⟨_,rfl,rfl⟩,er⟩
  ·refine lg rfl rfl rfl rfl (cb b12_) (xm v_a1 (K5 1 rfl)) ?_
   obtain ⟨c14,H⟩:=qa H
   obtain ⟨c15,H⟩:=qa H
   refine vL (tg rfl rfl rfl (cb b12_)) rfl (ltb rfl) rfl Tryz.call68 (jm.calls (w:=w11) (a0:=a1) (GV.ext gv ((e2.t e7).t e12)) (Rd.ext f_a1 ((e2.t e7).t e12)) (od c14) (od c15)) rfl<|fun w16 e17=>lg rfl rfl rfl rfl (cb b12_) (yR rfl)<|lp rfl (qq (b:=false) (v:=(.bool (!(decide ((vf a1).2 = 0))))) (cb b12_) rfl) ?_
   obtain rfl:=si H
   exact nx ⟨(ku4 kz rfl),⟨_,rfl,rfl⟩,e17⟩
 intro s20 w16 z21 K17 hq h18 e19
 rw [hq] at h18; clear hq
 refine lp rfl (vo Tryz.underlying4 rfl h18)<|lp rfl (vo Tryz.underlying3 rfl rfl)<|yt (.plain rfl) rfl (ltb rfl) rfl Tryz.underlying142 Tryz.sizeOf20 Tryz.zeroValue20 rfl rfl rfl (vs:=[(.iface 4 (.bool ((decide (4096 < a0.length)) || (decide (4096 < a1.length))))),(.iface 3 (.int .i64 2)),(.iface 4 (.bool z14)),(.iface 3 (.int .i64 1))]) (va (K17 11 rfl) (va (K17 12 rfl) (va rfl (va rfl rfl)))) (qX rfl)<|fun b22 w23 z24 z25 e26 k27=>?_
 obtain ⟨c28,H⟩:=qa H
 obtain ⟨z31,x32,H⟩:=bind_some H
 replace x32:=si x32
 refine lc rfl rfl Tryz.call77 (yL.calls (w:=w23) (a0:=([.inl ((decide (4096 < a0.length)) || (decide (4096 < a1.length))),.inr 2,.inl z14,.inr 1] : List (Bool ⊕ Int))) (Ow.rd (Ow.new (xs:=[.inl ((decide (4096 < a0.length)) || (decide (4096 < a1.length))),.inr 2,.inl z14,.inr 1]) (sz:=1) (enc:=(Vc 4 3)) (base:=w16.heap.size) k27 (Nat.le_of_eq z24) rfl (fun _ _=>by first | rfl | exact VT _ _ _) (Nat.le_of_ble_eq_true rfl))) (od c28)) rfl<|fun w29 e30=>lp rfl (xa (.int .i64 z31) (congrArg (Value.int .i64) x32))<|nx<|qr<|qy ?_
 obtain rfl:=si H
 exact vt rfl (((((e2.t e7).t e12).t e19).t e26).t e30)
/-! impl.Alike -/
theorem Qn.walk {w : World} {a0 : List Rec} {a1 : List Rec} (gv : GV 0 w) {v_a0 : Value} (f_a0 : Rd 5 qj w v_a0 a0) {v_a1 : Value} (f_a1 : Rd 5 qj w v_a1 a1) {r : Bool × Int} (H : Qn.sh a0 a1 = some r) :
  Calls Tryz.prog 20 #[v_a0,v_a1] w (Rt (RP w (.tuple #[.bool r.1,.int .i64 r.2]))):=by
 unfold Qn.sh at H
 refine qi Tryz.func20 rfl (Nat.le_of_ble_eq_true rfl) Tryz.ntmps20 rfl ?_
 refine wr<|lp rfl (xa (.bool false) rfl)<|lp rfl (xa (.int .i64 0) rfl)<|nx<|qk<|wr<|lp rfl (xm v_a0 rfl)<|lp rfl (xm v_a1 rfl) ?_
 obtain ⟨c1,H⟩:=qa H
 obtain ⟨c2,H⟩:=qa H
 obtain ⟨c3,H⟩:=qa H
 obtain ⟨c4,H⟩:=qa H
 refine lc rfl rfl Tryz.call71 (Qk.calls (w:=w) (a0:=a0) (a1:=a1) gv f_a0 f_a1 (od c1) (od c2) (od c3) (od c4)) rfl<|fun w5 e6=>lp rfl (xa (.int .i64 (pairCode a0 a1)) rfl)<|nx<|wr<|lp rfl (xm (.int .i64 (pairCode a0 a1)) rfl)<|lp rfl (QJ rfl rfl)<|nx ?_
 rcases qe H with ⟨q7,H⟩ | ⟨q7,H⟩
 ·refine ql (cb q7)<|wr<|lp rfl (xm (.int .i64 (pairCode a0 a1)) rfl)<|lp rfl (xa (.bool false) rfl)<|lp rfl (xa (.int .i64 (pairCode a0 a1)) rfl)<|nx<|qr<|qv<|qy ?_
  obtain rfl:=si H
  exact JF rfl rfl e6
 ·refine qh (cb q7)<|qw<|qg<|wr<|lp rfl (xm v_a0 rfl) ?_
  obtain ⟨c8,H⟩:=qa H
  obtain ⟨c9,H⟩:=qa H
  refine vp (.plain rfl) rfl (ltb rfl) rfl Tryz.call73 (vE.calls (w:=w5) (a0:=a0) (GV.ext gv e6) (Rd.ext f_a0 e6) (od c8) (od c9)) rfl<|fun v12 w10 e11 o13=>lp rfl (xm v_a1 rfl) ?_
  obtain ⟨c14,H⟩:=qa H
  obtain ⟨c15,H⟩:=qa H
  refine vp (.plain rfl) rfl (ltb rfl) rfl Tryz.call73 (vE.calls (w:=w10) (a0:=a1) (GV.ext gv (e6.t e11)) (Rd.ext f_a1 (e6.t e11)) (od c14) (od c15)) rfl<|fun v18 w16 e17 o19=>?_
  obtain ⟨c20,H⟩:=qa H
  refine lc rfl rfl Tryz.call72 (yE.calls (w:=w16) (a0:=(qb a0)) (a1:=(qb a1)) (Ow.rd (Ow.ext o13 e17)) (Ow.rd o19) (od c20)) rfl<|fun w21 e22=>lp rfl (xa (.bool (decide ((qb a0) = (qb a1)))) rfl)<|lp rfl (xa (.int .i64 0) rfl)<|nx<|qr<|qy ?_
  obtain rfl:=si H
  exact JF rfl rfl (((e6.t e11).t e17).t e22)
theorem Qn.calls {w : World} {a0 : List Rec} {a1 : List Rec} (gv : GV 0 w) {v_a0 : Value} (f_a0 : Rd 5 qj w v_a0 a0) {v_a1 : Value} (f_a1 : Rd 5 qj w v_a1 a1) (h0 : a0.length≤1048576) (h1 : a1.length≤1048576) (h2 : ∀ x ∈ a0,x.path.length≤1048576) (h3 : ∀ x ∈ a1,x.path.length≤1048576) :
  Calls Tryz.prog 20 #[v_a0,v_a1] w (Rt (RP w (.tuple #[.bool ((jL a0 a1).1),.int .i64 ((jL a0 a1).2)]))):=Qn.walk gv f_a0 f_a1 (Qn.eq a0 a1 h0 h1 h2 h3)
/-! spec.l04Without -/
theorem vS.calls {w : World} {a0 : List Nd} {a1 : List UInt8} {a2 : Bool} {v_a0 : Value} (f_a0 : Rd 4 qp w v_a0 a0) (h0 : a0.length≤1048576) :
  Calls Tryz.prog 209 #[v_a0,S a1,.bool a2] w (Rt (RO 91 4 qp w (ye a0 a1 a2))):=by
 obtain ⟨k,H⟩:=vS.eq a0 a1 a2 h0
 generalize (ye a0 a1 a2) = r at H ⊢
 unfold vS.sh at H
 refine qi Tryz.func209 rfl (Nat.le_of_ble_eq_true rfl) Tryz.ntmps209 rfl ?_
 refine wr<|lp rfl (xa (.slice none 0 0) rfl)<|nx<|wr<|yt (.plain rfl) rfl (ltb rfl) rfl Tryz.underlying29 Tryz.sizeOf91 Tryz.zeroValue91 rfl rfl rfl (vs:=[]) rfl (qX rfl)<|fun b1 w2 z3 z4 e5 k6=>lp rfl (xa (.slice (some ⟨b1,0,none⟩) 0 0) rfl)<|nx<|qk<|wr<|lp rfl (xa (.int .i64 0) rfl)<|nx ?_
 obtain ⟨z10,L11,C12⟩:=bind_some H
 clear H
 refine  vT (fun s0 sQ wQ=>∃ (x7_13 : List Nd) (v14 : Value),Kp [(7,9),(10,44)] s0 sQ∧sQ 7 = v14∧Ow 91 4 qp w2.heap.size wQ v14 x7_13∧Ext w2 wQ∧z10 = .inr x7_13) ?_ ?_
 ·refine qF<|vA (fun s0 kk sQ wQ=>∃ (x7_7 : List Nd) (v8 : Value) (x8_9 : Int),Kp [(7,9),(10,44)] s0 sQ∧sQ 7 = v8∧Ow 91 4 qp w2.heap.size wQ v8 x7_7∧sQ 8 = .int .i64 x8_9∧Ext w2 wQ∧qt (vS.b1 a0 a1 a2) kk (x7_7,x8_9) = some z10) k ⟨([] : List Nd),(.slice (some ⟨b1,0,none⟩) 0 0),0,kz,rfl,(Ow.zero),rfl,er,L11⟩ ?_
  rintro k19 s20 w21 ⟨x7_7,v8,x8_9,K22,h25,h26,h27,e23,L24⟩
  cases k19 with
  | zero=>exact absurd L24 (by simp [qt])
  | succ k19=>
   obtain ⟨t28,H,S29⟩:=qQ L24
   clear L24
   unfold vS.b1 at H
   refine qk<|wr<|lp rfl (qf h27)<|lp rfl (xm v_a0 (K22 0 rfl))<|lp rfl (qS Tryz.underlying29 rfl (Rd.ext f_a0 (e5.t e23)))<|lp rfl (ym rfl rfl)<|nx ?_
   rcases qe H with ⟨q30,H⟩ | ⟨q30,H⟩
   ·refine ql (cb q30)<|qw<|qg<|qk<|qF<|wr<|lp rfl (xm v_a0 (K22 0 rfl))<|lp rfl (qf h27) ?_
    obtain ⟨c31,H⟩:=qa H
    refine vg (.plain rfl) rfl (ltb rfl) rfl Tryz.underlying29 Tryz.sizeOf91 rfl (Rd.ext f_a0 (e5.t e23)) rfl c31<|fun p32 h33=>lp rfl (qc Tryz.underlying91 rfl Tryz.sizeOf9 rfl rfl)<|lp rfl (yd Tryz.isAgg9 (j:=1) h33 rfl rfl)<|lp rfl (xm (S a1) (K22 1 rfl))<|lc rfl rfl Tryz.call186 (jY.calls (w:=w21) (a0:=(gt a0 x8_9).path) (a1:=a1)) rfl<|fun w34 e35=>lp rfl (yR rfl)<|lp rfl (qf rfl) ?_
    obtain ⟨z37,x38,H⟩:=bind_some H
    refine yf 12 [(25,37)] 36 (fun q=>q = z37) ?_ ?_
    ·rcases qe x38 with ⟨b35_,H⟩ | ⟨b35_,H⟩
     ·refine lg rfl rfl rfl rfl (cb b35_) (xm (.bool a2) (K22 2 rfl))<|lg rfl rfl rfl rfl (cb b35_) (yR rfl)<|lg rfl rfl rfl rfl (cb b35_) (xm (.bool (!a2)) rfl) ?_
      obtain ⟨z38,x39,H⟩:=bind_some H
      refine yf 8 [(28,36)] 35 (fun q=>q = z38) ?_ ?_
      ·rcases qe x39 with ⟨b36_,H⟩ | ⟨b36_,H⟩
       ·refine ls rfl rfl rfl (cb b36_) rfl<|ls rfl rfl rfl (cb b36_) rfl<|ls rfl rfl rfl (cb b36_) rfl<|ls rfl rfl rfl (cb b36_) rfl<|ls rfl rfl rfl (cb b36_) rfl<|ls rfl rfl rfl (cb b36_) rfl<|ls rfl rfl rfl (cb b36_) rfl<|lg rfl rfl rfl rfl (cb b35_) (qq (b:=true) (v:=(.bool true)) (cb b36_) rfl) ?_
        obtain rfl:=si H
        exact nx ⟨(ku8 kz rfl),⟨_,rfl,rfl⟩,er⟩
       ·refine lg rfl rfl rfl rfl (cb b36_) (xm v_a0 (K22 0 rfl))<|lg rfl rfl rfl rfl (cb b36_) (qf h27) ?_
        obtain ⟨c38,H⟩:=qa H
        refine vg (tg rfl rfl rfl (cb b36_)) rfl (ltb rfl) rfl Tryz.underlying29 Tryz.sizeOf91 rfl (Rd.ext f_a0 ((e5.t e23).t e35)) rfl c38<|fun p39 h40=>lg rfl rfl rfl rfl (cb b36_) (qc Tryz.underlying91 rfl Tryz.sizeOf9 rfl rfl)<|lg rfl rfl rfl rfl (cb b36_) (yd Tryz.isAgg9 (j:=1) h40 rfl rfl)<|lg rfl rfl rfl rfl (cb b36_) (xm (S a1) (K22 1 rfl))<|lg rfl rfl rfl rfl (cb b36_) (VL rfl rfl)<|lg rfl rfl rfl rfl (cb b35_) (qq (b:=false) (v:=(.bool (!decide (((gt a0 x8_9).path) = a1)))) (cb b36_) rfl) ?_
        obtain rfl:=si H
        exact nx ⟨(ku8 kz rfl),⟨_,rfl,rfl⟩,er⟩
      intro s44 w40 z45 K41 hq h42 e43
      rw [hq] at h42; clear hq
      refine lp rfl (qq (b:=true) (v:=(.bool z38)) ((K41 24 rfl).trans (cb b35_)) h42) ?_
      obtain rfl:=si H
      exact nx ⟨(ku1 (Kp.cut (ku3 kz rfl) K41 rfl) rfl),⟨_,rfl,rfl⟩,e43⟩
     ·refine ls rfl rfl rfl (cb b35_) rfl<|ls rfl rfl rfl (cb b35_) rfl<|ls rfl rfl rfl (cb b35_) rfl<|lu rfl rfl rfl rfl rfl<|lu rfl rfl rfl rfl rfl<|lu rfl rfl rfl rfl rfl<|lu rfl rfl rfl rfl rfl<|lu rfl rfl rfl rfl rfl<|lu rfl rfl rfl rfl rfl<|lu rfl rfl rfl rfl rfl<|ls rfl rfl rfl (cb b35_) rfl<|lp rfl (qq (b:=false) (v:=(.bool false)) (cb b35_) rfl) ?_
      obtain rfl:=si H
      exact nx ⟨(ku4 (ku8 kz rfl) rfl),⟨_,rfl,rfl⟩,er⟩
    intro s46 w39 z47 K40 hq h41 e42
    rw [hq] at h41; clear hq
    refine nx ?_
    rcases qe H with ⟨q48,H⟩ | ⟨q48,H⟩
    ·refine ql (h41.trans (cb q48))<|qO<|lp rfl (xm v8 ((K40 7 rfl).trans h25))<|lp rfl (xm v_a0 ((K40 0 rfl).trans (K22 0 rfl)))<|lp rfl (xm (.int .i64 x8_9) ((K40 8 rfl).trans h27)) ?_
     obtain ⟨c49,H⟩:=qa H
     refine vg (.plain rfl) rfl (ltb rfl) rfl Tryz.underlying29 Tryz.sizeOf91 rfl (Rd.ext f_a0 (((e5.t e23).t e35).t e42)) rfl c49<|fun p50 h51=>lp rfl (qW Tryz.isAgg91 Tryz.sizeOf91 rfl rfl h51)<|yt (.plain rfl) rfl (ltb rfl) rfl Tryz.underlying29 Tryz.sizeOf91 Tryz.zeroValue91 rfl rfl rfl (vs:=[(.agg (qp (gt a0 x8_9)).toArray)]) rfl (qX rfl)<|fun b52 w53 z54 z55 e56 k57=>?_
     obtain ⟨c58,H⟩:=qa H
     refine yP (enc:=qp) (.plain rfl) rfl (ltb rfl) rfl El.t29 rfl rfl (Ow.ext h26 ((e35.t e42).t e56)) (Ow.rd (Ow.new (xs:=[gt a0 x8_9]) (sz:=4) (enc:=qp) (base:=w39.heap.size) k57 (Nat.le_of_eq z54) rfl (fun _ _=>by rfl) (Nat.le_of_ble_eq_true rfl))) (Qt _) (od c58) ((((e23.t e35).t e42).t e56)).size<|fun v59 w60 o61 z62 g63=>lp rfl (xa v59 rfl)<|qP<|vK<|qg<|qO<|lp rfl (xm (.int .i64 x8_9) ((K40 8 rfl).trans h27))<|lp rfl (vz rfl rfl)<|lp rfl (xa (.int .i64 (IntKind.wrap .i64 (x8_9 + 1))) rfl)<|nx ?_
     obtain rfl:=si H
     exact ⟨_,Nat.lt_succ_self _,x7_7 ++ ([gt a0 x8_9] : List Nd),v59,IntKind.wrap .i64 (x8_9 + 1),(ku3 (ku8 (Kp.cut (ku1 (ku4 (ku8 K22 rfl) rfl) rfl) K40 rfl) rfl) rfl),rfl,o61,rfl,(g63 _ (((e23.t e35).t e42).t e56)),S29⟩
    ·refine qh (h41.trans (cb q48))<|qw<|vK<|qg<|qO<|lp rfl (xm (.int .i64 x8_9) ((K40 8 rfl).trans h27))<|lp rfl (vz rfl rfl)<|lp rfl (xa (.int .i64 (IntKind.wrap .i64 (x8_9 + 1))) rfl)<|nx ?_
     obtain rfl:=si H
     exact ⟨_,Nat.lt_succ_self _,x7_7,v8,IntKind.wrap .i64 (x8_9 + 1),(ku3 (Kp.cut (ku1 (ku4 (ku8 K22 rfl) rfl) rfl) K40 rfl) rfl),((K40 7 rfl).trans h25),(Ow.ext h26 (e35.t e42)),rfl,((e23.t e35).t e42),S29⟩
   ·refine qh (cb q30)<|yc<|vm<|vm<|yV<|qg ?_
    obtain rfl:=si H
    obtain rfl:=si S29
    exact ⟨x7_7,v8,(ku4 K22 rfl),h25,h26,e23,rfl⟩
 ·rintro s16 w15 ⟨x7_13,v14,K17,h64,h65,e18,y66⟩
  rw [y66] at C12
  have H:=C12
  replace H : _ = some _:=H
  refine qg<|wr<|lp rfl (qf h64)<|lp rfl (xa v14 rfl)<|nx<|qr<|qy ?_
  obtain rfl:=si H
  exact QD rfl (e5.t e18) h65 (e5).size
/-! slices.Clone(()impl.Node,impl.Node),by text -/
theorem YX.calls {w : World} {a0 : List Nd} {v_a0 : Value} (f_a0 : Rd 4 qp w v_a0 a0) (h0 : a0.length ≤ 1048576) :
    Calls Tryz.prog 123 #[v_a0] w (Rt (RO 91 4 qp w a0)):=by
  obtain ⟨A,c,hv⟩:=f_a0.shape
  refine qi Tryz.func123 rfl (Nat.le_of_ble_eq_true rfl) Tryz.ntmps123 rfl ?_
  refine wr<|lp rfl (qA (v:=.slice none 0 0) rfl)<|nx<|qk<|wr<|lp rfl (xm v_a0 rfl)<|lp rfl (X_eqNil Tryz.underlying29 (by kernel_rfl) hv rfl)<|nx ?_
  cases A with
  | none=>
    have hn : a0 = []:=by
      obtain ⟨A',c',hv',⟨hn,hz,_⟩,_⟩:=f_a0
      rw [hv] at hv'; injection hv' with e1 e2 e3
      have:=hz e1.symm
      exact List.eq_nil_of_length_eq_zero (by omega)
    subst hn
    refine ql rfl<|wr<|lp rfl (qA (v:=.slice none 0 0) rfl)<|nx<|qr<|qv<|qy ?_
    exact QD rfl er (Ow.zero (base:=w.heap.size)) (Nat.le_refl _)
  | some a=>
    refine qh rfl<|qw<|qg<|wr<|yt (.plain rfl) rfl (ltb rfl) rfl Tryz.underlying29 Tryz.sizeOf91 Tryz.zeroValue91 rfl rfl rfl (vs:=[]) rfl (qX rfl)<|fun b w1 z1 z2 e1 k1=>lp rfl (xm v_a0 rfl)<|
      yP (enc:=qp) (.plain rfl) rfl (ltb rfl) rfl El.t29 rfl rfl (Ow.zero (base:=w1.heap.size) (w:=w1)) (Rd.ext f_a0 e1) (Qt _) (by simp; omega) (Nat.le_refl _)<|fun v2 w2 o2 z3 g2=>lp rfl (xa v2 rfl)<|nx<|qr<|qy ?_
    have e2 : Ext w w2:=Ext.trans e1 (g2 _ er)
    have o3 : Ow 91 4 qp w1.heap.size w2 v2 a0:=by simpa using o2
    exact QD rfl e2 o3 e1.size

/-! impl.removed$1 -/
theorem j6.calls {w : World} {a0 : Nd} {a1 : List UInt8} {b_a1 : Nat} (k_a1 : Blk w b_a1 #[(S a1)] 9) (h0 : a1.length≤1048576) :
  Calls Tryz.prog 204 #[.agg (qp a0).toArray,.pointer (some ⟨b_a1,0,none⟩)] w (Rt (RP w (.bool (decide (a0.path = a1) || (decide (a1 = []) || vw a0.path a1))))):=by
 have H:=j6.eq a0 a1 h0
 generalize (decide (a0.path = a1) || (decide (a1 = []) || vw a0.path a1)) = r at H ⊢
 unfold j6.sh at H
 refine qi Tryz.func204 rfl (Nat.le_of_ble_eq_true rfl) Tryz.ntmps204 rfl ?_
 refine wr<|Qq (.plain rfl) rfl (ltb rfl) rfl rfl<|fun b1 w2 z3 z4 e5 k6=>lp rfl (xa (.bool false) rfl)<|nx<|wr<|lp rfl (qc Tryz.underlying91 rfl Tryz.sizeOf9 rfl rfl)<|lp rfl (qz Tryz.isAgg9 k6 rfl rfl)<|lp rfl (qz Tryz.isAgg9 (Blk.ext k_a1 e5) rfl rfl)<|lp rfl (Vv rfl rfl)<|lp rfl (xm (.bool (decide (a0.path = a1))) rfl) ?_
 obtain ⟨z8,x9,H⟩:=bind_some H
 refine yf 5 [(9,14)] 13 (fun q=>q = z8) ?_ ?_
 ·rcases qe x9 with ⟨b6_,H⟩ | ⟨b6_,H⟩
  ·refine ls rfl rfl rfl (cb b6_) rfl<|ls rfl rfl rfl (cb b6_) rfl<|ls rfl rfl rfl (cb b6_) rfl<|ls rfl rfl rfl (cb b6_) rfl<|lp rfl (qq (b:=true) (v:=(.bool true)) (cb b6_) rfl) ?_
   obtain rfl:=si H
   exact nx ⟨(ku1 (ku4 kz rfl) rfl),⟨_,rfl,rfl⟩,er⟩
  ·refine lg rfl rfl rfl rfl (cb b6_) (qc Tryz.underlying91 rfl Tryz.sizeOf9 rfl rfl)<|lg rfl rfl rfl rfl (cb b6_) (qz Tryz.isAgg9 k6 rfl rfl)<|lg rfl rfl rfl rfl (cb b6_) (qz Tryz.isAgg9 (Blk.ext k_a1 e5) rfl rfl) ?_
   obtain ⟨c8,H⟩:=qa H
   refine vL (tg rfl rfl rfl (cb b6_)) rfl (ltb rfl) rfl Tryz.call205 (Vg.calls (w:=w2) (a0:=a0.path) (a1:=a1) (od c8)) rfl<|fun w9 e10=>lp rfl (qq (b:=false) (v:=(.bool (decide (a1 = []) || vw a0.path a1))) (cb b6_) rfl) ?_
   obtain rfl:=si H
   exact nx ⟨(ku1 (ku4 kz rfl) rfl),⟨_,rfl,rfl⟩,e10⟩
 intro s14 w10 z15 K11 hq h12 e13
 rw [hq] at h12; clear hq
 refine lp rfl (qA h12)<|nx<|qr<|qy ?_
 obtain rfl:=si H
 exact vt rfl (e5.t e13)
/-! slices.DeleteFunc(()impl.Node,impl.Node),by text -/
theorem Gk.calls {w wF : World} {B : Nat} {v : Value} {xs : List Nd} (hO : Ow 91 4 qp B w v xs) (kF : Ext wF w) (hF : wF.heap.size ≤ B) (hl : xs.length ≤ 1048576) {u : Value} {q : Nd → Bool}
    (hf : ∀ x,jR Tryz.prog wF u [.agg (qp x).toArray] (.bool (q x))) (hu : u.cells = #[u]) :
    Calls Tryz.prog 203 #[v,u] w (Rt (fun r w'=>Ext wF w'∧Ow 91 4 qp B w' r (xs.filter fun x=>!q x))):=by
  obtain ⟨A,c,hv⟩:=hO.rd.shape
  have hidx:=Yr (p:=fun x=>some (q x)) (q:=q) (l:=xs) (fun _ _=>rfl)
  refine qi Tryz.func203 rfl (Nat.le_of_ble_eq_true rfl) Tryz.ntmps203 rfl ?_
  refine wr<|lp rfl (qA (v:=.slice none 0 0) rfl)<|nx<|wr<|lp rfl (xm v rfl)<|lp rfl (xm u rfl)<|
    lc rfl rfl Tryz.call201 (vb.calls (w:=w) (a0:=xs) (a1:=fun x=>some (q x)) hO.rd (fun x r h=>by have h:=si h; subst h; exact (hf x).ext kF) hu (by omega) hidx) rfl<|fun w1 e1=>lp rfl (qA (v:=.int .i64 (jg q xs)) rfl)<|nx<|
    qk<|wr<|lp rfl (qf (v:=.int .i64 (jg q xs)) rfl)<|lp rfl (vx rfl rfl)<|nx ?_
  have hge:=XR q xs
  by_cases hm : jg q xs = -1
  · have hnone : ∀ x ∈ xs,q x = false:=by
      have:=findI_any q xs
      rw [hm] at this
      intro x hx
      rcases qo (q x) with h | h
      · have h2 : xs.any q = true:=List.any_eq_true.2 ⟨x,hx,h⟩
        rw [h2] at this; cases this
      · exact h
    have hfil : (xs.filter fun x=>!q x) = xs:=List.filter_eq_self.2 fun x hx=>by rw [hnone x hx]; rfl
    refine ql (cb (decide_eq_true hm))<|wr<|lp rfl (xm v rfl)<|lp rfl (xa v rfl)<|nx<|qr<|qv<|qy ?_
    rw [hfil]
    exact ⟨_,rfl,Ext.trans kF e1,hO.ext e1⟩
  · obtain ⟨hin,hq0⟩:=findI_get q xs (by omega)
    obtain ⟨i0,hi0⟩ : ∃ i0 : Nat,jg q xs = i0:=⟨(jg q xs).toNat,by omega⟩
    rw [hi0] at hin hq0 ⊢
    have hlt0 : i0 < xs.length:=by have:=j9 hin; omega
    have hpre : (xs.take (i0 + 1)).filter (fun x=>!q x) = xs.take i0:=by
      have hfst:=findI_first q xs i0 hi0
      rw [List.take_succ_eq_append_getElem hlt0,List.filter_append]
      have h1 : (xs.take i0).filter (fun x=>!q x) = xs.take i0:=List.filter_eq_self.2 fun x hx=>by rw [hfst x hx]; rfl
      have h2 : q xs[i0] = true:=by rw [yl,yh hlt0] at hq0; exact hq0
      rw [h1]; simp [h2]
    have hpl : ((xs.take (i0 + 1)).filter (fun x=>!q x)).length = i0:=by rw [hpre]; simp; omega
    have hwi : IntKind.wrap .i64 ((i0 : Int) + 1) = ((i0 + 1 : Nat) : Int):=by rw [Int.natCast_add,Int.natCast_one]; exact Go.UL.wrap_small (by omega) (by omega)
    refine qh (cb (decide_eq_false (by omega)))<|qw<|qg<|qk<|wr<|lp rfl (qf (v:=.int .i64 (i0 : Int)) rfl)<|lp rfl (vz rfl rfl)<|
      lp rfl (qA (v:=.int .i64 ((i0 + 1 : Nat) : Int)) (congrArg (Value.int .i64) hwi))<|nx ?_
    refine vT (fun s0 σ W'=>σ 0 = v∧Ext wF W'∧∃ ys : List Nd,ys.length = xs.length∧σ 5 = .int .i64 ((xs.filter fun x=>!q x).length : Int)∧Ow 91 4 qp B W' v ys∧ys.take (xs.filter fun x=>!q x).length = xs.filter fun x=>!q x) ?_ ?_
    · refine qF<|vA (fun s0 m σ W'=>σ 0 = v∧σ 1 = u∧Ext wF W'∧∃ (j : Nat) (ys : List Nd),j + m = xs.length∧i0 < j∧σ 6 = .int .i64 (j : Int)∧ys.length = xs.length∧σ 5 = .int .i64 (((xs.take j).filter fun x=>!q x).length : Int)∧((xs.take j).filter fun x=>!q x).length < j∧Ow 91 4 qp B W' v ys∧ys.take ((xs.take j).filter fun x=>!q x).length = (xs.take j).filter (fun x=>!q x)∧ys.drop j = xs.drop j) (xs.length - (i0 + 1))
        ⟨rfl,rfl,Ext.trans kF e1,i0 + 1,xs,by omega,by omega,rfl,rfl,(congrArg (fun n : Nat=>Value.int .i64 (n : Int)) hpl).symm,by omega,hO.ext e1,by rw [hpl,hpre],rfl⟩ ?_
      rintro m s1 W1 ⟨h0,h1,k1,j,ys,hjm,hij,h6,hyl,h5,hlt,hO1,htk,hdr⟩
      refine qk<|wr<|lp rfl (qf h6)<|lp rfl (qf h0)<|lp rfl (qS Tryz.underlying29 rfl hO1.rd)<|lp rfl (ym rfl rfl)<|nx ?_
      by_cases hjl : j < xs.length
      · have hjy : j < ys.length:=by omega
        have hinj : inR (j : Int) ys.length = true:=qT hjy
        have hyj : gt ys (j : Int) = xs[j]:=by
          rw [yl,yh hjy]
          have h2 : (ys.drop j)[0]? = (xs.drop j)[0]?:=by rw [hdr]
          simp only [List.getElem?_drop,Nat.add_zero,List.getElem?_eq_getElem hjy,List.getElem?_eq_getElem hjl] at h2
          exact si h2
        refine ql (cb (decide_eq_true (by omega)))<|qw<|qg<|qk<|qF<|wr<|lp rfl (qf h0)<|lp rfl (qf h6)<|vg (.plain rfl) rfl (ltb rfl) rfl Tryz.underlying29 Tryz.sizeOf91 rfl hO1.rd rfl hinj<|fun p hA=>
          lp rfl (qW (cs:=qp (gt ys (j : Int))) Tryz.isAgg91 Tryz.sizeOf91 rfl rfl hA)<|jU (.plain rfl) rfl (ltb rfl) rfl Tryz.zeroValue91<|fun b7 W2 z1 z2 e2 k2=>vU (.plain rfl) rfl rfl Tryz.sizeOf91 rfl rfl rfl rfl rfl k2<|fun W3 hw3 k3=>nx ?_
        have e3 : Ext W1 W3:=Ext.wr e2 hw3 (Nat.le_of_eq z1) (Nat.le_refl _)
        have hO3:=hO1.ext e3
        have kF3 : Ext wF W3:=Ext.trans k1 e3
        refine wr<|lp rfl (qf h1)<|lp rfl (qW (cs:=qp (gt ys (j : Int))) Tryz.isAgg91 Tryz.sizeOf91 rfl rfl (Blk.at0 k3))<|YM (.plain rfl) rfl (ltb rfl) rfl rfl ((hf (gt ys (j : Int))).ext kF3) rfl<|fun W4 e4=>lp rfl (yR rfl)<|nx ?_
        have hO4:=hO3.ext e4
        have kF4:=Ext.trans kF3 e4
        have hstep : (xs.take (j + 1)).filter (fun x=>!q x) = (xs.take j).filter (fun x=>!q x) ++ (if q xs[j] then [] else [xs[j]]):=by
          rw [List.take_succ_eq_append_getElem hjl,List.filter_append]
          congr 1
          rcases qo (q xs[j]) with h | h <;> simp [h]
        have hwj : IntKind.wrap .i64 ((j : Int) + 1) = ((j + 1 : Nat) : Int):=by rw [Int.natCast_add,Int.natCast_one]; exact Go.UL.wrap_small (by omega) (by omega)
        have hdr1 : ys.drop (j + 1) = xs.drop (j + 1):=by
          have:=congrArg (List.drop 1) hdr
          simpa [List.drop_drop,Nat.add_comm] using this
        have h6':=h6
        rcases qo (q (gt ys (j : Int))) with hq | hq
        · refine qh (cb (by rw [hq]; rfl))<|qw<|vK<|qg<|qO<|lp rfl (qf h6)<|lp rfl (vz rfl rfl)<|lp rfl (qA (v:=.int .i64 ((j + 1 : Nat) : Int)) (congrArg (Value.int .i64) hwj))<|nx ?_
          rw [hyj] at hq
          rw [hq] at hstep
          simp only [if_true,List.append_nil] at hstep
          refine ⟨m - 1,by omega,h0,h1,kF4,j + 1,ys,by omega,by omega,rfl,hyl,by rw [hstep]; exact h5,by rw [hstep]; omega,hO4,by rw [hstep]; exact htk,hdr1⟩
        · refine ql (cb (by rw [hq]; rfl))<|wr<|lp rfl (qf h0)<|lp rfl (qf h5)<|lp rfl (qW (cs:=qp (gt ys (j : Int))) Tryz.isAgg91 Tryz.sizeOf91 rfl rfl (Blk.at0 (k3.ext e4)))<|
            L_idxO (.plain rfl) rfl (ltb rfl) rfl Tryz.underlying29 Tryz.sizeOf91 rfl hO4 rfl (qT (show ((xs.take j).filter fun x=>!q x).length < ys.length by omega))<|fun p9 h9=>?_
          refine Gv (a:=gt ys (j : Int)) (u:=.agg (qp (gt ys (j : Int))).toArray) (vs:=qp (gt ys (j : Int))) (off:=0) (.plain rfl) rfl rfl Tryz.sizeOf91 rfl h9 rfl rfl rfl rfl (by simp [qp]) rfl<|fun b9 W5 hb9 hB9 hw9 hO5=>nx ?_
          have kF5 : Ext wF W5:=Ext.wr kF4 hw9 (Nat.le_trans hF hB9) (Nat.le_refl _)
          rw [hyj] at hq
          rw [hq] at hstep
          simp only [Bool.false_eq_true,if_false] at hstep
          have hw5 : IntKind.wrap .i64 ((((xs.take j).filter fun x=>!q x).length : Int) + 1) = ((((xs.take j).filter fun x=>!q x).length + 1 : Nat) : Int):=by rw [Int.natCast_add,Int.natCast_one]; exact Go.UL.wrap_small (by omega) (by omega)
          refine qO<|lp rfl (qf h5)<|lp rfl (vz rfl rfl)<|lp rfl (qA (v:=.int .i64 ((((xs.take j).filter fun x=>!q x).length + 1 : Nat) : Int)) (congrArg (Value.int .i64) hw5))<|qP<|vK<|qg<|
            qO<|lp rfl (qf h6')<|lp rfl (vz rfl rfl)<|lp rfl (qA (v:=.int .i64 ((j + 1 : Nat) : Int)) (congrArg (Value.int .i64) hwj))<|nx ?_
          refine ⟨m - 1,by omega,h0,h1,kF5,j + 1,_,by omega,by omega,rfl,by rw [JK]; exact hyl,by rw [hstep]; simp; rfl,by rw [hstep]; simp; omega,hO5,?_,?_⟩
          · rw [hstep,hyj]
            simp only [Y4,Int.toNat_natCast,List.length_append,List.length_cons,List.length_nil]
            rw [List.take_set_succ (by omega),htk]
          · simp only [Y4,Int.toNat_natCast]
            rw [List.drop_set_of_lt (by omega)]; exact hdr1
      · have hje : j = xs.length:=by omega
        subst hje
        rw [List.take_length] at h5 htk
        refine qh (cb (decide_eq_false (by omega)))<|yc<|vm<|vm<|yV<|qg ?_
        exact ⟨h0,k1,ys,hyl,h5,hO1,htk⟩
    · rintro s2 W2 ⟨h0,k2,ys,hyl,h5,hO2,htk⟩
      have hli : (xs.filter fun x=>!q x).length≤ys.length:=by rw [hyl]; exact List.length_filter_le _ _
      have hv2 : v = .slice A ys.length c:=by rw [hyl]; exact hv
      have hcap : ys.length≤c:=by obtain ⟨A',c',hv',⟨hn,_⟩,_⟩:=hO2.rd; rw [hv2] at hv'; injection hv' with _ _ e; omega
      refine qg<|wr<|lp rfl (qf h0)<|lp rfl (qf h5)<|
        lp rfl (Yq (A:=A) (n:=ys.length) (c:=c) (l:=((xs.filter fun x=>!q x).length : Int)) (h:=(ys.length : Int)) Tryz.underlying29 Tryz.sizeOf91 hv2 ⟨_,rfl⟩ rfl (by omega) (by omega) (by omega))<|
        L_clearO (enc:=qp) (zr:=(⟨0,[],[],0⟩ : Nd)) (i:=(xs.filter fun x=>!q x).length) (.plain rfl) rfl rfl El.t29 Tryz.zeroValue91 rfl rfl hO2 hv2 hli rfl<|fun W3 hg3 hz3 hO3=>nx ?_
      have k3 : Ext wF W3:=Below.mono (hg3 W2 (Below.refl _ _)) hF |> Below.trans k2
      have hlz : (xs.filter fun x=>!q x).length≤(ys.take (xs.filter fun x=>!q x).length ++ List.replicate (ys.length - (xs.filter fun x=>!q x).length) (⟨0,[],[],0⟩ : Nd)).length:=by simp; omega
      refine wr<|lp rfl (qf h0)<|lp rfl (qf h5)<|L_takeO (.plain rfl) rfl (ltb rfl) rfl Tryz.underlying29 Tryz.sizeOf91 rfl hO3 rfl hlz<|fun r hr=>lp rfl (xa r rfl)<|nx<|qr<|qy ?_
      refine ⟨_,rfl,k3,?_⟩
      have hx : (ys.take (xs.filter fun x=>!q x).length ++ List.replicate (ys.length - (xs.filter fun x=>!q x).length) (⟨0,[],[],0⟩ : Nd)).take (xs.filter fun x=>!q x).length = xs.filter fun x=>!q x:=by
        rw [htk,List.take_left]
      rw [hx] at hr
      exact hr

/-! impl.removed,by text -/
theorem impl_removed.calls {w : World} {a0 : List Nd} {a1 : List UInt8} {v_a0 : Value} (f_a0 : Rd 4 qp w v_a0 a0) (h0 : a0.length ≤ 1048576) (h1 : a1.length ≤ 1048576) :
    Calls Tryz.prog 148 #[v_a0,S a1] w (Rt (RO 91 4 qp w (ye a0 a1 true))):=by
  refine qi Tryz.func148 rfl (Nat.le_of_ble_eq_true rfl) Tryz.ntmps148 rfl ?_
  refine wr<|Qq (.plain rfl) rfl (ltb rfl) rfl rfl<|fun b w1 z1 z2 e1 k1=>lp rfl (qA (v:=.slice none 0 0) rfl)<|nx<|wr<|lp rfl (xm v_a0 rfl)<|
    vp (.plain rfl) rfl (ltb rfl) rfl Tryz.call123 (YX.calls (w:=w1) (a0:=a0) (f_a0.ext e1) h0) rfl<|fun v2 w2 e2 o2=>lp rfl (VN (vs:=#[]) (us:=#[.pointer (some ⟨b,0,none⟩)]) rfl rfl)<|
    QX (.plain rfl) rfl (ltb rfl) rfl Tryz.call203 (Gk.calls (w:=w2) (wF:=w1) (B:=w1.heap.size) (xs:=a0) (q:=fun x=>decide (x.path = a1) || (decide (a1 = []) || vw x.path a1)) o2 e2 (Nat.le_refl _) h0
      (fun x=>jR.mk Tryz.call204 (by rfl) fun w9 k9=>j6.calls (w:=w9) (a0:=x) (a1:=a1) (k1.ext k9) h1) rfl) rfl<|fun v3 w3 h3=>?_
  obtain ⟨e3,o3⟩:=h3
  refine lp rfl (xa v3 rfl)<|nx<|qr<|qy ?_
  rw [without_impl]
  exact QD rfl (e1.t e3) o3 e1.size

/-! impl.paths -/
theorem vC.calls {w : World} {a0 : List (List Rec)} (gv : GV 0 w) {v_a0 : Value} (f_a0 : Rd2 5 qj w v_a0 a0) (h0 : a0.length≤5) (h1 : ∀ l ∈ a0,l.length≤1048576) (h2 : ∀ l ∈ a0,∀ x ∈ l,x.path.length≤1048576) :
  Calls Tryz.prog 79 #[v_a0] w (Rt (RO 9 1 y4 w (yw a0))):=by
 obtain ⟨k,H⟩:=vC.eq a0 h0 h1 h2
 generalize (yw a0) = r at H ⊢
 unfold vC.sh at H
 refine qi Tryz.func79 rfl (Nat.le_of_ble_eq_true rfl) Tryz.ntmps79 rfl ?_
 refine wr<|lp rfl (xa (.slice none 0 0) rfl)<|nx<|wr<|yt (.plain rfl) rfl (ltb rfl) rfl Tryz.underlying44 Tryz.sizeOf9 Tryz.zeroValue9 rfl rfl rfl (vs:=[]) rfl (qX rfl)<|fun b1 w2 z3 z4 e5 k6=>lp rfl (xa (.slice (some ⟨b1,0,none⟩) 0 0) rfl)<|nx<|qk<|wr<|lp rfl (xm v_a0 rfl)<|lp rfl (X_lenR2 Tryz.underlying23 rfl (Rd2.ext f_a0 e5))<|lp rfl (xm (.int .i64 0) rfl)<|nx ?_
 obtain ⟨z10,L11,C12⟩:=bind_some H
 clear H
 refine  vT (fun s0 sQ wQ=>∃ (x3_13 : List (List UInt8)) (v14 : Value),Kp [(3,4),(5,6),(7,8),(11,28)] s0 sQ∧sQ 3 = v14∧Ow 9 1 y4 w2.heap.size wQ v14 x3_13∧Ext w2 wQ∧z10 = .inr x3_13) ?_ ?_
 ·refine qF<|vA (fun s0 kk sQ wQ=>∃ (x3_7 : List (List UInt8)) (v8 : Value) (x11_9 : Int),Kp [(3,4),(5,6),(7,8),(11,28)] s0 sQ∧sQ 3 = v8∧Ow 9 1 y4 w2.heap.size wQ v8 x3_7∧sQ 11 = .int .i64 x11_9∧Ext w2 wQ∧qt (vC.b1 k a0) kk (x3_7,x11_9) = some z10) k ⟨([] : List (List UInt8)),(.slice (some ⟨b1,0,none⟩) 0 0),0,kz,rfl,(Ow.zero),rfl,er,L11⟩ ?_
  rintro k19 s20 w21 ⟨x3_7,v8,x11_9,K22,h25,h26,h27,e23,L24⟩
  cases k19 with
  | zero=>exact absurd L24 (by simp [qt])
  | succ k19=>
   obtain ⟨t28,H,S29⟩:=qQ L24
   clear L24
   unfold vC.b1 at H
   refine wr<|lp rfl (ym h27 (K22 10 rfl))<|nx<|qk ?_
   rcases qe H with ⟨q30,H⟩ | ⟨q30,H⟩
   ·refine ql (cb q30)<|qw<|qg<|qk<|qF<|wr ?_
    obtain ⟨c31,H⟩:=qa H
    refine L_idx2o (.plain rfl) rfl (ltb rfl) rfl Tryz.underlying23 Tryz.sizeOf35 (K22 9 rfl) f_a0 (e5.t e23) h27 c31<|fun p32 v34 h33 h35=>lp rfl (y8 Tryz.isAgg35 rfl h33 rfl)<|lp rfl (xa v34 rfl)<|nx<|wr<|lp rfl (xm v34 rfl)<|lp rfl (qS Tryz.underlying35 rfl (Rd.ext h35 (e5.t e23)))<|lp rfl (xm (.int .i64 0) rfl)<|nx ?_
    obtain ⟨z39,L40,C41⟩:=bind_some H
    clear H
    refine  vT (fun s0 sQ wQ=>∃ (x3_42 : List (List UInt8)) (v43 : Value),Kp [(3,4),(7,8),(17,27)] s0 sQ∧sQ 3 = v43∧Ow 9 1 y4 w2.heap.size wQ v43 x3_42∧Ext w2 wQ∧z39 = .inr x3_42) ?_ ?_
    ·refine qF<|vA (fun s0 kk sQ wQ=>∃ (x3_36 : List (List UInt8)) (v37 : Value) (x17_38 : Int),Kp [(3,4),(7,8),(17,27)] s0 sQ∧sQ 3 = v37∧Ow 9 1 y4 w2.heap.size wQ v37 x3_36∧sQ 17 = .int .i64 x17_38∧Ext w2 wQ∧qt (vC.b2 a0 x11_9) kk (x3_36,x17_38) = some z39) k ⟨x3_7,v8,0,kz,h25,h26,rfl,e23,L40⟩ ?_
     rintro k48 s49 w50 ⟨x3_36,v37,x17_38,K51,h54,h55,h56,e52,L53⟩
     cases k48 with
     | zero=>exact absurd L53 (by simp [qt])
     | succ k48=>
      obtain ⟨t57,H,S58⟩:=qQ L53
      clear L53
      unfold vC.b2 at H
      refine wr<|lp rfl (ym h56 (K51 16 rfl))<|nx<|qk ?_
      rcases qe H with ⟨q59,H⟩ | ⟨q59,H⟩
      ·refine ql (cb q59)<|qw<|qg<|qk<|qF<|wr ?_
       obtain ⟨c60,H⟩:=qa H
       refine vg (.plain rfl) rfl (ltb rfl) rfl Tryz.underlying35 Tryz.sizeOf52 (K51 15 rfl) (Rd.ext h35 (e5.t e52)) h56 c60<|fun p61 h62=>lp rfl (qW Tryz.isAgg52 Tryz.sizeOf52 rfl rfl h62)<|jU (.plain rfl) rfl (ltb rfl) rfl Tryz.zeroValue52<|fun b63 w64 z65 z66 e67 k68=>vU (.plain rfl) rfl rfl Tryz.sizeOf52 rfl rfl rfl rfl rfl k68<|fun w69 h70 k71=>nx<|qO<|lp rfl (qf h54)<|lp rfl (qc Tryz.underlying52 rfl Tryz.sizeOf9 rfl rfl)<|lp rfl (qz Tryz.isAgg9 k71 rfl rfl)<|yt (.plain rfl) rfl (ltb rfl) rfl Tryz.underlying44 Tryz.sizeOf9 Tryz.zeroValue9 rfl rfl rfl (vs:=[(S ((gt (gt a0 x11_9) x17_38).path))]) rfl (qX rfl)<|fun b72 w73 z74 z75 e76 k77=>?_
       obtain ⟨c78,H⟩:=qa H
       refine yP (enc:=y4) (.plain rfl) rfl (ltb rfl) rfl El.t44 rfl rfl (Ow.ext h55 (Ext.trans (Below.trans e67 (Wr.below h70 (Nat.le_of_eq z65))) e76)) (Ow.rd (Ow.new (xs:=[(gt (gt a0 x11_9) x17_38).path]) (sz:=1) (enc:=y4) (base:=w69.heap.size) k77 (Nat.le_of_eq z74) rfl (fun _ _=>by rfl) (Nat.le_of_ble_eq_true rfl))) (ones_S _) (od c78) (((e52.t (Below.trans e67 (Wr.below h70 (Nat.le_of_eq z65)))).t e76)).size<|fun v79 w80 o81 z82 g83=>lp rfl (xa v79 rfl)<|qP<|vK<|qg<|qO<|lp rfl (vz h56 rfl)<|lp rfl (xm (.int .i64 (IntKind.wrap .i64 (x17_38 + 1))) rfl)<|nx ?_
       obtain rfl:=si H
       exact ⟨_,Nat.lt_succ_self _,x3_36 ++ ([(gt (gt a0 x11_9) x17_38).path] : List (List UInt8)),v79,IntKind.wrap .i64 (x17_38 + 1),(ku4 (ku8 K51 rfl) rfl),rfl,o81,rfl,(g83 _ ((e52.t (Below.trans e67 (Wr.below h70 (Nat.le_of_eq z65)))).t e76)),S58⟩
      ·refine qh (cb q59)<|yc<|vm<|vm<|yV<|qg ?_
       obtain rfl:=si H
       obtain rfl:=si S58
       exact ⟨x3_36,v37,(ku1 K51 rfl),h54,h55,e52,rfl⟩
    ·rintro s45 w44 ⟨x3_42,v43,K46,h84,h85,e47,y86⟩
     rw [y86] at C41
     have H:=C41
     replace H : _ = some _:=H
     refine vK<|qg<|qO<|lp rfl (vz ((K46 11 rfl).trans h27) rfl)<|lp rfl (xm (.int .i64 (IntKind.wrap .i64 (x11_9 + 1))) rfl)<|nx ?_
     obtain rfl:=si H
     exact ⟨_,Nat.lt_succ_self _,x3_42,v43,IntKind.wrap .i64 (x11_9 + 1),(ku2 (Kp.cut (ku3 (ku4 K22 rfl) rfl) K46 rfl) rfl),h84,h85,rfl,e47,S29⟩
   ·refine qh (cb q30)<|yc<|vm<|vm<|yV<|qg ?_
    obtain rfl:=si H
    obtain rfl:=si S29
    exact ⟨x3_7,v8,(ku1 K22 rfl),h25,h26,e23,rfl⟩
 ·rintro s16 w15 ⟨x3_13,v14,K17,h87,h88,e18,y89⟩
  rw [y89] at C12
  have H:=C12
  replace H : _ = some _:=H
  refine qg<|wr<|lp rfl (qf h87) ?_
  obtain ⟨c90,H⟩:=qa H
  obtain ⟨c91,H⟩:=qa H
  refine QX (.plain rfl) rfl (ltb rfl) rfl Tryz.call136 (G9.calls (w:=w15) h88 (GV.ext gv (e5.t e18)) (GV.pos (GV.ext gv e5)) (od c90) (od c91)) rfl<|fun _ w92 A93=>?_
  obtain ⟨rfl,B94,ys95,p96,q97,o98⟩:=A93
  refine nx<|wr<|lp rfl (qf h87)<|QX (.plain rfl) rfl (ltb rfl) rfl Tryz.call137 (Xz.calls (w:=w92) o98 p96 q97) rfl<|fun v103 w99 A100=>?_
  obtain ⟨B101,o102⟩:=A100
  refine lp rfl (xa v103 rfl)<|nx<|qr<|qy ?_
  obtain rfl:=si H
  exact QD rfl (e5.t (B101 _ (B94 _ e18))) o102 (e5).size
/-! slices.BinarySearchFunc(()impl.Node,impl.Node,impl.Node) -/
theorem qR.walk {k : Nat} {w : World} {a0 : List Nd} {a1 : Nd} {a2 : Nd→Nd→Option Int} {v_a0 : Value} (f_a0 : Rd 4 qp w v_a0 a0) {v_a2 : Value} (f_a2 : ∀ (x0 : Nd) (x1 : Nd) (r : Int),a2 x0 x1 = some r→jR Tryz.prog w v_a2 [(.agg (qp x0).toArray),(.agg (qp x1).toArray)] (.int .i64 r)) (g_a2 : v_a2.cells = #[v_a2]) {r : Int × Bool} (H : qR.sh k a0 a1 a2 = some r) :
  Calls Tryz.prog 206 #[v_a0,.agg (qp a1).toArray,v_a2] w (Rt (RP w (.tuple #[.int .i64 r.1,.bool r.2]))):=by
 unfold qR.sh at H
 refine qi Tryz.func206 rfl (Nat.le_of_ble_eq_true rfl) Tryz.ntmps206 rfl ?_
 refine wr<|Qq (.plain rfl) rfl (ltb rfl) rfl rfl<|fun b1 w2 z3 z4 e5 k6=>lp rfl (xa (.int .i64 0) rfl)<|lp rfl (xa (.bool false) rfl)<|nx<|wr<|lp rfl (xm v_a0 rfl)<|lp rfl (qS Tryz.underlying29 rfl (Rd.ext f_a0 e5))<|lp rfl (xa (.int .i64 (a0.length : Int)) rfl)<|nx<|wr<|lp rfl (xm (.int .i64 (a0.length : Int)) rfl)<|lp rfl (xa (.int .i64 0) rfl)<|lp rfl (xa (.int .i64 (a0.length : Int)) rfl)<|nx<|qk ?_
 obtain ⟨z9,L10,C11⟩:=bind_some H
 clear H
 refine  vT (fun s0 sQ wQ=>∃ (x9_12 : Int),Kp [(9,12),(15,35)] s0 sQ∧sQ 9 = .int .i64 x9_12∧Ext w2 wQ∧z9 = .inr x9_12) ?_ ?_
 ·refine qF<|vA (fun s0 kk sQ wQ=>∃ (x9_7 : Int) (x10_8 : Int),Kp [(9,12),(15,35)] s0 sQ∧sQ 9 = .int .i64 x9_7∧sQ 10 = .int .i64 x10_8∧Ext w2 wQ∧qt (qR.b1 a0 a1 a2) kk (x9_7,x10_8) = some z9) k ⟨0,(a0.length : Int),kz,rfl,rfl,er,L10⟩ ?_
  rintro k17 s18 w19 ⟨x9_7,x10_8,K20,h23,h24,e21,L22⟩
  cases k17 with
  | zero=>exact absurd L22 (by simp [qt])
  | succ k17=>
   obtain ⟨t25,H,S26⟩:=qQ L22
   clear L22
   unfold qR.b1 at H
   refine qk<|wr<|lp rfl (qf h23)<|lp rfl (qf h24)<|lp rfl (ym rfl rfl)<|nx ?_
   rcases qe H with ⟨q27,H⟩ | ⟨q27,H⟩
   ·refine ql (cb q27)<|qw<|qg<|qF<|wr<|lp rfl (qf h23)<|lp rfl (qf h24)<|lp rfl (vz rfl rfl)<|lp rfl (QZ Tryz.underlying3 Tryz.underlying187 rfl)<|lp rfl (X_shr (n:=1) rfl rfl rfl)<|lp rfl (QZ Tryz.underlying187 Tryz.underlying3 rfl)<|lp rfl (qA rfl)<|nx<|qk ?_
    obtain ⟨c28,H⟩:=qa H
    obtain ⟨z31,x32,H⟩:=bind_some H
    refine Yi [LEq v_a2,LEq v_a0,LEq (.int .i64 (IntKind.wrap .i64 ((IntKind.wrap .u64 (IntKind.wrap .i64 (x9_7 + x10_8))).fdiv (2 ^ 1)))),yv (qp (gt a0 (IntKind.wrap .i64 ((IntKind.wrap .u64 (IntKind.wrap .i64 (x9_7 + x10_8))).fdiv (2 ^ 1))))),LEq (.agg (qp (gt a0 (IntKind.wrap .i64 ((IntKind.wrap .u64 (IntKind.wrap .i64 (x9_7 + x10_8))).fdiv (2 ^ 1))))).toArray),LEq (.agg #[(.int .i64 a1.kind),(S a1.path),(S a1.body),(.int .i64 a1.mode)]),LEq (.int .i64 z31),LEq (.bool (decide (z31 < 0)))] (by kernel_rfl) (by kernel_rfl) ⟨qm,qm,qm,yv.mono,qm,qm,qm,qm,trivial⟩ ⟨?_,?_,?_,?_,?_,?_,?_,?_,trivial⟩ ?_
    ·exact fun s x e f d u=>lp rfl (xm v_a2 ((f 2 rfl).trans (K20 2 rfl)))<|se rfl rfl
    ·exact fun s x e f d u=>lp rfl (xm v_a0 ((f 0 rfl).trans (K20 0 rfl)))<|se rfl rfl
    ·exact fun s x e f d u=>lp rfl (qf (f 11 rfl))<|se rfl rfl
    ·exact fun s x e f d u=>vg (.plain rfl) rfl (ltb rfl) rfl Tryz.underlying29 Tryz.sizeOf91 (d 1 rfl) (Rd.ext f_a0 ((e5.t e21).t e)) (d 2 rfl) c28<|fun p36 h37=>se rfl ⟨_,rfl,h37⟩
    ·intro s x e f d u
     obtain ⟨p38,h39,h40⟩:=(d 3 rfl)
     exact lp rfl (qW Tryz.isAgg91 Tryz.sizeOf91 rfl h39 h40)<|se rfl rfl
    ·exact fun s x e f d u=>lp rfl (qW Tryz.isAgg91 Tryz.sizeOf91 rfl ((f 4 rfl).trans (K20 4 rfl)) (Blk.at0 (Blk.ext k6 (e21.t e))))<|se rfl rfl
    ·exact fun s x e f d u=>YM (.plain rfl) rfl (ltb rfl) rfl (d 0 rfl) (jR.ext (f_a2 _ _ _ x32) ((e5.t e21).t e)) (va (d 4 rfl) (va (d 5 rfl) rfl))<|fun w43 e44=>sx rfl e44 rfl
    ·exact fun s x e f d u=>lp rfl (ym (d 6 rfl) rfl)<|se rfl rfl
    intro s45 w46 e47 hf48 ha49
    have K50:=Kp.ofD (kp:=[(24,32)]) rfl hf48
    have d51 : s45 31 = (.bool (decide (z31 < 0))):=ha49 7 rfl
    clear ha49 hf48
    refine qg ?_
    rcases qe H with ⟨q52,H⟩ | ⟨q52,H⟩
    ·refine ql (d51.trans (cb q52))<|qO<|lp rfl (qf (K50 11 rfl))<|lp rfl (vz rfl rfl)<|lp rfl (qA rfl)<|qP<|vK<|qg ?_
     obtain rfl:=si H
     exact ⟨_,Nat.lt_succ_self _,IntKind.wrap .i64 ((IntKind.wrap .i64 ((IntKind.wrap .u64 (IntKind.wrap .i64 (x9_7 + x10_8))).fdiv (2 ^ 1))) + 1),x10_8,(ku3 (Kp.cut (ku2 (ku8 K20 rfl) rfl) K50 rfl) rfl),rfl,((K50 10 rfl).trans h24),(e21.t e47),S26⟩
    ·refine qh (d51.trans (cb q52))<|qO<|lp rfl (qf (K50 11 rfl))<|lp rfl (qA rfl)<|qP<|vK<|qg ?_
     obtain rfl:=si H
     exact ⟨_,Nat.lt_succ_self _,x9_7,IntKind.wrap .i64 ((IntKind.wrap .u64 (IntKind.wrap .i64 (x9_7 + x10_8))).fdiv (2 ^ 1)),(ku2 (Kp.cut (ku2 (ku8 K20 rfl) rfl) K50 rfl) rfl),((K50 9 rfl).trans h23),rfl,(e21.t e47),S26⟩
   ·refine qh (cb q27)<|yc<|vm<|vm<|yV<|qg ?_
    obtain rfl:=si H
    obtain rfl:=si S26
    exact ⟨x9_7,(ku3 K20 rfl),h23,e21,rfl⟩
 ·rintro s14 w13 ⟨x9_12,K15,h53,e16,y54⟩
  rw [y54] at C11
  have H:=C11
  replace H : _ = some _:=H
  refine qg<|qk ?_
  obtain ⟨c55,H⟩:=qa H
  obtain ⟨z58,x59,H⟩:=bind_some H
  refine Yi [LEq (.int .i64 x9_12),LEq (.int .i64 x9_12),LEq (.int .i64 (a0.length : Int)),LEq (.bool (decide (x9_12 < (a0.length : Int)))),LEq (.bool (decide (x9_12 < (a0.length : Int)))),LIf (decide (x9_12 < (a0.length : Int))) (LEq v_a2),LIf (decide (x9_12 < (a0.length : Int))) (LEq v_a0),LIf (decide (x9_12 < (a0.length : Int))) (LEq (.int .i64 x9_12)),LIf (decide (x9_12 < (a0.length : Int))) (yv (qp (gt a0 x9_12))),LIf (decide (x9_12 < (a0.length : Int))) (LEq (.agg (qp (gt a0 x9_12)).toArray)),LIf (decide (x9_12 < (a0.length : Int))) (LEq (.agg #[(.int .i64 a1.kind),(S a1.path),(S a1.body),(.int .i64 a1.mode)])),LIf (decide (x9_12 < (a0.length : Int))) (LEq (.int .i64 z58)),LIf (decide (x9_12 < (a0.length : Int))) (LEq (.bool (decide (z58 = 0)))),LEq (.bool ((decide (x9_12 < (a0.length : Int))) && (decide (z58 = 0)))),LEq (.int .i64 x9_12),LEq (.bool ((decide (x9_12 < (a0.length : Int))) && (decide (z58 = 0))))] (by kernel_rfl) (by kernel_rfl) ⟨qm,qm,qm,qm,qm,lm,lm,lm,(LIf.mono yv.mono),lm,lm,lm,lm,qm,qm,qm,trivial⟩ ⟨?_,?_,?_,?_,?_,?_,?_,?_,?_,?_,?_,?_,?_,?_,?_,?_,trivial⟩ ?_
  ·exact fun s x e f d u=>lp rfl (xm (.int .i64 x9_12) ((f 9 rfl).trans h53))<|se rfl rfl
  ·exact fun s x e f d u=>lp rfl (xm (.int .i64 x9_12) ((f 9 rfl).trans h53))<|se rfl rfl
  ·exact fun s x e f d u=>lp rfl (xm (.int .i64 (a0.length : Int)) ((f 8 rfl).trans (K15 8 rfl)))<|se rfl rfl
  ·exact fun s x e f d u=>lp rfl (ym (d 1 rfl) (d 2 rfl))<|se rfl rfl
  ·exact fun s x e f d u=>lp rfl (qf (d 3 rfl))<|se rfl rfl
  ·exact fun s x e f d u=>gT rfl rfl rfl rfl (d 4 rfl) rfl fun b t=>lt t rfl rfl (xm v_a2 ((f 2 rfl).trans (K15 2 rfl)))<|sg rfl rfl b rfl
  ·exact fun s x e f d u=>gT rfl rfl rfl rfl (d 4 rfl) rfl fun b t=>lt t rfl rfl (xm v_a0 ((f 0 rfl).trans (K15 0 rfl)))<|sg rfl rfl b rfl
  ·exact fun s x e f d u=>gT rfl rfl rfl rfl (d 4 rfl) rfl fun b t=>lt t rfl rfl (xm (.int .i64 x9_12) ((f 9 rfl).trans h53))<|sg rfl rfl b rfl
  ·exact fun s x e f d u=>gT rfl rfl rfl rfl (d 4 rfl) rfl fun b t=>vg t rfl (ltb rfl) rfl Tryz.underlying29 Tryz.sizeOf91 ((d 6 rfl).1 b) (Rd.ext f_a0 ((e5.t e16).t e)) ((d 7 rfl).1 b) (vM b c55)<|fun p63 h64=>sg rfl rfl b ⟨_,rfl,h64⟩
  ·intro s x e f d u
   refine gT rfl rfl rfl rfl (d 4 rfl) rfl fun b t=>?_
   obtain ⟨p65,h66,h67⟩:=((d 8 rfl).1 b)
   exact lt t rfl rfl (qW Tryz.isAgg91 Tryz.sizeOf91 rfl h66 h67)<|sg rfl rfl b rfl
  ·exact fun s x e f d u=>gT rfl rfl rfl rfl (d 4 rfl) rfl fun b t=>lt t rfl rfl (qW Tryz.isAgg91 Tryz.sizeOf91 rfl ((f 4 rfl).trans (K15 4 rfl)) (Blk.at0 (Blk.ext k6 (e16.t e))))<|sg rfl rfl b rfl
  ·exact fun s x e f d u=>gT rfl rfl rfl rfl (d 4 rfl) rfl fun b t=>YM t rfl (ltb rfl) rfl ((d 5 rfl).1 b) (jR.ext (f_a2 _ _ _ x59) ((e5.t e16).t e)) (va ((d 9 rfl).1 b) (va ((d 10 rfl).1 b) rfl))<|fun w70 e71=>sgx rfl rfl b e71 rfl
  ·exact fun s x e f d u=>gT rfl rfl rfl rfl (d 4 rfl) rfl fun b t=>lt t rfl rfl (vx ((d 11 rfl).1 b) rfl)<|sg rfl rfl b rfl
  ·exact fun s x e f d u=>lp rfl (jT (d 4 rfl) rfl fun h=>((d 12 rfl).1 h))<|se rfl rfl
  ·exact fun s x e f d u=>lp rfl (qA (d 0 rfl))<|se rfl rfl
  ·exact fun s x e f d u=>lp rfl (qA (d 13 rfl))<|se rfl rfl
  intro s72 w73 e74 hf75 ha76
  have K77:=Kp.ofD (kp:=[(6,8),(35,49)]) rfl hf75
  have d78 : s72 6 = (.int .i64 x9_12):=ha76 14 rfl
  have d79 : s72 7 = (.bool ((decide (x9_12 < (a0.length : Int))) && (decide (z58 = 0)))):=ha76 15 rfl
  clear ha76 hf75
  refine qg<|qr<|qy ?_
  obtain rfl:=si H
  exact JF d78 d79 ((e5.t e16).t e74)
theorem qR.calls {w : World} {a0 : List Nd} {a1 : Nd} {a2 : Nd→Nd→Option Int} {r : Int × Bool} {v_a0 : Value} (f_a0 : Rd 4 qp w v_a0 a0) {v_a2 : Value} (f_a2 : ∀ (x0 : Nd) (x1 : Nd) (r : Int),a2 x0 x1 = some r→jR Tryz.prog w v_a2 [(.agg (qp x0).toArray),(.agg (qp x1).toArray)] (.int .i64 r)) (g_a2 : v_a2.cells = #[v_a2]) (H : (qR.sh 64 a0 a1 a2) = some r) :
  Calls Tryz.prog 206 #[v_a0,.agg (qp a1).toArray,v_a2] w (Rt (RP w (.tuple #[.int .i64 r.1,.bool r.2]))):=by
 obtain ⟨k,h⟩:=qR.eq a0 a1 a2 H
 exact qR.walk f_a0 f_a2 g_a2 h
/-! impl.place$1 -/
theorem QF.calls {w : World} {a0 : Nd} {a1 : Nd} (gv : GV 0 w) (h0 : a0.path.length≤1048576) (h1 : a1.path.length≤1048576) :
  Calls Tryz.prog 207 #[.agg (qp a0).toArray,.agg (qp a1).toArray] w (Rt (RP w (.int .i64 (cmpL (cut 47 a0.path) (cut 47 a1.path))))):=by
 have H:=QF.eq a0 a1 h0 h1
 generalize (cmpL (cut 47 a0.path) (cut 47 a1.path)) = r at H ⊢
 unfold QF.sh at H
 refine qi Tryz.func207 rfl (Nat.le_of_ble_eq_true rfl) Tryz.ntmps207 rfl ?_
 refine wr<|Qq (.plain rfl) rfl (ltb rfl) rfl rfl<|fun b1 w2 z3 z4 e5 k6=>Qq (.plain rfl) rfl (ltb rfl) rfl rfl<|fun b7 w8 z9 z10 e11 k12=>lp rfl (xa (.int .i64 0) rfl)<|nx<|wr<|lp rfl (qc Tryz.underlying91 rfl Tryz.sizeOf9 rfl rfl)<|lp rfl (qz Tryz.isAgg9 (Blk.ext k6 e11) rfl rfl)<|lp rfl (qc Tryz.underlying91 rfl Tryz.sizeOf9 rfl rfl)<|lp rfl (qz Tryz.isAgg9 k12 rfl rfl) ?_
 obtain ⟨c13,H⟩:=qa H
 obtain ⟨c14,H⟩:=qa H
 refine lc rfl rfl Tryz.call102 (impl_compare.calls (w:=w8) (a0:=a0.path) (a1:=a1.path) (GV.ext gv (e5.t e11)) (od c13) (od c14)) rfl<|fun w15 e16=>lp rfl (xa (.int .i64 (cmpL (cut 47 a0.path) (cut 47 a1.path))) rfl)<|nx<|qr<|qy ?_
 obtain rfl:=si H
 exact vt rfl ((e5.t e11).t e16)
/-! slices.Insert(()impl.Node,impl.Node),by text -/
theorem XS.calls {w : World} {B : Nat} {v : Value} {xs : List Nd} {x : Nd} {i b9 : Nat} (hO : Ow 91 4 qp B w v xs) (hi : i ≤ xs.length) (hB : B ≤ w.heap.size) (k9 : Blk w b9 (qp x).toArray 91) (hne : (∃ A, v = .slice A 0 0) ∨ ∀ g, v.ownBlock = some g → b9 ≠ g) (hn : xs.length ≤ 1048576) :
    Calls Tryz.prog 208 #[v,.int .i64 i,.slice (some ⟨b9,0,none⟩) 1 1] w (Rt (fun r w'=>(∀ W,Below B W w→Below B W w')∧Ow 91 4 qp B w' r (Ja xs i x))):=by
  obtain ⟨A0,c0,hv0⟩:=hO.rd.shape
  have hcap : xs.length≤c0:=by obtain ⟨A',c',hv',⟨hn',_⟩,_⟩:=hO.rd; rw [hv0] at hv'; injection hv' with _ _ e9; omega
  have hxl : (qp x).length = 4:=rfl
  have hR1 : Rd 4 qp w (.slice (some ⟨b9,0,none⟩) 1 1) [x]:=(Ow.new (xs:=[x]) (sz:=4) (enc:=qp) (base:=0) k9 (Nat.zero_le _) (by simp) (fun _ _=>rfl) (Nat.le_of_ble_eq_true rfl)).rd
  refine qi Tryz.func208 rfl (Nat.le_of_ble_eq_true rfl) Tryz.ntmps208 rfl ?_
  refine wr<|lp rfl (qA rfl)<|nx<|wr<|lp rfl (xm v rfl)<|lp rfl (qf (v:=.int .i64 (i : Int)) rfl)<|
    lp rfl (Yq (A:=A0) (n:=xs.length) (c:=c0) (l:=(i : Int)) (h:=(xs.length : Int)) Tryz.underlying29 Tryz.sizeOf91 hv0 ⟨_,rfl⟩ rfl (by omega) (by omega) (by omega))<|nx<|
    wr<|lp rfl (qf (v:=.slice (some ⟨b9,0,none⟩) 1 1) rfl)<|lp rfl (X_len Tryz.underlying29 rfl)<|lp rfl (qA rfl)<|nx<|
    qk<|wr<|lp rfl (qf (v:=.int .i64 ((1 : Nat) : Int)) rfl)<|lp rfl (vx rfl rfl)<|nx<|qh (cb (decide_eq_false (by decide)))<|qw<|qg<|
    wr<|lp rfl (xm v rfl)<|lp rfl (X_len (A:=A0) (n:=xs.length) (c:=c0) Tryz.underlying29 hv0)<|lp rfl (qA rfl)<|nx<|
    qk<|wr<|lp rfl (qf (v:=.int .i64 (i : Int)) rfl)<|lp rfl (qf (v:=.int .i64 (xs.length : Int)) rfl)<|lp rfl (vx rfl rfl)<|nx ?_
  by_cases hie : i = xs.length
  · refine ql (cb (decide_eq_true (by omega)))<|wr<|lp rfl (xm v rfl)<|lp rfl (qf (v:=.slice (some ⟨b9,0,none⟩) 1 1) rfl)<|
      yP (enc:=qp) (.plain rfl) rfl (ltb rfl) rfl El.t29 rfl rfl hO hR1 (Qt _) (by simp; omega) hB<|fun v1 w1 o1 z1 g1=>lp rfl (xa v1 rfl)<|nx<|qr<|qv<|qy ?_
    refine ⟨_,rfl,g1,?_⟩
    have : Ja xs i x = xs ++ [x]:=by simp [Ja,hie]
    rw [this]; exact o1
  obtain ⟨g,cap,cur,hv,hBg,hh,hnc,hcm,hsz,htk⟩:=hO.row (by omega)
  have hcc : A0 = some ⟨g,0,none⟩∧c0 = cap:=by rw [hv] at hv0; injection hv0 with e1 _ e3; exact ⟨e1.symm,e3.symm⟩
  obtain ⟨rfl,rfl⟩:=hcc
  have hlen:=hO.2.1
  have hT : ((xs.take i).flatMap qp).length = i * 4:=by rw [jF qp 4 _ (fun y hy=>hlen y (List.mem_of_mem_take hy))]; simp; omega
  have hDl : ((xs.drop i).flatMap qp).length = (xs.length - i) * 4:=by rw [jF qp 4 _ (fun y hy=>hlen y (List.mem_of_mem_drop hy))]; simp
  have hcur : cur.toList = (xs.take i).flatMap qp ++ (xs.drop i).flatMap qp ++ cur.toList.drop (xs.length * 4):=by
    rw [← List.flatMap_append,List.take_append_drop,← htk,List.take_append_drop]
  have hcl : cur.toList.length = c0 * 4:=by simpa using hsz
  have hone1 : ∀ c ∈ qp x,c.oneCell' = true:=fun c hc=>Qt [x] x (by simp) c hc
  have honeD : ∀ c ∈ (xs.drop i).flatMap qp,c.oneCell' = true:=fun c hc=>by
    obtain ⟨y,hy,hc⟩:=List.mem_flatMap.1 hc
    exact Qt _ y hy c hc
  have hil : (Ja xs i x).length = xs.length + 1:=insAt_len xs i x hi
  have hlen2 : ∀ y ∈ Ja xs i x,(qp y).length = 4:=fun y _=>rfl
  have hsrcX : ∀ {W : World},Blk W b9 (qp x).toArray 91→∀ j u,(qp x)[j]? = some u→W.cell? ((⟨b9,0,none⟩ : Addr).add j) = some u:=fun {W} k j u hj=>by
    rw [Qd,Nat.zero_add,k.cell]; simpa using hj
  have hgetD : ∀ j u,((xs.drop i).flatMap qp)[j]? = some u→cur.toList[i * 4 + j]? = some u:=fun j u hj=>by
    have hj' : j < ((xs.drop i).flatMap qp).length:=(List.getElem?_eq_some_iff.1 hj).1
    rw [hcur,List.append_assoc,List.getElem?_append_right (by omega),hT,Nat.add_sub_cancel_left,List.getElem?_append_left hj',hj]
  have hsrcD : ∀ {W : World},Blk W g cur 91→∀ j u,((xs.drop i).flatMap qp)[j]? = some u→W.cell? ((⟨g,0 + i * 4,none⟩ : Addr).add j) = some u:=fun {W} k j u hj=>by
    rw [Qd,k.cell,Nat.zero_add]
    have:=hgetD j u hj
    simpa using this
  have hw : IntKind.wrap .i64 ((xs.length : Int) + ((1 : Nat) : Int)) = ((xs.length + 1 : Nat) : Int):=by rw [Int.natCast_add]; exact Go.UL.wrap_small (by omega) (by omega)
  have hwi : IntKind.wrap .i64 ((i : Int) + ((1 : Nat) : Int)) = ((i + 1 : Nat) : Int):=by rw [Int.natCast_add]; exact Go.UL.wrap_small (by omega) (by omega)
  have hgw : g < w.heap.size:=(Array.getElem?_eq_some_iff.1 hh).1
  refine qh (cb (decide_eq_false (by omega)))<|qw<|qg<|qk<|wr<|lp rfl (qf (v:=.int .i64 (xs.length : Int)) rfl)<|lp rfl (qf (v:=.int .i64 ((1 : Nat) : Int)) rfl)<|
    lp rfl (Ex.cast (vz rfl rfl) (congrArg (Value.int .i64) hw))<|lp rfl (xm v rfl)<|lp rfl (X_cap Tryz.underlying29 hv)<|lp rfl (j8 rfl rfl)<|nx ?_
  by_cases hroom : c0 < xs.length + 1
  · -- no room: a new block
    obtain ⟨k,hk⟩ : ∃ k,i + k = xs.length + 1:=⟨xs.length + 1 - i,by omega⟩
    have hw2 : IntKind.wrap .i64 (((xs.length + 1 : Nat) : Int) - (i : Int)) = (k : Int):=by rw [Go.UL.wrap_small (by omega) (by omega)]; omega
    have hc0 : c0 = xs.length:=by omega
    refine ql (cb (decide_eq_true (by omega)))<|wr<|lp rfl (xm v rfl)<|lp rfl (qf (v:=.int .i64 (i : Int)) rfl)<|
      lp rfl (Ex.cast (v':=.slice (some ⟨g,0,none⟩) i c0) (VF (l:=0) (h:=i) Tryz.underlying29 Tryz.sizeOf91 hv rfl ⟨_,rfl⟩ (.inr rfl) (Nat.zero_le _) (by omega)) (by simp))<|
      lp rfl (qf (v:=.int .i64 (xs.length : Int)) rfl)<|lp rfl (qf (v:=.int .i64 ((1 : Nat) : Int)) rfl)<|lp rfl (Ex.cast (vz rfl rfl) (congrArg (Value.int .i64) hw))<|lp rfl (qf (v:=.int .i64 (i : Int)) rfl)<|
      lp rfl (Ex.cast (Q3 rfl rfl) (congrArg (Value.int .i64) hw2))<|
      L_appendZ (olds:=(xs.take i).flatMap qp) (.plain rfl) rfl (ltb rfl) rfl El.t29 Tryz.underlying3 rfl rfl (run_firstCells_some w.drew 4 i ⟨g,0,none⟩ i c0 _ hT (fun j u hj=>?_)) hT (by omega) (by omega) (by omega)<|fun b w1 C zs hb e1 hC1 hC2 hCl k1=>lp rfl (qA rfl)<|nx ?_
    · have hj' : j < ((xs.take i).flatMap qp).length:=(List.getElem?_eq_some_iff.1 hj).1
      have kd : Blk w.drew g cur 91:=Blk.ext hh (Ext.drew w)
      rw [Qd,kd.cell,Nat.zero_add]
      have : cur.toList[j]? = some u:=by rw [hcur,List.append_assoc,List.getElem?_append_left hj',hj]
      simpa using this
    have hBb : B≤b:=by omega
    have hgb : g ≠ b:=by omega
    have hzl : zs.length = C * 4 - i * 4:=by simp only [List.length_append,hT] at hCl; omega
    have hCs : (xs.length + 1) * 4≤C * 4:=Nat.mul_le_mul_right _ (by omega)
    have hmin1 : Nat.min 1 (i + k - i) = 1:=Nat.min_eq_left (by omega)
    refine wr<|lp rfl (qf (v:=.slice (some ⟨b,0,none⟩) (i + k) C) rfl)<|lp rfl (qf (v:=.int .i64 (i : Int)) rfl)<|
      lp rfl (VF (l:=i) (h:=i + k) Tryz.underlying29 Tryz.sizeOf91 rfl ⟨_,rfl⟩ rfl (.inl (by omega)) (by omega) hC1)<|lp rfl (qf (v:=.slice (some ⟨b9,0,none⟩) 1 1) rfl)<|
      XH (cs:=qp x) (.plain rfl) rfl (ltb rfl) rfl Tryz.underlying29 Tryz.sizeOf91 k1 rfl rfl (by rw [hmin1]; rfl) (hsrcX (k9.ext e1)) (by simp only [List.size_toArray,hCl,hxl]; omega) hone1<|fun w2 hw2' k2=>nx ?_
    have e2 : Ext w w2:=Ext.wr e1 hw2' (Nat.le_of_eq hb) (Nat.le_refl _)
    have hh2 : Blk w2 g cur 91:=Blk.ext hh e2
    have hlr : ((List.take (0 + i * 4) ((List.flatMap qp (List.take i xs)) ++ zs)) ++ qp x ++ List.drop (0 + i * 4 + (qp x).length) ((List.flatMap qp (List.take i xs)) ++ zs)).length = C * 4:=by
      simp only [List.length_append,List.length_take,List.length_drop,hT,hxl,hzl]; omega
    have hmin2 : Nat.min (xs.length - i) (i + k - (i + 1)) = xs.length - i:=Nat.min_eq_left (by omega)
    refine qk <| XK (B := B) [LEq (.slice (some ⟨b, 0, none⟩) (i + k) C), LEq (.int .i64 (i : Int)), LEq (.int .i64 ((1 : Nat) : Int)), LEq (.int .i64 ((i + 1 : Nat) : Int)), LEq (.slice (some ⟨b, 0 + (i + 1) * 4, none⟩) (i + k - (i + 1)) (C - (i + 1))), LEq v, LEq (.int .i64 (i : Int)), LEq (.slice (some ⟨g, 0 + i * 4, none⟩) (xs.length - i) (c0 - i)),
        fun _ W=>∃ row,Blk W b row 91∧row.toList = (xs.take i).flatMap qp ++ (qp x ++ (xs.drop i).flatMap qp) ++ zs.drop (4 + ((xs.drop i).flatMap qp).length)]
      [⟨true,true,true,false,[]⟩,⟨true,true,true,false,[]⟩,⟨true,true,true,false,[]⟩,⟨true,true,true,false,[1,2]⟩,⟨true,true,true,false,[0,3]⟩,⟨true,true,true,false,[]⟩,⟨true,true,true,false,[]⟩,⟨true,true,true,false,[5,6]⟩,⟨false,false,true,true,[4,7]⟩]
      [(8,0,[4]),(8,1,[4,3]),(8,2,[4,3]),(8,3,[4]),(8,4,[]),(8,5,[7]),(8,6,[7]),(8,7,[])] (by kernel_rfl) (by kernel_rfl) (Nat.le_trans hB e2.size)
      ⟨⟨LEq.rig.mono,fun _=>LEq.rig⟩,⟨LEq.rig.mono,fun _=>LEq.rig⟩,⟨LEq.rig.mono,fun _=>LEq.rig⟩,⟨LEq.rig.mono,fun _=>LEq.rig⟩,⟨LEq.rig.mono,fun _=>LEq.rig⟩,⟨LEq.rig.mono,fun _=>LEq.rig⟩,⟨LEq.rig.mono,fun _=>LEq.rig⟩,⟨LEq.rig.mono,fun _=>LEq.rig⟩,⟨fun _ _ _ k9 ⟨row,h1,h2⟩=>⟨row,h1.ext k9,h2⟩,noR⟩,trivial⟩
      ⟨?_,?_,?_,?_,?_,?_,?_,?_,?_,trivial⟩ ?_
    · intro s9 w9 hb9 hx9 hf9 hd9 hu9
      exact lp rfl (qf (hf9 9 rfl))<|qP<|jJ rfl rfl rfl er rfl
    · intro s9 w9 hb9 hx9 hf9 hd9 hu9
      exact lp rfl (qf (hf9 1 rfl))<|qP<|jJ rfl rfl rfl er rfl
    · intro s9 w9 hb9 hx9 hf9 hd9 hu9
      exact lp rfl (qf (hf9 7 rfl))<|qP<|jJ rfl rfl rfl er rfl
    · intro s9 w9 hb9 hx9 hf9 hd9 hu9
      exact lp rfl (Ex.cast (vz (hd9 1 rfl) (hd9 2 rfl)) (congrArg (Value.int .i64) hwi))<|qP<|jJ rfl rfl rfl er rfl
    · intro s9 w9 hb9 hx9 hf9 hd9 hu9
      exact lp rfl (VF (l:=i + 1) (h:=i + k) Tryz.underlying29 Tryz.sizeOf91 (hd9 0 rfl) ⟨_,hd9 3 rfl⟩ rfl (.inl (by omega)) (by omega) hC1)<|qP<|jJ rfl rfl rfl er rfl
    · intro s9 w9 hb9 hx9 hf9 hd9 hu9
      exact lp rfl (qf (hf9 0 rfl))<|qP<|jJ rfl rfl rfl er rfl
    · intro s9 w9 hb9 hx9 hf9 hd9 hu9
      exact lp rfl (qf (hf9 1 rfl))<|qP<|jJ rfl rfl rfl er rfl
    · intro s9 w9 hb9 hx9 hf9 hd9 hu9
      exact lp rfl (VF (l:=i) (h:=xs.length) Tryz.underlying29 Tryz.sizeOf91 ((hd9 5 rfl).trans hv) ⟨_,hd9 6 rfl⟩ rfl (.inl (by omega)) hi (by omega))<|qP<|jJ rfl rfl rfl er rfl
    · intro s9 w9 hb9 hx9 hf9 hd9 hu9
      have e9 : Ext w2 w9:=hx9 rfl
      refine XH (cs:=(xs.drop i).flatMap qp) (.plain rfl) rfl (ltb rfl) rfl Tryz.underlying29 Tryz.sizeOf91 (k2.ext e9) (hd9 4 rfl) (hd9 7 rfl) (by rw [hmin2,hDl]) (hsrcD (hh2.ext e9)) (by simp only [List.size_toArray,hlr,hDl]; omega) honeD<|fun w3 hw3 k3=>qP<|stepH rfl rfl rfl (hw3.below hBb) ⟨_,k3,?_⟩
      have hz : 4≤zs.length:=by omega
      have:=ins_grow (T:=(xs.take i).flatMap qp) (X:=qp x) (D:=(xs.drop i).flatMap qp) (Z:=zs) hT hxl hz
      simp only [Nat.zero_add] at this ⊢
      rw [show (i + 1) * 4 = i * 4 + 4 by omega]
      exact this
    · intro s3 w3 hb3 hf3 ha3
      obtain ⟨row,k3,hrow⟩:=ha3 8 rfl rfl
      refine qg<|wr<|lp rfl (qf (v:=.slice (some ⟨b,0,none⟩) (i + k) C) (hf3 9 rfl))<|lp rfl (qA rfl)<|nx<|qr<|qv<|qy ?_
      refine ⟨_,rfl,fun W hW=>?_,?_⟩
      · exact Below.trans (Below.trans (Below.trans hW (e1.mono hB)) (hw2'.below hBb)) hb3
      · have hrl : row.toList.length = C * 4:=by
          rw [hrow]; simp only [List.length_append,List.length_drop,hT,hxl,hDl,hzl]; omega
        have:=Ow.of_row (C:=C) (ys:=Ja xs i x) (R:=zs.drop (4 + ((xs.drop i).flatMap qp).length)) (row:=row.toList) hBb (by simpa using k3) (by rw [ins_flat]; exact hrow) hlen2 (by omega) hC2 hrl
        rw [hil,← hk] at this
        exact this
  · -- room: in place
    have hw3 : IntKind.wrap .i64 ((xs.length : Int) + ((1 : Nat) : Int)) = ((xs.length + 1 : Nat) : Int):=hw
    have hne9 : b9 ≠ g:=by
      rcases hne with ⟨A,hA⟩ | hne
      · rw [hv] at hA; injection hA with _ hl0 _; omega
      · exact hne g (by rw [hv]; rfl)
    refine qh (cb (decide_eq_false (by omega)))<|qw<|qg<|wr<|lp rfl (xm v rfl)<|lp rfl (qf (v:=.int .i64 (xs.length : Int)) rfl)<|lp rfl (qf (v:=.int .i64 ((1 : Nat) : Int)) rfl)<|
      lp rfl (Ex.cast (vz rfl rfl) (congrArg (Value.int .i64) hw))<|lp rfl (Ex.cast (v':=.slice (some ⟨g,0,none⟩) (xs.length + 1) c0) (VF (l:=0) (h:=xs.length + 1) Tryz.underlying29 Tryz.sizeOf91 hv rfl ⟨_,rfl⟩ (.inr rfl) (Nat.zero_le _) (by omega)) (by simp))<|
      lp rfl (qA rfl)<|nx<|qk<|wr<|lp rfl (qf (v:=.slice (some ⟨b9,0,none⟩) 1 1) rfl)<|lp rfl (qf (v:=.slice (some ⟨g,0,none⟩) (xs.length + 1) c0) rfl)<|lp rfl (qf (v:=.int .i64 (i : Int)) rfl)<|
      lp rfl (qf (v:=.int .i64 ((1 : Nat) : Int)) rfl)<|lp rfl (Ex.cast (vz rfl rfl) (congrArg (Value.int .i64) hwi))<|
      lp rfl (VF (l:=i + 1) (h:=xs.length + 1) Tryz.underlying29 Tryz.sizeOf91 rfl ⟨_,rfl⟩ rfl (.inl (by omega)) (by omega) (by omega))<|
      lp rfl (X_ext (vs:=#[.slice (some ⟨b9,0,none⟩) 1 1,.slice (some ⟨g,0 + (i + 1) * 4,none⟩) (xs.length + 1 - (i + 1)) (c0 - (i + 1))]) rfl (v:=.bool false) ?_)<|
      lp rfl (yR rfl)<|nx<|ql rfl ?_
    · rw [run_callFunc_extern Tryz.func238 (by kernel_rfl) (by kernel_rfl) (by kernel_rfl) (e:=Extern.SlicesOverlaps.overlaps #[29,29] #[4]) (by kernel_rfl),
        Lib.run_overlaps_apart w 29 4 91 Tryz.underlying29 4 Tryz.sizeOf91 ⟨b9,0,none⟩ ⟨g,0 + (i + 1) * 4,none⟩ 1 1 _ _ hne9 91 91 _ _ k9.shape (Blk.shape (cs:=cur) hh) (by omega) k9.frozen k9.frozen]
      rfl
    have hmin2 : Nat.min (xs.length + 1 - i) (xs.length + 1 - (i + 1)) = xs.length - i:=(Nat.min_eq_right (by omega)).trans (by omega)
    have hcs : (xs.length + 1) * 4≤c0 * 4:=Nat.mul_le_mul_right _ (by omega)
    refine qk <| XK (B := B) [LEq (.slice (some ⟨g, 0, none⟩) (xs.length + 1) c0), LEq (.int .i64 (i : Int)), LEq (.int .i64 ((1 : Nat) : Int)), LEq (.int .i64 ((i + 1 : Nat) : Int)), LEq (.slice (some ⟨g, 0 + (i + 1) * 4, none⟩) (xs.length + 1 - (i + 1)) (c0 - (i + 1))), LEq (.slice (some ⟨g, 0, none⟩) (xs.length + 1) c0), LEq (.int .i64 (i : Int)), LEq (.slice (some ⟨g, 0 + i * 4, none⟩) (xs.length + 1 - i) (c0 - i)),
        fun _ W=>Blk W g (List.take (0 + (i + 1) * 4) cur.toList ++ (xs.drop i).flatMap qp ++ List.drop (0 + (i + 1) * 4 + ((xs.drop i).flatMap qp).length) cur.toList).toArray 91∧Blk W b9 (qp x).toArray 91]
      [⟨true,true,true,false,[]⟩,⟨true,true,true,false,[]⟩,⟨true,true,true,false,[]⟩,⟨true,true,true,false,[1,2]⟩,⟨true,true,true,false,[0,3]⟩,⟨true,true,true,false,[]⟩,⟨true,true,true,false,[]⟩,⟨true,true,true,false,[5,6]⟩,⟨false,false,true,true,[4,7]⟩]
      [(8,0,[4]),(8,1,[4,3]),(8,2,[4,3]),(8,3,[4]),(8,4,[]),(8,5,[7]),(8,6,[7]),(8,7,[])] (by kernel_rfl) (by kernel_rfl) hB
      ⟨⟨LEq.rig.mono,fun _=>LEq.rig⟩,⟨LEq.rig.mono,fun _=>LEq.rig⟩,⟨LEq.rig.mono,fun _=>LEq.rig⟩,⟨LEq.rig.mono,fun _=>LEq.rig⟩,⟨LEq.rig.mono,fun _=>LEq.rig⟩,⟨LEq.rig.mono,fun _=>LEq.rig⟩,⟨LEq.rig.mono,fun _=>LEq.rig⟩,⟨LEq.rig.mono,fun _=>LEq.rig⟩,⟨fun _ _ _ k9 ⟨h1,h2⟩=>⟨h1.ext k9,h2.ext k9⟩,noR⟩,trivial⟩
      ⟨?_,?_,?_,?_,?_,?_,?_,?_,?_,trivial⟩ ?_
    · intro s9 w9 hb9 hx9 hf9 hd9 hu9
      exact lp rfl (qf (hf9 0 rfl))<|qP<|jJ rfl rfl rfl er rfl
    · intro s9 w9 hb9 hx9 hf9 hd9 hu9
      exact lp rfl (qf (hf9 1 rfl))<|qP<|jJ rfl rfl rfl er rfl
    · intro s9 w9 hb9 hx9 hf9 hd9 hu9
      exact lp rfl (qf (hf9 7 rfl))<|qP<|jJ rfl rfl rfl er rfl
    · intro s9 w9 hb9 hx9 hf9 hd9 hu9
      exact lp rfl (Ex.cast (vz (hd9 1 rfl) (hd9 2 rfl)) (congrArg (Value.int .i64) hwi))<|qP<|jJ rfl rfl rfl er rfl
    · intro s9 w9 hb9 hx9 hf9 hd9 hu9
      exact lp rfl (VF (l:=i + 1) (h:=xs.length + 1) Tryz.underlying29 Tryz.sizeOf91 (hd9 0 rfl) ⟨_,hd9 3 rfl⟩ rfl (.inl (by omega)) (by omega) (by omega))<|qP<|jJ rfl rfl rfl er rfl
    · intro s9 w9 hb9 hx9 hf9 hd9 hu9
      exact lp rfl (qf (hf9 0 rfl))<|qP<|jJ rfl rfl rfl er rfl
    · intro s9 w9 hb9 hx9 hf9 hd9 hu9
      exact lp rfl (qf (hf9 1 rfl))<|qP<|jJ rfl rfl rfl er rfl
    · intro s9 w9 hb9 hx9 hf9 hd9 hu9
      exact lp rfl (VF (l:=i) (h:=xs.length + 1) Tryz.underlying29 Tryz.sizeOf91 (hd9 5 rfl) ⟨_,hd9 6 rfl⟩ rfl (.inl (by omega)) (by omega) (by omega))<|qP<|jJ rfl rfl rfl er rfl
    · intro s9 w9 hb9 hx9 hf9 hd9 hu9
      have e9 : Ext w w9:=hx9 rfl
      exact XH (cs:=(xs.drop i).flatMap qp) (.plain rfl) rfl (ltb rfl) rfl Tryz.underlying29 Tryz.sizeOf91 (Blk.ext hh e9) (hd9 4 rfl) (hd9 7 rfl) (by rw [hmin2,hDl]) (hsrcD (Blk.ext hh e9)) (by rw [hDl,hsz]; omega) honeD<|fun w3 hw3 k3=>qP<|stepH rfl rfl rfl (hw3.below hBg) ⟨k3,hw3.blk (k9.ext e9) hne9⟩
    · intro s3 w3 hb3 hf3 ha3
      obtain ⟨k3,k93⟩:=ha3 8 rfl rfl
      have hmin1 : Nat.min 1 (xs.length + 1 - i) = 1:=Nat.min_eq_left (by omega)
      have hsz3 : (List.take (0 + (i + 1) * 4) cur.toList ++ (xs.drop i).flatMap qp ++ List.drop (0 + (i + 1) * 4 + ((xs.drop i).flatMap qp).length) cur.toList).length = c0 * 4:=by
        simp only [List.length_append,List.length_take,List.length_drop,hDl,hcl]; omega
      refine qg<|wr<|lp rfl (qf (v:=.slice (some ⟨g,0,none⟩) (xs.length + 1) c0) (hf3 0 rfl))<|lp rfl (qf (v:=.int .i64 (i : Int)) (hf3 1 rfl))<|
        lp rfl (VF (l:=i) (h:=xs.length + 1) Tryz.underlying29 Tryz.sizeOf91 rfl ⟨_,rfl⟩ rfl (.inl (by omega)) (by omega) (by omega))<|lp rfl (qf (v:=.slice (some ⟨b9,0,none⟩) 1 1) (hf3 2 rfl))<|
        XH (cs:=qp x) (.plain rfl) rfl (ltb rfl) rfl Tryz.underlying29 Tryz.sizeOf91 k3 rfl rfl (by rw [hmin1]; rfl) (hsrcX k93) (by simp only [List.size_toArray,hsz3,hxl]; omega) hone1<|fun w4 hw4 k4=>nx<|
        wr<|lp rfl (qf (v:=.slice (some ⟨g,0,none⟩) (xs.length + 1) c0) (hf3 0 rfl))<|lp rfl (qA rfl)<|nx<|qr<|qv<|qy ?_
      refine ⟨_,rfl,fun W hW=>?_,?_⟩
      · exact Below.trans (Below.trans hW hb3) (hw4.below hBg)
      · have hz : 4≤(cur.toList.drop (xs.length * 4)).length:=by simp only [List.length_drop,hcl]; omega
        have h5:=ins_room (T:=(xs.take i).flatMap qp) (X:=qp x) (D:=(xs.drop i).flatMap qp) (R:=cur.toList.drop (xs.length * 4)) hT hxl hz
        rw [← hcur,show i * 4 + 4 = (i + 1) * 4 by omega] at h5
        simp only [Nat.zero_add] at k4
        rw [h5] at k4
        have hrl : ((xs.take i).flatMap qp ++ (qp x ++ (xs.drop i).flatMap qp) ++ (cur.toList.drop (xs.length * 4)).drop 4).length = c0 * 4:=by
          simp only [List.length_append,List.length_drop,hT,hxl,hDl,hcl]; omega
        have:=Ow.of_row (C:=c0) (ys:=Ja xs i x) (R:=(cur.toList.drop (xs.length * 4)).drop 4) hBg k4 (by rw [ins_flat]) hlen2 (by omega) hcm hrl
        rw [hil] at this
        exact this

/-! impl.place,by text -/
theorem insAt_less {t : List Nd} {n : Nd} (h : riseN t = true) : Ja t (jM t n.path) n = Qj t n:=by
  obtain ⟨h1,h2⟩:=less_split (p:=n.path) (XP h)
  unfold Ja Qj; rw [h1,h2]
theorem impl_place.calls {w : World} {a0 : List Nd} {a1 : Nd} {v_a0 : Value} (gv : GV 0 w) (f_a0 : Rd 4 qp w v_a0 a0) (h0 : a0.length ≤ 1048575) (h1 : riseN a0 = true) (h2 : ∀ x ∈ a0, x.path.length ≤ 1048576) (h3 : a1.path.length ≤ 1048576) :
    Calls Tryz.prog 149 #[v_a0,.agg (qp a1).toArray] w (Rt (RO 91 4 qp w (Qj a0 a1))):=by
  obtain ⟨fd,hbs⟩:=binS_run h0 h1 h2 h3
  have hle:=lessC_le a0 a1.path
  refine qi Tryz.func149 rfl (Nat.le_of_ble_eq_true rfl) Tryz.ntmps149 rfl ?_
  refine wr<|Qq (.plain rfl) rfl (ltb rfl) rfl rfl<|fun b3 w1 z1 z2 e1 k1=>lp rfl (qA (v:=.slice none 0 0) rfl)<|nx<|wr<|lp rfl (xm v_a0 rfl)<|lp rfl (qW (cs:=qp a1) Tryz.isAgg91 Tryz.sizeOf91 rfl rfl (Blk.at0 k1))<|
    lc rfl rfl Tryz.call206 (qR.calls (w:=w1) (a0:=a0) (a1:=a1) (a2:=cmpN) (v_a2:=.func (.func 207) #[] #[]) (f_a0.ext e1) (fun x0 x1 r h=>?_) rfl hbs) rfl<|fun w2 e2=>lp rfl (qf rfl)<|lp rfl (ve rfl rfl)<|lp rfl (ve rfl rfl)<|lp rfl (qA (v:=.int .i64 (jM a0 a1.path : Int)) rfl)<|lp rfl (qA rfl)<|nx ?_
  · obtain ⟨q0,q1,rfl⟩:=cmpN_some h
    exact jR.mk Tryz.call207 (by rfl) fun w9 k9=>QF.calls (w:=w9) (a0:=x0) (a1:=x1) (GV.ext gv (e1.t k9)) q0 q1
  have f2 : Rd 4 qp w2 v_a0 a0:=f_a0.ext (e1.t e2)
  have k2:=k1.ext e2
  refine qk<|W_drawP (B:=w2.heap.size) [LEq v_a0,LOw 91 4 qp w2.heap.size a0,LEq (.int .i64 (jM a0 a1.path : Int)),LEq (.agg (qp a1).toArray),fun v W=>∃ b,v = .slice (some ⟨b,0,none⟩) 1 1∧Blk W b (qp a1).toArray 91,LOw 91 4 qp w2.heap.size (Qj a0 a1),LOw 91 4 qp w2.heap.size (Qj a0 a1)]
    [⟨true,true,true,false,[]⟩,⟨true,false,true,false,[0]⟩,⟨true,true,true,false,[]⟩,⟨true,true,true,false,[]⟩,⟨true,false,true,false,[3]⟩,⟨false,false,true,false,[1,2,4]⟩,⟨true,false,false,true,[5]⟩]
    [(5,0,[1]),(5,1,[]),(5,2,[]),(5,3,[4]),(5,4,[]),(6,5,[])] 1 4 5 Apart (by kernel_rfl) (by kernel_rfl) (by kernel_rfl) (by kernel_rfl) (Nat.le_refl _)
    ⟨⟨LEq.rig.mono,fun _=>LEq.rig⟩,⟨LOw.mono,noR⟩,⟨LEq.rig.mono,fun _=>LEq.rig⟩,⟨LEq.rig.mono,fun _=>LEq.rig⟩,⟨fun _ _ _ k ⟨b,h1,h2⟩=>⟨b,h1,h2.ext k⟩,noR⟩,⟨LOw.mono,noR⟩,⟨LOw.mono,noR⟩,trivial⟩
    ⟨?_,?_,?_,?_,?_,?_,?_,trivial⟩ ?_
  · intro s9 w9 c9 hb9 hx9 hf9 hd9 hu9 hp9 hq9 hD9
    exact lp rfl (qf (hf9 0 rfl))<|qP<|XG rfl rfl rfl er rfl rfl rfl
  · intro s9 w9 c9 hb9 hx9 hf9 hd9 hu9 hp9 hq9 hD9
    have e9 : Ext w2 w9:=hx9 rfl
    have h13 : s9 13 = v_a0:=hd9 0 rfl
    refine vp (.plain rfl) rfl (ltb rfl) rfl Tryz.call123 (YX.calls (w:=w9) (a0:=a0) (f2.ext e9) (by omega)) (va h13 rfl)<|fun v14 w10 e10 o14=>qP<|stepPp rfl rfl rfl e10 (Ow.base o14 e9.size) (fun hc=>?_) rfl
    obtain ⟨b,hb,kb⟩:=hp9 rfl hc
    obtain ⟨h9 | ⟨h9,_⟩,_⟩:=o14
    · refine .inr fun g b' hg hb'=>?_
      have hlt:=(h9.lt g hg).1
      have hb2 : s9 17 = .slice (some ⟨b,0,none⟩) 1 1:=hb
      have hb'' : (s9 17).ownBlock = some b':=hb'
      rw [hb2] at hb''
      have : b = b':=si hb''
      have:=kb.lt
      omega
    · exact .inl h9
  · intro s9 w9 c9 hb9 hx9 hf9 hd9 hu9 hp9 hq9 hD9
    exact lp rfl (qf (hf9 5 rfl))<|qP<|XG rfl rfl rfl er rfl rfl rfl
  · intro s9 w9 c9 hb9 hx9 hf9 hd9 hu9 hp9 hq9 hD9
    have e9 : Ext w2 w9:=hx9 rfl
    exact lp rfl (qW (cs:=qp a1) Tryz.isAgg91 Tryz.sizeOf91 rfl (hf9 3 rfl) (Blk.at0 (k2.ext e9)))<|qP<|XG rfl rfl rfl er rfl rfl rfl
  · intro s9 w9 c9 hb9 hx9 hf9 hd9 hu9 hp9 hq9 hD9
    have e9 : Ext w2 w9:=hx9 rfl
    have h16 : s9 16 = .agg (qp a1).toArray:=hd9 3 rfl
    refine yt (.plain rfl) rfl (ltb rfl) rfl Tryz.underlying29 Tryz.sizeOf91 Tryz.zeroValue91 rfl rfl rfl (vs:=[.agg (qp a1).toArray]) (va h16 rfl) (qX rfl)<|fun b17 w10 z17 z17' e10 k17=>qP<|stepPq rfl rfl rfl e10 ⟨b17,rfl,k17⟩ rfl (fun hc=>?_)
    have o14 : Ow 91 4 qp w2.heap.size w9 (s9 14) a0:=hq9 rfl hc
    rcases o14.hb with h9 | h9
    · exact .inl h9
    · refine .inr fun g b' hg hb'=>?_
      have hlt:=h9 g hg
      have : b17 = b':=si hb'
      omega
  · intro s9 w9 c9 hb9 hx9 hf9 hd9 hu9 hp9 hq9 hD9
    have e9 : Ext w2 w9:=hx9 rfl
    have o14 : Ow 91 4 qp w2.heap.size w9 (s9 14) a0:=hd9 1 rfl
    have h15 : s9 15 = .int .i64 (jM a0 a1.path : Int):=hd9 2 rfl
    obtain ⟨b17,h17,k17⟩:=hd9 4 rfl
    have h17' : s9 17 = .slice (some ⟨b17,0,none⟩) 1 1:=h17
    have hD : Apart (s9 14) (s9 17):=hD9 rfl rfl
    refine QX (.plain rfl) rfl (ltb rfl) rfl Tryz.call208 (XS.calls (w:=w9) (x:=a1) (i:=jM a0 a1.path) o14 hle e9.size k17 (hD.imp (fun h=>h) fun h g hg=>h g b17 hg (by rw [h17']; rfl)) (by omega)) (va rfl (va h15 (va h17' rfl)))<|fun v18 w10 h18=>?_
    obtain ⟨g18,o18⟩:=h18
    refine qP<|stepPH0 rfl rfl rfl (g18 _ (Below.refl _ _)) (show Ow 91 4 qp w2.heap.size w10 v18 (Qj a0 a1) from ?_) rfl rfl
    rw [← insAt_less h1]; exact o18
  · intro s9 w9 c9 hb9 hx9 hf9 hd9 hu9 hp9 hq9 hD9
    exact lp rfl (qA rfl)<|qP<|XG rfl rfl rfl er (hd9 5 rfl) rfl rfl
  · intro s3 w3 hb3 hf3 ha3
    have o4 : Ow 91 4 qp w2.heap.size w3 (s3 4) (Qj a0 a1):=ha3 6 rfl rfl
    refine qg<|qr<|qy ?_
    have e3 : Ext w w2:=Ext.trans e1 e2
    exact QD rfl (e3.t hb3) o4 e3.size

/-! spec.l04Put -/
abbrev qZ.e1 (a0 : List Nd) (a1 : Nd) (x5_11 : Int):=((([] : List Nd) ++ (sub a0 0 x5_11)) ++ ([a1] : List Nd))
theorem qZ.walk {k : Nat} {w : World} {a0 : List Nd} {a1 : Nd} {v_a0 : Value} (f_a0 : Rd 4 qp w v_a0 a0) {r : List Nd} (H : qZ.sh k a0 a1 = some r) :
  Calls Tryz.prog 210 #[v_a0,.agg (qp a1).toArray] w (Rt (RO 91 4 qp w r)):=by
 unfold qZ.sh at H
 refine qi Tryz.func210 rfl (Nat.le_of_ble_eq_true rfl) Tryz.ntmps210 rfl ?_
 refine wr<|Qq (.plain rfl) rfl (ltb rfl) rfl rfl<|fun b1 w2 z3 z4 e5 k6=>lp rfl (xa (.slice none 0 0) rfl)<|nx<|wr<|lp rfl (xa (.int .i64 0) rfl)<|nx<|qk ?_
 obtain ⟨z8,L9,C10⟩:=bind_some H
 clear H
 refine  vT (fun s0 sQ wQ=>∃ (x5_11 : Int),Kp [(5,6),(7,23)] s0 sQ∧sQ 5 = .int .i64 x5_11∧Ext w2 wQ∧z8 = .inr x5_11) ?_ ?_
 ·refine qF<|vA (fun s0 kk sQ wQ=>∃ (x5_7 : Int),Kp [(5,6),(7,23)] s0 sQ∧sQ 5 = .int .i64 x5_7∧Ext w2 wQ∧qt (qZ.b1 a0 a1) kk x5_7 = some z8) k ⟨0,kz,rfl,er,L9⟩ ?_
  rintro k16 s17 w18 ⟨x5_7,K19,h22,e20,L21⟩
  cases k16 with
  | zero=>exact absurd L21 (by simp [qt])
  | succ k16=>
   obtain ⟨t23,H,S24⟩:=qQ L21
   clear L21
   unfold qZ.b1 at H
   refine qk<|qk ?_
   obtain ⟨c25,H⟩:=qa H
   obtain ⟨c28,H⟩:=qa H
   obtain ⟨c29,H⟩:=qa H
   refine Yi [LEq (.int .i64 x5_7),LEq v_a0,LEq (.int .i64 (a0.length : Int)),LEq (.bool (decide (x5_7 < (a0.length : Int)))),LEq (.bool (decide (x5_7 < (a0.length : Int)))),LIf (decide (x5_7 < (a0.length : Int))) (LEq v_a0),LIf (decide (x5_7 < (a0.length : Int))) (LEq (.int .i64 x5_7)),LIf (decide (x5_7 < (a0.length : Int))) (yv (qp (gt a0 x5_7))),LIf (decide (x5_7 < (a0.length : Int))) (LAt 1 (qp (gt a0 x5_7))),LIf (decide (x5_7 < (a0.length : Int))) (LEq (S ((gt a0 x5_7).path))),LIf (decide (x5_7 < (a0.length : Int))) (LEq (.pointer (some ⟨b1,1,none⟩))),LIf (decide (x5_7 < (a0.length : Int))) (LEq (S a1.path)),LIf (decide (x5_7 < (a0.length : Int))) (LEq (.bool (vy (cut 47 ((gt a0 x5_7).path)) (cut 47 a1.path)))),LEq (.bool ((decide (x5_7 < (a0.length : Int))) && (vy (cut 47 ((gt a0 x5_7).path)) (cut 47 a1.path))))] (by kernel_rfl) (by kernel_rfl) ⟨qm,qm,qm,qm,qm,lm,lm,(LIf.mono yv.mono),(LIf.mono LAt.mono),lm,lm,lm,lm,qm,trivial⟩ ⟨?_,?_,?_,?_,?_,?_,?_,?_,?_,?_,?_,?_,?_,?_,trivial⟩ ?_
   ·exact fun s x e f d u=>lp rfl (xm (.int .i64 x5_7) ((f 5 rfl).trans h22))<|se rfl rfl
   ·exact fun s x e f d u=>lp rfl (xm v_a0 ((f 0 rfl).trans (K19 0 rfl)))<|se rfl rfl
   ·exact fun s x e f d u=>lp rfl (qS Tryz.underlying29 (d 1 rfl) (Rd.ext f_a0 ((e5.t e20).t e)))<|se rfl rfl
   ·exact fun s x e f d u=>lp rfl (ym (d 0 rfl) (d 2 rfl))<|se rfl rfl
   ·exact fun s x e f d u=>lp rfl (qf (d 3 rfl))<|se rfl rfl
   ·exact fun s x e f d u=>gT rfl rfl rfl rfl (d 4 rfl) rfl fun b t=>lt t rfl rfl (xm v_a0 ((f 0 rfl).trans (K19 0 rfl)))<|sg rfl rfl b rfl
   ·exact fun s x e f d u=>gT rfl rfl rfl rfl (d 4 rfl) rfl fun b t=>lt t rfl rfl (xm (.int .i64 x5_7) ((f 5 rfl).trans h22))<|sg rfl rfl b rfl
   ·exact fun s x e f d u=>gT rfl rfl rfl rfl (d 4 rfl) rfl fun b t=>vg t rfl (ltb rfl) rfl Tryz.underlying29 Tryz.sizeOf91 ((d 5 rfl).1 b) (Rd.ext f_a0 ((e5.t e20).t e)) ((d 6 rfl).1 b) (vM b c25)<|fun p33 h34=>sg rfl rfl b ⟨_,rfl,h34⟩
   ·intro s x e f d u
    refine gT rfl rfl rfl rfl (d 4 rfl) rfl fun b t=>?_
    obtain ⟨p35,h36,h37⟩:=((d 7 rfl).1 b)
    exact lt t rfl rfl (qc Tryz.underlying91 rfl Tryz.sizeOf9 rfl h36)<|sg rfl rfl b ⟨_,rfl,h37⟩
   ·intro s x e f d u
    refine gT rfl rfl rfl rfl (d 4 rfl) rfl fun b t=>?_
    obtain ⟨p38,h39,h40⟩:=((d 8 rfl).1 b)
    exact lt t rfl rfl (yd Tryz.isAgg9 (j:=1) h40 h39 rfl)<|sg rfl rfl b rfl
   ·exact fun s x e f d u=>gT rfl rfl rfl rfl (d 4 rfl) rfl fun b t=>lt t rfl rfl (qc Tryz.underlying91 rfl Tryz.sizeOf9 rfl ((f 3 rfl).trans (K19 3 rfl)))<|sg rfl rfl b rfl
   ·exact fun s x e f d u=>gT rfl rfl rfl rfl (d 4 rfl) rfl fun b t=>lt t rfl rfl (qz Tryz.isAgg9 (Blk.ext k6 (e20.t e)) ((d 10 rfl).1 b) rfl)<|sg rfl rfl b rfl
   ·exact fun s x e f d u=>gT rfl rfl rfl rfl (d 4 rfl) rfl fun b t=>vL t rfl (ltb rfl) rfl Tryz.call153 (vN.calls (w:=x) (a0:=(gt a0 x5_7).path) (a1:=a1.path) (od (vM b c28)) (od (vM b c29))) (va ((d 9 rfl).1 b) (va ((d 11 rfl).1 b) rfl))<|fun w43 e44=>sgx rfl rfl b e44 rfl
   ·exact fun s x e f d u=>lp rfl (jT (d 4 rfl) rfl fun h=>((d 12 rfl).1 h))<|se rfl rfl
   intro s45 w46 e47 hf48 ha49
   have K50:=Kp.ofD (kp:=[(7,21)]) rfl hf48
   have d51 : s45 20 = (.bool ((decide (x5_7 < (a0.length : Int))) && (vy (cut 47 ((gt a0 x5_7).path)) (cut 47 a1.path)))):=ha49 13 rfl
   clear ha49 hf48
   refine qg ?_
   rcases qe H with ⟨q52,H⟩ | ⟨q52,H⟩
   ·refine ql (d51.trans (cb q52))<|qw<|qg<|qF<|qO<|lp rfl (xm (.int .i64 x5_7) ((K50 5 rfl).trans h22))<|lp rfl (vz rfl rfl)<|lp rfl (xa (.int .i64 (IntKind.wrap .i64 (x5_7 + 1))) rfl)<|qP<|vK<|qg ?_
    obtain rfl:=si H
    exact ⟨_,Nat.lt_succ_self _,IntKind.wrap .i64 (x5_7 + 1),(ku3 (Kp.cut K19 K50 rfl) rfl),rfl,(e20.t e47),S24⟩
   ·refine qh (d51.trans (cb q52))<|yc<|vm<|vm<|yV<|qg ?_
    obtain rfl:=si H
    obtain rfl:=si S24
    exact ⟨x5_7,(Kp.cut K19 K50 rfl),((K50 5 rfl).trans h22),(e20.t e47),rfl⟩
 ·rintro s13 w12 ⟨x5_11,K14,h53,e15,y54⟩
  rw [y54] at C10
  have H:=C10
  replace H : _ = some _:=H
  refine qg<|wr<|lp rfl (xm v_a0 (K14 0 rfl))<|lp rfl (qf h53) ?_
  obtain ⟨c55,H⟩:=qa H
  refine Xw (.plain rfl) rfl (ltb rfl) rfl Tryz.underlying29 Tryz.sizeOf91 rfl (Rd.ext f_a0 (e5.t e15)) (l:=x5_11) (h:=(a0.length : Int)) ⟨_,rfl⟩ rfl c55<|fun v56 h57=>lp rfl (xa v56 rfl)<|nx<|qk<|qk ?_
  obtain ⟨c58,H⟩:=qa H
  refine Yi [LEq (.int .i64 x5_11),LEq v_a0,LEq (.int .i64 (a0.length : Int)),LEq (.bool (decide (x5_11 < (a0.length : Int)))),LEq (.bool (decide (x5_11 < (a0.length : Int)))),LIf (decide (x5_11 < (a0.length : Int))) (LEq v_a0),LIf (decide (x5_11 < (a0.length : Int))) (LEq (.int .i64 x5_11)),LIf (decide (x5_11 < (a0.length : Int))) (yv (qp (gt a0 x5_11))),LIf (decide (x5_11 < (a0.length : Int))) (LAt 1 (qp (gt a0 x5_11))),LIf (decide (x5_11 < (a0.length : Int))) (LEq (S ((gt a0 x5_11).path))),LIf (decide (x5_11 < (a0.length : Int))) (LEq (.pointer (some ⟨b1,1,none⟩))),LIf (decide (x5_11 < (a0.length : Int))) (LEq (S a1.path)),LIf (decide (x5_11 < (a0.length : Int))) (LEq (.bool (decide (((gt a0 x5_11).path) = a1.path)))),LEq (.bool ((decide (x5_11 < (a0.length : Int))) && (decide (((gt a0 x5_11).path) = a1.path))))] (by kernel_rfl) (by kernel_rfl) ⟨qm,qm,qm,qm,qm,lm,lm,(LIf.mono yv.mono),(LIf.mono LAt.mono),lm,lm,lm,lm,qm,trivial⟩ ⟨?_,?_,?_,?_,?_,?_,?_,?_,?_,?_,?_,?_,?_,?_,trivial⟩ ?_
  ·exact fun s x e f d u=>lp rfl (xm (.int .i64 x5_11) ((f 5 rfl).trans h53))<|se rfl rfl
  ·exact fun s x e f d u=>lp rfl (xm v_a0 ((f 0 rfl).trans (K14 0 rfl)))<|se rfl rfl
  ·exact fun s x e f d u=>lp rfl (qS Tryz.underlying29 (d 1 rfl) (Rd.ext f_a0 ((e5.t e15).t e)))<|se rfl rfl
  ·exact fun s x e f d u=>lp rfl (ym (d 0 rfl) (d 2 rfl))<|se rfl rfl
  ·exact fun s x e f d u=>lp rfl (qf (d 3 rfl))<|se rfl rfl
  ·exact fun s x e f d u=>gT rfl rfl rfl rfl (d 4 rfl) rfl fun b t=>lt t rfl rfl (xm v_a0 ((f 0 rfl).trans (K14 0 rfl)))<|sg rfl rfl b rfl
  ·exact fun s x e f d u=>gT rfl rfl rfl rfl (d 4 rfl) rfl fun b t=>lt t rfl rfl (xm (.int .i64 x5_11) ((f 5 rfl).trans h53))<|sg rfl rfl b rfl
  ·exact fun s x e f d u=>gT rfl rfl rfl rfl (d 4 rfl) rfl fun b t=>vg t rfl (ltb rfl) rfl Tryz.underlying29 Tryz.sizeOf91 ((d 5 rfl).1 b) (Rd.ext f_a0 ((e5.t e15).t e)) ((d 6 rfl).1 b) (vM b c58)<|fun p62 h63=>sg rfl rfl b ⟨_,rfl,h63⟩
  ·intro s x e f d u
   refine gT rfl rfl rfl rfl (d 4 rfl) rfl fun b t=>?_
   obtain ⟨p64,h65,h66⟩:=((d 7 rfl).1 b)
   exact lt t rfl rfl (qc Tryz.underlying91 rfl Tryz.sizeOf9 rfl h65)<|sg rfl rfl b ⟨_,rfl,h66⟩
  ·intro s x e f d u
   refine gT rfl rfl rfl rfl (d 4 rfl) rfl fun b t=>?_
   obtain ⟨p67,h68,h69⟩:=((d 8 rfl).1 b)
   exact lt t rfl rfl (yd Tryz.isAgg9 (j:=1) h69 h68 rfl)<|sg rfl rfl b rfl
  ·exact fun s x e f d u=>gT rfl rfl rfl rfl (d 4 rfl) rfl fun b t=>lt t rfl rfl (qc Tryz.underlying91 rfl Tryz.sizeOf9 rfl ((f 3 rfl).trans (K14 3 rfl)))<|sg rfl rfl b rfl
  ·exact fun s x e f d u=>gT rfl rfl rfl rfl (d 4 rfl) rfl fun b t=>lt t rfl rfl (qz Tryz.isAgg9 (Blk.ext k6 (e15.t e)) ((d 10 rfl).1 b) rfl)<|sg rfl rfl b rfl
  ·exact fun s x e f d u=>gT rfl rfl rfl rfl (d 4 rfl) rfl fun b t=>lt t rfl rfl (Vv ((d 9 rfl).1 b) ((d 11 rfl).1 b))<|sg rfl rfl b rfl
  ·exact fun s x e f d u=>lp rfl (jT (d 4 rfl) rfl fun h=>((d 12 rfl).1 h))<|se rfl rfl
  intro s70 w71 e72 hf73 ha74
  have K75:=Kp.ofD (kp:=[(26,40)]) rfl hf73
  have d76 : s70 39 = (.bool ((decide (x5_11 < (a0.length : Int))) && (decide (((gt a0 x5_11).path) = a1.path)))):=ha74 13 rfl
  clear ha74 hf73
  refine qg ?_
  rcases qe H with ⟨q77,H⟩ | ⟨q77,H⟩
  ·refine ql (d76.trans (cb q77))<|qO<|lp rfl (xm v_a0 ((K75 0 rfl).trans (K14 0 rfl)))<|lp rfl (xm (.int .i64 x5_11) ((K75 5 rfl).trans h53))<|lp rfl (vz rfl rfl) ?_
   obtain ⟨c78,H⟩:=qa H
   refine Xw (.plain rfl) rfl (ltb rfl) rfl Tryz.underlying29 Tryz.sizeOf91 rfl (Rd.ext f_a0 ((e5.t e15).t e72)) (l:=IntKind.wrap .i64 (x5_11 + 1)) (h:=(a0.length : Int)) ⟨_,rfl⟩ rfl c78<|fun v79 h80=>lp rfl (xa v79 rfl)<|nx<|qk ?_
   obtain ⟨c87,H⟩:=qa H
   obtain ⟨c90,H⟩:=qa H
   obtain ⟨c102,H⟩:=qa H
   obtain ⟨c108,H⟩:=qa H
   refine XK (B:=w71.heap.size) [LEmp,LEq v_a0,LEq (.int .i64 x5_11),LRdW w71 4 qp (sub a0 0 x5_11),LOw 91 4 qp w71.heap.size (([] : List Nd) ++ (sub a0 0 x5_11)),LEq (.agg #[(.int .i64 a1.kind),(S a1.path),(S a1.body),(.int .i64 a1.mode)]),LRd 4 qp ([a1] : List Nd),LOw 91 4 qp w71.heap.size (qZ.e1 a0 a1 x5_11),LEq v79,LOw 91 4 qp w71.heap.size ((qZ.e1 a0 a1 x5_11) ++ (sub a0 (IntKind.wrap .i64 (x5_11 + 1)) (a0.length : Int))),LOw 91 4 qp w71.heap.size ((qZ.e1 a0 a1 x5_11) ++ (sub a0 (IntKind.wrap .i64 (x5_11 + 1)) (a0.length : Int)))] [⟨true,true,true,false,[]⟩,⟨true,true,true,false,[]⟩,⟨true,true,true,false,[]⟩,⟨true,true,true,false,[1,2]⟩,⟨true,false,true,false,[0,3]⟩,⟨true,true,true,false,[]⟩,⟨true,false,true,false,[5]⟩,⟨false,false,true,false,[4,6]⟩,⟨true,true,false,false,[]⟩,⟨false,false,false,false,[7,8]⟩,⟨true,false,false,true,[9]⟩] [(7,0,[4]),(9,0,[7,4]),(7,1,[4,3]),(9,1,[7,4,3]),(7,2,[4,3]),(9,2,[7,4,3]),(7,3,[4]),(9,3,[7,4]),(7,4,[]),(9,4,[7]),(7,5,[6]),(9,5,[7,6]),(7,6,[]),(9,6,[7]),(9,7,[]),(10,7,[]),(10,9,[])] (by kernel_rfl) (by kernel_rfl) (Nat.le_refl _) ⟨⟨LEmp.rig.mono,fun _=>LEmp.rig⟩,⟨LEq.rig.mono,fun _=>LEq.rig⟩,⟨LEq.rig.mono,fun _=>LEq.rig⟩,⟨LRdW.rig.mono,fun _=>LRdW.rig⟩,⟨LOw.mono,noR⟩,⟨LEq.rig.mono,fun _=>LEq.rig⟩,⟨LRd.mono,noR⟩,⟨LOw.mono,noR⟩,⟨LEq.rig.mono,fun _=>LEq.rig⟩,⟨LOw.mono,noR⟩,⟨LOw.mono,noR⟩,trivial⟩ ⟨?_,?_,?_,?_,?_,?_,?_,?_,?_,?_,?_,trivial⟩ ?_
   ·intro s114 w115 hb116 hx117 hf118 hd119 hu120
    have e121 : Ext w71 w115:=hx117 rfl
    exact yt (.plain rfl) rfl (ltb rfl) rfl Tryz.underlying29 Tryz.sizeOf91 Tryz.zeroValue91 rfl rfl rfl (vs:=[]) rfl (qX rfl)<|fun b122 w123 z124 z125 e126 k127=>qP<|jJ rfl rfl rfl e126 ⟨_,rfl⟩
   ·intro s128 w129 hb130 hx131 hf132 hd133 hu134
    have e135 : Ext w71 w129:=hx131 rfl
    exact lp rfl (xm v_a0 ((hf132 0 rfl).trans ((K75 0 rfl).trans (K14 0 rfl))))<|qP<|jJ rfl rfl rfl er rfl
   ·intro s136 w137 hb138 hx139 hf140 hd141 hu142
    have e143 : Ext w71 w137:=hx139 rfl
    exact lp rfl (xm (.int .i64 x5_11) ((hf140 5 rfl).trans ((K75 5 rfl).trans h53)))<|qP<|jJ rfl rfl rfl er rfl
   ·intro s144 w145 hb146 hx147 hf148 hd149 hu150
    have e151 : Ext w71 w145:=hx147 rfl
    have d152 : s144 45 = v_a0:=(hd149 1 rfl)
    have d153 : s144 46 = (.int .i64 x5_11):=(hd149 2 rfl)
    have c154:=c87
    exact Xw (.plain rfl) rfl (ltb rfl) rfl Tryz.underlying29 Tryz.sizeOf91 d152 (Rd.ext f_a0 ((e5.t e15).t e72)) (l:=0) (h:=x5_11) rfl ⟨_,d153⟩ c154<|fun v155 h156=>qP<|jJ rfl rfl rfl er h156
   ·intro s157 w158 hb159 hx160 hf161 hd162 hu163
    have e164 : Ext w71 w158:=hx160 rfl
    obtain ⟨b165,h166⟩:=(hd162 0 rfl)
    have d167 : Rd 4 qp w71 (s157 47) (sub a0 0 x5_11):=(hd162 3 rfl)
    have c168:=c90
    exact yP (enc:=qp) (.plain rfl) rfl (ltb rfl) rfl El.t29 h166 rfl (Ow.zero (base:=w158.heap.size) (w:=w158)) (Rd.ext d167 e164) (Qt _) (od c168) (Nat.le_refl _)<|fun v169 w170 o171 z172 g173=>qP<|jJ rfl rfl rfl (g173 _ er) (Ow.base o171 e164.size)
   ·intro s174 w175 hb176 hx177 hf178 hd179 hu180
    have e181 : Ext w71 w175:=hx177 rfl
    exact lp rfl (qW Tryz.isAgg91 Tryz.sizeOf91 rfl ((hf178 3 rfl).trans ((K75 3 rfl).trans (K14 3 rfl))) (Blk.at0 (Blk.ext k6 ((e15.t e72).t e181))))<|qP<|jJ rfl rfl rfl er rfl
   ·intro s182 w183 hb184 hx185 hf186 hd187 hu188
    have e189 : Ext w71 w183:=hx185 rfl
    have d190 : s182 49 = (.agg #[(.int .i64 a1.kind),(S a1.path),(S a1.body),(.int .i64 a1.mode)]):=(hd187 5 rfl)
    exact yt (.plain rfl) rfl (ltb rfl) rfl Tryz.underlying29 Tryz.sizeOf91 Tryz.zeroValue91 rfl rfl rfl (vs:=[(.agg #[(.int .i64 a1.kind),(S a1.path),(S a1.body),(.int .i64 a1.mode)])]) (va d190 rfl) (qX rfl)<|fun b191 w192 z193 z194 e195 k196=>qP<|jJ rfl rfl rfl e195 (Ow.rd (Ow.new (xs:=[a1]) (sz:=4) (enc:=qp) (base:=w183.heap.size) k196 (Nat.le_of_eq z193) rfl (fun _ _=>by rfl) (Nat.le_of_ble_eq_true rfl)))
   ·intro s197 w198 hb199 hx200 hf201 hd202 hu203
    have e204 : Ext w71 w198:=hx200 rfl
    have d205 : Ow 91 4 qp w71.heap.size w198 (s197 48) (([] : List Nd) ++ (sub a0 0 x5_11)):=(hd202 4 rfl)
    have d206 : Rd 4 qp w198 (s197 50) ([a1] : List Nd):=(hd202 6 rfl)
    have c207:=c102
    exact yP (enc:=qp) (.plain rfl) rfl (ltb rfl) rfl El.t29 rfl rfl d205 d206 (Qt _) (od c207) (e204).size<|fun v208 w209 o210 z211 g212=>qP<|stepH rfl rfl rfl (g212 _ (Below.refl _ _)) o210
   ·intro s213 w214 hb215 hx216 hf217 hd218 hu219
    have e220 : Ext w71 w214:=Below.trans er hb215
    exact lp rfl (xm v79 (hf217 6 rfl))<|qP<|jJ rfl rfl rfl er rfl
   ·intro s221 w222 hb223 hx224 hf225 hd226 hu227
    have e228 : Ext w71 w222:=Below.trans er hb223
    have d229 : Ow 91 4 qp w71.heap.size w222 (s221 51) (qZ.e1 a0 a1 x5_11):=(hd226 7 rfl)
    have d230 : s221 52 = v79:=(hd226 8 rfl)
    have c231:=c108
    exact yP (enc:=qp) (.plain rfl) rfl (ltb rfl) rfl El.t29 rfl d230 d229 (Rd.ext h80 e228) (Qt _) (od c231) (e228).size<|fun v232 w233 o234 z235 g236=>qP<|stepH rfl rfl rfl (g236 _ (Below.refl _ _)) o234
   ·intro s237 w238 hb239 hx240 hf241 hd242 hu243
    have e244 : Ext w71 w238:=Below.trans er hb239
    have d245 : Ow 91 4 qp w71.heap.size w238 (s237 53) ((qZ.e1 a0 a1 x5_11) ++ (sub a0 (IntKind.wrap .i64 (x5_11 + 1)) (a0.length : Int))):=(hd242 9 rfl)
    exact lp rfl (xa (s237 53) rfl)<|qP<|jJ rfl rfl rfl er d245
   intro s246 w247 hb248 hf250 ha251
   have K252:=Kp.ofD (kp:=[(4,5),(44,54)]) rfl hf250
   have e249 : Ext w71 w247:=hb248
   have d253 : Ow 91 4 qp w71.heap.size w247 (s246 4) ((qZ.e1 a0 a1 x5_11) ++ (sub a0 (IntKind.wrap .i64 (x5_11 + 1)) (a0.length : Int))):=ha251 10 rfl rfl
   clear ha251 hf250
   refine qg<|qr<|qy ?_
   obtain rfl:=si H
   exact QD rfl (((e5.t e15).t e72).t e249) d253 (((e5.t e15).t e72)).size
  ·refine qh (d76.trans (cb q77))<|qw<|qg<|qk ?_
   obtain ⟨c260,H⟩:=qa H
   obtain ⟨c263,H⟩:=qa H
   obtain ⟨c275,H⟩:=qa H
   obtain ⟨c281,H⟩:=qa H
   refine XK (B:=w71.heap.size) [LEmp,LEq v_a0,LEq (.int .i64 x5_11),LRdW w71 4 qp (sub a0 0 x5_11),LOw 91 4 qp w71.heap.size (([] : List Nd) ++ (sub a0 0 x5_11)),LEq (.agg #[(.int .i64 a1.kind),(S a1.path),(S a1.body),(.int .i64 a1.mode)]),LRd 4 qp ([a1] : List Nd),LOw 91 4 qp w71.heap.size (qZ.e1 a0 a1 x5_11),LEq v56,LOw 91 4 qp w71.heap.size ((qZ.e1 a0 a1 x5_11) ++ (sub a0 x5_11 (a0.length : Int))),LOw 91 4 qp w71.heap.size ((qZ.e1 a0 a1 x5_11) ++ (sub a0 x5_11 (a0.length : Int)))] [⟨true,true,true,false,[]⟩,⟨true,true,true,false,[]⟩,⟨true,true,true,false,[]⟩,⟨true,true,true,false,[1,2]⟩,⟨true,false,true,false,[0,3]⟩,⟨true,true,true,false,[]⟩,⟨true,false,true,false,[5]⟩,⟨false,false,true,false,[4,6]⟩,⟨true,true,false,false,[]⟩,⟨false,false,false,false,[7,8]⟩,⟨true,false,false,true,[9]⟩] [(7,0,[4]),(9,0,[7,4]),(7,1,[4,3]),(9,1,[7,4,3]),(7,2,[4,3]),(9,2,[7,4,3]),(7,3,[4]),(9,3,[7,4]),(7,4,[]),(9,4,[7]),(7,5,[6]),(9,5,[7,6]),(7,6,[]),(9,6,[7]),(9,7,[]),(10,7,[]),(10,9,[])] (by kernel_rfl) (by kernel_rfl) (Nat.le_refl _) ⟨⟨LEmp.rig.mono,fun _=>LEmp.rig⟩,⟨LEq.rig.mono,fun _=>LEq.rig⟩,⟨LEq.rig.mono,fun _=>LEq.rig⟩,⟨LRdW.rig.mono,fun _=>LRdW.rig⟩,⟨LOw.mono,noR⟩,⟨LEq.rig.mono,fun _=>LEq.rig⟩,⟨LRd.mono,noR⟩,⟨LOw.mono,noR⟩,⟨LEq.rig.mono,fun _=>LEq.rig⟩,⟨LOw.mono,noR⟩,⟨LOw.mono,noR⟩,trivial⟩ ⟨?_,?_,?_,?_,?_,?_,?_,?_,?_,?_,?_,trivial⟩ ?_
   ·intro s287 w288 hb289 hx290 hf291 hd292 hu293
    have e294 : Ext w71 w288:=hx290 rfl
    exact yt (.plain rfl) rfl (ltb rfl) rfl Tryz.underlying29 Tryz.sizeOf91 Tryz.zeroValue91 rfl rfl rfl (vs:=[]) rfl (qX rfl)<|fun b295 w296 z297 z298 e299 k300=>qP<|jJ rfl rfl rfl e299 ⟨_,rfl⟩
   ·intro s301 w302 hb303 hx304 hf305 hd306 hu307
    have e308 : Ext w71 w302:=hx304 rfl
    exact lp rfl (xm v_a0 ((hf305 0 rfl).trans ((K75 0 rfl).trans (K14 0 rfl))))<|qP<|jJ rfl rfl rfl er rfl
   ·intro s309 w310 hb311 hx312 hf313 hd314 hu315
    have e316 : Ext w71 w310:=hx312 rfl
    exact lp rfl (xm (.int .i64 x5_11) ((hf313 5 rfl).trans ((K75 5 rfl).trans h53)))<|qP<|jJ rfl rfl rfl er rfl
   ·intro s317 w318 hb319 hx320 hf321 hd322 hu323
    have e324 : Ext w71 w318:=hx320 rfl
    have d325 : s317 45 = v_a0:=(hd322 1 rfl)
    have d326 : s317 46 = (.int .i64 x5_11):=(hd322 2 rfl)
    have c327:=c260
    exact Xw (.plain rfl) rfl (ltb rfl) rfl Tryz.underlying29 Tryz.sizeOf91 d325 (Rd.ext f_a0 ((e5.t e15).t e72)) (l:=0) (h:=x5_11) rfl ⟨_,d326⟩ c327<|fun v328 h329=>qP<|jJ rfl rfl rfl er h329
   ·intro s330 w331 hb332 hx333 hf334 hd335 hu336
    have e337 : Ext w71 w331:=hx333 rfl
    obtain ⟨b338,h339⟩:=(hd335 0 rfl)
    have d340 : Rd 4 qp w71 (s330 47) (sub a0 0 x5_11):=(hd335 3 rfl)
    have c341:=c263
    exact yP (enc:=qp) (.plain rfl) rfl (ltb rfl) rfl El.t29 h339 rfl (Ow.zero (base:=w331.heap.size) (w:=w331)) (Rd.ext d340 e337) (Qt _) (od c341) (Nat.le_refl _)<|fun v342 w343 o344 z345 g346=>qP<|jJ rfl rfl rfl (g346 _ er) (Ow.base o344 e337.size)
   ·intro s347 w348 hb349 hx350 hf351 hd352 hu353
    have e354 : Ext w71 w348:=hx350 rfl
    exact lp rfl (qW Tryz.isAgg91 Tryz.sizeOf91 rfl ((hf351 3 rfl).trans ((K75 3 rfl).trans (K14 3 rfl))) (Blk.at0 (Blk.ext k6 ((e15.t e72).t e354))))<|qP<|jJ rfl rfl rfl er rfl
   ·intro s355 w356 hb357 hx358 hf359 hd360 hu361
    have e362 : Ext w71 w356:=hx358 rfl
    have d363 : s355 49 = (.agg #[(.int .i64 a1.kind),(S a1.path),(S a1.body),(.int .i64 a1.mode)]):=(hd360 5 rfl)
    exact yt (.plain rfl) rfl (ltb rfl) rfl Tryz.underlying29 Tryz.sizeOf91 Tryz.zeroValue91 rfl rfl rfl (vs:=[(.agg #[(.int .i64 a1.kind),(S a1.path),(S a1.body),(.int .i64 a1.mode)])]) (va d363 rfl) (qX rfl)<|fun b364 w365 z366 z367 e368 k369=>qP<|jJ rfl rfl rfl e368 (Ow.rd (Ow.new (xs:=[a1]) (sz:=4) (enc:=qp) (base:=w356.heap.size) k369 (Nat.le_of_eq z366) rfl (fun _ _=>by rfl) (Nat.le_of_ble_eq_true rfl)))
   ·intro s370 w371 hb372 hx373 hf374 hd375 hu376
    have e377 : Ext w71 w371:=hx373 rfl
    have d378 : Ow 91 4 qp w71.heap.size w371 (s370 48) (([] : List Nd) ++ (sub a0 0 x5_11)):=(hd375 4 rfl)
    have d379 : Rd 4 qp w371 (s370 50) ([a1] : List Nd):=(hd375 6 rfl)
    have c380:=c275
    exact yP (enc:=qp) (.plain rfl) rfl (ltb rfl) rfl El.t29 rfl rfl d378 d379 (Qt _) (od c380) (e377).size<|fun v381 w382 o383 z384 g385=>qP<|stepH rfl rfl rfl (g385 _ (Below.refl _ _)) o383
   ·intro s386 w387 hb388 hx389 hf390 hd391 hu392
    have e393 : Ext w71 w387:=Below.trans er hb388
    exact lp rfl (xm v56 ((hf390 6 rfl).trans (K75 6 rfl)))<|qP<|jJ rfl rfl rfl er rfl
   ·intro s394 w395 hb396 hx397 hf398 hd399 hu400
    have e401 : Ext w71 w395:=Below.trans er hb396
    have d402 : Ow 91 4 qp w71.heap.size w395 (s394 51) (qZ.e1 a0 a1 x5_11):=(hd399 7 rfl)
    have d403 : s394 52 = v56:=(hd399 8 rfl)
    have c404:=c281
    exact yP (enc:=qp) (.plain rfl) rfl (ltb rfl) rfl El.t29 rfl d403 d402 (Rd.ext h57 (e72.t e401)) (Qt _) (od c404) (e401).size<|fun v405 w406 o407 z408 g409=>qP<|stepH rfl rfl rfl (g409 _ (Below.refl _ _)) o407
   ·intro s410 w411 hb412 hx413 hf414 hd415 hu416
    have e417 : Ext w71 w411:=Below.trans er hb412
    have d418 : Ow 91 4 qp w71.heap.size w411 (s410 53) ((qZ.e1 a0 a1 x5_11) ++ (sub a0 x5_11 (a0.length : Int))):=(hd415 9 rfl)
    exact lp rfl (xa (s410 53) rfl)<|qP<|jJ rfl rfl rfl er d418
   intro s419 w420 hb421 hf423 ha424
   have K425:=Kp.ofD (kp:=[(4,5),(44,54)]) rfl hf423
   have e422 : Ext w71 w420:=hb421
   have d426 : Ow 91 4 qp w71.heap.size w420 (s419 4) ((qZ.e1 a0 a1 x5_11) ++ (sub a0 x5_11 (a0.length : Int))):=ha424 10 rfl rfl
   clear ha424 hf423
   refine qg<|qr<|qy ?_
   obtain rfl:=si H
   exact QD rfl (((e5.t e15).t e72).t e422) d426 (((e5.t e15).t e72)).size
theorem qZ.calls {w : World} {a0 : List Nd} {a1 : Nd} {v_a0 : Value} (f_a0 : Rd 4 qp w v_a0 a0) (h0 : a0.length≤1000000) (h1 : ∀ x ∈ a0,x.path.length≤1048576) (h2 : a1.path.length≤1048576) :
  Calls Tryz.prog 210 #[v_a0,.agg (qp a1).toArray] w (Rt (RO 91 4 qp w (GD a0 a1))):=by
 obtain ⟨k,h⟩:=qZ.eq a0 a1 h0 h1 h2
 exact qZ.walk f_a0 h
/-! spec.l04Node -/
theorem Qc.calls {w : World} {a0 : Rec} :
  Calls Tryz.prog 146 #[.agg (qj a0).toArray] w (Rt (RP w (.agg (qp (jl a0)).toArray))):=by
 have H:=Qc.eq a0
 generalize (jl a0) = r at H ⊢
 unfold Qc.sh at H
 refine Vt Tryz.func146 rfl (Nat.le_of_ble_eq_true rfl) Tryz.ntmps146 ?_
 refine wr<|Qq (.plain rfl) rfl (ltb rfl) rfl rfl<|fun b1 w2 z3 z4 e5 k6=>jU (.plain rfl) rfl (ltb rfl) rfl Tryz.zeroValue91<|fun b7 w8 z9 z10 e11 k12=>nx<|wr<|lp rfl (qc Tryz.underlying52 rfl Tryz.sizeOf3 rfl rfl)<|lp rfl (qz Tryz.isAgg3 (Blk.ext k6 e11) rfl rfl)<|lp rfl (qc Tryz.underlying52 rfl Tryz.sizeOf9 rfl rfl)<|lp rfl (qz Tryz.isAgg9 (Blk.ext k6 e11) rfl rfl)<|lp rfl (qc Tryz.underlying52 rfl Tryz.sizeOf9 rfl rfl)<|lp rfl (qz Tryz.isAgg9 (Blk.ext k6 e11) rfl rfl)<|lp rfl (qc Tryz.underlying52 rfl Tryz.sizeOf3 rfl rfl)<|lp rfl (qz Tryz.isAgg3 (Blk.ext k6 e11) rfl rfl)<|lp rfl (yZ (vs:=[(0,(.int .i64 a0.kind)),(1,(S a0.path)),(2,(S a0.body)),(3,(.int .i64 a0.mode))]) (pl:=#[(0,1),(1,1),(2,1),(3,1)]) Tryz.underlying91 Tryz.zeroValue91 rfl (fun _=>by kernel_rfl) rfl rfl rfl)<|vU (.plain rfl) rfl rfl Tryz.sizeOf91 rfl rfl rfl rfl rfl k12<|fun w13 h14 k15=>nx<|qr<|VD ?_
 obtain rfl:=si H
 exact finC1 rfl rfl k15 Tryz.isAgg91 Tryz.sizeOf91 rfl (e5.t (Below.trans e11 (Wr.below h14 (Nat.le_of_eq z9))))
/-! spec.l05Do -/
theorem Vh.calls {w : World} {a0 : List Nd} {a1 : Rec} {v_a0 : Value} (f_a0 : Rd 4 qp w v_a0 a0) (h0 : a0.length≤1000000) (h1 : ∀ x ∈ a0,x.path.length≤1048576) (h2 : a1.path.length≤1048576) :
  Calls Tryz.prog 156 #[v_a0,.agg (qj a1).toArray] w (Rt (RO 91 4 qp w (doS a0 a1))):=by
 have H:=Vh.eq a0 a1 h0 h1 h2
 generalize (doS a0 a1) = r at H ⊢
 unfold Vh.sh at H
 refine qi Tryz.func156 rfl (Nat.le_of_ble_eq_true rfl) Tryz.ntmps156 rfl ?_
 refine wr<|Qq (.plain rfl) rfl (ltb rfl) rfl rfl<|fun b1 w2 z3 z4 e5 k6=>lp rfl (xa (.slice none 0 0) rfl)<|nx<|wr<|lp rfl (xm v_a0 rfl)<|lp rfl (qc Tryz.underlying52 rfl Tryz.sizeOf9 rfl rfl)<|lp rfl (qz Tryz.isAgg9 k6 rfl rfl) ?_
 obtain ⟨c7,H⟩:=qa H
 refine lc rfl rfl Tryz.call155 (jb.calls (w:=w2) (a0:=a0) (a1:=a1.path) (Rd.ext f_a0 e5) (od c7)) rfl<|fun w8 e9=>lp rfl (xa (.int .i64 (qU a0 a1.path)) rfl)<|nx<|qk<|wr<|lp rfl (qc Tryz.underlying52 rfl Tryz.sizeOf3 rfl rfl)<|lp rfl (qz Tryz.isAgg3 (Blk.ext k6 e9) rfl rfl)<|lp rfl (vx rfl rfl)<|nx ?_
 rcases qe H with ⟨q10,H⟩ | ⟨q10,H⟩
 ·refine ql (cb q10)<|wr<|lp rfl (xm v_a0 rfl)<|lp rfl (qc Tryz.underlying52 rfl Tryz.sizeOf9 rfl rfl)<|lp rfl (qz Tryz.isAgg9 (Blk.ext k6 e9) rfl rfl) ?_
  obtain ⟨c11,H⟩:=qa H
  refine vp (.plain rfl) rfl (ltb rfl) rfl Tryz.call209 (vS.calls (w:=w8) (a0:=a0) (a1:=a1.path) (a2:=true) (Rd.ext f_a0 (e5.t e9)) (od c11)) rfl<|fun v14 w12 e13 o15=>lp rfl (xa v14 rfl)<|nx<|qr<|qv<|qy ?_
  obtain rfl:=si H
  exact QD rfl ((e5.t e9).t e13) o15 ((e5.t e9)).size
 ·refine qh (cb q10)<|qw<|qg<|qk<|wr<|lp rfl (qc Tryz.underlying52 rfl Tryz.sizeOf3 rfl rfl)<|lp rfl (qz Tryz.isAgg3 (Blk.ext k6 e9) rfl rfl)<|lp rfl (QJ rfl rfl)<|lp rfl (xm (.bool (!decide (a1.kind = 3))) rfl)<|jj 3 [(21,24)] 23 (.bool ((!decide (a1.kind = 3)) || a1.opq)) ?_ ?_
  ·rcases qo (!decide (a1.kind = 3)) with b15_ | b15_
   ·exact ls rfl rfl rfl (cb b15_) rfl<|ls rfl rfl rfl (cb b15_) rfl<|lp rfl (qq (b:=true) (v:=(.bool true)) (cb b15_) rfl)<|nx ⟨(ku3 kz rfl),(J6 b15_),er⟩
   ·exact lg rfl rfl rfl rfl (cb b15_) (qc Tryz.underlying52 rfl Tryz.sizeOf4 rfl rfl)<|lg rfl rfl rfl rfl (cb b15_) (qz Tryz.isAgg4 (Blk.ext k6 e9) rfl rfl)<|lp rfl (qq (b:=false) (v:=(.bool a1.opq)) (cb b15_) rfl)<|nx ⟨(ku3 kz rfl),(J7 b15_),er⟩
  intro s21 w17 K18 h19 e20
  refine lp rfl (qf h19) ?_
  obtain ⟨z23,x24,H⟩:=bind_some H
  refine yf 11 [(25,36)] 35 (fun q=>q = z23) ?_ ?_
  ·rcases qe x24 with ⟨b21_,H⟩ | ⟨b21_,H⟩
   ·refine ls rfl rfl rfl (cb b21_) rfl<|ls rfl rfl rfl (cb b21_) rfl<|ls rfl rfl rfl (cb b21_) rfl<|lu rfl rfl rfl rfl rfl<|lu rfl rfl rfl rfl rfl<|lu rfl rfl rfl rfl rfl<|lu rfl rfl rfl rfl rfl<|lu rfl rfl rfl rfl rfl<|lu rfl rfl rfl rfl rfl<|ls rfl rfl rfl (cb b21_) rfl<|lp rfl (qq (b:=true) (v:=(.bool true)) (cb b21_) rfl) ?_
    obtain rfl:=si H
    exact nx ⟨(ku3 (ku8 kz rfl) rfl),⟨_,rfl,rfl⟩,er⟩
   ·refine lg rfl rfl rfl rfl (cb b21_) (xm (.int .i64 (qU a0 a1.path)) (K18 5 rfl))<|lg rfl rfl rfl rfl (cb b21_) (Yd rfl rfl)<|lg rfl rfl rfl rfl (cb b21_) (xm (.bool (decide (0≤(qU a0 a1.path)))) rfl) ?_
    obtain ⟨z24,x25,H⟩:=bind_some H
    refine yf 7 [(28,35)] 34 (fun q=>q = z24) ?_ ?_
    ·rcases qe x25 with ⟨b22_,H⟩ | ⟨b22_,H⟩
     ·refine lg rfl rfl rfl rfl (cb b22_) (xm v_a0 (K18 0 rfl))<|lg rfl rfl rfl rfl (cb b22_) (xm (.int .i64 (qU a0 a1.path)) (K18 5 rfl)) ?_
      obtain ⟨c24,H⟩:=qa H
      refine vg (tg rfl rfl rfl (cb b22_)) rfl (ltb rfl) rfl Tryz.underlying29 Tryz.sizeOf91 rfl (Rd.ext f_a0 ((e5.t e9).t e20)) rfl c24<|fun p25 h26=>lg rfl rfl rfl rfl (cb b22_) (qc Tryz.underlying91 rfl Tryz.sizeOf3 rfl rfl)<|lg rfl rfl rfl rfl (cb b22_) (yd Tryz.isAgg3 (j:=0) h26 rfl rfl)<|lg rfl rfl rfl rfl (cb b22_) (QJ rfl rfl)<|lg rfl rfl rfl rfl (cb b21_) (qq (b:=true) (v:=(.bool (!decide (((gt a0 (qU a0 a1.path)).kind) = 3)))) (cb b22_) rfl) ?_
      obtain rfl:=si H
      exact nx ⟨(ku3 (ku4 kz rfl) rfl),⟨_,rfl,rfl⟩,er⟩
     ·refine ls rfl rfl rfl (cb b22_) rfl<|ls rfl rfl rfl (cb b22_) rfl<|ls rfl rfl rfl (cb b22_) rfl<|ls rfl rfl rfl (cb b22_) rfl<|ls rfl rfl rfl (cb b22_) rfl<|ls rfl rfl rfl (cb b22_) rfl<|lg rfl rfl rfl rfl (cb b21_) (qq (b:=false) (v:=(.bool false)) (cb b22_) rfl) ?_
      obtain rfl:=si H
      exact nx ⟨(ku3 (ku4 kz rfl) rfl),⟨_,rfl,rfl⟩,er⟩
    intro s30 w26 z31 K27 hq h28 e29
    rw [hq] at h28; clear hq
    refine lp rfl (qq (b:=false) (v:=(.bool z24)) ((K27 24 rfl).trans (cb b21_)) h28) ?_
    obtain rfl:=si H
    exact nx ⟨(ku1 (Kp.cut (ku3 kz rfl) K27 rfl) rfl),⟨_,rfl,rfl⟩,e29⟩
  intro s32 w25 z33 K26 hq h27 e28
  rw [hq] at h27; clear hq
  refine nx ?_
  rcases qe H with ⟨q34,H⟩ | ⟨q34,H⟩
  ·refine ql (h27.trans (cb q34))<|qO<|lp rfl (xm v_a0 ((K26 0 rfl).trans (K18 0 rfl)))<|lp rfl (qc Tryz.underlying52 rfl Tryz.sizeOf9 rfl ((K26 3 rfl).trans (K18 3 rfl)))<|lp rfl (qz Tryz.isAgg9 (Blk.ext k6 ((e9.t e20).t e28)) rfl rfl) ?_
   obtain ⟨c35,H⟩:=qa H
   refine vp (.plain rfl) rfl (ltb rfl) rfl Tryz.call209 (vS.calls (w:=w25) (a0:=a0) (a1:=a1.path) (a2:=false) (Rd.ext f_a0 (((e5.t e9).t e20).t e28)) (od c35)) rfl<|fun v38 w36 e37 o39=>lp rfl (xa v38 rfl)<|nx<|wr<|lp rfl (xm v38 rfl)<|lp rfl (qW Tryz.isAgg52 Tryz.sizeOf52 rfl ((K26 3 rfl).trans (K18 3 rfl)) (Blk.at0 (Blk.ext k6 (((e9.t e20).t e28).t e37))))<|lc rfl rfl Tryz.call146 (Qc.calls (w:=w36) (a0:=a1)) rfl<|fun w40 e41=>?_
   obtain ⟨c42,H⟩:=qa H
   obtain ⟨c43,H⟩:=qa H
   obtain ⟨c44,H⟩:=qa H
   refine vp (.plain rfl) rfl (ltb rfl) rfl Tryz.call210 (qZ.calls (w:=w40) (a0:=(ye a0 a1.path false)) (a1:=(jl a1)) (Ow.rd (Ow.ext o39 e41)) (od c42) (od c43) (od c44)) rfl<|fun v47 w45 e46 o48=>lp rfl (xa v47 rfl)<|nx<|qr<|qy ?_
   obtain rfl:=si H
   exact QD rfl ((((((e5.t e9).t e20).t e28).t e37).t e41).t e46) o48 ((((((e5.t e9).t e20).t e28).t e37).t e41)).size
  ·refine qh (h27.trans (cb q34))<|qw<|qg<|wr<|lp rfl (xm v_a0 ((K26 0 rfl).trans (K18 0 rfl)))<|lp rfl (qW Tryz.isAgg52 Tryz.sizeOf52 rfl ((K26 3 rfl).trans (K18 3 rfl)) (Blk.at0 (Blk.ext k6 ((e9.t e20).t e28))))<|lc rfl rfl Tryz.call146 (Qc.calls (w:=w25) (a0:=a1)) rfl<|fun w49 e50=>?_
   obtain ⟨c51,H⟩:=qa H
   obtain ⟨c52,H⟩:=qa H
   obtain ⟨c53,H⟩:=qa H
   refine vp (.plain rfl) rfl (ltb rfl) rfl Tryz.call210 (qZ.calls (w:=w49) (a0:=a0) (a1:=(jl a1)) (Rd.ext f_a0 ((((e5.t e9).t e20).t e28).t e50)) (od c51) (od c52) (od c53)) rfl<|fun v56 w54 e55 o57=>lp rfl (xa v56 rfl)<|nx<|qr<|qy ?_
   obtain rfl:=si H
   exact QD rfl (((((e5.t e9).t e20).t e28).t e50).t e55) o57 (((((e5.t e9).t e20).t e28).t e50)).size
/-! spec.l05Apply -/
theorem yr.calls {w : World} {a0 : List Rec} {a1 : List Nd} {v_a0 : Value} (f_a0 : Rd 5 qj w v_a0 a0) {v_a1 : Value} (f_a1 : Rd 4 qp w v_a1 a1) (h0 : a0.length≤16) (h1 : a1.length≤1000) (h2 : okT a0 a1 = true) :
  Calls Tryz.prog 89 #[v_a0,v_a1] w (Rt (RO 91 4 qp w (vd a0 a1))):=by
 obtain ⟨k,H⟩:=yr.eq a0 a1 h0 h1 h2
 generalize (vd a0 a1) = r at H ⊢
 unfold yr.sh at H
 refine qi Tryz.func89 rfl (Nat.le_of_ble_eq_true rfl) Tryz.ntmps89 rfl ?_
 refine wr<|lp rfl (xa (.slice none 0 0) rfl)<|nx<|wr<|yt (.plain rfl) rfl (ltb rfl) rfl Tryz.underlying29 Tryz.sizeOf91 Tryz.zeroValue91 rfl rfl rfl (vs:=[]) rfl (qX rfl)<|fun b1 w2 z3 z4 e5 k6=>lp rfl (xm v_a1 rfl) ?_
 obtain ⟨c7,H⟩:=qa H
 refine yP (enc:=qp) (.plain rfl) rfl (ltb rfl) rfl El.t29 rfl rfl (Ow.zero (base:=w2.heap.size) (w:=w2)) (Rd.ext f_a1 e5) (Qt _) (od c7) (Nat.le_refl _)<|fun v8 w9 o10 z11 g12=>lp rfl (xa v8 rfl)<|nx<|qk<|wr<|lp rfl (xa (.int .i64 0) rfl)<|nx ?_
 obtain ⟨z16,L17,C18⟩:=bind_some H
 clear H
 refine  vT (fun s0 sQ wQ=>∃ (x1_19 : List Nd) (v20 : Value),Kp [(1,2),(5,6),(9,21)] s0 sQ∧sQ 1 = v20∧Ow 91 4 qp w2.heap.size wQ v20 x1_19∧Ext w9 wQ∧z16 = .inr x1_19) ?_ ?_
 ·refine qF<|vA (fun s0 kk sQ wQ=>∃ (x1_13 : List Nd) (v14 : Value) (x5_15 : Int),Kp [(1,2),(5,6),(9,21)] s0 sQ∧sQ 1 = v14∧Ow 91 4 qp w2.heap.size wQ v14 x1_13∧sQ 5 = .int .i64 x5_15∧Ext w9 wQ∧qt (yr.b1 a0) kk (x1_13,x5_15) = some z16) k ⟨([] : List Nd) ++ a1,v8,0,kz,rfl,o10,rfl,er,L17⟩ ?_
  rintro k25 s26 w27 ⟨x1_13,v14,x5_15,K28,h31,h32,h33,e29,L30⟩
  cases k25 with
  | zero=>exact absurd L30 (by simp [qt])
  | succ k25=>
   obtain ⟨t34,H,S35⟩:=qQ L30
   clear L30
   unfold yr.b1 at H
   refine qk<|wr<|lp rfl (qf h33)<|lp rfl (xm v_a0 (K28 0 rfl))<|lp rfl (qS Tryz.underlying35 rfl (Rd.ext f_a0 ((e5.t (g12 _ er)).t e29)))<|lp rfl (ym rfl rfl)<|nx ?_
   rcases qe H with ⟨q36,H⟩ | ⟨q36,H⟩
   ·refine ql (cb q36)<|qw<|qg<|qk<|qF<|qO<|lp rfl (qf h31)<|lp rfl (xm v_a0 (K28 0 rfl))<|lp rfl (qf h33) ?_
    obtain ⟨c37,H⟩:=qa H
    refine vg (.plain rfl) rfl (ltb rfl) rfl Tryz.underlying35 Tryz.sizeOf52 rfl (Rd.ext f_a0 ((e5.t (g12 _ er)).t e29)) rfl c37<|fun p38 h39=>lp rfl (qW Tryz.isAgg52 Tryz.sizeOf52 rfl rfl h39) ?_
    obtain ⟨c40,H⟩:=qa H
    obtain ⟨c41,H⟩:=qa H
    obtain ⟨c42,H⟩:=qa H
    refine vp (.plain rfl) rfl (ltb rfl) rfl Tryz.call156 (Vh.calls (w:=w27) (a0:=x1_13) (a1:=gt a0 x5_15) (Ow.rd h32) (od c40) (od c41) (od c42)) rfl<|fun v45 w43 e44 o46=>lp rfl (xa v45 rfl)<|qP<|vK<|qg<|qO<|lp rfl (qf h33)<|lp rfl (vz rfl rfl)<|lp rfl (xa (.int .i64 (IntKind.wrap .i64 (x5_15 + 1))) rfl)<|nx ?_
    obtain rfl:=si H
    exact ⟨_,Nat.lt_succ_self _,(doS x1_13 (gt a0 x5_15)),v45,IntKind.wrap .i64 (x5_15 + 1),(ku2 (ku4 (ku8 K28 rfl) rfl) rfl),rfl,(Ow.base o46 (Ext.trans (g12 _ er) e29).size),rfl,(e29.t e44),S35⟩
   ·refine qh (cb q36)<|yc<|vm<|vm<|yV<|qg ?_
    obtain rfl:=si H
    obtain rfl:=si S35
    exact ⟨x1_13,v14,(ku4 K28 rfl),h31,h32,e29,rfl⟩
 ·rintro s22 w21 ⟨x1_19,v20,K23,h47,h48,e24,y49⟩
  rw [y49] at C18
  have H:=C18
  replace H : _ = some _:=H
  refine qg<|wr<|lp rfl (qf h47)<|lp rfl (xa v20 rfl)<|nx<|qr<|qy ?_
  obtain rfl:=si H
  exact QD rfl ((e5.t (g12 _ er)).t e24) h48 (e5).size
/-! spec.Apply -/
theorem jN.walk {w : World} {a0 : List Rec} {a1 : List Nd} {v_a0 : Value} (f_a0 : Rd 5 qj w v_a0 a0) {v_a1 : Value} (f_a1 : Rd 4 qp w v_a1 a1) {r : List Nd × Int} (H : jN.sh a0 a1 = some r) :
  Calls Tryz.prog 26 #[v_a0,v_a1] w (Rt (RT 91 4 qp w r.1 (.int .i64 r.2))):=by
 unfold jN.sh at H
 refine qi Tryz.func26 rfl (Nat.le_of_ble_eq_true rfl) Tryz.ntmps26 rfl ?_
 refine wr<|lp rfl (xa (.slice none 0 0) rfl)<|lp rfl (xa (.int .i64 0) rfl)<|nx<|qk<|wr<|lp rfl (xm v_a0 rfl)<|lp rfl (qS Tryz.underlying35 rfl f_a0)<|lp rfl (j8 rfl rfl)<|lp rfl (xm (.bool (decide (4096 < (a0.length : Int)))) rfl)<|jj 4 [(11,15)] 14 (.bool ((decide (4096 < (a0.length : Int))) || (decide (4096 < (a1.length : Int))))) ?_ ?_
 ·rcases qo (decide (4096 < (a0.length : Int))) with b0_ | b0_
  ·exact ls rfl rfl rfl (cb b0_) rfl<|ls rfl rfl rfl (cb b0_) rfl<|ls rfl rfl rfl (cb b0_) rfl<|lp rfl (qq (b:=true) (v:=(.bool true)) (cb b0_) rfl)<|nx ⟨(ku4 kz rfl),(J6 b0_),er⟩
  ·exact lg rfl rfl rfl rfl (cb b0_) (xm v_a1 rfl)<|lg rfl rfl rfl rfl (cb b0_) (qS Tryz.underlying29 rfl f_a1)<|lg rfl rfl rfl rfl (cb b0_) (j8 rfl rfl)<|lp rfl (qq (b:=false) (v:=(.bool (decide (4096 < (a1.length : Int))))) (cb b0_) rfl)<|nx ⟨(ku4 kz rfl),(J7 b0_),er⟩
 intro s6 w2 K3 h4 e5
 refine nx ?_
 rcases qe H with ⟨q7,H⟩ | ⟨q7,H⟩
 ·refine ql (h4.trans (cb q7))<|wr<|yt (.plain rfl) rfl (ltb rfl) rfl Tryz.underlying29 Tryz.sizeOf91 Tryz.zeroValue91 rfl rfl rfl (vs:=[]) rfl (qX rfl)<|fun b8 w9 z10 z11 e12 k13=>lp rfl (xa (.slice (some ⟨b8,0,none⟩) 0 0) rfl)<|lp rfl (xa (.int .i64 2) rfl)<|nx<|qr<|qv<|qy ?_
  obtain rfl:=si H
  exact Q4 rfl rfl (e5.t e12) (Ow.zero (base:=w.heap.size)) (Nat.le_refl _)
 ·refine qh (h4.trans (cb q7))<|qw<|qg<|qk<|wr<|lp rfl (xm v_a0 (K3 0 rfl)) ?_
  obtain ⟨c14,H⟩:=qa H
  obtain ⟨c15,H⟩:=qa H
  refine lc rfl rfl Tryz.call74 (j7.calls (w:=w2) (a0:=a0) (Rd.ext f_a0 e5) (od c14) (od c15)) rfl<|fun w16 e17=>lp rfl (yR rfl)<|lp rfl (xm (.bool (!(decide ((qn a0).2 = 0)))) rfl) ?_
  obtain ⟨z19,x20,H⟩:=bind_some H
  refine yf 4 [(20,24)] 23 (fun q=>q = z19) ?_ ?_
  ·rcases qe x20 with ⟨b17_,H⟩ | ⟨b17_,H⟩
   ·refine ls rfl rfl rfl (cb b17_) rfl<|ls rfl rfl rfl (cb b17_) rfl<|ls rfl rfl rfl (cb b17_) rfl<|lp rfl (qq (b:=true) (v:=(.bool true)) (cb b17_) rfl) ?_
    obtain rfl:=si H
    exact nx ⟨(ku4 kz rfl),⟨_,rfl,rfl⟩,er⟩
   ·refine lg rfl rfl rfl rfl (cb b17_) (xm v_a1 (K3 1 rfl)) ?_
    obtain ⟨c19,H⟩:=qa H
    refine vL (tg rfl rfl rfl (cb b17_)) rfl (ltb rfl) rfl Tryz.call88 (qM.calls (w:=w16) (a0:=a1) (Rd.ext f_a1 (e5.t e17)) (od c19)) rfl<|fun w20 e21=>lg rfl rfl rfl rfl (cb b17_) (yR rfl)<|lp rfl (qq (b:=false) (v:=(.bool (!(j5 a1)))) (cb b17_) rfl) ?_
    obtain rfl:=si H
    exact nx ⟨(ku4 kz rfl),⟨_,rfl,rfl⟩,e21⟩
  intro s25 w21 z26 K22 hq h23 e24
  rw [hq] at h23; clear hq
  refine nx ?_
  rcases qe H with ⟨q27,H⟩ | ⟨q27,H⟩
  ·refine ql (h23.trans (cb q27))<|wr<|yt (.plain rfl) rfl (ltb rfl) rfl Tryz.underlying29 Tryz.sizeOf91 Tryz.zeroValue91 rfl rfl rfl (vs:=[]) rfl (qX rfl)<|fun b28 w29 z30 z31 e32 k33=>lp rfl (xa (.slice (some ⟨b28,0,none⟩) 0 0) rfl)<|lp rfl (xa (.int .i64 1) rfl)<|nx<|qr<|qv<|qy ?_
   obtain rfl:=si H
   exact Q4 rfl rfl (((e5.t e17).t e24).t e32) (Ow.zero (base:=w.heap.size)) (Nat.le_refl _)
  ·refine qh (h23.trans (cb q27))<|qw<|qg<|wr<|lp rfl (xm v_a0 ((K22 0 rfl).trans (K3 0 rfl)))<|lp rfl (xm v_a1 ((K22 1 rfl).trans (K3 1 rfl))) ?_
   obtain ⟨c34,H⟩:=qa H
   obtain ⟨c35,H⟩:=qa H
   obtain ⟨c36,H⟩:=qa H
   refine vp (.plain rfl) rfl (ltb rfl) rfl Tryz.call89 (yr.calls (w:=w21) (a0:=a0) (a1:=a1) (Rd.ext f_a0 ((e5.t e17).t e24)) (Rd.ext f_a1 ((e5.t e17).t e24)) (od c34) (od c35) (od c36)) rfl<|fun v39 w37 e38 o40=>lp rfl (xa v39 rfl)<|nx<|qk<|wr<|lp rfl (xm v39 rfl)<|lp rfl (qS Tryz.underlying29 rfl (Ow.rd o40))<|lp rfl (j8 rfl rfl)<|nx ?_
   rcases qe H with ⟨q41,H⟩ | ⟨q41,H⟩
   ·refine ql (cb q41)<|wr<|yt (.plain rfl) rfl (ltb rfl) rfl Tryz.underlying29 Tryz.sizeOf91 Tryz.zeroValue91 rfl rfl rfl (vs:=[]) rfl (qX rfl)<|fun b42 w43 z44 z45 e46 k47=>lp rfl (xa (.slice (some ⟨b42,0,none⟩) 0 0) rfl)<|lp rfl (xa (.int .i64 7) rfl)<|nx<|qr<|qv<|qy ?_
    obtain rfl:=si H
    exact Q4 rfl rfl ((((e5.t e17).t e24).t e38).t e46) (Ow.zero (base:=w.heap.size)) (Nat.le_refl _)
   ·refine qh (cb q41)<|qw<|qg<|wr<|lp rfl (xm v39 rfl)<|lp rfl (xa v39 rfl)<|lp rfl (xa (.int .i64 0) rfl)<|nx<|qr<|qy ?_
    obtain rfl:=si H
    exact Q4 rfl rfl (((e5.t e17).t e24).t e38) o40 (((e5.t e17).t e24)).size
theorem jN.calls {w : World} {a0 : List Rec} {a1 : List Nd} {v_a0 : Value} (f_a0 : Rd 5 qj w v_a0 a0) {v_a1 : Value} (f_a1 : Rd 4 qp w v_a1 a1) (h0 : a0.length≤1048576) (h1 : a1.length≤1048576) (h2 : ∀ x ∈ a0,x.path.length≤1048576) (h3 : ∀ x ∈ a1,x.path.length≤1048576) :
  Calls Tryz.prog 26 #[v_a0,v_a1] w (Rt (RT 91 4 qp w ((qE a0 a1).1) (.int .i64 ((qE a0 a1).2)))):=jN.walk f_a0 f_a1 (jN.eq a0 a1 h0 h1 h2 h3)
/-! (impl.Record).node -/
theorem j2.calls {w : World} {a0 : Rec} :
  Calls Tryz.prog 150 #[.agg (qj a0).toArray] w (Rt (RP w (.agg (qp (jl a0)).toArray))):=by
 have H:=j2.eq a0
 generalize (jl a0) = r at H ⊢
 unfold j2.sh at H
 refine Vt Tryz.func150 rfl (Nat.le_of_ble_eq_true rfl) Tryz.ntmps150 ?_
 refine wr<|Qq (.plain rfl) rfl (ltb rfl) rfl rfl<|fun b1 w2 z3 z4 e5 k6=>jU (.plain rfl) rfl (ltb rfl) rfl Tryz.zeroValue91<|fun b7 w8 z9 z10 e11 k12=>nx<|wr<|lp rfl (qc Tryz.underlying52 rfl Tryz.sizeOf3 rfl rfl)<|lp rfl (qz Tryz.isAgg3 (Blk.ext k6 e11) rfl rfl)<|lp rfl (qc Tryz.underlying52 rfl Tryz.sizeOf9 rfl rfl)<|lp rfl (qz Tryz.isAgg9 (Blk.ext k6 e11) rfl rfl)<|lp rfl (qc Tryz.underlying52 rfl Tryz.sizeOf9 rfl rfl)<|lp rfl (qz Tryz.isAgg9 (Blk.ext k6 e11) rfl rfl)<|lp rfl (qc Tryz.underlying52 rfl Tryz.sizeOf3 rfl rfl)<|lp rfl (qz Tryz.isAgg3 (Blk.ext k6 e11) rfl rfl)<|lp rfl (yZ (vs:=[(0,(.int .i64 a0.kind)),(1,(S a0.path)),(2,(S a0.body)),(3,(.int .i64 a0.mode))]) (pl:=#[(0,1),(1,1),(2,1),(3,1)]) Tryz.underlying91 Tryz.zeroValue91 rfl (fun _=>by kernel_rfl) rfl rfl rfl)<|vU (.plain rfl) rfl rfl Tryz.sizeOf91 rfl rfl rfl rfl rfl k12<|fun w13 h14 k15=>nx<|qr<|VD ?_
 obtain rfl:=si H
 exact finC1 rfl rfl k15 Tryz.isAgg91 Tryz.sizeOf91 rfl (e5.t (Below.trans e11 (Wr.below h14 (Nat.le_of_eq z9))))
/-! impl.apply -/
theorem ja.calls {w : World} {a0 : List Rec} {a1 : List Nd} (gv : GV 0 w) {v_a0 : Value} (f_a0 : Rd 5 qj w v_a0 a0) {v_a1 : Value} (f_a1 : Rd 4 qp w v_a1 a1) (h0 : a0.length≤16) (h1 : a1.length≤1000) (h2 : okT a0 a1 = true) :
  Calls Tryz.prog 87 #[v_a0,v_a1] w (Rt (RO 91 4 qp w (vd a0 a1))):=by
 obtain ⟨k,H⟩:=ja.eq a0 a1 h0 h1 h2
 generalize (vd a0 a1) = r at H ⊢
 unfold ja.sh at H
 refine qi Tryz.func87 rfl (Nat.le_of_ble_eq_true rfl) Tryz.ntmps87 rfl ?_
 refine wr<|lp rfl (xa (.slice none 0 0) rfl)<|nx<|wr<|lp rfl (xm v_a1 rfl) ?_
 obtain ⟨c1,H⟩:=qa H
 refine vp (.plain rfl) rfl (ltb rfl) rfl Tryz.call123 (YX.calls (w:=w) (a0:=a1) f_a1 (od c1)) rfl<|fun v4 w2 e3 o5=>lp rfl (xa v4 rfl)<|nx<|qk<|wr<|lp rfl (xm v_a0 rfl)<|lp rfl (qS Tryz.underlying35 rfl (Rd.ext f_a0 e3))<|lp rfl (xm (.int .i64 0) rfl)<|nx ?_
 obtain ⟨z9,L10,C11⟩:=bind_some H
 clear H
 refine  vT (fun s0 sQ wQ=>∃ (x5_12 : List Nd) (v13 : Value),Kp [(5,6),(7,9),(13,59)] s0 sQ∧sQ 5 = v13∧Ow 91 4 qp w.heap.size wQ v13 x5_12∧Ext w wQ∧z9 = .inr x5_12) ?_ ?_
 ·refine qF<|vA (fun s0 kk sQ wQ=>∃ (x5_6 : List Nd) (v7 : Value) (x13_8 : Int),Kp [(5,6),(7,9),(13,59)] s0 sQ∧sQ 5 = v7∧Ow 91 4 qp w.heap.size wQ v7 x5_6∧sQ 13 = .int .i64 x13_8∧Ext w wQ∧qt (ja.b1 a0) kk (x5_6,x13_8) = some z9) k ⟨a1,v4,0,kz,rfl,o5,rfl,e3,L10⟩ ?_
  rintro k18 s19 w20 ⟨x5_6,v7,x13_8,K21,h24,h25,h26,e22,L23⟩
  cases k18 with
  | zero=>exact absurd L23 (by simp [qt])
  | succ k18=>
   obtain ⟨t27,H,S28⟩:=qQ L23
   clear L23
   unfold ja.b1 at H
   refine wr<|lp rfl (ym h26 (K21 12 rfl))<|nx<|qk ?_
   rcases qe H with ⟨q29,H⟩ | ⟨q29,H⟩
   ·refine ql (cb q29)<|qw<|qg<|qk<|qF<|wr ?_
    obtain ⟨c30,H⟩:=qa H
    refine vg (.plain rfl) rfl (ltb rfl) rfl Tryz.underlying35 Tryz.sizeOf52 (K21 11 rfl) (Rd.ext f_a0 e22) h26 c30<|fun p31 h32=>lp rfl (qW Tryz.isAgg52 Tryz.sizeOf52 rfl rfl h32)<|jU (.plain rfl) rfl (ltb rfl) rfl Tryz.zeroValue52<|fun b33 w34 z35 z36 e37 k38=>vU (.plain rfl) rfl rfl Tryz.sizeOf52 rfl rfl rfl rfl rfl k38<|fun w39 h40 k41=>nx<|wr<|lp rfl (qf h24)<|lp rfl (qc Tryz.underlying52 rfl Tryz.sizeOf9 rfl rfl)<|lp rfl (qz Tryz.isAgg9 k41 rfl rfl) ?_
    obtain ⟨c42,H⟩:=qa H
    refine lc rfl rfl Tryz.call147 (YN.calls (w:=w39) (a0:=x5_6) (a1:=(gt a0 x13_8).path) (Ow.rd (Ow.ext h25 (Below.trans e37 (Wr.below h40 (Nat.le_of_eq z35))))) (od c42)) rfl<|fun w43 e44=>lp rfl (xa (.int .i64 (qU x5_6 ((gt a0 x13_8).path))) rfl)<|nx<|qk<|wr<|lp rfl (qc Tryz.underlying52 rfl Tryz.sizeOf3 rfl rfl)<|lp rfl (qz Tryz.isAgg3 (Blk.ext k41 e44) rfl rfl)<|lp rfl (vx rfl rfl)<|lp rfl (xm (.bool (decide (((gt a0 x13_8).kind) = 3))) rfl)<|jj 4 [(25,29)] 28 (.bool ((decide (((gt a0 x13_8).kind) = 3)) && (!((gt a0 x13_8).opq)))) ?_ ?_
    ·rcases qo (decide (((gt a0 x13_8).kind) = 3)) with b44_ | b44_
     ·exact lg rfl rfl rfl rfl (cb b44_) (qc Tryz.underlying52 rfl Tryz.sizeOf4 rfl rfl)<|lg rfl rfl rfl rfl (cb b44_) (qz Tryz.isAgg4 (Blk.ext k41 e44) rfl rfl)<|lg rfl rfl rfl rfl (cb b44_) (yR rfl)<|lp rfl (qq (b:=true) (v:=(.bool (!((gt a0 x13_8).opq)))) (cb b44_) rfl)<|nx ⟨(ku4 kz rfl),(QP b44_),er⟩
     ·exact ls rfl rfl rfl (cb b44_) rfl<|ls rfl rfl rfl (cb b44_) rfl<|ls rfl rfl rfl (cb b44_) rfl<|lp rfl (qq (b:=false) (v:=(.bool false)) (cb b44_) rfl)<|nx ⟨(ku4 kz rfl),(QQ b44_),er⟩
    intro s50 w46 K47 h48 e49
    refine lp rfl (qf h48)<|jj 3 [(30,33)] 32 (.bool (((decide (((gt a0 x13_8).kind) = 3)) && (!((gt a0 x13_8).opq))) && (decide (0≤(qU x5_6 ((gt a0 x13_8).path)))))) ?_ ?_
    ·rcases qo ((decide (((gt a0 x13_8).kind) = 3)) && (!((gt a0 x13_8).opq))) with b50_ | b50_
     ·exact lg rfl rfl rfl rfl (cb b50_) (xm (.int .i64 (qU x5_6 ((gt a0 x13_8).path))) (K47 8 rfl))<|lg rfl rfl rfl rfl (cb b50_) (Yd rfl rfl)<|lp rfl (qq (b:=true) (v:=(.bool (decide (0≤(qU x5_6 ((gt a0 x13_8).path)))))) (cb b50_) rfl)<|nx ⟨(ku3 kz rfl),(QP b50_),er⟩
     ·exact ls rfl rfl rfl (cb b50_) rfl<|ls rfl rfl rfl (cb b50_) rfl<|lp rfl (qq (b:=false) (v:=(.bool false)) (cb b50_) rfl)<|nx ⟨(ku3 kz rfl),(QQ b50_),er⟩
    intro s56 w52 K53 h54 e55
    refine lp rfl (qf h54) ?_
    obtain ⟨z58,x59,H⟩:=bind_some H
    refine yf 7 [(34,41)] 40 (fun q=>q = z58) ?_ ?_
    ·rcases qe x59 with ⟨b56_,H⟩ | ⟨b56_,H⟩
     ·refine lg rfl rfl rfl rfl (cb b56_) (xm v7 ((K53 5 rfl).trans ((K47 5 rfl).trans h24)))<|lg rfl rfl rfl rfl (cb b56_) (xm (.int .i64 (qU x5_6 ((gt a0 x13_8).path))) ((K53 8 rfl).trans (K47 8 rfl))) ?_
      obtain ⟨c58,H⟩:=qa H
      refine vg (tg rfl rfl rfl (cb b56_)) rfl (ltb rfl) rfl Tryz.underlying29 Tryz.sizeOf91 rfl (Ow.rd (Ow.ext h25 (Ext.trans (Ext.trans (Ext.trans (Below.trans e37 (Wr.below h40 (Nat.le_of_eq z35))) e44) e49) e55))) rfl c58<|fun p59 h60=>lg rfl rfl rfl rfl (cb b56_) (qc Tryz.underlying91 rfl Tryz.sizeOf3 rfl rfl)<|lg rfl rfl rfl rfl (cb b56_) (yd Tryz.isAgg3 (j:=0) h60 rfl rfl)<|lg rfl rfl rfl rfl (cb b56_) (vx rfl rfl)<|lp rfl (qq (b:=true) (v:=(.bool (decide (((gt x5_6 (qU x5_6 ((gt a0 x13_8).path))).kind) = 3)))) (cb b56_) rfl) ?_
      obtain rfl:=si H
      exact nx ⟨(ku3 (ku4 kz rfl) rfl),⟨_,rfl,rfl⟩,er⟩
     ·refine ls rfl rfl rfl (cb b56_) rfl<|ls rfl rfl rfl (cb b56_) rfl<|ls rfl rfl rfl (cb b56_) rfl<|ls rfl rfl rfl (cb b56_) rfl<|ls rfl rfl rfl (cb b56_) rfl<|ls rfl rfl rfl (cb b56_) rfl<|lp rfl (qq (b:=false) (v:=(.bool false)) (cb b56_) rfl) ?_
      obtain rfl:=si H
      exact nx ⟨(ku3 (ku4 kz rfl) rfl),⟨_,rfl,rfl⟩,er⟩
    intro s64 w60 z65 K61 hq h62 e63
    rw [hq] at h62; clear hq
    refine nx ?_
    rcases qe H with ⟨q66,H⟩ | ⟨q66,H⟩
    ·refine ql (h62.trans (cb q66))<|wr<|lp rfl (xm v7 ((K61 5 rfl).trans ((K53 5 rfl).trans ((K47 5 rfl).trans h24))))<|lp rfl (xm (.int .i64 (qU x5_6 ((gt a0 x13_8).path))) ((K61 8 rfl).trans ((K53 8 rfl).trans (K47 8 rfl))))<|lp rfl (qc Tryz.underlying52 rfl Tryz.sizeOf3 rfl ((K61 7 rfl).trans ((K53 7 rfl).trans (K47 7 rfl))))<|lp rfl (qz Tryz.isAgg3 (Blk.ext k41 (((e44.t e49).t e55).t e63)) rfl rfl) ?_
     obtain ⟨c69,H⟩:=qa H
     refine L_idxO (.plain rfl) rfl (ltb rfl) rfl Tryz.underlying29 Tryz.sizeOf91 rfl (Ow.ext h25 (Ext.trans (Ext.trans (Ext.trans (Ext.trans (Below.trans e37 (Wr.below h40 (Nat.le_of_eq z35))) e44) e49) e55) e63)) rfl c69<|fun p67 h68=>lp rfl (qc Tryz.underlying91 rfl Tryz.sizeOf3 rfl rfl)<|Gv (a:=(⟨(gt x5_6 (qU x5_6 ((gt a0 x13_8).path))).kind,(gt x5_6 (qU x5_6 ((gt a0 x13_8).path))).path,(gt x5_6 (qU x5_6 ((gt a0 x13_8).path))).body,(gt a0 x13_8).mode⟩ : Nd)) (vs:=[(.int .i64 ((gt a0 x13_8).mode))]) (off:=3) (.plain rfl) rfl rfl Tryz.sizeOf3 rfl h68 rfl rfl rfl rfl rfl rfl<|fun b70 w71 h72 h73 h74 o75=>nx<|yc<|vm<|yV<|qg<|qO<|lp rfl (vz ((K61 13 rfl).trans ((K53 13 rfl).trans ((K47 13 rfl).trans h26))) rfl)<|lp rfl (xm (.int .i64 (IntKind.wrap .i64 (x13_8 + 1))) rfl)<|nx ?_
     obtain rfl:=si H
     exact ⟨_,Nat.lt_succ_self _,Y4 x5_6 (qU x5_6 ((gt a0 x13_8).path)) (⟨(gt x5_6 (qU x5_6 ((gt a0 x13_8).path))).kind,(gt x5_6 (qU x5_6 ((gt a0 x13_8).path))).path,(gt x5_6 (qU x5_6 ((gt a0 x13_8).path))).body,(gt a0 x13_8).mode⟩ : Nd),v7,IntKind.wrap .i64 (x13_8 + 1),(ku8 (Kp.cut (ku1 (Kp.cut (ku1 (Kp.cut (ku1 (ku4 (ku8 K21 rfl) rfl) rfl) K47 rfl) rfl) K53 rfl) rfl) K61 rfl) rfl),((K61 5 rfl).trans ((K53 5 rfl).trans ((K47 5 rfl).trans h24))),o75,rfl,(Ext.wr (((((e22.t (Below.trans e37 (Wr.below h40 (Nat.le_of_eq z35)))).t e44).t e49).t e55).t e63) h74 h73 (Nat.le_refl _)),S28⟩
    ·refine qh (h62.trans (cb q66))<|qw<|qg<|wr<|lp rfl (xm v7 ((K61 5 rfl).trans ((K53 5 rfl).trans ((K47 5 rfl).trans h24))))<|lp rfl (qc Tryz.underlying52 rfl Tryz.sizeOf9 rfl ((K61 7 rfl).trans ((K53 7 rfl).trans (K47 7 rfl))))<|lp rfl (qz Tryz.isAgg9 (Blk.ext k41 (((e44.t e49).t e55).t e63)) rfl rfl) ?_
     obtain ⟨c76,H⟩:=qa H
     obtain ⟨c77,H⟩:=qa H
     refine vp (.plain rfl) rfl (ltb rfl) rfl Tryz.call148 (impl_removed.calls (w:=w60) (a0:=x5_6) (a1:=(gt a0 x13_8).path) (Ow.rd (Ow.ext h25 (Ext.trans (Ext.trans (Ext.trans (Ext.trans (Below.trans e37 (Wr.below h40 (Nat.le_of_eq z35))) e44) e49) e55) e63))) (od c76) (od c77)) rfl<|fun v80 w78 e79 o81=>lp rfl (xa v80 rfl)<|nx<|wr<|lp rfl (qc Tryz.underlying52 rfl Tryz.sizeOf3 rfl ((K61 7 rfl).trans ((K53 7 rfl).trans (K47 7 rfl))))<|lp rfl (qz Tryz.isAgg3 (Blk.ext k41 ((((e44.t e49).t e55).t e63).t e79)) rfl rfl)<|lp rfl (QJ rfl rfl)<|nx ?_
     rcases qe H with ⟨q82,H⟩ | ⟨q82,H⟩
     ·refine ql (cb q82)<|qO<|lp rfl (xm v80 rfl)<|lp rfl (qW Tryz.isAgg52 Tryz.sizeOf52 rfl ((K61 7 rfl).trans ((K53 7 rfl).trans (K47 7 rfl))) (Blk.at0 (Blk.ext k41 ((((e44.t e49).t e55).t e63).t e79))))<|lc rfl rfl Tryz.call150 (j2.calls (w:=w78) (a0:=(gt a0 x13_8))) rfl<|fun w83 e84=>?_
      obtain ⟨c85,H⟩:=qa H
      obtain ⟨c86,H⟩:=qa H
      obtain ⟨c87,H⟩:=qa H
      obtain ⟨c88,H⟩:=qa H
      refine vp (.plain rfl) rfl (ltb rfl) rfl Tryz.call149 (impl_place.calls (w:=w83) (a0:=(ye x5_6 ((gt a0 x13_8).path) true)) (a1:=(jl (gt a0 x13_8))) (GV.ext gv (((((((e22.t (Below.trans e37 (Wr.below h40 (Nat.le_of_eq z35)))).t e44).t e49).t e55).t e63).t e79).t e84)) (Ow.rd (Ow.ext o81 e84)) (od c85) (od c86) (od c87) (od c88)) rfl<|fun v91 w89 e90 o92=>lp rfl (xa v91 rfl)<|qP<|vK<|qg<|qO<|lp rfl (vz ((K61 13 rfl).trans ((K53 13 rfl).trans ((K47 13 rfl).trans h26))) rfl)<|lp rfl (xm (.int .i64 (IntKind.wrap .i64 (x13_8 + 1))) rfl)<|nx ?_
      obtain rfl:=si H
      exact ⟨_,Nat.lt_succ_self _,(Qj (ye x5_6 ((gt a0 x13_8).path) true) (jl (gt a0 x13_8))),v91,IntKind.wrap .i64 (x13_8 + 1),(ku3 (ku4 (ku8 (Kp.cut (ku1 (Kp.cut (ku1 (Kp.cut (ku1 (ku4 (ku8 K21 rfl) rfl) rfl) K47 rfl) rfl) K53 rfl) rfl) K61 rfl) rfl) rfl) rfl),rfl,(Ow.base o92 (((((((e22.t (Below.trans e37 (Wr.below h40 (Nat.le_of_eq z35)))).t e44).t e49).t e55).t e63).t e79).t e84).size),rfl,((((((((e22.t (Below.trans e37 (Wr.below h40 (Nat.le_of_eq z35)))).t e44).t e49).t e55).t e63).t e79).t e84).t e90),S28⟩
     ·refine qh (cb q82)<|qw<|vK<|qg<|qO<|lp rfl (vz ((K61 13 rfl).trans ((K53 13 rfl).trans ((K47 13 rfl).trans h26))) rfl)<|lp rfl (xm (.int .i64 (IntKind.wrap .i64 (x13_8 + 1))) rfl)<|nx ?_
      obtain rfl:=si H
      exact ⟨_,Nat.lt_succ_self _,(ye x5_6 ((gt a0 x13_8).path) true),v80,IntKind.wrap .i64 (x13_8 + 1),(ku2 (ku8 (Kp.cut (ku1 (Kp.cut (ku1 (Kp.cut (ku1 (ku4 (ku8 K21 rfl) rfl) rfl) K47 rfl) rfl) K53 rfl) rfl) K61 rfl) rfl) rfl),rfl,(Ow.base o81 (((((e22.t (Below.trans e37 (Wr.below h40 (Nat.le_of_eq z35)))).t e44).t e49).t e55).t e63).size),rfl,((((((e22.t (Below.trans e37 (Wr.below h40 (Nat.le_of_eq z35)))).t e44).t e49).t e55).t e63).t e79),S28⟩
   ·refine qh (cb q29)<|yc<|vm<|vm<|yV<|qg ?_
    obtain rfl:=si H
    obtain rfl:=si S28
    exact ⟨x5_6,v7,(ku1 K21 rfl),h24,h25,e22,rfl⟩
 ·rintro s15 w14 ⟨x5_12,v13,K16,h93,h94,e17,y95⟩
  rw [y95] at C11
  have H:=C11
  replace H : _ = some _:=H
  refine qg<|wr<|lp rfl (qf h93)<|lp rfl (xa v13 rfl)<|nx<|qr<|qy ?_
  obtain rfl:=si H
  exact QD rfl e17 h94 (er).size
/-! impl.Apply -/
theorem jA.walk {w : World} {a0 : List Rec} {a1 : List Nd} (gv : GV 0 w) {v_a0 : Value} (f_a0 : Rd 5 qj w v_a0 a0) {v_a1 : Value} (f_a1 : Rd 4 qp w v_a1 a1) {r : List Nd × Int} (H : jA.sh a0 a1 = some r) :
  Calls Tryz.prog 25 #[v_a0,v_a1] w (Rt (RT 91 4 qp w r.1 (.int .i64 r.2))):=by
 unfold jA.sh at H
 refine qi Tryz.func25 rfl (Nat.le_of_ble_eq_true rfl) Tryz.ntmps25 rfl ?_
 refine wr<|lp rfl (xa (.slice none 0 0) rfl)<|lp rfl (xa (.int .i64 0) rfl)<|nx<|qk<|wr<|lp rfl (xm v_a0 rfl)<|lc rfl rfl Tryz.call78 (yk.calls (w:=w) (a0:=a0) f_a0) rfl<|fun w1 e2=>lp rfl (xm (.bool (decide (4096 < a0.length))) rfl)<|jj 3 [(11,14)] 13 (.bool ((decide (4096 < a0.length)) || (decide (4096 < a1.length)))) ?_ ?_
 ·rcases qo (decide (4096 < a0.length)) with b2_ | b2_
  ·exact ls rfl rfl rfl (cb b2_) rfl<|ls rfl rfl rfl (cb b2_) rfl<|lp rfl (qq (b:=true) (v:=(.bool true)) (cb b2_) rfl)<|nx ⟨(ku3 kz rfl),(J6 b2_),er⟩
  ·exact lg rfl rfl rfl rfl (cb b2_) (xm v_a1 rfl)<|vL (tg rfl rfl rfl (cb b2_)) rfl (ltb rfl) rfl Tryz.call86 (jz.calls (w:=w1) (a0:=a1) (Rd.ext f_a1 e2)) rfl<|fun w4 e5=>lp rfl (qq (b:=false) (v:=(.bool (decide (4096 < a1.length)))) (cb b2_) rfl)<|nx ⟨(ku3 kz rfl),(J7 b2_),e5⟩
 intro s8 w4 K5 h6 e7
 refine lp rfl (vo Tryz.underlying4 rfl h6)<|lp rfl (vo Tryz.underlying3 rfl rfl)<|lp rfl (xm v_a0 (K5 0 rfl)) ?_
 obtain ⟨c9,H⟩:=qa H
 obtain ⟨c10,H⟩:=qa H
 refine lc rfl rfl Tryz.call68 (jm.calls (w:=w4) (a0:=a0) (GV.ext gv (e2.t e7)) (Rd.ext f_a0 (e2.t e7)) (od c9) (od c10)) rfl<|fun w11 e12=>lp rfl (yR rfl)<|lp rfl (xm (.bool (!(decide ((vf a0).2 = 0)))) rfl) ?_
 obtain ⟨z14,x15,H⟩:=bind_some H
 refine yf 4 [(20,24)] 23 (fun q=>q = z14) ?_ ?_
 ·rcases qe x15 with ⟨b12_,H⟩ | ⟨b12_,H⟩
  ·refine ls rfl rfl rfl (cb b12_) rfl<|ls rfl rfl rfl (cb b12_) rfl<|ls rfl rfl rfl (cb b12_) rfl<|lp rfl (qq (b:=true) (v:=(.bool true)) (cb b12_) rfl) ?_
   obtain rfl:=si H
   exact nx ⟨(ku4 kz rfl),⟨_,rfl,rfl⟩,er⟩
  ·refine lg rfl rfl rfl rfl (cb b12_) (xm v_a1 (K5 1 rfl)) ?_
   obtain ⟨c14,H⟩:=qa H
   obtain ⟨c15,H⟩:=qa H
   refine vL (tg rfl rfl rfl (cb b12_)) rfl (ltb rfl) rfl Tryz.call27 (qK.calls (w:=w11) (a0:=a1) (GV.ext gv ((e2.t e7).t e12)) (Rd.ext f_a1 ((e2.t e7).t e12)) (od c14) (od c15)) rfl<|fun w16 e17=>lg rfl rfl rfl rfl (cb b12_) (yR rfl)<|lp rfl (qq (b:=false) (v:=(.bool (!(j5 a1)))) (cb b12_) rfl) ?_
   obtain rfl:=si H
   exact nx ⟨(ku4 kz rfl),⟨_,rfl,rfl⟩,e17⟩
 intro s20 w16 z21 K17 hq h18 e19
 rw [hq] at h18; clear hq
 refine lp rfl (vo Tryz.underlying4 rfl h18)<|lp rfl (vo Tryz.underlying3 rfl rfl)<|yt (.plain rfl) rfl (ltb rfl) rfl Tryz.underlying142 Tryz.sizeOf20 Tryz.zeroValue20 rfl rfl rfl (vs:=[(.iface 4 (.bool ((decide (4096 < a0.length)) || (decide (4096 < a1.length))))),(.iface 3 (.int .i64 2)),(.iface 4 (.bool z14)),(.iface 3 (.int .i64 1))]) (va (K17 14 rfl) (va (K17 15 rfl) (va rfl (va rfl rfl)))) (qX rfl)<|fun b22 w23 z24 z25 e26 k27=>?_
 obtain ⟨c28,H⟩:=qa H
 obtain ⟨z31,x32,H⟩:=bind_some H
 replace x32:=si x32
 refine lc rfl rfl Tryz.call77 (yL.calls (w:=w23) (a0:=([.inl ((decide (4096 < a0.length)) || (decide (4096 < a1.length))),.inr 2,.inl z14,.inr 1] : List (Bool ⊕ Int))) (Ow.rd (Ow.new (xs:=[.inl ((decide (4096 < a0.length)) || (decide (4096 < a1.length))),.inr 2,.inl z14,.inr 1]) (sz:=1) (enc:=(Vc 4 3)) (base:=w16.heap.size) k27 (Nat.le_of_eq z24) rfl (fun _ _=>by first | rfl | exact VT _ _ _) (Nat.le_of_ble_eq_true rfl))) (od c28)) rfl<|fun w29 e30=>lp rfl (xa (.int .i64 z31) (congrArg (Value.int .i64) x32))<|nx<|wr<|lp rfl (xm (.int .i64 z31) rfl)<|lp rfl (QJ rfl rfl)<|nx ?_
 rcases qe H with ⟨q33,H⟩ | ⟨q33,H⟩
 ·refine ql (cb q33)<|wr<|lp rfl (xm (.int .i64 z31) rfl)<|lp rfl (xa (.slice none 0 0) rfl)<|lp rfl (xa (.int .i64 z31) rfl)<|nx<|qr<|qv<|qy ?_
  obtain rfl:=si H
  exact Q4 rfl rfl (((((e2.t e7).t e12).t e19).t e26).t e30) (Ow.zero (base:=w.heap.size)) (Nat.le_refl _)
 ·refine qh (cb q33)<|qw<|qg<|wr<|lp rfl (xm v_a0 ((K17 0 rfl).trans (K5 0 rfl)))<|lp rfl (xm v_a1 ((K17 1 rfl).trans (K5 1 rfl))) ?_
  obtain ⟨c34,H⟩:=qa H
  obtain ⟨c35,H⟩:=qa H
  obtain ⟨c36,H⟩:=qa H
  refine vp (.plain rfl) rfl (ltb rfl) rfl Tryz.call87 (ja.calls (w:=w29) (a0:=a0) (a1:=a1) (GV.ext gv (((((e2.t e7).t e12).t e19).t e26).t e30)) (Rd.ext f_a0 (((((e2.t e7).t e12).t e19).t e26).t e30)) (Rd.ext f_a1 (((((e2.t e7).t e12).t e19).t e26).t e30)) (od c34) (od c35) (od c36)) rfl<|fun v39 w37 e38 o40=>lp rfl (xa v39 rfl)<|nx<|qk<|wr<|lp rfl (xm v39 rfl)<|lp rfl (qS Tryz.underlying29 rfl (Ow.rd o40))<|lp rfl (j8 rfl rfl)<|nx ?_
  rcases qe H with ⟨q41,H⟩ | ⟨q41,H⟩
  ·refine ql (cb q41)<|wr<|lp rfl (xa (.slice none 0 0) rfl)<|lp rfl (xa (.int .i64 7) rfl)<|nx<|qr<|qv<|qy ?_
   obtain rfl:=si H
   exact Q4 rfl rfl ((((((e2.t e7).t e12).t e19).t e26).t e30).t e38) (Ow.zero (base:=w.heap.size)) (Nat.le_refl _)
  ·refine qh (cb q41)<|qw<|qg<|wr<|lp rfl (xm v39 rfl)<|lp rfl (xa v39 rfl)<|lp rfl (xa (.int .i64 0) rfl)<|nx<|qr<|qy ?_
   obtain rfl:=si H
   exact Q4 rfl rfl ((((((e2.t e7).t e12).t e19).t e26).t e30).t e38) o40 ((((((e2.t e7).t e12).t e19).t e26).t e30)).size
theorem jA.calls {w : World} {a0 : List Rec} {a1 : List Nd} (gv : GV 0 w) {v_a0 : Value} (f_a0 : Rd 5 qj w v_a0 a0) {v_a1 : Value} (f_a1 : Rd 4 qp w v_a1 a1) (h0 : a0.length≤1048576) (h1 : a1.length≤1048576) (h2 : ∀ x ∈ a0,x.path.length≤1048576) (h3 : ∀ x ∈ a1,x.path.length≤1048576) :
  Calls Tryz.prog 25 #[v_a0,v_a1] w (Rt (RT 91 4 qp w ((qE a0 a1).1) (.int .i64 ((qE a0 a1).2)))):=jA.walk gv f_a0 f_a1 (jA.eq a0 a1 h0 h1 h2 h3)
/-! spec.l00Digits,by text -/
theorem Jv.calls {w : World} {a0 : Int} (h0 : False) : Calls Tryz.prog 200 #[.int .i64 a0] w (Rt (RP w (S ([] : List UInt8)))):=h0.elim

/-! spec.l00Digits -/
abbrev vu.e1 (a0 : Int):=([IntKind.wrap .u8 (IntKind.wrap .i64 (48 + (a0.tmod 10)))] : List Int)
theorem vu.walk {w : World} {a0 : Int} {r : List UInt8} (H : vu.sh a0 = some r) :
  Calls Tryz.prog 200 #[.int .i64 a0] w (Rt (RP w (S r))):=by
 unfold vu.sh at H
 refine qi Tryz.func200 rfl (Nat.le_of_ble_eq_true rfl) Tryz.ntmps200 rfl ?_
 refine wr<|lp rfl (xa (S ([] : List UInt8)) rfl)<|nx<|qk<|wr<|lp rfl (xm (.int .i64 a0) rfl)<|lp rfl (vx rfl rfl)<|nx ?_
 rcases qe H with ⟨q1,H⟩ | ⟨q1,H⟩
 ·refine ql (cb q1)<|wr<|lp rfl (qA rfl)<|nx<|qr<|qv<|qy ?_
  obtain rfl:=si H
  exact vt rfl er
 ·refine qh (cb q1)<|qw<|qg<|qk<|wr<|lp rfl (xm (.int .i64 a0) rfl)<|lp rfl (ym rfl rfl)<|nx ?_
  rcases qe H with ⟨q2,H⟩ | ⟨q2,H⟩
  ·refine ql (cb q2)<|wr<|lp rfl (xm (.int .i64 a0) rfl)<|lp rfl (X_neg rfl) ?_
   obtain ⟨c3,H⟩:=qa H
   refine lc rfl rfl Tryz.call200 (Jv.calls (w:=w) (a0:=IntKind.wrap .i64 (0 - a0)) (od c3)) rfl<|fun w4 e5=>?_
   obtain ⟨c6,H⟩:=qa H
   refine lp rfl (Y2 rfl rfl (od c6))<|lp rfl (xa (S (([45] : List UInt8) ++ ([] : List UInt8))) rfl)<|nx<|qr<|qv<|qy ?_
   obtain rfl:=si H
   exact vt rfl e5
  ·refine qh (cb q2)<|qw<|qg<|qk<|wr<|lp rfl (xm (.int .i64 a0) rfl)<|lp rfl (ym rfl rfl)<|nx ?_
   rcases qe H with ⟨q7,H⟩ | ⟨q7,H⟩
   ·refine ql (cb q7)<|wr<|lp rfl (xm (.int .i64 a0) rfl)<|lp rfl (vz rfl rfl)<|lp rfl (QZ Tryz.underlying3 Tryz.underlying5 rfl)<|yt (.plain rfl) rfl (ltb rfl) rfl Tryz.underlying22 Tryz.sizeOf5 Tryz.zeroValue5 rfl rfl rfl (vs:=[(.int .u8 (IntKind.wrap .u8 (IntKind.wrap .i64 (48 + a0))))]) rfl (qX rfl)<|fun b8 w9 z10 z11 e12 k13=>lp rfl (GK Tryz.underlying22 Tryz.underlying5 Tryz.underlying9 rfl (Ow.rd (Ow.new (xs:=[IntKind.wrap .u8 (IntKind.wrap .i64 (48 + a0))]) (sz:=1) (enc:=(Go.UL.encI .u8)) (base:=w.heap.size) k13 (Nat.le_of_eq z10) rfl (fun _ _=>by rfl) (Nat.le_of_ble_eq_true rfl))))<|lp rfl (qA rfl)<|nx<|qr<|qv<|qy ?_
    obtain rfl:=si H
    exact vt rfl e12
   ·refine qh (cb q7)<|qw<|qg<|qk ?_
    obtain ⟨c14,H⟩:=qa H
    obtain ⟨c23,H⟩:=qa H
    refine Yi [LEq (.int .i64 a0),LEq (.int .i64 (IntKind.wrap .i64 (a0.tdiv 10))),LEq (S ([] : List UInt8)),LEq (.int .i64 a0),LEq (.int .i64 (a0.tmod 10)),LEq (.int .i64 (IntKind.wrap .i64 (48 + (a0.tmod 10)))),LEq (.int .u8 (IntKind.wrap .u8 (IntKind.wrap .i64 (48 + (a0.tmod 10))))),LRd 1 (Go.UL.encI .u8) (vu.e1 a0),LEq (S (Qg (vu.e1 a0))),LEq (S (([] : List UInt8) ++ (Qg (vu.e1 a0)))),LEq (S (([] : List UInt8) ++ (Qg (vu.e1 a0))))] (by kernel_rfl) (by kernel_rfl) ⟨qm,qm,qm,qm,qm,qm,qm,LRd.mono,qm,qm,qm,trivial⟩ ⟨?_,?_,?_,?_,?_,?_,?_,?_,?_,?_,?_,trivial⟩ ?_
    ·exact fun s x e f d u=>lp rfl (xm (.int .i64 a0) (f 0 rfl))<|se rfl rfl
    ·exact fun s x e f d u=>lp rfl (X_quo (d 0 rfl) rfl (by decide))<|se rfl rfl
    ·exact fun s x e f d u=>lc rfl rfl Tryz.call200 (Jv.calls (w:=x) (a0:=IntKind.wrap .i64 (a0.tdiv 10)) (od c14)) (va (d 1 rfl) rfl)<|fun w25 e26=>sx rfl e26 rfl
    ·exact fun s x e f d u=>lp rfl (xm (.int .i64 a0) (f 0 rfl))<|se rfl rfl
    ·exact fun s x e f d u=>lp rfl (Xk (d 3 rfl) rfl (by decide))<|se rfl rfl
    ·exact fun s x e f d u=>lp rfl (vz rfl (d 4 rfl))<|se rfl rfl
    ·exact fun s x e f d u=>lp rfl (QZ Tryz.underlying3 Tryz.underlying5 (d 5 rfl))<|se rfl rfl
    ·exact fun s x e f d u=>yt (.plain rfl) rfl (ltb rfl) rfl Tryz.underlying22 Tryz.sizeOf5 Tryz.zeroValue5 rfl rfl rfl (vs:=[(.int .u8 (IntKind.wrap .u8 (IntKind.wrap .i64 (48 + (a0.tmod 10)))))]) (va (d 6 rfl) rfl) (qX rfl)<|fun b27 w28 z29 z30 e31 k32=>sx rfl e31 (Ow.rd (Ow.new (xs:=[IntKind.wrap .u8 (IntKind.wrap .i64 (48 + (a0.tmod 10)))]) (sz:=1) (enc:=(Go.UL.encI .u8)) (base:=x.heap.size) k32 (Nat.le_of_eq z29) rfl (fun _ _=>by rfl) (Nat.le_of_ble_eq_true rfl)))
    ·intro s x e f d u
     have d33 : Rd 1 (Go.UL.encI .u8) x (s 25) (vu.e1 a0):=(d 7 rfl)
     exact lp rfl (GK Tryz.underlying22 Tryz.underlying5 Tryz.underlying9 rfl d33)<|se rfl rfl
    ·exact fun s x e f d u=>lp rfl (Y2 (d 2 rfl) (d 8 rfl) (od c23))<|se rfl rfl
    ·exact fun s x e f d u=>lp rfl (qA (d 9 rfl))<|se rfl rfl
    intro s35 w36 e37 hf38 ha39
    have K40:=Kp.ofD (kp:=[(2,3),(18,28)]) rfl hf38
    have d41 : s35 2 = (S (([] : List UInt8) ++ (Qg (vu.e1 a0)))):=ha39 10 rfl
    clear ha39 hf38
    refine qg<|qr<|qy ?_
    obtain rfl:=si H
    exact vt d41 e37
theorem vu.calls {w : World} {a0 : Int} (h0 : (0 : Int)≤a0) (h1 : (a0 : Int) < 10) :
  Calls Tryz.prog 200 #[.int .i64 a0] w (Rt (RP w (S (jH a0.toNat)))):=vu.walk (vu.eq a0 h0 h1)
/-! spec.l00Digits -/
abbrev vI.e1 (a0 : Int):=([IntKind.wrap .u8 (IntKind.wrap .i64 (48 + (a0.tmod 10)))] : List Int)
theorem vI.walk {w : World} {a0 : Int} {r : List UInt8} (H : vI.sh a0 = some r) :
  Calls Tryz.prog 200 #[.int .i64 a0] w (Rt (RP w (S r))):=by
 unfold vI.sh at H
 refine qi Tryz.func200 rfl (Nat.le_of_ble_eq_true rfl) Tryz.ntmps200 rfl ?_
 refine wr<|lp rfl (xa (S ([] : List UInt8)) rfl)<|nx<|qk<|wr<|lp rfl (xm (.int .i64 a0) rfl)<|lp rfl (vx rfl rfl)<|nx ?_
 rcases qe H with ⟨q1,H⟩ | ⟨q1,H⟩
 ·refine ql (cb q1)<|wr<|lp rfl (qA rfl)<|nx<|qr<|qv<|qy ?_
  obtain rfl:=si H
  exact vt rfl er
 ·refine qh (cb q1)<|qw<|qg<|qk<|wr<|lp rfl (xm (.int .i64 a0) rfl)<|lp rfl (ym rfl rfl)<|nx ?_
  rcases qe H with ⟨q2,H⟩ | ⟨q2,H⟩
  ·refine ql (cb q2)<|wr<|lp rfl (xm (.int .i64 a0) rfl)<|lp rfl (X_neg rfl) ?_
   obtain ⟨c3,H⟩:=qa H
   obtain ⟨c4,H⟩:=qa H
   refine lc rfl rfl Tryz.call200 (vu.calls (w:=w) (a0:=IntKind.wrap .i64 (0 - a0)) (od c3) (od c4)) rfl<|fun w5 e6=>?_
   obtain ⟨c7,H⟩:=qa H
   refine lp rfl (Y2 rfl rfl (od c7))<|lp rfl (qA rfl)<|nx<|qr<|qv<|qy ?_
   obtain rfl:=si H
   exact vt rfl e6
  ·refine qh (cb q2)<|qw<|qg<|qk<|wr<|lp rfl (xm (.int .i64 a0) rfl)<|lp rfl (ym rfl rfl)<|nx ?_
   rcases qe H with ⟨q8,H⟩ | ⟨q8,H⟩
   ·refine ql (cb q8)<|wr<|lp rfl (xm (.int .i64 a0) rfl)<|lp rfl (vz rfl rfl)<|lp rfl (QZ Tryz.underlying3 Tryz.underlying5 rfl)<|yt (.plain rfl) rfl (ltb rfl) rfl Tryz.underlying22 Tryz.sizeOf5 Tryz.zeroValue5 rfl rfl rfl (vs:=[(.int .u8 (IntKind.wrap .u8 (IntKind.wrap .i64 (48 + a0))))]) rfl (qX rfl)<|fun b9 w10 z11 z12 e13 k14=>lp rfl (GK Tryz.underlying22 Tryz.underlying5 Tryz.underlying9 rfl (Ow.rd (Ow.new (xs:=[IntKind.wrap .u8 (IntKind.wrap .i64 (48 + a0))]) (sz:=1) (enc:=(Go.UL.encI .u8)) (base:=w.heap.size) k14 (Nat.le_of_eq z11) rfl (fun _ _=>by rfl) (Nat.le_of_ble_eq_true rfl))))<|lp rfl (qA rfl)<|nx<|qr<|qv<|qy ?_
    obtain rfl:=si H
    exact vt rfl e13
   ·refine qh (cb q8)<|qw<|qg<|qk ?_
    obtain ⟨c15,H⟩:=qa H
    obtain ⟨c16,H⟩:=qa H
    obtain ⟨c25,H⟩:=qa H
    refine Yi [LEq (.int .i64 a0),LEq (.int .i64 (IntKind.wrap .i64 (a0.tdiv 10))),LEq (S (jH (IntKind.wrap .i64 (a0.tdiv 10)).toNat)),LEq (.int .i64 a0),LEq (.int .i64 (a0.tmod 10)),LEq (.int .i64 (IntKind.wrap .i64 (48 + (a0.tmod 10)))),LEq (.int .u8 (IntKind.wrap .u8 (IntKind.wrap .i64 (48 + (a0.tmod 10))))),LRd 1 (Go.UL.encI .u8) (vI.e1 a0),LEq (S (Qg (vI.e1 a0))),LEq (S ((jH (IntKind.wrap .i64 (a0.tdiv 10)).toNat) ++ (Qg (vI.e1 a0)))),LEq (S ((jH (IntKind.wrap .i64 (a0.tdiv 10)).toNat) ++ (Qg (vI.e1 a0))))] (by kernel_rfl) (by kernel_rfl) ⟨qm,qm,qm,qm,qm,qm,qm,LRd.mono,qm,qm,qm,trivial⟩ ⟨?_,?_,?_,?_,?_,?_,?_,?_,?_,?_,?_,trivial⟩ ?_
    ·exact fun s x e f d u=>lp rfl (xm (.int .i64 a0) (f 0 rfl))<|se rfl rfl
    ·exact fun s x e f d u=>lp rfl (X_quo (d 0 rfl) rfl (by decide))<|se rfl rfl
    ·exact fun s x e f d u=>lc rfl rfl Tryz.call200 (vu.calls (w:=x) (a0:=IntKind.wrap .i64 (a0.tdiv 10)) (od c15) (od c16)) (va (d 1 rfl) rfl)<|fun w28 e29=>sx rfl e29 rfl
    ·exact fun s x e f d u=>lp rfl (xm (.int .i64 a0) (f 0 rfl))<|se rfl rfl
    ·exact fun s x e f d u=>lp rfl (Xk (d 3 rfl) rfl (by decide))<|se rfl rfl
    ·exact fun s x e f d u=>lp rfl (vz rfl (d 4 rfl))<|se rfl rfl
    ·exact fun s x e f d u=>lp rfl (QZ Tryz.underlying3 Tryz.underlying5 (d 5 rfl))<|se rfl rfl
    ·exact fun s x e f d u=>yt (.plain rfl) rfl (ltb rfl) rfl Tryz.underlying22 Tryz.sizeOf5 Tryz.zeroValue5 rfl rfl rfl (vs:=[(.int .u8 (IntKind.wrap .u8 (IntKind.wrap .i64 (48 + (a0.tmod 10)))))]) (va (d 6 rfl) rfl) (qX rfl)<|fun b30 w31 z32 z33 e34 k35=>sx rfl e34 (Ow.rd (Ow.new (xs:=[IntKind.wrap .u8 (IntKind.wrap .i64 (48 + (a0.tmod 10)))]) (sz:=1) (enc:=(Go.UL.encI .u8)) (base:=x.heap.size) k35 (Nat.le_of_eq z32) rfl (fun _ _=>by rfl) (Nat.le_of_ble_eq_true rfl)))
    ·intro s x e f d u
     have d36 : Rd 1 (Go.UL.encI .u8) x (s 25) (vI.e1 a0):=(d 7 rfl)
     exact lp rfl (GK Tryz.underlying22 Tryz.underlying5 Tryz.underlying9 rfl d36)<|se rfl rfl
    ·exact fun s x e f d u=>lp rfl (Y2 (d 2 rfl) (d 8 rfl) (od c25))<|se rfl rfl
    ·exact fun s x e f d u=>lp rfl (qA (d 9 rfl))<|se rfl rfl
    intro s38 w39 e40 hf41 ha42
    have K43:=Kp.ofD (kp:=[(2,3),(18,28)]) rfl hf41
    have d44 : s38 2 = (S ((jH (IntKind.wrap .i64 (a0.tdiv 10)).toNat) ++ (Qg (vI.e1 a0)))):=ha42 10 rfl
    clear ha42 hf41
    refine qg<|qr<|qy ?_
    obtain rfl:=si H
    exact vt d44 e40
theorem vI.calls {w : World} {a0 : Int} (h0 : (0 : Int)≤a0) (h1 : (a0 : Int) < 100) :
  Calls Tryz.prog 200 #[.int .i64 a0] w (Rt (RP w (S (jH a0.toNat)))):=vI.walk (vI.eq a0 h0 h1)
/-! spec.l05First -/
abbrev qL.e1 (a0 : List Rec) (a1 : List Rec) (x7_13 : Int):=((decide (x7_13 < (a0.length : Int))) && (decide (x7_13 < (a1.length : Int))))
theorem qL.walk {k : Nat} {w : World} {a0 : List Rec} {a1 : List Rec} {v_a0 : Value} (f_a0 : Rd 5 qj w v_a0 a0) {v_a1 : Value} (f_a1 : Rd 5 qj w v_a1 a1) {r : Rec × Rec × Bool} (H : qL.sh k a0 a1 = some r) :
  Calls Tryz.prog 143 #[v_a0,v_a1] w (Rt (RP w (.tuple #[.agg (qj r.1).toArray,.agg (qj r.2.1).toArray,.bool r.2.2]))):=by
 unfold qL.sh at H
 refine Vt Tryz.func143 rfl (Nat.le_of_ble_eq_true rfl) Tryz.ntmps143 ?_
 refine wr<|jU (.plain rfl) rfl (ltb rfl) rfl Tryz.zeroValue52<|fun b1 w2 z3 z4 e5 k6=>jU (.plain rfl) rfl (ltb rfl) rfl Tryz.zeroValue52<|fun b7 w8 z9 z10 e11 k12=>lp rfl (xa (.bool false) rfl)<|nx<|wr<|lp rfl (xa (.int .i64 0) rfl)<|nx<|qk ?_
 obtain ⟨z14,L15,C16⟩:=bind_some H
 clear H
 refine  vT (fun s0 sQ wQ=>∃ (x7_17 : Int),Kp [(7,31)] s0 sQ∧sQ 7 = .int .i64 x7_17∧Ext w8 wQ∧z14 = .inr x7_17) ?_ ?_
 ·refine qF<|vA (fun s0 kk sQ wQ=>∃ (x7_13 : Int),Kp [(7,31)] s0 sQ∧sQ 7 = .int .i64 x7_13∧Ext w8 wQ∧qt (qL.b1 a0 a1) kk x7_13 = some z14) k ⟨0,kz,rfl,er,L15⟩ ?_
  rintro k22 s23 w24 ⟨x7_13,K25,h28,e26,L27⟩
  cases k22 with
  | zero=>exact absurd L27 (by simp [qt])
  | succ k22=>
   obtain ⟨t29,H,S30⟩:=qQ L27
   clear L27
   unfold qL.b1 at H
   refine qk<|qk ?_
   obtain ⟨c31,H⟩:=qa H
   obtain ⟨c34,H⟩:=qa H
   refine Yi [LEq (.int .i64 x7_13),LEq v_a0,LEq (.int .i64 (a0.length : Int)),LEq (.bool (decide (x7_13 < (a0.length : Int)))),LEq (.bool (decide (x7_13 < (a0.length : Int)))),LIf (decide (x7_13 < (a0.length : Int))) (LEq (.int .i64 x7_13)),LIf (decide (x7_13 < (a0.length : Int))) (LEq v_a1),LIf (decide (x7_13 < (a0.length : Int))) (LEq (.int .i64 (a1.length : Int))),LIf (decide (x7_13 < (a0.length : Int))) (LEq (.bool (decide (x7_13 < (a1.length : Int))))),LEq (.bool (qL.e1 a0 a1 x7_13)),LEq (.bool (qL.e1 a0 a1 x7_13)),LIf (qL.e1 a0 a1 x7_13) (LEq v_a0),LIf (qL.e1 a0 a1 x7_13) (LEq (.int .i64 x7_13)),LIf (qL.e1 a0 a1 x7_13) (yv (qj (gt a0 x7_13))),LIf (qL.e1 a0 a1 x7_13) (LEq (.agg (qj (gt a0 x7_13)).toArray)),LIf (qL.e1 a0 a1 x7_13) (LEq v_a1),LIf (qL.e1 a0 a1 x7_13) (LEq (.int .i64 x7_13)),LIf (qL.e1 a0 a1 x7_13) (yv (qj (gt a1 x7_13))),LIf (qL.e1 a0 a1 x7_13) (LEq (.agg (qj (gt a1 x7_13)).toArray)),LIf (qL.e1 a0 a1 x7_13) (LEq (.bool (decide ((gt a0 x7_13) = (gt a1 x7_13))))),LEq (.bool ((qL.e1 a0 a1 x7_13) && (decide ((gt a0 x7_13) = (gt a1 x7_13)))))] (by kernel_rfl) (by kernel_rfl) ⟨qm,qm,qm,qm,qm,lm,lm,lm,lm,qm,qm,lm,lm,(LIf.mono yv.mono),lm,lm,lm,(LIf.mono yv.mono),lm,lm,qm,trivial⟩ ⟨?_,?_,?_,?_,?_,?_,?_,?_,?_,?_,?_,?_,?_,?_,?_,?_,?_,?_,?_,?_,?_,trivial⟩ ?_
   ·exact fun s x e f d u=>lp rfl (xm (.int .i64 x7_13) ((f 7 rfl).trans h28))<|se rfl rfl
   ·exact fun s x e f d u=>lp rfl (xm v_a0 ((f 0 rfl).trans (K25 0 rfl)))<|se rfl rfl
   ·exact fun s x e f d u=>lp rfl (qS Tryz.underlying35 (d 1 rfl) (Rd.ext f_a0 (((e5.t e11).t e26).t e)))<|se rfl rfl
   ·exact fun s x e f d u=>lp rfl (ym (d 0 rfl) (d 2 rfl))<|se rfl rfl
   ·exact fun s x e f d u=>lp rfl (qf (d 3 rfl))<|se rfl rfl
   ·exact fun s x e f d u=>gT rfl rfl rfl rfl (d 4 rfl) rfl fun b t=>lt t rfl rfl (xm (.int .i64 x7_13) ((f 7 rfl).trans h28))<|sg rfl rfl b rfl
   ·exact fun s x e f d u=>gT rfl rfl rfl rfl (d 4 rfl) rfl fun b t=>lt t rfl rfl (xm v_a1 ((f 1 rfl).trans (K25 1 rfl)))<|sg rfl rfl b rfl
   ·exact fun s x e f d u=>gT rfl rfl rfl rfl (d 4 rfl) rfl fun b t=>lt t rfl rfl (qS Tryz.underlying35 ((d 6 rfl).1 b) (Rd.ext f_a1 (((e5.t e11).t e26).t e)))<|sg rfl rfl b rfl
   ·exact fun s x e f d u=>gT rfl rfl rfl rfl (d 4 rfl) rfl fun b t=>lt t rfl rfl (ym ((d 5 rfl).1 b) ((d 7 rfl).1 b))<|sg rfl rfl b rfl
   ·exact fun s x e f d u=>lp rfl (jT (d 4 rfl) rfl fun h=>((d 8 rfl).1 h))<|se rfl rfl
   ·exact fun s x e f d u=>lp rfl (qf (d 9 rfl))<|se rfl rfl
   ·exact fun s x e f d u=>gT rfl rfl rfl rfl (d 10 rfl) rfl fun b t=>lt t rfl rfl (xm v_a0 ((f 0 rfl).trans (K25 0 rfl)))<|sg rfl rfl b rfl
   ·exact fun s x e f d u=>gT rfl rfl rfl rfl (d 10 rfl) rfl fun b t=>lt t rfl rfl (xm (.int .i64 x7_13) ((f 7 rfl).trans h28))<|sg rfl rfl b rfl
   ·exact fun s x e f d u=>gT rfl rfl rfl rfl (d 10 rfl) rfl fun b t=>vg t rfl (ltb rfl) rfl Tryz.underlying35 Tryz.sizeOf52 ((d 11 rfl).1 b) (Rd.ext f_a0 (((e5.t e11).t e26).t e)) ((d 12 rfl).1 b) (vM b c31)<|fun p38 h39=>sg rfl rfl b ⟨_,rfl,h39⟩
   ·intro s x e f d u
    refine gT rfl rfl rfl rfl (d 10 rfl) rfl fun b t=>?_
    obtain ⟨p40,h41,h42⟩:=((d 13 rfl).1 b)
    exact lt t rfl rfl (qW Tryz.isAgg52 Tryz.sizeOf52 rfl h41 h42)<|sg rfl rfl b rfl
   ·exact fun s x e f d u=>gT rfl rfl rfl rfl (d 10 rfl) rfl fun b t=>lt t rfl rfl (xm v_a1 ((f 1 rfl).trans (K25 1 rfl)))<|sg rfl rfl b rfl
   ·exact fun s x e f d u=>gT rfl rfl rfl rfl (d 10 rfl) rfl fun b t=>lt t rfl rfl (xm (.int .i64 x7_13) ((f 7 rfl).trans h28))<|sg rfl rfl b rfl
   ·exact fun s x e f d u=>gT rfl rfl rfl rfl (d 10 rfl) rfl fun b t=>vg t rfl (ltb rfl) rfl Tryz.underlying35 Tryz.sizeOf52 ((d 15 rfl).1 b) (Rd.ext f_a1 (((e5.t e11).t e26).t e)) ((d 16 rfl).1 b) (vM b c34)<|fun p44 h45=>sg rfl rfl b ⟨_,rfl,h45⟩
   ·intro s x e f d u
    refine gT rfl rfl rfl rfl (d 10 rfl) rfl fun b t=>?_
    obtain ⟨p46,h47,h48⟩:=((d 17 rfl).1 b)
    exact lt t rfl rfl (qW Tryz.isAgg52 Tryz.sizeOf52 rfl h47 h48)<|sg rfl rfl b rfl
   ·exact fun s x e f d u=>gT rfl rfl rfl rfl (d 10 rfl) rfl fun b t=>lt t rfl rfl (X_eqA Eqg.t52 (Eqs.t52 (gt a0 x7_13) (gt a1 x7_13)) ((d 14 rfl).1 b) ((d 18 rfl).1 b))<|sg rfl rfl b rfl
   ·exact fun s x e f d u=>lp rfl (jT (d 10 rfl) rfl fun h=>((d 19 rfl).1 h))<|se rfl rfl
   intro s49 w50 e51 hf52 ha53
   have K54:=Kp.ofD (kp:=[(8,29)]) rfl hf52
   have d55 : s49 28 = (.bool ((qL.e1 a0 a1 x7_13) && (decide ((gt a0 x7_13) = (gt a1 x7_13))))):=ha53 20 rfl
   clear ha53 hf52
   refine qg ?_
   rcases qe H with ⟨q56,H⟩ | ⟨q56,H⟩
   ·refine ql (d55.trans (cb q56))<|qw<|qg<|qF<|qO<|lp rfl (xm (.int .i64 x7_13) ((K54 7 rfl).trans h28))<|lp rfl (vz rfl rfl)<|lp rfl (xa (.int .i64 (IntKind.wrap .i64 (x7_13 + 1))) rfl)<|qP<|vK<|qg ?_
    obtain rfl:=si H
    exact ⟨_,Nat.lt_succ_self _,IntKind.wrap .i64 (x7_13 + 1),(ku3 (Kp.cut K25 K54 rfl) rfl),rfl,(e26.t e51),S30⟩
   ·refine qh (d55.trans (cb q56))<|yc<|vm<|vm<|yV<|qg ?_
    obtain rfl:=si H
    obtain rfl:=si S30
    exact ⟨x7_13,(Kp.cut K25 K54 rfl),((K54 7 rfl).trans h28),(e26.t e51),rfl⟩
 ·rintro s19 w18 ⟨x7_17,K20,h57,e21,y58⟩
  rw [y58] at C16
  have H:=C16
  replace H : _ = some _:=H
  refine qg<|qk<|qF<|wr<|lp rfl (qf h57)<|lp rfl (xm v_a0 (K20 0 rfl))<|lp rfl (qS Tryz.underlying35 rfl (Rd.ext f_a0 ((e5.t e11).t e21)))<|lp rfl (vx rfl rfl)<|lp rfl (xm (.bool (decide (x7_17 = (a0.length : Int)))) rfl)<|jj 5 [(37,42)] 41 (.bool ((decide (x7_17 = (a0.length : Int))) && (decide (x7_17 = (a1.length : Int))))) ?_ ?_
  ·rcases qo (decide (x7_17 = (a0.length : Int))) with b58_ | b58_
   ·exact lg rfl rfl rfl rfl (cb b58_) (qf h57)<|lg rfl rfl rfl rfl (cb b58_) (xm v_a1 (K20 1 rfl))<|lg rfl rfl rfl rfl (cb b58_) (qS Tryz.underlying35 rfl (Rd.ext f_a1 ((e5.t e11).t e21)))<|lg rfl rfl rfl rfl (cb b58_) (vx rfl rfl)<|lp rfl (qq (b:=true) (v:=(.bool (decide (x7_17 = (a1.length : Int))))) (cb b58_) rfl)<|nx ⟨(ku1 (ku4 kz rfl) rfl),(QP b58_),er⟩
   ·exact ls rfl rfl rfl (cb b58_) rfl<|ls rfl rfl rfl (cb b58_) rfl<|ls rfl rfl rfl (cb b58_) rfl<|ls rfl rfl rfl (cb b58_) rfl<|lp rfl (qq (b:=false) (v:=(.bool false)) (cb b58_) rfl)<|nx ⟨(ku1 (ku4 kz rfl) rfl),(QQ b58_),er⟩
  intro s64 w60 K61 h62 e63
  refine lp rfl (qA h62)<|nx ?_
  rcases qe H with ⟨q65,H⟩ | ⟨q65,H⟩
  ·refine ql (cb q65)<|wr<|lp rfl (yZ (vs:=[]) (pl:=#[(0,1),(1,1),(2,1),(3,1),(4,1)]) Tryz.underlying52 Tryz.zeroValue52 rfl (fun _=>by kernel_rfl) rfl rfl rfl)<|lp rfl (yZ (vs:=[]) (pl:=#[(0,1),(1,1),(2,1),(3,1),(4,1)]) Tryz.underlying52 Tryz.zeroValue52 rfl (fun _=>by kernel_rfl) rfl rfl rfl)<|vU (.plain rfl) rfl rfl Tryz.sizeOf52 ((K61 4 rfl).trans (K20 4 rfl)) rfl rfl rfl rfl (Blk.ext k6 ((e11.t e21).t e63))<|fun w66 h67 k68=>vU (.plain rfl) rfl rfl Tryz.sizeOf52 ((K61 5 rfl).trans (K20 5 rfl)) rfl rfl rfl rfl (Wr.blk h67 (Blk.ext k12 (e21.t e63)) (fun e9=>by have e8 : b7 = b1:=e9; clear e9; have h9:=Blk.lt k6; have h8:=z9; omega))<|fun w69 h70 k71=>lp rfl (xa (.bool false) rfl)<|nx<|qr<|vc<|qv<|VD ?_
   obtain rfl:=si H
   exact finCC rfl ((K61 4 rfl).trans (K20 4 rfl)) (Wr.blk h70 k68 (fun e9=>by have e8 : b1 = b7:=e9; clear e9; have h9:=Blk.lt k6; have h8:=z9; omega)) Tryz.isAgg52 Tryz.sizeOf52 rfl ((K61 5 rfl).trans (K20 5 rfl)) k71 rfl rfl (Below.trans (Below.trans (((e5.t e11).t e21).t e63) (Wr.below h67 (Nat.le_of_eq z3))) (Wr.below h70 (Nat.le_trans e5.size (Nat.le_of_eq z9))))
  ·refine qh (cb q65)<|wr<|lp rfl (xm (.int .i64 x7_17) ((K61 7 rfl).trans h57))<|lp rfl (xm v_a0 ((K61 0 rfl).trans (K20 0 rfl)))<|lp rfl (qS Tryz.underlying35 rfl (Rd.ext f_a0 (((e5.t e11).t e21).t e63)))<|lp rfl (vx rfl rfl)<|lp rfl (xa (.bool (decide (x7_17 = (a0.length : Int)))) rfl)<|nx ?_
   rcases qe H with ⟨q72,H⟩ | ⟨q72,H⟩
   ·refine ql (cb q72)<|qk ?_
    obtain ⟨c73,H⟩:=qa H
    refine W_drawB 6 [(fun v=>LEq (.agg #[(.int .i64 0),(S ([] : List UInt8)),(S ([] : List UInt8)),(.int .i64 0),(.bool false)]) v w),(fun v=>LEq v_a1 v w),(fun v=>LEq (.int .i64 x7_17) v w),(fun v=>yv (qj (gt a1 x7_17)) v w),(fun v=>LEq (.agg (qj (gt a1 x7_17)).toArray) v w),(fun _=>True)] 5 #[(.int .i64 0),(S ([] : List UInt8)),(S ([] : List UInt8)),(.int .i64 0),(.bool false)] (by kernel_rfl) (by kernel_rfl) (by kernel_rfl) (by kernel_rfl) (Blk.ext k6 ((e11.t e21).t e63)) ⟨?_,?_,?_,?_,?_,?_,trivial⟩ ?_
    ·intro s x e f d u h
     exact lp rfl (yZ (vs:=[]) (pl:=#[(0,1),(1,1),(2,1),(3,1),(4,1)]) Tryz.underlying52 Tryz.zeroValue52 rfl (fun _=>by kernel_rfl) rfl rfl rfl)<|bV rfl rfl er rfl
    ·intro s x e f d u h
     exact lp rfl (xm v_a1 ((f 1 rfl).trans ((K61 1 rfl).trans (K20 1 rfl))))<|bV rfl rfl er rfl
    ·intro s x e f d u h
     exact lp rfl (xm (.int .i64 x7_17) ((f 7 rfl).trans ((K61 7 rfl).trans h57)))<|bV rfl rfl er rfl
    ·intro s x e f d u h
     exact vg (.plain rfl) rfl (ltb rfl) rfl Tryz.underlying35 Tryz.sizeOf52 (d 1 rfl rfl) f_a1 (d 2 rfl rfl) c73<|fun p77 h78=>bV rfl rfl er ⟨_,rfl,h78⟩
    ·intro s x e f d u h
     obtain ⟨p79,h80,h81⟩:=(d 3 rfl rfl)
     exact lp rfl (qW Tryz.isAgg52 Tryz.sizeOf52 rfl h80 (At.ext h81 (Ext.gr (((e5.t e11).t e21).t e63) e (Nat.le_of_eq z3))))<|bV rfl rfl er rfl
    ·intro s x e f d u h
     exact vU (.plain rfl) rfl rfl Tryz.sizeOf52 ((f 4 rfl).trans ((K61 4 rfl).trans (K20 4 rfl))) (d 0 rfl rfl) rfl rfl rfl (h rfl)<|fun w82 h83 k84=>bS rfl h83 k84
    intro s85 w86 g87 hf88 ha89 k90
    have K91:=Kp.ofD (kp:=[(49,54)]) rfl hf88
    have d92 : s85 53 = (.agg (qj (gt a1 x7_17)).toArray):=ha89 4 rfl rfl
    clear ha89 hf88
    refine vU (.plain rfl) rfl rfl Tryz.sizeOf52 ((K91 5 rfl).trans ((K61 5 rfl).trans (K20 5 rfl))) d92 rfl rfl rfl (Gr.blk g87 (Blk.ext k12 (e21.t e63)) (Or.inl (Nat.le_trans (Nat.le_trans (Blk.lt k6) (Nat.le_refl _)) (Nat.le_of_eq z9))))<|fun w93 h94 k95=>lp rfl (xa (.bool true) rfl)<|nx<|qr<|vc<|qv<|VD ?_
    obtain rfl:=si H
    exact finCC rfl ((K91 4 rfl).trans ((K61 4 rfl).trans (K20 4 rfl))) (Wr.blk h94 k90 (fun e9=>by have e8 : b1 = b7:=e9; clear e9; have h9:=Blk.lt k6; have h8:=z9; omega)) Tryz.isAgg52 Tryz.sizeOf52 rfl ((K91 5 rfl).trans ((K61 5 rfl).trans (K20 5 rfl))) k95 rfl rfl (Below.trans (Ext.gr (((e5.t e11).t e21).t e63) g87 (Nat.le_of_eq z3)) (Wr.below h94 (Nat.le_trans e5.size (Nat.le_of_eq z9))))
   ·refine qh (cb q72)<|qk ?_
    obtain ⟨c96,H⟩:=qa H
    obtain ⟨c99,H⟩:=qa H
    obtain ⟨c102,H⟩:=qa H
    obtain ⟨c103,H⟩:=qa H
    refine Yi [LEq (.int .i64 x7_17),LEq v_a1,LEq (.int .i64 (a1.length : Int)),LEq (.bool (decide (x7_17 = (a1.length : Int)))),LEq (.bool (decide (x7_17 = (a1.length : Int)))),LIf (!(decide (x7_17 = (a1.length : Int)))) (LEq v_a0),LIf (!(decide (x7_17 = (a1.length : Int)))) (LEq (.int .i64 x7_17)),LIf (!(decide (x7_17 = (a1.length : Int)))) (yv (qj (gt a0 x7_17))),LIf (!(decide (x7_17 = (a1.length : Int)))) (LAt 1 (qj (gt a0 x7_17))),LIf (!(decide (x7_17 = (a1.length : Int)))) (LEq (S ((gt a0 x7_17).path))),LIf (!(decide (x7_17 = (a1.length : Int)))) (LEq v_a1),LIf (!(decide (x7_17 = (a1.length : Int)))) (LEq (.int .i64 x7_17)),LIf (!(decide (x7_17 = (a1.length : Int)))) (yv (qj (gt a1 x7_17))),LIf (!(decide (x7_17 = (a1.length : Int)))) (LAt 1 (qj (gt a1 x7_17))),LIf (!(decide (x7_17 = (a1.length : Int)))) (LEq (S ((gt a1 x7_17).path))),LIf (!(decide (x7_17 = (a1.length : Int)))) (LEq (.bool (vy (cut 47 ((gt a0 x7_17).path)) (cut 47 ((gt a1 x7_17).path))))),LEq (.bool ((decide (x7_17 = (a1.length : Int))) || (vy (cut 47 ((gt a0 x7_17).path)) (cut 47 ((gt a1 x7_17).path))))),LEq (.bool ((decide (x7_17 = (a1.length : Int))) || (vy (cut 47 ((gt a0 x7_17).path)) (cut 47 ((gt a1 x7_17).path)))))] (by kernel_rfl) (by kernel_rfl) ⟨qm,qm,qm,qm,qm,lm,lm,(LIf.mono yv.mono),(LIf.mono LAt.mono),lm,lm,lm,(LIf.mono yv.mono),(LIf.mono LAt.mono),lm,lm,qm,qm,trivial⟩ ⟨?_,?_,?_,?_,?_,?_,?_,?_,?_,?_,?_,?_,?_,?_,?_,?_,?_,?_,trivial⟩ ?_
    ·exact fun s x e f d u=>lp rfl (xm (.int .i64 x7_17) ((f 7 rfl).trans ((K61 7 rfl).trans h57)))<|se rfl rfl
    ·exact fun s x e f d u=>lp rfl (xm v_a1 ((f 1 rfl).trans ((K61 1 rfl).trans (K20 1 rfl))))<|se rfl rfl
    ·exact fun s x e f d u=>lp rfl (qS Tryz.underlying35 (d 1 rfl) (Rd.ext f_a1 ((((e5.t e11).t e21).t e63).t e)))<|se rfl rfl
    ·exact fun s x e f d u=>lp rfl (vx (d 0 rfl) (d 2 rfl))<|se rfl rfl
    ·exact fun s x e f d u=>lp rfl (qf (d 3 rfl))<|se rfl rfl
    ·exact fun s x e f d u=>gF rfl rfl rfl rfl (d 4 rfl) rfl fun b t=>lt t rfl rfl (xm v_a0 ((f 0 rfl).trans ((K61 0 rfl).trans (K20 0 rfl))))<|sg rfl rfl b rfl
    ·exact fun s x e f d u=>gF rfl rfl rfl rfl (d 4 rfl) rfl fun b t=>lt t rfl rfl (xm (.int .i64 x7_17) ((f 7 rfl).trans ((K61 7 rfl).trans h57)))<|sg rfl rfl b rfl
    ·exact fun s x e f d u=>gF rfl rfl rfl rfl (d 4 rfl) rfl fun b t=>vg t rfl (ltb rfl) rfl Tryz.underlying35 Tryz.sizeOf52 ((d 5 rfl).1 (qI (vh b))) (Rd.ext f_a0 ((((e5.t e11).t e21).t e63).t e)) ((d 6 rfl).1 (qI (vh b))) (vM b c96)<|fun p107 h108=>sg rfl rfl b ⟨_,rfl,h108⟩
    ·intro s x e f d u
     refine gF rfl rfl rfl rfl (d 4 rfl) rfl fun b t=>?_
     obtain ⟨p109,h110,h111⟩:=((d 7 rfl).1 (qI (vh b)))
     exact lt t rfl rfl (qc Tryz.underlying52 rfl Tryz.sizeOf9 rfl h110)<|sg rfl rfl b ⟨_,rfl,h111⟩
    ·intro s x e f d u
     refine gF rfl rfl rfl rfl (d 4 rfl) rfl fun b t=>?_
     obtain ⟨p112,h113,h114⟩:=((d 8 rfl).1 (qI (vh b)))
     exact lt t rfl rfl (yd Tryz.isAgg9 (j:=1) h114 h113 rfl)<|sg rfl rfl b rfl
    ·exact fun s x e f d u=>gF rfl rfl rfl rfl (d 4 rfl) rfl fun b t=>lt t rfl rfl (xm v_a1 ((f 1 rfl).trans ((K61 1 rfl).trans (K20 1 rfl))))<|sg rfl rfl b rfl
    ·exact fun s x e f d u=>gF rfl rfl rfl rfl (d 4 rfl) rfl fun b t=>lt t rfl rfl (xm (.int .i64 x7_17) ((f 7 rfl).trans ((K61 7 rfl).trans h57)))<|sg rfl rfl b rfl
    ·exact fun s x e f d u=>gF rfl rfl rfl rfl (d 4 rfl) rfl fun b t=>vg t rfl (ltb rfl) rfl Tryz.underlying35 Tryz.sizeOf52 ((d 10 rfl).1 (qI (vh b))) (Rd.ext f_a1 ((((e5.t e11).t e21).t e63).t e)) ((d 11 rfl).1 (qI (vh b))) (vM b c99)<|fun p116 h117=>sg rfl rfl b ⟨_,rfl,h117⟩
    ·intro s x e f d u
     refine gF rfl rfl rfl rfl (d 4 rfl) rfl fun b t=>?_
     obtain ⟨p118,h119,h120⟩:=((d 12 rfl).1 (qI (vh b)))
     exact lt t rfl rfl (qc Tryz.underlying52 rfl Tryz.sizeOf9 rfl h119)<|sg rfl rfl b ⟨_,rfl,h120⟩
    ·intro s x e f d u
     refine gF rfl rfl rfl rfl (d 4 rfl) rfl fun b t=>?_
     obtain ⟨p121,h122,h123⟩:=((d 13 rfl).1 (qI (vh b)))
     exact lt t rfl rfl (yd Tryz.isAgg9 (j:=1) h123 h122 rfl)<|sg rfl rfl b rfl
    ·exact fun s x e f d u=>gF rfl rfl rfl rfl (d 4 rfl) rfl fun b t=>vL t rfl (ltb rfl) rfl Tryz.call153 (vN.calls (w:=x) (a0:=(gt a0 x7_17).path) (a1:=(gt a1 x7_17).path) (od (vM b c102)) (od (vM b c103))) (va ((d 9 rfl).1 (qI (vh b))) (va ((d 14 rfl).1 (qI (vh b))) rfl))<|fun w126 e127=>sgx rfl rfl b e127 rfl
    ·exact fun s x e f d u=>lp rfl (VI (d 4 rfl) rfl fun h=>((d 15 rfl).1 (qI h)))<|se rfl rfl
    ·exact fun s x e f d u=>lp rfl (qA (d 16 rfl))<|se rfl rfl
    intro s128 w129 e130 hf131 ha132
    have K133:=Kp.ofD (kp:=[(54,72)]) rfl hf131
    have d134 : s128 54 = (.bool ((decide (x7_17 = (a1.length : Int))) || (vy (cut 47 ((gt a0 x7_17).path)) (cut 47 ((gt a1 x7_17).path))))):=ha132 17 rfl
    clear ha132 hf131
    refine qg ?_
    rcases qe H with ⟨q135,H⟩ | ⟨q135,H⟩
    ·refine ql (d134.trans (cb q135))<|wr<|lp rfl (xm v_a0 ((K133 0 rfl).trans ((K61 0 rfl).trans (K20 0 rfl))))<|lp rfl (xm (.int .i64 x7_17) ((K133 7 rfl).trans ((K61 7 rfl).trans h57))) ?_
     obtain ⟨c136,H⟩:=qa H
     refine vg (.plain rfl) rfl (ltb rfl) rfl Tryz.underlying35 Tryz.sizeOf52 rfl (Rd.ext f_a0 ((((e5.t e11).t e21).t e63).t e130)) rfl c136<|fun p137 h138=>lp rfl (qW Tryz.isAgg52 Tryz.sizeOf52 rfl rfl h138)<|lp rfl (yZ (vs:=[]) (pl:=#[(0,1),(1,1),(2,1),(3,1),(4,1)]) Tryz.underlying52 Tryz.zeroValue52 rfl (fun _=>by kernel_rfl) rfl rfl rfl)<|vU (.plain rfl) rfl rfl Tryz.sizeOf52 ((K133 4 rfl).trans ((K61 4 rfl).trans (K20 4 rfl))) rfl rfl rfl rfl (Blk.ext k6 (((e11.t e21).t e63).t e130))<|fun w139 h140 k141=>vU (.plain rfl) rfl rfl Tryz.sizeOf52 ((K133 5 rfl).trans ((K61 5 rfl).trans (K20 5 rfl))) rfl rfl rfl rfl (Wr.blk h140 (Blk.ext k12 ((e21.t e63).t e130)) (fun e9=>by have e8 : b7 = b1:=e9; clear e9; have h9:=Blk.lt k6; have h8:=z9; omega))<|fun w142 h143 k144=>lp rfl (xa (.bool true) rfl)<|nx<|qr<|vc<|qv<|VD ?_
     obtain rfl:=si H
     exact finCC rfl ((K133 4 rfl).trans ((K61 4 rfl).trans (K20 4 rfl))) (Wr.blk h143 k141 (fun e9=>by have e8 : b1 = b7:=e9; clear e9; have h9:=Blk.lt k6; have h8:=z9; omega)) Tryz.isAgg52 Tryz.sizeOf52 rfl ((K133 5 rfl).trans ((K61 5 rfl).trans (K20 5 rfl))) k144 rfl rfl (Below.trans (Below.trans ((((e5.t e11).t e21).t e63).t e130) (Wr.below h140 (Nat.le_of_eq z3))) (Wr.below h143 (Nat.le_trans e5.size (Nat.le_of_eq z9))))
    ·refine qh (d134.trans (cb q135))<|qk ?_
     obtain ⟨c145,H⟩:=qa H
     obtain ⟨c148,H⟩:=qa H
     obtain ⟨c151,H⟩:=qa H
     obtain ⟨c152,H⟩:=qa H
     refine Yi [LEq v_a1,LEq (.int .i64 x7_17),yv (qj (gt a1 x7_17)),LAt 1 (qj (gt a1 x7_17)),LEq (S ((gt a1 x7_17).path)),LEq v_a0,LEq (.int .i64 x7_17),yv (qj (gt a0 x7_17)),LAt 1 (qj (gt a0 x7_17)),LEq (S ((gt a0 x7_17).path)),LEq (.bool (vy (cut 47 ((gt a1 x7_17).path)) (cut 47 ((gt a0 x7_17).path)))),LEq (.bool (vy (cut 47 ((gt a1 x7_17).path)) (cut 47 ((gt a0 x7_17).path))))] (by kernel_rfl) (by kernel_rfl) ⟨qm,qm,yv.mono,LAt.mono,qm,qm,qm,yv.mono,LAt.mono,qm,qm,qm,trivial⟩ ⟨?_,?_,?_,?_,?_,?_,?_,?_,?_,?_,?_,?_,trivial⟩ ?_
     ·exact fun s x e f d u=>lp rfl (xm v_a1 ((f 1 rfl).trans ((K133 1 rfl).trans ((K61 1 rfl).trans (K20 1 rfl)))))<|se rfl rfl
     ·exact fun s x e f d u=>lp rfl (xm (.int .i64 x7_17) ((f 7 rfl).trans ((K133 7 rfl).trans ((K61 7 rfl).trans h57))))<|se rfl rfl
     ·exact fun s x e f d u=>vg (.plain rfl) rfl (ltb rfl) rfl Tryz.underlying35 Tryz.sizeOf52 (d 0 rfl) (Rd.ext f_a1 (((((e5.t e11).t e21).t e63).t e130).t e)) (d 1 rfl) c145<|fun p156 h157=>se rfl ⟨_,rfl,h157⟩
     ·intro s x e f d u
      obtain ⟨p158,h159,h160⟩:=(d 2 rfl)
      exact lp rfl (qc Tryz.underlying52 rfl Tryz.sizeOf9 rfl h159)<|se rfl ⟨_,rfl,h160⟩
     ·intro s x e f d u
      obtain ⟨p161,h162,h163⟩:=(d 3 rfl)
      exact lp rfl (yd Tryz.isAgg9 (j:=1) h163 h162 rfl)<|se rfl rfl
     ·exact fun s x e f d u=>lp rfl (xm v_a0 ((f 0 rfl).trans ((K133 0 rfl).trans ((K61 0 rfl).trans (K20 0 rfl)))))<|se rfl rfl
     ·exact fun s x e f d u=>lp rfl (xm (.int .i64 x7_17) ((f 7 rfl).trans ((K133 7 rfl).trans ((K61 7 rfl).trans h57))))<|se rfl rfl
     ·exact fun s x e f d u=>vg (.plain rfl) rfl (ltb rfl) rfl Tryz.underlying35 Tryz.sizeOf52 (d 5 rfl) (Rd.ext f_a0 (((((e5.t e11).t e21).t e63).t e130).t e)) (d 6 rfl) c148<|fun p165 h166=>se rfl ⟨_,rfl,h166⟩
     ·intro s x e f d u
      obtain ⟨p167,h168,h169⟩:=(d 7 rfl)
      exact lp rfl (qc Tryz.underlying52 rfl Tryz.sizeOf9 rfl h168)<|se rfl ⟨_,rfl,h169⟩
     ·intro s x e f d u
      obtain ⟨p170,h171,h172⟩:=(d 8 rfl)
      exact lp rfl (yd Tryz.isAgg9 (j:=1) h172 h171 rfl)<|se rfl rfl
     ·exact fun s x e f d u=>lc rfl rfl Tryz.call153 (vN.calls (w:=x) (a0:=(gt a1 x7_17).path) (a1:=(gt a0 x7_17).path) (od c151) (od c152)) (va (d 4 rfl) (va (d 9 rfl) rfl))<|fun w175 e176=>sx rfl e176 rfl
     ·exact fun s x e f d u=>lp rfl (qA (d 10 rfl))<|se rfl rfl
     intro s177 w178 e179 hf180 ha181
     have K182:=Kp.ofD (kp:=[(77,89)]) rfl hf180
     have d183 : s177 77 = (.bool (vy (cut 47 ((gt a1 x7_17).path)) (cut 47 ((gt a0 x7_17).path)))):=ha181 11 rfl
     clear ha181 hf180
     refine qg ?_
     rcases qe H with ⟨q184,H⟩ | ⟨q184,H⟩
     ·refine ql (d183.trans (cb q184))<|qk ?_
      obtain ⟨c185,H⟩:=qa H
      refine W_drawB 6 [(fun v=>LEq (.agg #[(.int .i64 0),(S ([] : List UInt8)),(S ([] : List UInt8)),(.int .i64 0),(.bool false)]) v w),(fun v=>LEq v_a1 v w),(fun v=>LEq (.int .i64 x7_17) v w),(fun v=>yv (qj (gt a1 x7_17)) v w),(fun v=>LEq (.agg (qj (gt a1 x7_17)).toArray) v w),(fun _=>True)] 5 #[(.int .i64 0),(S ([] : List UInt8)),(S ([] : List UInt8)),(.int .i64 0),(.bool false)] (by kernel_rfl) (by kernel_rfl) (by kernel_rfl) (by kernel_rfl) (Blk.ext k6 ((((e11.t e21).t e63).t e130).t e179)) ⟨?_,?_,?_,?_,?_,?_,trivial⟩ ?_
      ·intro s x e f d u h
       exact lp rfl (yZ (vs:=[]) (pl:=#[(0,1),(1,1),(2,1),(3,1),(4,1)]) Tryz.underlying52 Tryz.zeroValue52 rfl (fun _=>by kernel_rfl) rfl rfl rfl)<|bV rfl rfl er rfl
      ·intro s x e f d u h
       exact lp rfl (xm v_a1 ((f 1 rfl).trans ((K182 1 rfl).trans ((K133 1 rfl).trans ((K61 1 rfl).trans (K20 1 rfl))))))<|bV rfl rfl er rfl
      ·intro s x e f d u h
       exact lp rfl (xm (.int .i64 x7_17) ((f 7 rfl).trans ((K182 7 rfl).trans ((K133 7 rfl).trans ((K61 7 rfl).trans h57)))))<|bV rfl rfl er rfl
      ·intro s x e f d u h
       exact vg (.plain rfl) rfl (ltb rfl) rfl Tryz.underlying35 Tryz.sizeOf52 (d 1 rfl rfl) f_a1 (d 2 rfl rfl) c185<|fun p189 h190=>bV rfl rfl er ⟨_,rfl,h190⟩
      ·intro s x e f d u h
       obtain ⟨p191,h192,h193⟩:=(d 3 rfl rfl)
       exact lp rfl (qW Tryz.isAgg52 Tryz.sizeOf52 rfl h192 (At.ext h193 (Ext.gr (((((e5.t e11).t e21).t e63).t e130).t e179) e (Nat.le_of_eq z3))))<|bV rfl rfl er rfl
      ·intro s x e f d u h
       exact vU (.plain rfl) rfl rfl Tryz.sizeOf52 ((f 4 rfl).trans ((K182 4 rfl).trans ((K133 4 rfl).trans ((K61 4 rfl).trans (K20 4 rfl))))) (d 0 rfl rfl) rfl rfl rfl (h rfl)<|fun w194 h195 k196=>bS rfl h195 k196
      intro s197 w198 g199 hf200 ha201 k202
      have K203:=Kp.ofD (kp:=[(89,94)]) rfl hf200
      have d204 : s197 93 = (.agg (qj (gt a1 x7_17)).toArray):=ha201 4 rfl rfl
      clear ha201 hf200
      refine vU (.plain rfl) rfl rfl Tryz.sizeOf52 ((K203 5 rfl).trans ((K182 5 rfl).trans ((K133 5 rfl).trans ((K61 5 rfl).trans (K20 5 rfl))))) d204 rfl rfl rfl (Gr.blk g199 (Blk.ext k12 (((e21.t e63).t e130).t e179)) (Or.inl (Nat.le_trans (Nat.le_trans (Blk.lt k6) (Nat.le_refl _)) (Nat.le_of_eq z9))))<|fun w205 h206 k207=>lp rfl (xa (.bool true) rfl)<|nx<|qr<|vc<|qv<|VD ?_
      obtain rfl:=si H
      exact finCC rfl ((K203 4 rfl).trans ((K182 4 rfl).trans ((K133 4 rfl).trans ((K61 4 rfl).trans (K20 4 rfl))))) (Wr.blk h206 k202 (fun e9=>by have e8 : b1 = b7:=e9; clear e9; have h9:=Blk.lt k6; have h8:=z9; omega)) Tryz.isAgg52 Tryz.sizeOf52 rfl ((K203 5 rfl).trans ((K182 5 rfl).trans ((K133 5 rfl).trans ((K61 5 rfl).trans (K20 5 rfl))))) k207 rfl rfl (Below.trans (Ext.gr (((((e5.t e11).t e21).t e63).t e130).t e179) g199 (Nat.le_of_eq z3)) (Wr.below h206 (Nat.le_trans e5.size (Nat.le_of_eq z9))))
     ·refine qh (d183.trans (cb q184))<|qw<|vK<|qg<|qk ?_
      obtain ⟨c208,H⟩:=qa H
      obtain ⟨c211,H⟩:=qa H
      refine W_drawB 9 [(fun v=>LEq v_a0 v w),(fun v=>LEq (.int .i64 x7_17) v w),(fun v=>yv (qj (gt a0 x7_17)) v w),(fun v=>LEq (.agg (qj (gt a0 x7_17)).toArray) v w),(fun v=>LEq v_a1 v w),(fun v=>LEq (.int .i64 x7_17) v w),(fun v=>yv (qj (gt a1 x7_17)) v w),(fun v=>LEq (.agg (qj (gt a1 x7_17)).toArray) v w),(fun _=>True)] 8 (qj (gt a0 x7_17)).toArray (by kernel_rfl) (by kernel_rfl) (by kernel_rfl) (by kernel_rfl) (Blk.ext k6 ((((e11.t e21).t e63).t e130).t e179)) ⟨?_,?_,?_,?_,?_,?_,?_,?_,?_,trivial⟩ ?_
      ·intro s x e f d u h
       exact lp rfl (xm v_a0 ((f 0 rfl).trans ((K182 0 rfl).trans ((K133 0 rfl).trans ((K61 0 rfl).trans (K20 0 rfl))))))<|bV rfl rfl er rfl
      ·intro s x e f d u h
       exact lp rfl (xm (.int .i64 x7_17) ((f 7 rfl).trans ((K182 7 rfl).trans ((K133 7 rfl).trans ((K61 7 rfl).trans h57)))))<|bV rfl rfl er rfl
      ·intro s x e f d u h
       exact vg (.plain rfl) rfl (ltb rfl) rfl Tryz.underlying35 Tryz.sizeOf52 (d 0 rfl rfl) f_a0 (d 1 rfl rfl) c208<|fun p215 h216=>bV rfl rfl er ⟨_,rfl,h216⟩
      ·intro s x e f d u h
       obtain ⟨p217,h218,h219⟩:=(d 2 rfl rfl)
       exact lp rfl (qW Tryz.isAgg52 Tryz.sizeOf52 rfl h218 (At.ext h219 (Ext.gr (((((e5.t e11).t e21).t e63).t e130).t e179) e (Nat.le_of_eq z3))))<|bV rfl rfl er rfl
      ·intro s x e f d u h
       exact lp rfl (xm v_a1 ((f 1 rfl).trans ((K182 1 rfl).trans ((K133 1 rfl).trans ((K61 1 rfl).trans (K20 1 rfl))))))<|bV rfl rfl er rfl
      ·intro s x e f d u h
       exact lp rfl (xm (.int .i64 x7_17) ((f 7 rfl).trans ((K182 7 rfl).trans ((K133 7 rfl).trans ((K61 7 rfl).trans h57)))))<|bV rfl rfl er rfl
      ·intro s x e f d u h
       exact vg (.plain rfl) rfl (ltb rfl) rfl Tryz.underlying35 Tryz.sizeOf52 (d 4 rfl rfl) f_a1 (d 5 rfl rfl) c211<|fun p221 h222=>bV rfl rfl er ⟨_,rfl,h222⟩
      ·intro s x e f d u h
       obtain ⟨p223,h224,h225⟩:=(d 6 rfl rfl)
       exact lp rfl (qW Tryz.isAgg52 Tryz.sizeOf52 rfl h224 (At.ext h225 (Ext.gr (((((e5.t e11).t e21).t e63).t e130).t e179) e (Nat.le_of_eq z3))))<|bV rfl rfl er rfl
      ·intro s x e f d u h
       exact vU (.plain rfl) rfl rfl Tryz.sizeOf52 ((f 4 rfl).trans ((K182 4 rfl).trans ((K133 4 rfl).trans ((K61 4 rfl).trans (K20 4 rfl))))) (d 3 rfl rfl) rfl rfl rfl (h rfl)<|fun w226 h227 k228=>bS rfl h227 k228
      intro s229 w230 g231 hf232 ha233 k234
      have K235:=Kp.ofD (kp:=[(94,102)]) rfl hf232
      have d236 : s229 101 = (.agg (qj (gt a1 x7_17)).toArray):=ha233 7 rfl rfl
      clear ha233 hf232
      refine vU (.plain rfl) rfl rfl Tryz.sizeOf52 ((K235 5 rfl).trans ((K182 5 rfl).trans ((K133 5 rfl).trans ((K61 5 rfl).trans (K20 5 rfl))))) d236 rfl rfl rfl (Gr.blk g231 (Blk.ext k12 (((e21.t e63).t e130).t e179)) (Or.inl (Nat.le_trans (Nat.le_trans (Blk.lt k6) (Nat.le_refl _)) (Nat.le_of_eq z9))))<|fun w237 h238 k239=>lp rfl (xa (.bool true) rfl)<|nx<|qr<|VD ?_
      obtain rfl:=si H
      exact finCC rfl ((K235 4 rfl).trans ((K182 4 rfl).trans ((K133 4 rfl).trans ((K61 4 rfl).trans (K20 4 rfl))))) (Wr.blk h238 k234 (fun e9=>by have e8 : b1 = b7:=e9; clear e9; have h9:=Blk.lt k6; have h8:=z9; omega)) Tryz.isAgg52 Tryz.sizeOf52 rfl ((K235 5 rfl).trans ((K182 5 rfl).trans ((K133 5 rfl).trans ((K61 5 rfl).trans (K20 5 rfl))))) k239 rfl rfl (Below.trans (Ext.gr (((((e5.t e11).t e21).t e63).t e130).t e179) g231 (Nat.le_of_eq z3)) (Wr.below h238 (Nat.le_trans e5.size (Nat.le_of_eq z9))))
theorem qL.calls {w : World} {a0 : List Rec} {a1 : List Rec} {v_a0 : Value} (f_a0 : Rd 5 qj w v_a0 a0) {v_a1 : Value} (f_a1 : Rd 5 qj w v_a1 a1) (h0 : (qn a0).2 = 0) (h1 : (qn a1).2 = 0) :
  Calls Tryz.prog 143 #[v_a0,v_a1] w (Rt (RP w (.tuple #[.agg (qj ((vl a0 a1).1)).toArray,.agg (qj ((vl a0 a1).2.1)).toArray,.bool ((vl a0 a1).2.2)]))):=by
 obtain ⟨k,h⟩:=qL.eq a0 a1 h0 h1
 exact qL.walk f_a0 f_a1 h
/-! spec.l05Chain -/
theorem vW.calls {w : World} {a0 : List UInt8} (h0 : qC a0 = true) :
  Calls Tryz.prog 144 #[S a0] w (Rt (RO 91 4 qp w (QK a0))):=by
 obtain ⟨k,H⟩:=vW.eq a0 h0
 generalize (QK a0) = r at H ⊢
 unfold vW.sh at H
 refine qi Tryz.func144 rfl (Nat.le_of_ble_eq_true rfl) Tryz.ntmps144 rfl ?_
 refine wr<|lp rfl (xa (.slice none 0 0) rfl)<|nx<|wr<|lp rfl (xm (S a0) rfl)<|lp rfl (yZ (vs:=[(0,(.int .i64 1)),(1,(S a0))]) (pl:=#[(0,1),(1,1),(2,1),(3,1)]) Tryz.underlying91 Tryz.zeroValue91 rfl (fun _=>by kernel_rfl) rfl rfl rfl)<|yt (.plain rfl) rfl (ltb rfl) rfl Tryz.underlying29 Tryz.sizeOf91 Tryz.zeroValue91 rfl rfl rfl (vs:=[(.agg #[(.int .i64 1),(S a0),(S ([] : List UInt8)),(.int .i64 0)])]) rfl (qX rfl)<|fun b1 w2 z3 z4 e5 k6=>lp rfl (xa (.slice (some ⟨b1,0,none⟩) 1 1) rfl)<|nx<|qk<|wr<|lp rfl (xm (S a0) rfl) ?_
 obtain ⟨c7,H⟩:=qa H
 refine lc rfl rfl Tryz.call154 (vr.calls (w:=w2) (a0:=a0) (od c7)) rfl<|fun w8 e9=>lp rfl (xa (S (qd a0)) rfl)<|nx ?_
 obtain ⟨z13,L14,C15⟩:=bind_some H
 clear H
 refine  vT (fun s0 sQ wQ=>∃ (x3_16 : List Nd) (v17 : Value),Kp [(3,5),(10,19)] s0 sQ∧sQ 3 = v17∧Ow 91 4 qp w.heap.size wQ v17 x3_16∧Ext w8 wQ∧z13 = .inr x3_16) ?_ ?_
 ·refine qF<|vA (fun s0 kk sQ wQ=>∃ (x3_10 : List Nd) (v11 : Value) (x4_12 : List UInt8),Kp [(3,5),(10,19)] s0 sQ∧sQ 3 = v11∧Ow 91 4 qp w.heap.size wQ v11 x3_10∧sQ 4 = S x4_12∧Ext w8 wQ∧qt (vW.b1) kk (x3_10,x4_12) = some z13) k ⟨([(⟨1,a0,([] : List UInt8),0⟩ : Nd)] : List Nd),(.slice (some ⟨b1,0,none⟩) 1 1),(qd a0),kz,rfl,(Ow.ext (Ow.new (xs:=[(⟨1,a0,([] : List UInt8),0⟩ : Nd)]) (sz:=4) (enc:=qp) (base:=w.heap.size) k6 (Nat.le_of_eq z3) rfl (fun _ _=>by rfl) (Nat.le_of_ble_eq_true rfl)) e9),rfl,er,L14⟩ ?_
  rintro k22 s23 w24 ⟨x3_10,v11,x4_12,K25,h28,h29,h30,e26,L27⟩
  cases k22 with
  | zero=>exact absurd L27 (by simp [qt])
  | succ k22=>
   obtain ⟨t31,H,S32⟩:=qQ L27
   clear L27
   unfold vW.b1 at H
   refine qk<|wr<|lp rfl (qf h30)<|lp rfl (VL rfl rfl)<|nx ?_
   rcases qe H with ⟨q33,H⟩ | ⟨q33,H⟩
   ·refine ql (cb q33)<|qw<|qg<|qk<|qF<|qO<|lp rfl (qf h30)<|lp rfl (yZ (vs:=[(0,(.int .i64 3)),(1,(S x4_12))]) (pl:=#[(0,1),(1,1),(2,1),(3,1)]) Tryz.underlying91 Tryz.zeroValue91 rfl (fun _=>by kernel_rfl) rfl rfl rfl)<|yt (.plain rfl) rfl (ltb rfl) rfl Tryz.underlying29 Tryz.sizeOf91 Tryz.zeroValue91 rfl rfl rfl (vs:=[(.agg #[(.int .i64 3),(S x4_12),(S ([] : List UInt8)),(.int .i64 0)])]) rfl (qX rfl)<|fun b34 w35 z36 z37 e38 k39=>lp rfl (qf h28) ?_
    obtain ⟨c40,H⟩:=qa H
    refine yP (enc:=qp) (.plain rfl) rfl (ltb rfl) rfl El.t29 rfl rfl (Ow.new (xs:=[(⟨3,x4_12,([] : List UInt8),0⟩ : Nd)]) (sz:=4) (enc:=qp) (base:=w24.heap.size) k39 (Nat.le_of_eq z36) rfl (fun _ _=>by rfl) (Nat.le_of_ble_eq_true rfl)) (Ow.rd (Ow.ext h29 e38)) (Qt _) (od c40) (e38).size<|fun v41 w42 o43 z44 g45=>lp rfl (xa v41 rfl)<|qP<|vK<|qg<|qO<|lp rfl (qf h30) ?_
    obtain ⟨c46,H⟩:=qa H
    refine lc rfl rfl Tryz.call154 (vr.calls (w:=w42) (a0:=x4_12) (od c46)) rfl<|fun w47 e48=>lp rfl (xa (S (qd x4_12)) rfl)<|nx ?_
    obtain rfl:=si H
    exact ⟨_,Nat.lt_succ_self _,([(⟨3,x4_12,([] : List UInt8),0⟩ : Nd)] : List Nd) ++ x3_10,v41,(qd x4_12),(ku3 (ku8 K25 rfl) rfl),rfl,(Ow.base (Ow.ext o43 e48) ((e5.t e9).t e26).size),rfl,((e26.t (g45 _ e38)).t e48),S32⟩
   ·refine qh (cb q33)<|yc<|vm<|vm<|yV<|qg ?_
    obtain rfl:=si H
    obtain rfl:=si S32
    exact ⟨x3_10,v11,(ku2 K25 rfl),h28,h29,e26,rfl⟩
 ·rintro s19 w18 ⟨x3_16,v17,K20,h49,h50,e21,y51⟩
  rw [y51] at C15
  have H:=C15
  replace H : _ = some _:=H
  refine qg<|wr<|lp rfl (qf h49)<|lp rfl (xa v17 rfl)<|nx<|qr<|qy ?_
  obtain rfl:=si H
  exact QD rfl ((e5.t e9).t e21) h50 (er).size
/-! spec.l05Fresh -/
theorem yW.calls {w : World} {a0 : List Rec} {a1 : List Rec} {a2 : List UInt8} {v_a0 : Value} (f_a0 : Rd 5 qj w v_a0 a0) {v_a1 : Value} (f_a1 : Rd 5 qj w v_a1 a1) (h0 : a0.length≤16) (h1 : a1.length≤16) (h2 : qC a2 = true) :
  Calls Tryz.prog 145 #[v_a0,v_a1,S a2] w (Rt (RP w (S (nmP a2 (YG a0 a1 a2))))):=by
 obtain ⟨k,H⟩:=yW.eq a0 a1 a2 h0 h1 h2
 generalize (nmP a2 (YG a0 a1 a2)) = r at H ⊢
 unfold yW.sh at H
 refine qi Tryz.func145 rfl (Nat.le_of_ble_eq_true rfl) Tryz.ntmps145 rfl ?_
 refine wr<|lp rfl (xa (S ([] : List UInt8)) rfl)<|nx<|wr<|lp rfl (xa (.int .i64 0) rfl)<|nx ?_
 obtain ⟨z2,L3,C4⟩:=bind_some H
 clear H
 refine  vT (fun s0 sQ wQ=>∃ (x6_5 : List UInt8),Kp [(6,27)] s0 sQ∧sQ 6 = S x6_5∧Ext w wQ∧z2 = .inr x6_5) ?_ ?_
 ·refine qF<|vA (fun s0 kk sQ wQ=>∃ (x7_1 : Int),Kp [(6,27)] s0 sQ∧sQ 7 = .int .i64 x7_1∧Ext w wQ∧qt (yW.b1 a0 a1 a2) kk x7_1 = some z2) k ⟨0,kz,rfl,er,L3⟩ ?_
  rintro k10 s11 w12 ⟨x7_1,K13,h16,e14,L15⟩
  cases k10 with
  | zero=>exact absurd L15 (by simp [qt])
  | succ k10=>
   obtain ⟨t17,H,S18⟩:=qQ L15
   clear L15
   unfold yW.b1 at H
   refine qk<|qF<|wr<|lp rfl (xm (S a2) (K13 2 rfl))<|lp rfl (qf h16) ?_
   obtain ⟨c19,H⟩:=qa H
   obtain ⟨c20,H⟩:=qa H
   refine lc rfl rfl Tryz.call200 (vI.calls (w:=w12) (a0:=x7_1) (od c19) (od c20)) rfl<|fun w21 e22=>?_
   obtain ⟨c23,H⟩:=qa H
   refine lp rfl (Y2 rfl rfl (od c23)) ?_
   obtain ⟨c24,H⟩:=qa H
   obtain ⟨c25,H⟩:=qa H
   refine lc rfl rfl Tryz.call199 (QI.calls (w:=w21) (a0:=a2) (a1:=([122] : List UInt8) ++ (jH x7_1.toNat)) (od c24) (od c25)) rfl<|fun w26 e27=>lp rfl (xa (S (j4 a2 (([122] : List UInt8) ++ (jH x7_1.toNat)))) rfl)<|nx<|wr<|lp rfl (xm v_a0 (K13 0 rfl))<|lp rfl (xm (S (j4 a2 (([122] : List UInt8) ++ (jH x7_1.toNat)))) rfl) ?_
   obtain ⟨c28,H⟩:=qa H
   refine lc rfl rfl Tryz.call162 (yK.calls (w:=w26) (a0:=a0) (a1:=(j4 a2 (([122] : List UInt8) ++ (jH x7_1.toNat)))) (Rd.ext f_a0 ((e14.t e22).t e27)) (od c28)) rfl<|fun w29 e30=>lp rfl (ym rfl rfl)<|lp rfl (qf rfl) ?_
   obtain ⟨z32,x33,H⟩:=bind_some H
   refine yf 5 [(21,26)] 25 (fun q=>q = z32) ?_ ?_
   ·rcases qe x33 with ⟨b30_,H⟩ | ⟨b30_,H⟩
    ·refine lg rfl rfl rfl rfl (cb b30_) (xm v_a1 (K13 1 rfl))<|lg rfl rfl rfl rfl (cb b30_) (xm (S (j4 a2 (([122] : List UInt8) ++ (jH x7_1.toNat)))) rfl) ?_
     obtain ⟨c32,H⟩:=qa H
     refine vL (tg rfl rfl rfl (cb b30_)) rfl (ltb rfl) rfl Tryz.call162 (yK.calls (w:=w29) (a0:=a1) (a1:=(j4 a2 (([122] : List UInt8) ++ (jH x7_1.toNat)))) (Rd.ext f_a1 (((e14.t e22).t e27).t e30)) (od c32)) rfl<|fun w33 e34=>lg rfl rfl rfl rfl (cb b30_) (ym rfl rfl)<|lp rfl (qq (b:=true) (v:=(.bool (decide ((qJ a1 (j4 a2 (([122] : List UInt8) ++ (jH x7_1.toNat)))) < 0)))) (cb b30_) rfl) ?_
     obtain rfl:=si H
     exact nx ⟨(ku1 (ku4 kz rfl) rfl),⟨_,rfl,rfl⟩,e34⟩
    ·refine ls rfl rfl rfl (cb b30_) rfl<|ls rfl rfl rfl (cb b30_) rfl<|ls rfl rfl rfl (cb b30_) rfl<|ls rfl rfl rfl (cb b30_) rfl<|lp rfl (qq (b:=false) (v:=(.bool false)) (cb b30_) rfl) ?_
     obtain rfl:=si H
     exact nx ⟨(ku1 (ku4 kz rfl) rfl),⟨_,rfl,rfl⟩,er⟩
   intro s38 w34 z39 K35 hq h36 e37
   rw [hq] at h36; clear hq
   refine nx ?_
   rcases qe H with ⟨q40,H⟩ | ⟨q40,H⟩
   ·refine ql (h36.trans (cb q40))<|wr<|lp rfl (xm (S (j4 a2 (([122] : List UInt8) ++ (jH x7_1.toNat)))) (K35 8 rfl))<|lp rfl (xa (S (j4 a2 (([122] : List UInt8) ++ (jH x7_1.toNat)))) rfl)<|nx<|qr<|vc<|qv<|qv<|vc<|qv<|qy ?_
    obtain rfl:=si H
    obtain rfl:=si S18
    have H:=C4
    obtain rfl:=si H
    exact vt rfl ((((e14.t e22).t e27).t e30).t e37)
   ·refine qh (h36.trans (cb q40))<|qw<|vK<|qg<|qO<|lp rfl (xm (.int .i64 x7_1) ((K35 7 rfl).trans h16))<|lp rfl (vz rfl rfl)<|lp rfl (xa (.int .i64 (IntKind.wrap .i64 (x7_1 + 1))) rfl)<|nx ?_
    obtain rfl:=si H
    exact ⟨_,Nat.lt_succ_self _,IntKind.wrap .i64 (x7_1 + 1),(ku3 (Kp.cut (ku3 (ku8 K13 rfl) rfl) K35 rfl) rfl),rfl,((((e14.t e22).t e27).t e30).t e37),S18⟩
 ·rintro s7 w6 ⟨x6_5,K8,h41,e9,y42⟩
  rw [y42] at C4
  have H:=C4
  replace H : _ = some _:=H
  refine fin_n ?_
  obtain rfl:=si H
  exact vt h41 e9
/-! spec.l05Witness -/
theorem yX.walk {w : World} {a0 : List Rec} {a1 : List Rec} {v_a0 : Value} (f_a0 : Rd 5 qj w v_a0 a0) {v_a1 : Value} (f_a1 : Rd 5 qj w v_a1 a1) {r : List Nd × Bool} (H : yX.sh a0 a1 = some r) :
  Calls Tryz.prog 84 #[v_a0,v_a1] w (Rt (RT 91 4 qp w r.1 (.bool r.2))):=by
 unfold yX.sh at H
 refine qi Tryz.func84 rfl (Nat.le_of_ble_eq_true rfl) Tryz.ntmps84 rfl ?_
 refine wr<|lp rfl (xa (.slice none 0 0) rfl)<|lp rfl (xa (.bool false) rfl)<|nx<|wr<|lp rfl (xm v_a0 rfl) ?_
 obtain ⟨c1,H⟩:=qa H
 obtain ⟨c2,H⟩:=qa H
 refine vp (.plain rfl) rfl (ltb rfl) rfl Tryz.call76 (vQ.calls (w:=w) (a0:=a0) f_a0 (od c1) (od c2)) rfl<|fun v5 w3 e4 o6=>lp rfl (xa v5 rfl)<|nx<|wr<|lp rfl (xm v_a1 rfl) ?_
 obtain ⟨c7,H⟩:=qa H
 obtain ⟨c8,H⟩:=qa H
 refine vp (.plain rfl) rfl (ltb rfl) rfl Tryz.call76 (vQ.calls (w:=w3) (a0:=a1) (Rd.ext f_a1 e4) (od c7) (od c8)) rfl<|fun v11 w9 e10 o12=>lp rfl (xa v11 rfl)<|nx<|wr<|lp rfl (xm v5 rfl)<|lp rfl (xm v11 rfl) ?_
 obtain ⟨c13,H⟩:=qa H
 obtain ⟨c14,H⟩:=qa H
 refine lc rfl rfl Tryz.call143 (qL.calls (w:=w9) (a0:=(qb a0)) (a1:=(qb a1)) (Ow.rd (Ow.ext o6 e10)) (Ow.rd o12) (od c13) (od c14)) rfl<|fun w15 e16=>lp rfl (qf rfl)<|lp rfl (ve (v:=(.agg (qj ((vl (qb a0) (qb a1)).1)).toArray)) rfl rfl)<|lp rfl (ve (v:=(.agg (qj ((vl (qb a0) (qb a1)).2.1)).toArray)) rfl rfl)<|lp rfl (ve (v:=(.bool ((vl (qb a0) (qb a1)).2.2))) rfl rfl)<|jU (.plain rfl) rfl (ltb rfl) rfl Tryz.zeroValue52<|fun b17 w18 z19 z20 e21 k22=>jU (.plain rfl) rfl (ltb rfl) rfl Tryz.zeroValue52<|fun b23 w24 z25 z26 e27 k28=>vU (.plain rfl) rfl rfl Tryz.sizeOf52 rfl rfl rfl rfl rfl (Blk.ext k22 e27)<|fun w29 h30 k31=>vU (.plain rfl) rfl rfl Tryz.sizeOf52 rfl rfl rfl rfl rfl (Wr.blk h30 k28 (fun e9=>by have e8 : b23 = b17:=e9; clear e9; have h9:=Blk.lt k22; have h8:=z25; omega))<|fun w32 h33 k34=>lp rfl (xa (.bool ((vl (qb a0) (qb a1)).2.2)) rfl)<|nx<|qk<|qF<|wr<|lp rfl (xm (.bool ((vl (qb a0) (qb a1)).2.2)) rfl)<|lp rfl (yR rfl)<|lp rfl (xa (.bool (!((vl (qb a0) (qb a1)).2.2))) rfl)<|nx ?_
 rcases qe H with ⟨q35,H⟩ | ⟨q35,H⟩
 ·refine ql (cb q35)<|wr<|yt (.plain rfl) rfl (ltb rfl) rfl Tryz.underlying29 Tryz.sizeOf91 Tryz.zeroValue91 rfl rfl rfl (vs:=[]) rfl (qX rfl)<|fun b36 w37 z38 z39 e40 k41=>lp rfl (xa (.slice (some ⟨b36,0,none⟩) 0 0) rfl)<|lp rfl (xa (.bool false) rfl)<|nx<|qr<|vc<|qv<|qy ?_
  obtain rfl:=si H
  exact Q4 rfl rfl ((((e4.t e10).t e16).t (Below.trans (Below.trans (e21.t e27) (Wr.below h30 (Nat.le_of_eq z19))) (Wr.below h33 (Nat.le_trans e21.size (Nat.le_of_eq z25))))).t e40) (Ow.zero (base:=w.heap.size)) (Nat.le_refl _)
 ·refine qh (cb q35)<|wr<|lp rfl (qc Tryz.underlying52 rfl Tryz.sizeOf3 rfl rfl)<|lp rfl (qz Tryz.isAgg3 (Wr.blk h33 k31 (fun e9=>by have e8 : b17 = b23:=e9; clear e9; have h9:=Blk.lt k22; have h8:=z25; omega)) rfl rfl)<|lp rfl (vx rfl rfl)<|lp rfl (xm (.bool (decide ((((vl (qb a0) (qb a1)).1).kind) = 4))) rfl)<|jj 4 [(29,33)] 32 (.bool ((decide ((((vl (qb a0) (qb a1)).1).kind) = 4)) && (decide ((((vl (qb a0) (qb a1)).2.1).kind) = 0)))) ?_ ?_
  ·rcases qo (decide ((((vl (qb a0) (qb a1)).1).kind) = 4)) with b41_ | b41_
   ·exact lg rfl rfl rfl rfl (cb b41_) (qc Tryz.underlying52 rfl Tryz.sizeOf3 rfl rfl)<|lg rfl rfl rfl rfl (cb b41_) (qz Tryz.isAgg3 k34 rfl rfl)<|lg rfl rfl rfl rfl (cb b41_) (vx rfl rfl)<|lp rfl (qq (b:=true) (v:=(.bool (decide ((((vl (qb a0) (qb a1)).2.1).kind) = 0)))) (cb b41_) rfl)<|nx ⟨(ku4 kz rfl),(QP b41_),er⟩
   ·exact ls rfl rfl rfl (cb b41_) rfl<|ls rfl rfl rfl (cb b41_) rfl<|ls rfl rfl rfl (cb b41_) rfl<|lp rfl (qq (b:=false) (v:=(.bool false)) (cb b41_) rfl)<|nx ⟨(ku4 kz rfl),(QQ b41_),er⟩
  intro s47 w43 K44 h45 e46
  refine lp rfl (qA h45)<|nx ?_
  rcases qe H with ⟨q48,H⟩ | ⟨q48,H⟩
  ·refine ql (cb q48)<|wr<|lp rfl (qc Tryz.underlying52 rfl Tryz.sizeOf9 rfl (K44 6 rfl))<|lp rfl (qz Tryz.isAgg9 (Blk.ext (Wr.blk h33 k31 (fun e9=>by have e8 : b17 = b23:=e9; clear e9; have h9:=Blk.lt k22; have h8:=z25; omega)) e46) rfl rfl) ?_
   obtain ⟨c49,H⟩:=qa H
   refine vp (.plain rfl) rfl (ltb rfl) rfl Tryz.call144 (vW.calls (w:=w43) (a0:=((vl (qb a0) (qb a1)).1).path) (od c49)) rfl<|fun v52 w50 e51 o53=>lp rfl (xa v52 rfl)<|lp rfl (xa (.bool true) rfl)<|nx<|qr<|vc<|qv<|qy ?_
   obtain rfl:=si H
   exact Q4 rfl rfl (((((e4.t e10).t e16).t (Below.trans (Below.trans (e21.t e27) (Wr.below h30 (Nat.le_of_eq z19))) (Wr.below h33 (Nat.le_trans e21.size (Nat.le_of_eq z25))))).t e46).t e51) o53 (((((e4.t e10).t e16).t (Below.trans (Below.trans (e21.t e27) (Wr.below h30 (Nat.le_of_eq z19))) (Wr.below h33 (Nat.le_trans e21.size (Nat.le_of_eq z25))))).t e46)).size
  ·refine qh (cb q48)<|wr<|lp rfl (qc Tryz.underlying52 rfl Tryz.sizeOf3 rfl (K44 7 rfl))<|lp rfl (qz Tryz.isAgg3 (Blk.ext k34 e46) rfl rfl)<|lp rfl (vx rfl rfl)<|lp rfl (xm (.bool (decide ((((vl (qb a0) (qb a1)).2.1).kind) = 4))) rfl)<|jj 4 [(41,45)] 44 (.bool ((decide ((((vl (qb a0) (qb a1)).2.1).kind) = 4)) && (decide ((((vl (qb a0) (qb a1)).1).kind) = 0)))) ?_ ?_
   ·rcases qo (decide ((((vl (qb a0) (qb a1)).2.1).kind) = 4)) with b53_ | b53_
    ·exact lg rfl rfl rfl rfl (cb b53_) (qc Tryz.underlying52 rfl Tryz.sizeOf3 rfl (K44 6 rfl))<|lg rfl rfl rfl rfl (cb b53_) (qz Tryz.isAgg3 (Blk.ext (Wr.blk h33 k31 (fun e9=>by have e8 : b17 = b23:=e9; clear e9; have h9:=Blk.lt k22; have h8:=z25; omega)) e46) rfl rfl)<|lg rfl rfl rfl rfl (cb b53_) (vx rfl rfl)<|lp rfl (qq (b:=true) (v:=(.bool (decide ((((vl (qb a0) (qb a1)).1).kind) = 0)))) (cb b53_) rfl)<|nx ⟨(ku4 kz rfl),(QP b53_),er⟩
    ·exact ls rfl rfl rfl (cb b53_) rfl<|ls rfl rfl rfl (cb b53_) rfl<|ls rfl rfl rfl (cb b53_) rfl<|lp rfl (qq (b:=false) (v:=(.bool false)) (cb b53_) rfl)<|nx ⟨(ku4 kz rfl),(QQ b53_),er⟩
   intro s59 w55 K56 h57 e58
   refine lp rfl (qA h57)<|nx ?_
   rcases qe H with ⟨q60,H⟩ | ⟨q60,H⟩
   ·refine ql (cb q60)<|wr<|lp rfl (qc Tryz.underlying52 rfl Tryz.sizeOf9 rfl ((K56 7 rfl).trans (K44 7 rfl)))<|lp rfl (qz Tryz.isAgg9 (Blk.ext k34 (e46.t e58)) rfl rfl) ?_
    obtain ⟨c61,H⟩:=qa H
    refine vp (.plain rfl) rfl (ltb rfl) rfl Tryz.call144 (vW.calls (w:=w55) (a0:=((vl (qb a0) (qb a1)).2.1).path) (od c61)) rfl<|fun v64 w62 e63 o65=>lp rfl (xa v64 rfl)<|lp rfl (xa (.bool true) rfl)<|nx<|qr<|vc<|qv<|qy ?_
    obtain rfl:=si H
    exact Q4 rfl rfl ((((((e4.t e10).t e16).t (Below.trans (Below.trans (e21.t e27) (Wr.below h30 (Nat.le_of_eq z19))) (Wr.below h33 (Nat.le_trans e21.size (Nat.le_of_eq z25))))).t e46).t e58).t e63) o65 ((((((e4.t e10).t e16).t (Below.trans (Below.trans (e21.t e27) (Wr.below h30 (Nat.le_of_eq z19))) (Wr.below h33 (Nat.le_trans e21.size (Nat.le_of_eq z25))))).t e46).t e58)).size
   ·refine qh (cb q60)<|wr<|lp rfl (qc Tryz.underlying52 rfl Tryz.sizeOf3 rfl ((K56 6 rfl).trans (K44 6 rfl)))<|lp rfl (qz Tryz.isAgg3 (Blk.ext (Wr.blk h33 k31 (fun e9=>by have e8 : b17 = b23:=e9; clear e9; have h9:=Blk.lt k22; have h8:=z25; omega)) (e46.t e58)) rfl rfl)<|lp rfl (vx rfl rfl)<|lp rfl (xm (.bool (decide ((((vl (qb a0) (qb a1)).1).kind) = 3))) rfl)<|jj 4 [(53,57)] 56 (.bool ((decide ((((vl (qb a0) (qb a1)).1).kind) = 3)) && (decide ((((vl (qb a0) (qb a1)).2.1).kind) = 3)))) ?_ ?_
    ·rcases qo (decide ((((vl (qb a0) (qb a1)).1).kind) = 3)) with b65_ | b65_
     ·exact lg rfl rfl rfl rfl (cb b65_) (qc Tryz.underlying52 rfl Tryz.sizeOf3 rfl ((K56 7 rfl).trans (K44 7 rfl)))<|lg rfl rfl rfl rfl (cb b65_) (qz Tryz.isAgg3 (Blk.ext k34 (e46.t e58)) rfl rfl)<|lg rfl rfl rfl rfl (cb b65_) (vx rfl rfl)<|lp rfl (qq (b:=true) (v:=(.bool (decide ((((vl (qb a0) (qb a1)).2.1).kind) = 3)))) (cb b65_) rfl)<|nx ⟨(ku4 kz rfl),(QP b65_),er⟩
     ·exact ls rfl rfl rfl (cb b65_) rfl<|ls rfl rfl rfl (cb b65_) rfl<|ls rfl rfl rfl (cb b65_) rfl<|lp rfl (qq (b:=false) (v:=(.bool false)) (cb b65_) rfl)<|nx ⟨(ku4 kz rfl),(QQ b65_),er⟩
    intro s71 w67 K68 h69 e70
    refine lp rfl (qf h69)<|jj 6 [(58,64)] 63 (.bool (((decide ((((vl (qb a0) (qb a1)).1).kind) = 3)) && (decide ((((vl (qb a0) (qb a1)).2.1).kind) = 3))) && (decide ((((vl (qb a0) (qb a1)).1).mode) = (((vl (qb a0) (qb a1)).2.1).mode))))) ?_ ?_
    ·rcases qo ((decide ((((vl (qb a0) (qb a1)).1).kind) = 3)) && (decide ((((vl (qb a0) (qb a1)).2.1).kind) = 3))) with b71_ | b71_
     ·exact lg rfl rfl rfl rfl (cb b71_) (qc Tryz.underlying52 rfl Tryz.sizeOf3 rfl ((K68 6 rfl).trans ((K56 6 rfl).trans (K44 6 rfl))))<|lg rfl rfl rfl rfl (cb b71_) (qz Tryz.isAgg3 (Blk.ext (Wr.blk h33 k31 (fun e9=>by have e8 : b17 = b23:=e9; clear e9; have h9:=Blk.lt k22; have h8:=z25; omega)) ((e46.t e58).t e70)) rfl rfl)<|lg rfl rfl rfl rfl (cb b71_) (qc Tryz.underlying52 rfl Tryz.sizeOf3 rfl ((K68 7 rfl).trans ((K56 7 rfl).trans (K44 7 rfl))))<|lg rfl rfl rfl rfl (cb b71_) (qz Tryz.isAgg3 (Blk.ext k34 ((e46.t e58).t e70)) rfl rfl)<|lg rfl rfl rfl rfl (cb b71_) (vx rfl rfl)<|lp rfl (qq (b:=true) (v:=(.bool (decide ((((vl (qb a0) (qb a1)).1).mode) = (((vl (qb a0) (qb a1)).2.1).mode))))) (cb b71_) rfl)<|nx ⟨(ku2 (ku4 kz rfl) rfl),(QP b71_),er⟩
     ·exact ls rfl rfl rfl (cb b71_) rfl<|ls rfl rfl rfl (cb b71_) rfl<|ls rfl rfl rfl (cb b71_) rfl<|ls rfl rfl rfl (cb b71_) rfl<|ls rfl rfl rfl (cb b71_) rfl<|lp rfl (qq (b:=false) (v:=(.bool false)) (cb b71_) rfl)<|nx ⟨(ku2 (ku4 kz rfl) rfl),(QQ b71_),er⟩
    intro s77 w73 K74 h75 e76
    refine lp rfl (qA h75)<|nx ?_
    rcases qe H with ⟨q78,H⟩ | ⟨q78,H⟩
    ·refine ql (cb q78)<|wr<|lp rfl (xm v5 ((K74 0 rfl).trans ((K68 0 rfl).trans ((K56 0 rfl).trans (K44 0 rfl)))))<|lp rfl (xm v11 ((K74 1 rfl).trans ((K68 1 rfl).trans ((K56 1 rfl).trans (K44 1 rfl)))))<|lp rfl (qc Tryz.underlying52 rfl Tryz.sizeOf9 rfl ((K74 6 rfl).trans ((K68 6 rfl).trans ((K56 6 rfl).trans (K44 6 rfl)))))<|lp rfl (qz Tryz.isAgg9 (Blk.ext (Wr.blk h33 k31 (fun e9=>by have e8 : b17 = b23:=e9; clear e9; have h9:=Blk.lt k22; have h8:=z25; omega)) (((e46.t e58).t e70).t e76)) rfl rfl) ?_
     obtain ⟨c79,H⟩:=qa H
     obtain ⟨c80,H⟩:=qa H
     obtain ⟨c81,H⟩:=qa H
     obtain ⟨z84,x85,H⟩:=bind_some H
     replace x85:=si x85
     refine lc rfl rfl Tryz.call145 (yW.calls (w:=w73) (a0:=(qb a0)) (a1:=(qb a1)) (a2:=((vl (qb a0) (qb a1)).1).path) (Ow.rd (Ow.ext o6 ((((((e10.t e16).t (Below.trans (Below.trans (e21.t e27) (Wr.below h30 (Nat.le_of_eq z19))) (Wr.below h33 (Nat.le_trans e21.size (Nat.le_of_eq z25))))).t e46).t e58).t e70).t e76))) (Ow.rd (Ow.ext o12 (((((e16.t (Below.trans (Below.trans (e21.t e27) (Wr.below h30 (Nat.le_of_eq z19))) (Wr.below h33 (Nat.le_trans e21.size (Nat.le_of_eq z25))))).t e46).t e58).t e70).t e76))) (od c79) (od c80) (od c81)) rfl<|fun w82 e83=>?_
     obtain ⟨c86,H⟩:=qa H
     refine vp (.plain rfl) rfl (ltb rfl) rfl Tryz.call144 (vW.calls (w:=w82) (a0:=z84) (od c86)) (va (congrArg S x85) rfl)<|fun v89 w87 e88 o90=>lp rfl (xa v89 rfl)<|lp rfl (xa (.bool true) rfl)<|nx<|qr<|vc<|qv<|qy ?_
     obtain rfl:=si H
     exact Q4 rfl rfl (((((((((e4.t e10).t e16).t (Below.trans (Below.trans (e21.t e27) (Wr.below h30 (Nat.le_of_eq z19))) (Wr.below h33 (Nat.le_trans e21.size (Nat.le_of_eq z25))))).t e46).t e58).t e70).t e76).t e83).t e88) o90 (((((((((e4.t e10).t e16).t (Below.trans (Below.trans (e21.t e27) (Wr.below h30 (Nat.le_of_eq z19))) (Wr.below h33 (Nat.le_trans e21.size (Nat.le_of_eq z25))))).t e46).t e58).t e70).t e76).t e83)).size
    ·refine qh (cb q78)<|qw<|vK<|qg<|wr<|yt (.plain rfl) rfl (ltb rfl) rfl Tryz.underlying29 Tryz.sizeOf91 Tryz.zeroValue91 rfl rfl rfl (vs:=[]) rfl (qX rfl)<|fun b91 w92 z93 z94 e95 k96=>lp rfl (xa (.slice (some ⟨b91,0,none⟩) 0 0) rfl)<|lp rfl (xa (.bool true) rfl)<|nx<|qr<|qy ?_
     obtain rfl:=si H
     exact Q4 rfl rfl ((((((((e4.t e10).t e16).t (Below.trans (Below.trans (e21.t e27) (Wr.below h30 (Nat.le_of_eq z19))) (Wr.below h33 (Nat.le_trans e21.size (Nat.le_of_eq z25))))).t e46).t e58).t e70).t e76).t e95) (Ow.zero (base:=w.heap.size)) (Nat.le_refl _)
theorem yX.calls {w : World} {a0 : List Rec} {a1 : List Rec} {v_a0 : Value} (f_a0 : Rd 5 qj w v_a0 a0) {v_a1 : Value} (f_a1 : Rd 5 qj w v_a1 a1) (h0 : (qn a0).2 = 0) (h1 : (qn a1).2 = 0) :
  Calls Tryz.prog 84 #[v_a0,v_a1] w (Rt (RT 91 4 qp w ((Jt a0 a1).1) (.bool ((Jt a0 a1).2)))):=yX.walk f_a0 f_a1 (yX.eq a0 a1 h0 h1)
/-! spec.Witness -/
theorem jE.walk {w : World} {a0 : List Rec} {a1 : List Rec} {v_a0 : Value} (f_a0 : Rd 5 qj w v_a0 a0) {v_a1 : Value} (f_a1 : Rd 5 qj w v_a1 a1) {r : List Nd × Int} (H : jE.sh a0 a1 = some r) :
  Calls Tryz.prog 23 #[v_a0,v_a1] w (Rt (RT 91 4 qp w r.1 (.int .i64 r.2))):=by
 unfold jE.sh at H
 refine qi Tryz.func23 rfl (Nat.le_of_ble_eq_true rfl) Tryz.ntmps23 rfl ?_
 refine wr<|lp rfl (xa (.slice none 0 0) rfl)<|lp rfl (xa (.int .i64 0) rfl)<|nx<|qk<|wr<|lp rfl (xm v_a0 rfl)<|lp rfl (qS Tryz.underlying35 rfl f_a0)<|lp rfl (j8 rfl rfl)<|lp rfl (xm (.bool (decide (4096 < (a0.length : Int)))) rfl)<|jj 4 [(12,16)] 15 (.bool ((decide (4096 < (a0.length : Int))) || (decide (4096 < (a1.length : Int))))) ?_ ?_
 ·rcases qo (decide (4096 < (a0.length : Int))) with b0_ | b0_
  ·exact ls rfl rfl rfl (cb b0_) rfl<|ls rfl rfl rfl (cb b0_) rfl<|ls rfl rfl rfl (cb b0_) rfl<|lp rfl (qq (b:=true) (v:=(.bool true)) (cb b0_) rfl)<|nx ⟨(ku4 kz rfl),(J6 b0_),er⟩
  ·exact lg rfl rfl rfl rfl (cb b0_) (xm v_a1 rfl)<|lg rfl rfl rfl rfl (cb b0_) (qS Tryz.underlying35 rfl f_a1)<|lg rfl rfl rfl rfl (cb b0_) (j8 rfl rfl)<|lp rfl (qq (b:=false) (v:=(.bool (decide (4096 < (a1.length : Int))))) (cb b0_) rfl)<|nx ⟨(ku4 kz rfl),(J7 b0_),er⟩
 intro s6 w2 K3 h4 e5
 refine nx ?_
 rcases qe H with ⟨q7,H⟩ | ⟨q7,H⟩
 ·refine ql (h4.trans (cb q7))<|wr<|yt (.plain rfl) rfl (ltb rfl) rfl Tryz.underlying29 Tryz.sizeOf91 Tryz.zeroValue91 rfl rfl rfl (vs:=[]) rfl (qX rfl)<|fun b8 w9 z10 z11 e12 k13=>lp rfl (xa (.slice (some ⟨b8,0,none⟩) 0 0) rfl)<|lp rfl (xa (.int .i64 2) rfl)<|nx<|qr<|qv<|qy ?_
  obtain rfl:=si H
  exact Q4 rfl rfl (e5.t e12) (Ow.zero (base:=w.heap.size)) (Nat.le_refl _)
 ·refine qh (h4.trans (cb q7))<|qw<|qg<|qk<|wr<|lp rfl (xm v_a0 (K3 0 rfl)) ?_
  obtain ⟨c14,H⟩:=qa H
  obtain ⟨c15,H⟩:=qa H
  refine lc rfl rfl Tryz.call74 (j7.calls (w:=w2) (a0:=a0) (Rd.ext f_a0 e5) (od c14) (od c15)) rfl<|fun w16 e17=>lp rfl (yR rfl)<|lp rfl (xm (.bool (!(decide ((qn a0).2 = 0)))) rfl) ?_
  obtain ⟨z19,x20,H⟩:=bind_some H
  refine yf 4 [(21,25)] 24 (fun q=>q = z19) ?_ ?_
  ·rcases qe x20 with ⟨b17_,H⟩ | ⟨b17_,H⟩
   ·refine ls rfl rfl rfl (cb b17_) rfl<|ls rfl rfl rfl (cb b17_) rfl<|ls rfl rfl rfl (cb b17_) rfl<|lp rfl (qq (b:=true) (v:=(.bool true)) (cb b17_) rfl) ?_
    obtain rfl:=si H
    exact nx ⟨(ku4 kz rfl),⟨_,rfl,rfl⟩,er⟩
   ·refine lg rfl rfl rfl rfl (cb b17_) (xm v_a1 (K3 1 rfl)) ?_
    obtain ⟨c19,H⟩:=qa H
    obtain ⟨c20,H⟩:=qa H
    refine vL (tg rfl rfl rfl (cb b17_)) rfl (ltb rfl) rfl Tryz.call74 (j7.calls (w:=w16) (a0:=a1) (Rd.ext f_a1 (e5.t e17)) (od c19) (od c20)) rfl<|fun w21 e22=>lg rfl rfl rfl rfl (cb b17_) (yR rfl)<|lp rfl (qq (b:=false) (v:=(.bool (!(decide ((qn a1).2 = 0))))) (cb b17_) rfl) ?_
    obtain rfl:=si H
    exact nx ⟨(ku4 kz rfl),⟨_,rfl,rfl⟩,e22⟩
  intro s25 w21 z26 K22 hq h23 e24
  rw [hq] at h23; clear hq
  refine nx ?_
  rcases qe H with ⟨q27,H⟩ | ⟨q27,H⟩
  ·refine ql (h23.trans (cb q27))<|wr<|yt (.plain rfl) rfl (ltb rfl) rfl Tryz.underlying29 Tryz.sizeOf91 Tryz.zeroValue91 rfl rfl rfl (vs:=[]) rfl (qX rfl)<|fun b28 w29 z30 z31 e32 k33=>lp rfl (xa (.slice (some ⟨b28,0,none⟩) 0 0) rfl)<|lp rfl (xa (.int .i64 1) rfl)<|nx<|qr<|qv<|qy ?_
   obtain rfl:=si H
   exact Q4 rfl rfl (((e5.t e17).t e24).t e32) (Ow.zero (base:=w.heap.size)) (Nat.le_refl _)
  ·refine qh (h23.trans (cb q27))<|qw<|qg<|wr<|lp rfl (xm v_a0 ((K22 0 rfl).trans (K3 0 rfl)))<|lp rfl (xm v_a1 ((K22 1 rfl).trans (K3 1 rfl))) ?_
   obtain ⟨c34,H⟩:=qa H
   obtain ⟨c35,H⟩:=qa H
   refine V0 (.plain rfl) rfl (ltb rfl) rfl Tryz.call84 (yX.calls (w:=w21) (a0:=a0) (a1:=a1) (Rd.ext f_a0 ((e5.t e17).t e24)) (Rd.ext f_a1 ((e5.t e17).t e24)) (od c34) (od c35)) rfl<|fun v38 w36 e37 o39=>lp rfl (xm (.tuple #[v38,(.bool ((Jt a0 a1).2))]) rfl)<|lp rfl (ve (v:=v38) rfl rfl)<|lp rfl (ve (v:=(.bool ((Jt a0 a1).2))) rfl rfl)<|lp rfl (xa v38 rfl)<|lp rfl (xa (.bool ((Jt a0 a1).2)) rfl)<|nx<|qk<|wr<|lp rfl (xm (.bool ((Jt a0 a1).2)) rfl)<|lp rfl (yR rfl)<|nx ?_
   rcases qe H with ⟨q40,H⟩ | ⟨q40,H⟩
   ·refine ql (cb q40)<|wr<|yt (.plain rfl) rfl (ltb rfl) rfl Tryz.underlying29 Tryz.sizeOf91 Tryz.zeroValue91 rfl rfl rfl (vs:=[]) rfl (qX rfl)<|fun b41 w42 z43 z44 e45 k46=>lp rfl (xa (.slice (some ⟨b41,0,none⟩) 0 0) rfl)<|lp rfl (xa (.int .i64 18) rfl)<|nx<|qr<|qv<|qy ?_
    obtain rfl:=si H
    exact Q4 rfl rfl ((((e5.t e17).t e24).t e37).t e45) (Ow.zero (base:=w.heap.size)) (Nat.le_refl _)
   ·refine qh (cb q40)<|qw<|qg<|wr<|lp rfl (xm v38 rfl)<|lp rfl (xa v38 rfl)<|lp rfl (xa (.int .i64 0) rfl)<|nx<|qr<|qy ?_
    obtain rfl:=si H
    exact Q4 rfl rfl (((e5.t e17).t e24).t e37) o39 (((e5.t e17).t e24)).size
theorem jE.calls {w : World} {a0 : List Rec} {a1 : List Rec} {v_a0 : Value} (f_a0 : Rd 5 qj w v_a0 a0) {v_a1 : Value} (f_a1 : Rd 5 qj w v_a1 a1) (h0 : a0.length≤1048576) (h1 : a1.length≤1048576) (h2 : ∀ x ∈ a0,x.path.length≤1048576) (h3 : ∀ x ∈ a1,x.path.length≤1048576) :
  Calls Tryz.prog 23 #[v_a0,v_a1] w (Rt (RT 91 4 qp w ((qD a0 a1).1) (.int .i64 ((qD a0 a1).2)))):=jE.walk f_a0 f_a1 (jE.eq a0 a1 h0 h1 h2 h3)
/-! impl.fileAt,by text -/
theorem Xs.calls {w : World} {a0 : List UInt8} (h0 : qC a0 = true) :
    Calls Tryz.prog 81 #[S a0] w (Rt (RO 91 4 qp w (QK a0))):=by
  letI : Inhabited Value:=⟨undef⟩
  have hlp:=Vb h0
  have hla:=ancs_len a0
  refine callsIn_wide.1 (Gb (n:=3) Tryz.func81 rfl (Nat.le_of_ble_eq_true rfl) Tryz.ntmps81 ?_)
  refine YT<|YU<|Qf yg rfl rfl rfl (ltb rfl) (qA (v:=.slice none 0 0) rfl)<|YR<|YT<|YU<|LI_lit yg rfl rfl rfl (ltb rfl) rfl Tryz.underlying29 Tryz.sizeOf91 Tryz.zeroValue91 rfl rfl rfl (vs:=[]) rfl (qX rfl)<|fun b6 w1 z1 z1' e1 k1=>LI_alloc yg rfl rfl rfl (ltb rfl) rfl Tryz.zeroValue29<|fun b3 w2 z2 z2' e2 k2=>
    LI_store1 yg rfl rfl rfl Tryz.sizeOf29 rfl rfl rfl k2 (ltb rfl)<|fun w3 hw3 k3=>YR ?_
  have hb3 : w.heap.size≤b3:=by have:=e1.size; omega
  have e3 : Ext w w3:=Ext.wr (e1.t e2) hw3 hb3 (Nat.le_refl _)
  have k3' : Blk w3 b3 #[.slice (some ⟨b6,0,none⟩) 0 0] 29:=k3
  refine YT<|YT<|YU<|Qf yg rfl rfl rfl (ltb rfl) (qf (v:=S a0) rfl)<|LI_callA yg (vs:=#[S a0]) rfl rfl (ltb rfl) rfl Tryz.call141 (vH.calls (w:=w3) (a0:=a0) (by omega)) rfl<|fun v8 w4 hA4=>?_
  obtain ⟨e4,o8⟩:=hA4
  have hR8 : Rd 1 Yn w4 v8 ((yq a0).map S):=Rd.toV (Ow.rd o8)
  obtain ⟨A8,c8,hv8⟩:=hR8.shape
  have hall : ∀ i,i < ((yq a0).map S).length→((yq a0).map S).getD i undef = S ((yq a0).getD i []):=by
    intro i hi
    have hi2 : i < (yq a0).length:=by simpa using hi
    simp only [List.getD_eq_getElem?_getD,List.getElem?_map,List.getElem?_eq_getElem hi2,Option.map_some,Option.getD_some]
  have hlv : ((yq a0).map S).length = (yq a0).length:=by simp
  have hRV : ∀ W,Ow 9 1 y4 w3.heap.size W v8 (yq a0)→Rd 1 Yn W v8 ((yq a0).map S):=fun W h=>Rd.toV (Ow.rd h)
  generalize (yq a0).map S = vs at hR8 hv8 hall hlv hRV
  refine LI_callA yg (vs:=#[v8]) rfl rfl (ltb rfl) rfl Tryz.call140 (G3.calls hv8) rfl<|fun u w5 hA5=>?_
  obtain ⟨e5,b8,hb8,k8,rfl⟩:=hA5
  refine YR ?_
  have h35 : Ext w3 w5:=Ext.trans e4 e5
  have eA : Ext w w5:=Ext.trans e3 h35
  have k35:=k3'.ext h35
  have l3:=k3'.lt
  have l35:=k35.lt
  have l8:=k8.lt
  have hne : b8 ≠ b3:=by have:=e4.size; omega
  refine GF<|WI_range (n:=3) (α:=Fin vs.length) (by omega) (gf:=197) rfl Tryz.call197
    (J5.stops (w0:=w5) (v:=v8) (b0:=b8) (vs:=vs) (by omega) (Kp:=fun W W'=>(Blk W b8 #[v8] 44∧Ow 9 1 y4 w3.heap.size W v8 (yq a0))→(Blk W' b8 #[v8] 44∧Ow 9 1 y4 w3.heap.size W' v8 (yq a0))) (H:=fun W=>Blk W b8 #[v8] 44∧Ow 9 1 y4 w3.heap.size W v8 (yq a0)) (fun W h=>⟨k8.ext h,(o8.ext e5).ext h⟩) (fun _ _ h k=>k h) (fun W h=>h.1) (fun W h=>hRV W h.2) (n:=3 - 1))
    (fun h k q=>k (h q)) (fun W l o o' hl ho hc _ q=>⟨Blk.grow q.1 (grownBy_putObj' W l o') (B:=w5.heap.size) (fun r e=>by cases e; exact ⟨hl,o,ho,hc⟩),q.2.grow (grownBy_putObj' W l o') (fun r e=>by cases e; exact ⟨o,ho,hc⟩)⟩) (Below.refl _ _) (fun _=>rfl)
    (fun pre W=>∃ v,Blk W b3 #[v] 29∧Ow 91 4 qp w5.heap.size W v (pre.map fun i : Fin vs.length=>(⟨3,(yq a0).getD i.val [],[],0⟩ : Nd))∧Ext w W∧w5.heap.size≤W.heap.size)
    (fun c pre W=>False)
    ?_ (fun c s W W' row hs=>hs.elim) ⟨_,k35,Ow.zero,eA,Nat.le_refl _⟩
    (fun i=>upd (upd (upd (upd (upd (upd (upd (upd (upd (fun t=>(#[S a0] : Array Value).getD t undef) 2 (.slice none 0 0)) 6 (.slice (some ⟨b6,0,none⟩) 0 0)) 3 (.pointer (some ⟨b3,0,none⟩))) 7 (S a0)) 8 v8) 9 (.func (.func 197) #[] #[.pointer (some ⟨b8,0,none⟩)])) 10 (.int .i64 (i.val : Int))) 11 (vs.getD i.val undef)) 5 (vs.getD i.val undef))
    ?_ ?_ ?_ ?_ ?_
  · rintro s W W' row ⟨v,h1,h2,h3,h4⟩ hg hr
    exact ⟨v,h1.grow hg hr,h2.grow hg fun r e=>(hr r e).2,h3.grow hg eA.size hr,Nat.le_trans h4 hg.size⟩
  · intro hf x
    exact upd_far (by decide) (upd_far (by decide) (upd_far (by decide) hf))
  · intro l x W a K ha hK
    refine ⟨_,ha.two 10 11 (by decide) (by decide) (.int .i64 (x.val : Int)) (vs.getD x.val undef),?_⟩
    exact YU<|Qf (VX l) rfl rfl rfl (ltb rfl) (qA rfl)<|YR hK
  · rintro l pre x W ⟨v,kW,oW,eW,sW⟩ hlen
    obtain ⟨q,hq⟩ : ∃ q,(yq a0).getD x.val [] = q:=⟨_,rfl⟩
    have hu : vs.getD x.val undef = S q:=by rw [hall x.val x.isLt,hq]
    refine GF<|YU<|Qf (VX l) rfl rfl rfl (ltb rfl) (qz (v:=v) Tryz.isAgg29 kW rfl rfl)<|Qf (VX l) rfl rfl rfl (ltb rfl) (qf (v:=S q) hu)<|
      Qf (VX l) rfl rfl rfl (ltb rfl) (yZ (vs:=[(0,.int .i64 3),(1,S q)]) (pl:=#[(0,1),(1,1),(2,1),(3,1)]) Tryz.underlying91 Tryz.zeroValue91 rfl (fun _=>by kernel_rfl) rfl rfl rfl)<|
      LI_lit (VX l) rfl rfl rfl (ltb rfl) rfl Tryz.underlying29 Tryz.sizeOf91 Tryz.zeroValue91 rfl rfl rfl (vs:=[.agg #[.int .i64 3,S q,S [],.int .i64 0]]) rfl (qX rfl)<|fun b15 w15 z15 z15' e15 k15=>?_
    refine LI_append (enc:=qp) (base:=w5.heap.size) (VX l) rfl rfl rfl (ltb rfl) rfl El.t29 rfl rfl (oW.ext e15) (Ow.rd (Ow.new (xs:=[(⟨3,q,[],0⟩ : Nd)]) (sz:=4) (enc:=qp) (base:=W.heap.size) k15 (Nat.le_of_eq z15) rfl (fun _ _=>rfl) (Nat.le_of_ble_eq_true rfl))) (Qt _) (by simp only [List.length_map,List.length_cons,List.length_nil]; omega) (Nat.le_trans sW e15.size)<|fun v16 w16 o16 g16 kp16=>?_
    have B16 : Below w5.heap.size w15 w16:=g16 _ (Below.refl _ _)
    have kB : ∀ {b : Nat} {cs : Array Value} {T : TypeId},b < w5.heap.size→Blk w15 b cs T→Blk w16 b cs T:=fun hb h=>by
      unfold Blk at h ⊢
      rw [B16.block _ hb]; exact h
    have k16:=kB l35 (kW.ext e15)
    refine LI_store1 (VX l) rfl rfl rfl Tryz.sizeOf29 rfl rfl (by obtain ⟨A9,c9,e9⟩:=o16.rd.shape; rw [e9]; rfl) k16 (ltb rfl)<|fun w17 hw17 k17=>YR ?_
    have e16 : Ext w w16:=Below.trans (Ext.trans eW e15) (B16.mono eA.size)
    refine ⟨((keeps_ext e15).trans kp16).trans (keeps_wr hw17 k16),fun hq9=>⟨hw17.blk (kB l8 (hq9.1.ext e15)) hne,Ow.wr (Ow.before (hq9.2.ext e15) (Gr.ofBelow B16) (Ow.hb o8) e5.size) hw17 l3⟩,v16,k17,?_,Ext.wr e16 hw17 hb3 (Nat.le_refl _),Nat.le_trans (Nat.le_trans sW e15.size) (Nat.le_trans B16.size hw17.grown.size)⟩
    rw [List.map_append,List.map_cons,List.map_nil,hq]
    exact Ow.wr o16 hw17 l35
  · rintro D xs W hD hS ⟨v,kW,oW,eW,sW⟩ hk
    refine YT<|YU<|Qf yg rfl rfl rfl (ltb rfl) (qz (v:=v) Tryz.isAgg29 kW rfl rfl)<|Qf yg rfl rfl rfl (ltb rfl) (qf (v:=S a0) rfl)<|
      Qf yg rfl rfl rfl (ltb rfl) (yZ (vs:=[(0,.int .i64 1),(1,S a0)]) (pl:=#[(0,1),(1,1),(2,1),(3,1)]) Tryz.underlying91 Tryz.zeroValue91 rfl (fun _=>by kernel_rfl) rfl rfl rfl)<|
      LI_lit yg rfl rfl rfl (ltb rfl) rfl Tryz.underlying29 Tryz.sizeOf91 Tryz.zeroValue91 rfl rfl rfl (vs:=[.agg #[.int .i64 1,S a0,S [],.int .i64 0]]) rfl (qX rfl)<|fun b20 w20 z20 z20' e20 k20=>?_
    have hxl : (xs.map fun i : Fin vs.length=>(⟨3,(yq a0).getD i.val [],[],0⟩ : Nd)) = (yq a0).reverse.map fun q=>(⟨3,q,[],0⟩ : Nd):=by
      rw [hS]; exact downTo_map (yq a0) [] (fun q=>(⟨3,q,[],0⟩ : Nd)) vs.length hlv
    rw [hxl] at oW
    refine LI_append (enc:=qp) (base:=w5.heap.size) yg rfl rfl rfl (ltb rfl) rfl El.t29 rfl rfl (oW.ext e20) (Ow.rd (Ow.new (xs:=[(⟨1,a0,[],0⟩ : Nd)]) (sz:=4) (enc:=qp) (base:=W.heap.size) k20 (Nat.le_of_eq z20) rfl (fun _ _=>rfl) (Nat.le_of_ble_eq_true rfl))) (Qt _) (by simp only [List.length_map,List.length_reverse,List.length_cons,List.length_nil]; omega) (Nat.le_trans sW e20.size)<|fun v21 w21 o21 g21 kp21=>
      Qf yg rfl rfl rfl (ltb rfl) (xa v21 rfl)<|YR<|WI_ret ?_
    have e21 : Ext w w21:=Below.trans (Ext.trans eW e20) ((g21 _ (Below.refl _ _)).mono eA.size)
    have hk21 : w21.heap[D]? = some (.deferred (some [])):=((keeps_ext e20).trans kp21).same D _ hk rfl
    refine ⟨.inr rfl,.inr ⟨D,rfl,hk21,v21,fun tmps hg=>?_,⟨_,rfl,putD_ext e21 (by have:=eA.size; omega) _ hk21,((o21.base eA.size).putD _ hk21)⟩⟩⟩
    rw [results_tmp (fn:=Tryz.f81) rfl,hg 2]; rfl
  · rintro D c pre W hD hS h
    exact h.elim

/-! strconv.Itoa,by text -/
theorem digs_dec {i : Nat} (hi : i < 100) : jH i = Lib.decDigits i:=by
  rw [Lib.decDigits]
  unfold jH
  by_cases h : i < 10
  · rw [dif_pos h,if_pos h]
  · rw [dif_neg h,if_neg h,Lib.decDigits,dif_pos (show i / 10 < 10 by omega)]; rfl
theorem strconv_Itoa.calls {w : World} {a0 : Int} (h0 : (0 : Int)≤a0) (h1 : (a0 : Int) < 100) : Calls Tryz.prog 83 #[.int .i64 a0] w (Rt (RP w (S (jH a0.toNat)))):=by
  obtain ⟨i,rfl⟩ : ∃ i : Nat,a0 = i:=⟨a0.toNat,by omega⟩
  have hi : i < 100:=by omega
  have h:=Tryz.strconv_Itoa_small i hi w
  refine Calls.mono h ?_
  rintro e w' ⟨rfl,rfl⟩
  exact ⟨_,rfl,Ext.refl _,by rw [Int.toNat_natCast,digs_dec hi]⟩

/-! impl.Witness -/
theorem vj.walk {k : Nat} {w : World} {a0 : List Rec} {a1 : List Rec} (gv : GV 0 w) {v_a0 : Value} (f_a0 : Rd 5 qj w v_a0 a0) {v_a1 : Value} (f_a1 : Rd 5 qj w v_a1 a1) {r : List Nd × Int} (H : vj.sh k a0 a1 = some r) :
  Calls Tryz.prog 22 #[v_a0,v_a1] w (Rt (RT 91 4 qp w r.1 (.int .i64 r.2))):=by
 unfold vj.sh at H
 refine qi Tryz.func22 rfl (Nat.le_of_ble_eq_true rfl) Tryz.ntmps22 rfl ?_
 refine wr<|lp rfl (xa (.slice none 0 0) rfl)<|lp rfl (xa (.int .i64 0) rfl)<|nx<|qk<|wr<|lp rfl (xm v_a0 rfl)<|lc rfl rfl Tryz.call78 (yk.calls (w:=w) (a0:=a0) f_a0) rfl<|fun w1 e2=>lp rfl (xm (.bool (decide (4096 < a0.length))) rfl)<|jj 3 [(20,23)] 22 (.bool ((decide (4096 < a0.length)) || (decide (4096 < a1.length)))) ?_ ?_
 ·rcases qo (decide (4096 < a0.length)) with b2_ | b2_
  ·exact ls rfl rfl rfl (cb b2_) rfl<|ls rfl rfl rfl (cb b2_) rfl<|lp rfl (qq (b:=true) (v:=(.bool true)) (cb b2_) rfl)<|nx ⟨(ku3 kz rfl),(J6 b2_),er⟩
  ·exact lg rfl rfl rfl rfl (cb b2_) (xm v_a1 rfl)<|vL (tg rfl rfl rfl (cb b2_)) rfl (ltb rfl) rfl Tryz.call78 (yk.calls (w:=w1) (a0:=a1) (Rd.ext f_a1 e2)) rfl<|fun w4 e5=>lp rfl (qq (b:=false) (v:=(.bool (decide (4096 < a1.length)))) (cb b2_) rfl)<|nx ⟨(ku3 kz rfl),(J7 b2_),e5⟩
 intro s8 w4 K5 h6 e7
 refine lp rfl (vo Tryz.underlying4 rfl h6)<|lp rfl (vo Tryz.underlying3 rfl rfl)<|lp rfl (xm v_a0 (K5 0 rfl)) ?_
 obtain ⟨c9,H⟩:=qa H
 obtain ⟨c10,H⟩:=qa H
 refine lc rfl rfl Tryz.call68 (jm.calls (w:=w4) (a0:=a0) (GV.ext gv (e2.t e7)) (Rd.ext f_a0 (e2.t e7)) (od c9) (od c10)) rfl<|fun w11 e12=>lp rfl (yR rfl)<|lp rfl (xm (.bool (!(decide ((vf a0).2 = 0)))) rfl) ?_
 obtain ⟨z14,x15,H⟩:=bind_some H
 refine yf 4 [(29,33)] 32 (fun q=>q = z14) ?_ ?_
 ·rcases qe x15 with ⟨b12_,H⟩ | ⟨b12_,H⟩
  ·refine ls rfl rfl rfl (cb b12_) rfl<|ls rfl rfl rfl (cb b12_) rfl<|ls rfl rfl rfl (cb b12_) rfl<|lp rfl (qq (b:=true) (v:=(.bool true)) (cb b12_) rfl) ?_
   obtain rfl:=si H
   exact nx ⟨(ku4 kz rfl),⟨_,rfl,rfl⟩,er⟩
  ·refine lg rfl rfl rfl rfl (cb b12_) (xm v_a1 (K5 1 rfl)) ?_
   obtain ⟨c14,H⟩:=qa H
   obtain ⟨c15,H⟩:=qa H
   refine vL (tg rfl rfl rfl (cb b12_)) rfl (ltb rfl) rfl Tryz.call68 (jm.calls (w:=w11) (a0:=a1) (GV.ext gv ((e2.t e7).t e12)) (Rd.ext f_a1 ((e2.t e7).t e12)) (od c14) (od c15)) rfl<|fun w16 e17=>lg rfl rfl rfl rfl (cb b12_) (yR rfl)<|lp rfl (qq (b:=false) (v:=(.bool (!(decide ((vf a1).2 = 0))))) (cb b12_) rfl) ?_
   obtain rfl:=si H
   exact nx ⟨(ku4 kz rfl),⟨_,rfl,rfl⟩,e17⟩
 intro s20 w16 z21 K17 hq h18 e19
 rw [hq] at h18; clear hq
 refine lp rfl (vo Tryz.underlying4 rfl h18)<|lp rfl (vo Tryz.underlying3 rfl rfl)<|yt (.plain rfl) rfl (ltb rfl) rfl Tryz.underlying142 Tryz.sizeOf20 Tryz.zeroValue20 rfl rfl rfl (vs:=[(.iface 4 (.bool ((decide (4096 < a0.length)) || (decide (4096 < a1.length))))),(.iface 3 (.int .i64 2)),(.iface 4 (.bool z14)),(.iface 3 (.int .i64 1))]) (va (K17 23 rfl) (va (K17 24 rfl) (va rfl (va rfl rfl)))) (qX rfl)<|fun b22 w23 z24 z25 e26 k27=>?_
 obtain ⟨c28,H⟩:=qa H
 obtain ⟨z31,x32,H⟩:=bind_some H
 replace x32:=si x32
 refine lc rfl rfl Tryz.call77 (yL.calls (w:=w23) (a0:=([.inl ((decide (4096 < a0.length)) || (decide (4096 < a1.length))),.inr 2,.inl z14,.inr 1] : List (Bool ⊕ Int))) (Ow.rd (Ow.new (xs:=[.inl ((decide (4096 < a0.length)) || (decide (4096 < a1.length))),.inr 2,.inl z14,.inr 1]) (sz:=1) (enc:=(Vc 4 3)) (base:=w16.heap.size) k27 (Nat.le_of_eq z24) rfl (fun _ _=>by first | rfl | exact VT _ _ _) (Nat.le_of_ble_eq_true rfl))) (od c28)) rfl<|fun w29 e30=>lp rfl (xa (.int .i64 z31) (congrArg (Value.int .i64) x32))<|nx<|wr<|lp rfl (xm (.int .i64 z31) rfl)<|lp rfl (QJ rfl rfl)<|nx ?_
 rcases qe H with ⟨q33,H⟩ | ⟨q33,H⟩
 ·refine ql (cb q33)<|wr<|lp rfl (xm (.int .i64 z31) rfl)<|lp rfl (xa (.slice none 0 0) rfl)<|lp rfl (xa (.int .i64 z31) rfl)<|nx<|qr<|qv<|qy ?_
  obtain rfl:=si H
  exact Q4 rfl rfl (((((e2.t e7).t e12).t e19).t e26).t e30) (Ow.zero (base:=w.heap.size)) (Nat.le_refl _)
 ·refine qh (cb q33)<|qw<|qg<|wr<|lp rfl (xm v_a0 ((K17 0 rfl).trans (K5 0 rfl))) ?_
  obtain ⟨c34,H⟩:=qa H
  obtain ⟨c35,H⟩:=qa H
  refine vp (.plain rfl) rfl (ltb rfl) rfl Tryz.call73 (vE.calls (w:=w29) (a0:=a0) (GV.ext gv (((((e2.t e7).t e12).t e19).t e26).t e30)) (Rd.ext f_a0 (((((e2.t e7).t e12).t e19).t e26).t e30)) (od c34) (od c35)) rfl<|fun v38 w36 e37 o39=>lp rfl (xm v_a1 ((K17 1 rfl).trans (K5 1 rfl))) ?_
  obtain ⟨c40,H⟩:=qa H
  obtain ⟨c41,H⟩:=qa H
  refine vp (.plain rfl) rfl (ltb rfl) rfl Tryz.call73 (vE.calls (w:=w36) (a0:=a1) (GV.ext gv ((((((e2.t e7).t e12).t e19).t e26).t e30).t e37)) (Rd.ext f_a1 ((((((e2.t e7).t e12).t e19).t e26).t e30).t e37)) (od c40) (od c41)) rfl<|fun v44 w42 e43 o45=>lp rfl (xa v38 rfl)<|lp rfl (xa v44 rfl)<|nx<|qk<|wr<|lp rfl (xm v38 rfl)<|lp rfl (xm v44 rfl)<|yt (.plain rfl) rfl (ltb rfl) rfl Tryz.underlying23 Tryz.sizeOf35 Tryz.zeroValue35 rfl rfl rfl (vs:=[v38,v44]) rfl (by simp; exact ⟨(Rd.one (Ow.rd (Ow.ext o39 e43))),(Rd.one (Ow.rd o45))⟩)<|fun b46 w47 z48 z49 e50 k51=>?_
  obtain ⟨c52,H⟩:=qa H
  obtain ⟨c53,H⟩:=qa H
  obtain ⟨c54,H⟩:=qa H
  refine vp (.plain rfl) rfl (ltb rfl) rfl Tryz.call79 (vC.calls (w:=w47) (a0:=([(qb a0),(qb a1)] : List (List Rec))) (GV.ext gv ((((((((e2.t e7).t e12).t e19).t e26).t e30).t e37).t e43).t e50)) (Rd2.new (vs:=[v38,v44]) k51 ⟨(Ow.rd (Ow.ext o39 (e43.t e50))),(Ow.rd (Ow.ext o45 e50)),trivial⟩ (Nat.le_of_ble_eq_true rfl)) (od c52) (od c53) (od c54)) rfl<|fun v57 w55 e56 o58=>lp rfl (qS Tryz.underlying44 rfl (Ow.rd o58))<|lp rfl (xm (.int .i64 0) rfl)<|nx ?_
  obtain ⟨z60,L61,C62⟩:=bind_some H
  clear H
  refine  vT (fun s0 sQ wQ=>Kp [(4,6),(10,17),(49,134)] s0 sQ∧Ext w55 wQ∧z60 = .inr ()) ?_ ?_
  ·refine qF<|vA (fun s0 kk sQ wQ=>∃ (x49_59 : Int),Kp [(4,6),(10,17),(49,134)] s0 sQ∧sQ 49 = .int .i64 x49_59∧Ext w55 wQ∧qt (vj.b1 k a0 a1) kk x49_59 = some z60) k ⟨0,kz,rfl,er,L61⟩ ?_
   rintro k67 s68 w69 ⟨x49_59,K70,h73,e71,L72⟩
   cases k67 with
   | zero=>exact absurd L72 (by simp [qt])
   | succ k67=>
    obtain ⟨t74,H,S75⟩:=qQ L72
    clear L72
    unfold vj.b1 at H
    refine wr<|lp rfl (ym h73 (K70 48 rfl))<|nx<|qk ?_
    rcases qe H with ⟨q76,H⟩ | ⟨q76,H⟩
    ·refine ql (cb q76)<|qw<|qg<|qk<|qF<|wr ?_
     obtain ⟨c77,H⟩:=qa H
     refine vg (.plain rfl) rfl (ltb rfl) rfl Tryz.underlying44 Tryz.sizeOf9 (K70 47 rfl) (Ow.rd (Ow.ext o58 e71)) h73 c77<|fun p78 h79=>lp rfl (y8 Tryz.isAgg9 rfl h79 rfl)<|lp rfl (qA rfl)<|nx<|wr<|lp rfl (yZ (vs:=[]) (pl:=#[(0,1),(1,1),(2,1),(3,1),(4,1)]) Tryz.underlying52 Tryz.zeroValue52 rfl (fun _=>by kernel_rfl) rfl rfl rfl)<|lp rfl (yZ (vs:=[]) (pl:=#[(0,1),(1,1),(2,1),(3,1),(4,1)]) Tryz.underlying52 Tryz.zeroValue52 rfl (fun _=>by kernel_rfl) rfl rfl rfl)<|jU (.plain rfl) rfl (ltb rfl) rfl Tryz.zeroValue52<|fun b80 w81 z82 z83 e84 k85=>jU (.plain rfl) rfl (ltb rfl) rfl Tryz.zeroValue52<|fun b86 w87 z88 z89 e90 k91=>vU (.plain rfl) rfl rfl Tryz.sizeOf52 rfl rfl rfl rfl rfl (Blk.ext k85 e90)<|fun w92 h93 k94=>vU (.plain rfl) rfl rfl Tryz.sizeOf52 rfl rfl rfl rfl rfl (Wr.blk h93 k91 (fun e9=>by have e8 : b86 = b80:=e9; clear e9; have h9:=Blk.lt k85; have h8:=z88; omega))<|fun w95 h96 k97=>nx<|qk<|wr<|lp rfl (xm v38 (K70 7 rfl))<|lp rfl (qf rfl) ?_
     obtain ⟨c98,H⟩:=qa H
     refine lc rfl rfl Tryz.call80 (Qa.calls (w:=w95) (a0:=(qb a0)) (a1:=gt (yw ([(qb a0),(qb a1)] : List (List Rec))) x49_59) (Ow.rd (Ow.ext o39 ((((e43.t e50).t e56).t e71).t (Below.trans (Below.trans (e84.t e90) (Wr.below h93 (Nat.le_of_eq z82))) (Wr.below h96 (Nat.le_trans e84.size (Nat.le_of_eq z88))))))) (od c98)) rfl<|fun w99 e100=>lp rfl (qA rfl)<|nx<|wr<|lp rfl (qf rfl)<|lp rfl (Yd rfl rfl)<|nx ?_
     obtain ⟨z101,L102,C103⟩:=bind_some H
     clear H
     refine vT (fun s0 sQ wQ=>∃ (y104 : Rec),Kp [(60,64)] s0 sQ∧Blk wQ b80 (qj y104).toArray 52∧Blk wQ b86 (qj (⟨0,([] : List UInt8),([] : List UInt8),0,false⟩ : Rec)).toArray 52∧Ext w69 wQ∧z101 = .inr y104) ?_ ?_
     ·have H:=L102
      rcases qe H with ⟨q105,H⟩ | ⟨q105,H⟩
      ·refine ql (cb q105)<|qO<|lp rfl (xm v38 (K70 7 rfl))<|lp rfl (qf rfl) ?_
       obtain ⟨c106,H⟩:=qa H
       refine vg (.plain rfl) rfl (ltb rfl) rfl Tryz.underlying35 Tryz.sizeOf52 rfl (Ow.rd (Ow.ext o39 (((((e43.t e50).t e56).t e71).t (Below.trans (Below.trans (e84.t e90) (Wr.below h93 (Nat.le_of_eq z82))) (Wr.below h96 (Nat.le_trans e84.size (Nat.le_of_eq z88))))).t e100))) rfl c106<|fun p107 h108=>lp rfl (qW Tryz.isAgg52 Tryz.sizeOf52 rfl rfl h108)<|vU (.plain rfl) rfl rfl Tryz.sizeOf52 rfl rfl rfl rfl rfl (Blk.ext (Wr.blk h96 k94 (fun e9=>by have e8 : b80 = b86:=e9; clear e9; have h9:=Blk.lt k85; have h8:=z88; omega)) e100)<|fun w109 h110 k111=>nx ?_
       obtain rfl:=si H
       exact ⟨(gt (qb a0) (qJ (qb a0) (gt (yw ([(qb a0),(qb a1)] : List (List Rec))) x49_59))),(ku4 kz rfl),k111,(Wr.blk h110 (Blk.ext k97 e100) (fun e9=>by have e8 : b86 = b80:=e9; clear e9; have h9:=Blk.lt k85; have h8:=z88; omega)),(Below.trans (Ext.trans (Below.trans (Below.trans (e84.t e90) (Wr.below h93 (Nat.le_of_eq z82))) (Wr.below h96 (Nat.le_trans e84.size (Nat.le_of_eq z88)))) e100) (Wr.below h110 (Nat.le_of_eq z82))),rfl⟩
      ·refine qh (cb q105)<|qw<|qg ?_
       obtain rfl:=si H
       exact ⟨(⟨0,([] : List UInt8),([] : List UInt8),0,false⟩ : Rec),kz,(Blk.ext (Wr.blk h96 k94 (fun e9=>by have e8 : b80 = b86:=e9; clear e9; have h9:=Blk.lt k85; have h8:=z88; omega)) e100),(Blk.ext k97 e100),(Ext.trans (Below.trans (Below.trans (e84.t e90) (Wr.below h93 (Nat.le_of_eq z82))) (Wr.below h96 (Nat.le_trans e84.size (Nat.le_of_eq z88)))) e100),rfl⟩
     ·rintro s113 w112 ⟨y104,K114,h117,h118,e115,y116⟩
      rw [y116] at C103
      have H:=C103
      refine qg<|qk<|wr<|lp rfl (xm v44 ((K114 8 rfl).trans (K70 8 rfl)))<|lp rfl (qf (K114 10 rfl)) ?_
      obtain ⟨c119,H⟩:=qa H
      refine lc rfl rfl Tryz.call80 (Qa.calls (w:=w112) (a0:=(qb a1)) (a1:=gt (yw ([(qb a0),(qb a1)] : List (List Rec))) x49_59) (Ow.rd (Ow.ext o45 (((e50.t e56).t e71).t e115))) (od c119)) rfl<|fun w120 e121=>lp rfl (qA rfl)<|nx<|wr<|lp rfl (qf rfl)<|lp rfl (Yd rfl rfl)<|nx ?_
      obtain ⟨z122,L123,C124⟩:=bind_some H
      clear H
      refine vT (fun s0 sQ wQ=>∃ (y125 : Rec),Kp [(69,73)] s0 sQ∧Blk wQ b86 (qj y125).toArray 52∧Blk wQ b80 (qj y104).toArray 52∧Ext w69 wQ∧z122 = .inr y125) ?_ ?_
      ·have H:=L123
       rcases qe H with ⟨q126,H⟩ | ⟨q126,H⟩
       ·refine ql (cb q126)<|qO<|lp rfl (xm v44 ((K114 8 rfl).trans (K70 8 rfl)))<|lp rfl (qf rfl) ?_
        obtain ⟨c127,H⟩:=qa H
        refine vg (.plain rfl) rfl (ltb rfl) rfl Tryz.underlying35 Tryz.sizeOf52 rfl (Ow.rd (Ow.ext o45 ((((e50.t e56).t e71).t e115).t e121))) rfl c127<|fun p128 h129=>lp rfl (qW Tryz.isAgg52 Tryz.sizeOf52 rfl rfl h129)<|vU (.plain rfl) rfl rfl Tryz.sizeOf52 (K114 12 rfl) rfl rfl rfl rfl (Blk.ext h118 e121)<|fun w130 h131 k132=>nx ?_
        obtain rfl:=si H
        exact ⟨(gt (qb a1) (qJ (qb a1) (gt (yw ([(qb a0),(qb a1)] : List (List Rec))) x49_59))),(ku4 kz rfl),k132,(Wr.blk h131 (Blk.ext h117 e121) (fun e9=>by have e8 : b80 = b86:=e9; clear e9; have h9:=Blk.lt k85; have h8:=z88; omega)),(Below.trans (e115.t e121) (Wr.below h131 (Nat.le_trans e84.size (Nat.le_of_eq z88)))),rfl⟩
       ·refine qh (cb q126)<|qw<|qg ?_
        obtain rfl:=si H
        exact ⟨(⟨0,([] : List UInt8),([] : List UInt8),0,false⟩ : Rec),kz,(Blk.ext h118 e121),(Blk.ext h117 e121),(e115.t e121),rfl⟩
      ·rintro s134 w133 ⟨y125,K135,h138,h139,e136,y137⟩
       rw [y137] at C124
       have H:=C124
       refine qg<|qk<|qF<|wr<|lp rfl (qW Tryz.isAgg52 Tryz.sizeOf52 rfl ((K135 11 rfl).trans (K114 11 rfl)) (Blk.at0 h139))<|lp rfl (qW Tryz.isAgg52 Tryz.sizeOf52 rfl ((K135 12 rfl).trans (K114 12 rfl)) (Blk.at0 h138))<|lp rfl (X_eqA Eqg.t52 (Eqs.t52 y104 y125) rfl rfl)<|lp rfl (xa (.bool (decide (y104 = y125))) rfl)<|nx ?_
       rcases qe H with ⟨q140,H⟩ | ⟨q140,H⟩
       ·refine ql (cb q140)<|yc<|blk_y rfl<|vm<|yV<|qg<|qO<|lp rfl (vz ((K135 49 rfl).trans ((K114 49 rfl).trans h73)) rfl)<|lp rfl (xm (.int .i64 (IntKind.wrap .i64 (x49_59 + 1))) rfl)<|nx ?_
        obtain rfl:=si H
        exact ⟨_,Nat.lt_succ_self _,IntKind.wrap .i64 (x49_59 + 1),(ku2 (ku4 (Kp.cut (ku2 (ku4 (Kp.cut (ku2 (ku4 (ku8 K70 rfl) rfl) rfl) K114 rfl) rfl) rfl) K135 rfl) rfl) rfl),rfl,(e71.t e136),S75⟩
       ·refine qh (cb q140)<|wr<|lp rfl (qc Tryz.underlying52 rfl Tryz.sizeOf3 rfl ((K135 11 rfl).trans (K114 11 rfl)))<|lp rfl (qz Tryz.isAgg3 h139 rfl rfl)<|lp rfl (vx rfl rfl)<|lp rfl (xm (.bool (decide (y104.kind = 4))) rfl)<|jj 4 [(82,86)] 85 (.bool ((decide (y104.kind = 4)) && (decide (y125.kind = 0)))) ?_ ?_
        ·rcases qo (decide (y104.kind = 4)) with b140_ | b140_
         ·exact lg rfl rfl rfl rfl (cb b140_) (qc Tryz.underlying52 rfl Tryz.sizeOf3 rfl ((K135 12 rfl).trans (K114 12 rfl)))<|lg rfl rfl rfl rfl (cb b140_) (qz Tryz.isAgg3 h138 rfl rfl)<|lg rfl rfl rfl rfl (cb b140_) (vx rfl rfl)<|lp rfl (qq (b:=true) (v:=(.bool (decide (y125.kind = 0)))) (cb b140_) rfl)<|nx ⟨(ku4 kz rfl),(QP b140_),er⟩
         ·exact ls rfl rfl rfl (cb b140_) rfl<|ls rfl rfl rfl (cb b140_) rfl<|ls rfl rfl rfl (cb b140_) rfl<|lp rfl (qq (b:=false) (v:=(.bool false)) (cb b140_) rfl)<|nx ⟨(ku4 kz rfl),(QQ b140_),er⟩
        intro s146 w142 K143 h144 e145
        refine lp rfl (qf h144)<|jj 9 [(87,96)] 95 (.bool (((decide (y104.kind = 4)) && (decide (y125.kind = 0))) || ((decide (y104.kind = 0)) && (decide (y125.kind = 4))))) ?_ ?_
        ·rcases qo ((decide (y104.kind = 4)) && (decide (y125.kind = 0))) with b146_ | b146_
         ·exact ls rfl rfl rfl (cb b146_) rfl<|ls rfl rfl rfl (cb b146_) rfl<|ls rfl rfl rfl (cb b146_) rfl<|ls rfl rfl rfl (cb b146_) rfl<|lu rfl rfl rfl rfl rfl<|lu rfl rfl rfl rfl rfl<|lu rfl rfl rfl rfl rfl<|ls rfl rfl rfl (cb b146_) rfl<|lp rfl (qq (b:=true) (v:=(.bool true)) (cb b146_) rfl)<|nx ⟨(ku1 (ku8 kz rfl) rfl),(J6 b146_),er⟩
         ·refine lg rfl rfl rfl rfl (cb b146_) (qc Tryz.underlying52 rfl Tryz.sizeOf3 rfl ((K143 11 rfl).trans ((K135 11 rfl).trans (K114 11 rfl))))<|lg rfl rfl rfl rfl (cb b146_) (qz Tryz.isAgg3 (Blk.ext h139 e145) rfl rfl)<|lg rfl rfl rfl rfl (cb b146_) (vx rfl rfl)<|lg rfl rfl rfl rfl (cb b146_) (xm (.bool (decide (y104.kind = 0))) rfl)<|jj 4 [(91,95)] 94 (.bool ((decide (y104.kind = 0)) && (decide (y125.kind = 4)))) ?_ ?_
          ·rcases qo (decide (y104.kind = 0)) with b147_ | b147_
           ·exact lg rfl rfl rfl rfl (cb b147_) (qc Tryz.underlying52 rfl Tryz.sizeOf3 rfl ((K143 12 rfl).trans ((K135 12 rfl).trans (K114 12 rfl))))<|lg rfl rfl rfl rfl (cb b147_) (qz Tryz.isAgg3 (Blk.ext h138 e145) rfl rfl)<|lg rfl rfl rfl rfl (cb b147_) (vx rfl rfl)<|lg rfl rfl rfl rfl (cb b146_) (qq (b:=true) (v:=(.bool (decide (y125.kind = 4)))) (cb b147_) rfl)<|nx ⟨(ku4 kz rfl),(QP b147_),er⟩
           ·exact ls rfl rfl rfl (cb b147_) rfl<|ls rfl rfl rfl (cb b147_) rfl<|ls rfl rfl rfl (cb b147_) rfl<|lg rfl rfl rfl rfl (cb b146_) (qq (b:=false) (v:=(.bool false)) (cb b147_) rfl)<|nx ⟨(ku4 kz rfl),(QQ b147_),er⟩
          intro s153 w149 K150 h151 e152
          exact lp rfl (qq (b:=false) (v:=(.bool ((decide (y104.kind = 0)) && (decide (y125.kind = 4))))) ((K150 86 rfl).trans (cb b146_)) h151)<|nx ⟨(ku1 (Kp.cut (ku4 kz rfl) K150 rfl) rfl),(J7 b146_),e152⟩
        intro s154 w148 K149 h150 e151
        refine lp rfl (qA h150)<|nx ?_
        rcases qe H with ⟨q155,H⟩ | ⟨q155,H⟩
        ·refine ql (cb q155)<|wr<|lp rfl (qf ((K149 10 rfl).trans ((K143 10 rfl).trans ((K135 10 rfl).trans (K114 10 rfl))))) ?_
         obtain ⟨c156,H⟩:=qa H
         refine vp (.plain rfl) rfl (ltb rfl) rfl Tryz.call81 (Xs.calls (w:=w148) (a0:=gt (yw ([(qb a0),(qb a1)] : List (List Rec))) x49_59) (od c156)) rfl<|fun v159 w157 e158 o160=>lp rfl (xa v159 rfl)<|lp rfl (xa (.int .i64 0) rfl)<|nx<|qr<|vc<|qv<|vc<|qv<|qv<|vc<|qv<|qv<|qy ?_
         obtain rfl:=si H
         obtain rfl:=si S75
         have H:=C62
         obtain rfl:=si H
         exact Q4 rfl rfl ((((((((((((((e2.t e7).t e12).t e19).t e26).t e30).t e37).t e43).t e50).t e56).t e71).t e136).t e145).t e151).t e158) o160 ((((((((((((((e2.t e7).t e12).t e19).t e26).t e30).t e37).t e43).t e50).t e56).t e71).t e136).t e145).t e151)).size
        ·refine qh (cb q155)<|wr<|lp rfl (qc Tryz.underlying52 rfl Tryz.sizeOf3 rfl ((K149 11 rfl).trans ((K143 11 rfl).trans ((K135 11 rfl).trans (K114 11 rfl)))))<|lp rfl (qz Tryz.isAgg3 (Blk.ext h139 (e145.t e151)) rfl rfl)<|lp rfl (vx rfl rfl)<|lp rfl (xm (.bool (decide (y104.kind = 3))) rfl)<|jj 4 [(103,107)] 106 (.bool ((decide (y104.kind = 3)) && (decide (y125.kind = 3)))) ?_ ?_
         ·rcases qo (decide (y104.kind = 3)) with b160_ | b160_
          ·exact lg rfl rfl rfl rfl (cb b160_) (qc Tryz.underlying52 rfl Tryz.sizeOf3 rfl ((K149 12 rfl).trans ((K143 12 rfl).trans ((K135 12 rfl).trans (K114 12 rfl)))))<|lg rfl rfl rfl rfl (cb b160_) (qz Tryz.isAgg3 (Blk.ext h138 (e145.t e151)) rfl rfl)<|lg rfl rfl rfl rfl (cb b160_) (vx rfl rfl)<|lp rfl (qq (b:=true) (v:=(.bool (decide (y125.kind = 3)))) (cb b160_) rfl)<|nx ⟨(ku4 kz rfl),(QP b160_),er⟩
          ·exact ls rfl rfl rfl (cb b160_) rfl<|ls rfl rfl rfl (cb b160_) rfl<|ls rfl rfl rfl (cb b160_) rfl<|lp rfl (qq (b:=false) (v:=(.bool false)) (cb b160_) rfl)<|nx ⟨(ku4 kz rfl),(QQ b160_),er⟩
         intro s166 w162 K163 h164 e165
         refine lp rfl (qf h164)<|jj 6 [(108,114)] 113 (.bool (((decide (y104.kind = 3)) && (decide (y125.kind = 3))) && (decide (y104.mode = y125.mode)))) ?_ ?_
         ·rcases qo ((decide (y104.kind = 3)) && (decide (y125.kind = 3))) with b166_ | b166_
          ·exact lg rfl rfl rfl rfl (cb b166_) (qc Tryz.underlying52 rfl Tryz.sizeOf3 rfl ((K163 11 rfl).trans ((K149 11 rfl).trans ((K143 11 rfl).trans ((K135 11 rfl).trans (K114 11 rfl))))))<|lg rfl rfl rfl rfl (cb b166_) (qz Tryz.isAgg3 (Blk.ext h139 ((e145.t e151).t e165)) rfl rfl)<|lg rfl rfl rfl rfl (cb b166_) (qc Tryz.underlying52 rfl Tryz.sizeOf3 rfl ((K163 12 rfl).trans ((K149 12 rfl).trans ((K143 12 rfl).trans ((K135 12 rfl).trans (K114 12 rfl))))))<|lg rfl rfl rfl rfl (cb b166_) (qz Tryz.isAgg3 (Blk.ext h138 ((e145.t e151).t e165)) rfl rfl)<|lg rfl rfl rfl rfl (cb b166_) (vx rfl rfl)<|lp rfl (qq (b:=true) (v:=(.bool (decide (y104.mode = y125.mode)))) (cb b166_) rfl)<|nx ⟨(ku2 (ku4 kz rfl) rfl),(QP b166_),er⟩
          ·exact ls rfl rfl rfl (cb b166_) rfl<|ls rfl rfl rfl (cb b166_) rfl<|ls rfl rfl rfl (cb b166_) rfl<|ls rfl rfl rfl (cb b166_) rfl<|ls rfl rfl rfl (cb b166_) rfl<|lp rfl (qq (b:=false) (v:=(.bool false)) (cb b166_) rfl)<|nx ⟨(ku2 (ku4 kz rfl) rfl),(QQ b166_),er⟩
         intro s172 w168 K169 h170 e171
         refine lp rfl (qA h170)<|nx ?_
         rcases qe H with ⟨q173,H⟩ | ⟨q173,H⟩
         ·refine ql (cb q173)<|wr<|lp rfl (xa (.int .i64 0) rfl)<|nx ?_
          obtain ⟨z175,L176,C177⟩:=bind_some H
          clear H
          refine  vT (fun s0 sQ wQ=>Kp [(4,6),(15,17),(114,133)] s0 sQ∧Ext w168 wQ∧z175 = .inr ()) ?_ ?_
          ·refine qF<|vA (fun s0 kk sQ wQ=>∃ (x15_174 : Int),Kp [(4,6),(15,17),(114,133)] s0 sQ∧sQ 15 = .int .i64 x15_174∧Ext w168 wQ∧qt (vj.b2 a0 a1 x49_59) kk x15_174 = some z175) k ⟨0,kz,rfl,er,L176⟩ ?_
           rintro k182 s183 w184 ⟨x15_174,K185,h188,e186,L187⟩
           cases k182 with
           | zero=>exact absurd L187 (by simp [qt])
           | succ k182=>
            obtain ⟨t189,H,S190⟩:=qQ L187
            clear L187
            unfold vj.b2 at H
            refine qk<|qF<|wr<|lp rfl (qf ((K185 10 rfl).trans ((K169 10 rfl).trans ((K163 10 rfl).trans ((K149 10 rfl).trans ((K143 10 rfl).trans ((K135 10 rfl).trans (K114 10 rfl))))))))<|lp rfl (qf h188) ?_
            obtain ⟨c191,H⟩:=qa H
            obtain ⟨c192,H⟩:=qa H
            refine lc rfl rfl Tryz.call83 (strconv_Itoa.calls (w:=w184) (a0:=x15_174) (od c191) (od c192)) rfl<|fun w193 e194=>?_
            obtain ⟨c195,H⟩:=qa H
            refine lp rfl (Y2 rfl rfl (od c195)) ?_
            obtain ⟨c196,H⟩:=qa H
            obtain ⟨c197,H⟩:=qa H
            obtain ⟨z200,x201,H⟩:=bind_some H
            replace x201:=si x201
            refine lc rfl rfl Tryz.call82 (VP.calls (w:=w193) (a0:=gt (yw ([(qb a0),(qb a1)] : List (List Rec))) x49_59) (a1:=([122] : List UInt8) ++ (jH x15_174.toNat)) (od c196) (od c197)) rfl<|fun w198 e199=>lp rfl (xa (S z200) (congrArg S x201))<|nx<|wr<|lp rfl (xm v38 ((K185 7 rfl).trans ((K169 7 rfl).trans ((K163 7 rfl).trans ((K149 7 rfl).trans ((K143 7 rfl).trans ((K135 7 rfl).trans ((K114 7 rfl).trans (K70 7 rfl)))))))))<|lp rfl (xm (S z200) rfl) ?_
            obtain ⟨c202,H⟩:=qa H
            refine lc rfl rfl Tryz.call80 (Qa.calls (w:=w198) (a0:=(qb a0)) (a1:=z200) (Ow.rd (Ow.ext o39 (((((((((((e43.t e50).t e56).t e71).t e136).t e145).t e151).t e165).t e171).t e186).t e194).t e199))) (od c202)) rfl<|fun w203 e204=>lp rfl (ym rfl rfl)<|lp rfl (xm (.bool (decide ((qJ (qb a0) z200) < 0))) rfl) ?_
            obtain ⟨z206,x207,H⟩:=bind_some H
            refine yf 5 [(126,131)] 130 (fun q=>q = z206) ?_ ?_
            ·rcases qe x207 with ⟨b204_,H⟩ | ⟨b204_,H⟩
             ·refine lg rfl rfl rfl rfl (cb b204_) (xm v44 ((K185 8 rfl).trans ((K169 8 rfl).trans ((K163 8 rfl).trans ((K149 8 rfl).trans ((K143 8 rfl).trans ((K135 8 rfl).trans ((K114 8 rfl).trans (K70 8 rfl)))))))))<|lg rfl rfl rfl rfl (cb b204_) (xm (S z200) rfl) ?_
              obtain ⟨c206,H⟩:=qa H
              refine vL (tg rfl rfl rfl (cb b204_)) rfl (ltb rfl) rfl Tryz.call80 (Qa.calls (w:=w203) (a0:=(qb a1)) (a1:=z200) (Ow.rd (Ow.ext o45 (((((((((((e50.t e56).t e71).t e136).t e145).t e151).t e165).t e171).t e186).t e194).t e199).t e204))) (od c206)) rfl<|fun w207 e208=>lg rfl rfl rfl rfl (cb b204_) (ym rfl rfl)<|lp rfl (qq (b:=true) (v:=(.bool (decide ((qJ (qb a1) z200) < 0)))) (cb b204_) rfl) ?_
              obtain rfl:=si H
              exact nx ⟨(ku1 (ku4 kz rfl) rfl),⟨_,rfl,rfl⟩,e208⟩
             ·refine ls rfl rfl rfl (cb b204_) rfl<|ls rfl rfl rfl (cb b204_) rfl<|ls rfl rfl rfl (cb b204_) rfl<|ls rfl rfl rfl (cb b204_) rfl<|lp rfl (qq (b:=false) (v:=(.bool false)) (cb b204_) rfl) ?_
              obtain rfl:=si H
              exact nx ⟨(ku1 (ku4 kz rfl) rfl),⟨_,rfl,rfl⟩,er⟩
            intro s212 w208 z213 K209 hq h210 e211
            rw [hq] at h210; clear hq
            refine nx ?_
            rcases qe H with ⟨q214,H⟩ | ⟨q214,H⟩
            ·refine ql (h210.trans (cb q214))<|wr<|lp rfl (xm (S z200) (K209 16 rfl)) ?_
             obtain ⟨c215,H⟩:=qa H
             refine vp (.plain rfl) rfl (ltb rfl) rfl Tryz.call81 (Xs.calls (w:=w208) (a0:=z200) (od c215)) rfl<|fun v218 w216 e217 o219=>lp rfl (xa v218 rfl)<|lp rfl (xa (.int .i64 0) rfl)<|nx<|qr<|vc<|qv<|qv<|vc<|qv<|vc<|qv<|vc<|qv<|qv<|vc<|qv<|qv<|qy ?_
             obtain rfl:=si H
             obtain rfl:=si S190
             have H:=C177
             obtain rfl:=si H
             obtain rfl:=si S75
             have H:=C62
             obtain rfl:=si H
             exact Q4 rfl rfl (((((((((((((((((((((e2.t e7).t e12).t e19).t e26).t e30).t e37).t e43).t e50).t e56).t e71).t e136).t e145).t e151).t e165).t e171).t e186).t e194).t e199).t e204).t e211).t e217) o219 (((((((((((((((((((((e2.t e7).t e12).t e19).t e26).t e30).t e37).t e43).t e50).t e56).t e71).t e136).t e145).t e151).t e165).t e171).t e186).t e194).t e199).t e204).t e211)).size
            ·refine qh (h210.trans (cb q214))<|qw<|vK<|qg<|qO<|lp rfl (xm (.int .i64 x15_174) ((K209 15 rfl).trans h188))<|lp rfl (vz rfl rfl)<|lp rfl (xa (.int .i64 (IntKind.wrap .i64 (x15_174 + 1))) rfl)<|nx ?_
             obtain rfl:=si H
             exact ⟨_,Nat.lt_succ_self _,IntKind.wrap .i64 (x15_174 + 1),(ku3 (Kp.cut (ku3 (ku8 K185 rfl) rfl) K209 rfl) rfl),rfl,((((e186.t e194).t e199).t e204).t e211),S190⟩
          ·rintro s179 w178 ⟨K180,e181,y220⟩
           rw [y220] at C177
           have H:=C177
           replace H : _ = some _:=H
           refine vK<|qg<|wr<|lp rfl (xa (.slice none 0 0) rfl)<|lp rfl (xa (.int .i64 0) rfl)<|nx<|qr<|vc<|qv<|qv<|vc<|qv<|qv<|qy ?_
           obtain rfl:=si H
           obtain rfl:=si S75
           have H:=C62
           obtain rfl:=si H
           exact Q4 rfl rfl ((((((((((((((((e2.t e7).t e12).t e19).t e26).t e30).t e37).t e43).t e50).t e56).t e71).t e136).t e145).t e151).t e165).t e171).t e181) (Ow.zero (base:=w.heap.size)) (Nat.le_refl _)
         ·refine qh (cb q173)<|qw<|vK<|qg<|wr<|lp rfl (xa (.slice none 0 0) rfl)<|lp rfl (xa (.int .i64 0) rfl)<|nx<|qr<|vc<|qv<|qv<|vc<|qv<|qv<|qy ?_
          obtain rfl:=si H
          obtain rfl:=si S75
          have H:=C62
          obtain rfl:=si H
          exact Q4 rfl rfl (((((((((((((((e2.t e7).t e12).t e19).t e26).t e30).t e37).t e43).t e50).t e56).t e71).t e136).t e145).t e151).t e165).t e171) (Ow.zero (base:=w.heap.size)) (Nat.le_refl _)
    ·refine qh (cb q76)<|yc<|vm<|vm<|yV<|qg ?_
     obtain rfl:=si H
     obtain rfl:=si S75
     exact ⟨(ku1 K70 rfl),e71,rfl⟩
  ·rintro s64 w63 ⟨K65,e66,y221⟩
   rw [y221] at C62
   have H:=C62
   replace H : _ = some _:=H
   refine qg<|wr<|lp rfl (xa (.slice none 0 0) rfl)<|lp rfl (xa (.int .i64 18) rfl)<|nx<|qr<|qy ?_
   obtain rfl:=si H
   exact Q4 rfl rfl ((((((((((e2.t e7).t e12).t e19).t e26).t e30).t e37).t e43).t e50).t e56).t e66) (Ow.zero (base:=w.heap.size)) (Nat.le_refl _)
theorem vj.calls {w : World} {a0 : List Rec} {a1 : List Rec} (gv : GV 0 w) {v_a0 : Value} (f_a0 : Rd 5 qj w v_a0 a0) {v_a1 : Value} (f_a1 : Rd 5 qj w v_a1 a1) (h0 : a0.length≤1048576) (h1 : a1.length≤1048576) (h2 : ∀ x ∈ a0,x.path.length≤1048576) (h3 : ∀ x ∈ a1,x.path.length≤1048576) :
  Calls Tryz.prog 22 #[v_a0,v_a1] w (Rt (RT 91 4 qp w ((qD a0 a1).1) (.int .i64 ((qD a0 a1).2)))):=by
 obtain ⟨k,h⟩:=vj.eq a0 a1 h0 h1 h2 h3
 exact vj.walk gv f_a0 f_a1 h
/-! spec.l00Source -/
theorem vG.walk {w : World} {a0 : List Int} {v_a0 : Value} (f_a0 : Rd 1 (Go.UL.encI .u8) w v_a0 a0) {r : DSrc} (H : vG.sh a0 = some r) :
  Calls Tryz.prog 56 #[v_a0] w (Rt (RSN 128 v_a0 w r)):=by
 unfold vG.sh at H
 refine qi Tryz.func56 rfl (Nat.le_of_ble_eq_true rfl) Tryz.ntmps56 rfl ?_
 refine wr<|lp rfl (qA rfl)<|nx<|wr<|lp rfl (xm v_a0 rfl)<|lp rfl (xm v_a0 rfl)<|lp rfl (qS Tryz.underlying22 rfl f_a0)<|lp rfl (Xk rfl rfl (by decide))<|lp rfl (yZ (vs:=[(0,v_a0),(2,(.int .i64 ((a0.length : Int).tmod 1000)))]) (pl:=#[(0,1),(1,1),(2,1)]) Tryz.underlying128 Tryz.zeroValue128 rfl (fun _=>by kernel_rfl) rfl rfl (by obtain ⟨A9,c9,e9⟩:=Rd.shape f_a0; rw [e9]; rfl))<|Qq (.plain rfl) rfl (ltb rfl) rfl rfl<|fun b1 w2 z3 z4 e5 k6=>lp rfl (xa (.pointer (some ⟨b1,0,none⟩)) rfl)<|nx<|qr<|qy ?_
 obtain rfl:=si H
 exact fin1sn rfl e5 (Nat.le_trans (er).size (Nat.le_of_eq z3)) k6
theorem vG.calls {w : World} {a0 : List Int} {r : DSrc} {v_a0 : Value} (f_a0 : Rd 1 (Go.UL.encI .u8) w v_a0 a0) (H : (vG.sh a0) = some r) :
  Calls Tryz.prog 56 #[v_a0] w (Rt (RSN 128 v_a0 w r)):=vG.walk f_a0 (vG.eq a0 H)
end Go.Proofs.YtdhmlillkbjjjaaGreatDoor
