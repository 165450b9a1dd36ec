/- The walks,by program (wip/tools). -/
import Derived.Test.YtdhmlillkbjjjaaGreatDoorProg
import Derived.Test.YtdhmlillkbjjjaaGreatDoorKI
import Derived.Test.YtdhmlillkbjjjaaGreatDoorKJ
import Derived.Test.YtdhmlillkbjjjaaGreatDoorKL
import Derived.Test.YtdhmlillkbjjjaaGreatDoorvWB
set_option linter.unusedVariables false
set_option linter.unusedSimpArgs false
set_option maxRecDepth 10000
namespace Go.Proofs.YtdhmlillkbjjjaaGreatDoor
open Go.UL Go.RowKit
/-! (*spec.l00Src).byte -/
abbrev vn.e1 (a1 : DSrc):=(IntKind.wrap .i64 ((IntKind.wrap .i64 (a1.pos + 1)) - 1))
abbrev vn.e2 (a0 : List Int) (a1 : DSrc):=(IntKind.wrap .i64 ((IntKind.wrap .i64 (a1.seed * 31)) + (IntKind.wrap .i64 (gt a0 (vn.e1 a1)))))
theorem vn.walk {w : World} {a0 : List Int} {a1 : DSrc} {wc : World} {cv : Value} {bs : Nat} (kc : Ext wc w) (fc : Rd 1 (Go.UL.encI .u8) wc cv a0) (hz : wc.heap.size≤bs) (ks : Blk w bs (vR cv a1).toArray 128) {r : Int × DSrc} (H : vn.sh a0 a1 = some r) :
  Calls Tryz.prog 179 #[.pointer (some ⟨bs,0,none⟩)] w (Rt (RS 128 bs cv w (.int .i64 r.1) r.2)):=by
 unfold vn.sh at H
 refine qi Tryz.func179 rfl (Nat.le_of_ble_eq_true rfl) Tryz.ntmps179 rfl ?_
 refine wr<|lp rfl (xa (.int .i64 0) rfl)<|nx<|wr<|lp rfl (xm (.pointer (some ⟨bs,0,none⟩)) rfl)<|lp rfl (Yu rfl)<|lp rfl (qc Tryz.underlying128 rfl Tryz.sizeOf3 rfl rfl)<|lp rfl (qz Tryz.isAgg3 ks rfl rfl)<|lp rfl (vz rfl rfl)<|lp rfl (Yu rfl)<|lp rfl (qc Tryz.underlying128 rfl Tryz.sizeOf3 rfl rfl)<|Yf (.plain rfl) rfl rfl Tryz.sizeOf3 rfl rfl rfl ks (ltb rfl)<|fun w1 h2 k3=>nx<|qk<|qk ?_
 refine Yi [LEq (.pointer (some ⟨bs,0,none⟩)),LEq (.pointer (some ⟨bs,0,none⟩)),LEq (.pointer (some ⟨bs,1,none⟩)),LEq (.int .i64 (IntKind.wrap .i64 (a1.pos + 1))),LEq (.pointer (some ⟨bs,0,none⟩)),LEq (.pointer (some ⟨bs,0,none⟩)),LEq (.pointer (some ⟨bs,0,none⟩)),LRd 1 (Go.UL.encI .u8) a0,LEq (.int .i64 (a0.length : Int)),LEq (.bool (decide ((IntKind.wrap .i64 (a1.pos + 1))≤(a0.length : Int))))] (by kernel_rfl) (by kernel_rfl) ⟨qm,qm,qm,qm,qm,qm,qm,LRd.mono,qm,qm,trivial⟩ ⟨?_,?_,?_,?_,?_,?_,?_,?_,?_,?_,trivial⟩ ?_
 ·exact fun s x e f d u=>lp rfl (xm (.pointer (some ⟨bs,0,none⟩)) (f 0 rfl))<|se rfl rfl
 ·exact fun s x e f d u=>lp rfl (Yu (d 0 rfl))<|se rfl rfl
 ·exact fun s x e f d u=>lp rfl (qc Tryz.underlying128 rfl Tryz.sizeOf3 rfl (d 1 rfl))<|se rfl rfl
 ·exact fun s x e f d u=>lp rfl (qz Tryz.isAgg3 (Blk.ext k3 e) (d 2 rfl) rfl)<|se rfl rfl
 ·exact fun s x e f d u=>lp rfl (xm (.pointer (some ⟨bs,0,none⟩)) (f 0 rfl))<|se rfl rfl
 ·exact fun s x e f d u=>lp rfl (Yu (d 4 rfl))<|se rfl rfl
 ·exact fun s x e f d u=>lp rfl (qc Tryz.underlying128 rfl Tryz.sizeOf22 rfl (d 5 rfl))<|se rfl rfl
 ·exact fun s x e f d u=>lp rfl (qz Tryz.isAgg22 (Blk.ext k3 e) (d 6 rfl) rfl)<|se rfl (Rd.ext fc (Ext.trans (Below.trans kc (Below.mono (Wr.below h2 hz) (Nat.le_refl _))) e))
 ·intro s x e f d u
  have d4 : Rd 1 (Go.UL.encI .u8) x (s 17) a0:=(d 7 rfl)
  exact lp rfl (qS Tryz.underlying22 rfl d4)<|se rfl rfl
 ·exact fun s x e f d u=>lp rfl (JN (d 3 rfl) (d 8 rfl))<|se rfl rfl
 intro s5 w6 e7 hf8 ha9
 have K10:=Kp.ofD (kp:=[(10,20)]) rfl hf8
 have d11 : s5 19 = (.bool (decide ((IntKind.wrap .i64 (a1.pos + 1))≤(a0.length : Int)))):=ha9 9 rfl
 clear ha9 hf8
 refine qg ?_
 rcases qe H with ⟨q12,H⟩ | ⟨q12,H⟩
 ·refine ql (d11.trans (cb q12))<|qk ?_
  obtain ⟨c13,H⟩:=qa H
  refine W_dN 22 [LEq (.pointer (some ⟨bs,0,none⟩)),LEq (.pointer (some ⟨bs,0,none⟩)),LEq (.pointer (some ⟨bs,0,none⟩)),LEq (.pointer (some ⟨bs,2,none⟩)),LEq (.int .i64 a1.seed),LEq (.int .i64 (IntKind.wrap .i64 (a1.seed * 31))),LEq (.pointer (some ⟨bs,0,none⟩)),LEq (.pointer (some ⟨bs,0,none⟩)),LEq (.pointer (some ⟨bs,0,none⟩)),LRd 1 (Go.UL.encI .u8) a0,LEq (.pointer (some ⟨bs,0,none⟩)),LEq (.pointer (some ⟨bs,0,none⟩)),LEq (.pointer (some ⟨bs,1,none⟩)),LEq (.int .i64 (IntKind.wrap .i64 (a1.pos + 1))),LEq (.int .i64 (vn.e1 a1)),yv ((Go.UL.encI .u8) (gt a0 (vn.e1 a1))),LEq (.int .u8 (gt a0 (vn.e1 a1))),LEq (.int .i64 (IntKind.wrap .i64 (gt a0 (vn.e1 a1)))),LEq (.int .i64 (vn.e2 a0 a1)),LEq (.int .i64 (IntKind.wrap .i64 ((vn.e2 a0 a1) + 7))),LEq (.int .i64 ((IntKind.wrap .i64 ((vn.e2 a0 a1) + 7)).tmod 2147483648)),LEq (.pointer (some ⟨bs,0,none⟩))] (by kernel_rfl) (by kernel_rfl) (by kernel_rfl) ⟨qm,qm,qm,qm,qm,qm,qm,qm,qm,LRd.mono,qm,qm,qm,qm,qm,yv.mono,qm,qm,qm,qm,qm,qm,trivial⟩ ⟨?_,?_,?_,?_,?_,?_,?_,?_,?_,?_,?_,?_,?_,?_,?_,?_,?_,?_,?_,?_,?_,?_,trivial⟩ ?_
  ·exact fun s x e f d u=>lp rfl (xm (.pointer (some ⟨bs,0,none⟩)) ((f 0 rfl).trans (K10 0 rfl)))<|se rfl rfl
  ·exact fun s x e f d u=>lp rfl (xm (.pointer (some ⟨bs,0,none⟩)) ((f 0 rfl).trans (K10 0 rfl)))<|se rfl rfl
  ·exact fun s x e f d u=>lp rfl (Yu (d 1 rfl))<|se rfl rfl
  ·exact fun s x e f d u=>lp rfl (qc Tryz.underlying128 rfl Tryz.sizeOf3 rfl (d 2 rfl))<|se rfl rfl
  ·exact fun s x e f d u=>lp rfl (qz Tryz.isAgg3 (Blk.ext k3 (e7.t e)) (d 3 rfl) rfl)<|se rfl rfl
  ·exact fun s x e f d u=>lp rfl (X_mul (d 4 rfl) rfl)<|se rfl rfl
  ·exact fun s x e f d u=>lp rfl (xm (.pointer (some ⟨bs,0,none⟩)) ((f 0 rfl).trans (K10 0 rfl)))<|se rfl rfl
  ·exact fun s x e f d u=>lp rfl (Yu (d 6 rfl))<|se rfl rfl
  ·exact fun s x e f d u=>lp rfl (qc Tryz.underlying128 rfl Tryz.sizeOf22 rfl (d 7 rfl))<|se rfl rfl
  ·exact fun s x e f d u=>lp rfl (qz Tryz.isAgg22 (Blk.ext k3 (e7.t e)) (d 8 rfl) rfl)<|se rfl (Rd.ext fc (Ext.trans (Ext.trans (Below.trans kc (Below.mono (Wr.below h2 hz) (Nat.le_refl _))) e7) e))
  ·exact fun s x e f d u=>lp rfl (xm (.pointer (some ⟨bs,0,none⟩)) ((f 0 rfl).trans (K10 0 rfl)))<|se rfl rfl
  ·exact fun s x e f d u=>lp rfl (Yu (d 10 rfl))<|se rfl rfl
  ·exact fun s x e f d u=>lp rfl (qc Tryz.underlying128 rfl Tryz.sizeOf3 rfl (d 11 rfl))<|se rfl rfl
  ·exact fun s x e f d u=>lp rfl (qz Tryz.isAgg3 (Blk.ext k3 (e7.t e)) (d 12 rfl) rfl)<|se rfl rfl
  ·exact fun s x e f d u=>lp rfl (Q3 (d 13 rfl) rfl)<|se rfl rfl
  ·intro s x e f d u
   have d16 : Rd 1 (Go.UL.encI .u8) x (s 29) a0:=(d 9 rfl)
   exact vg (.plain rfl) rfl (ltb rfl) rfl Tryz.underlying22 Tryz.sizeOf5 rfl d16 (d 14 rfl) c13<|fun p18 h19=>se rfl ⟨_,rfl,h19⟩
  ·intro s x e f d u
   obtain ⟨p20,h21,h22⟩:=(d 15 rfl)
   exact lp rfl (y8 Tryz.isAgg5 h21 h22 rfl)<|se rfl rfl
  ·exact fun s x e f d u=>lp rfl (QZ Tryz.underlying5 Tryz.underlying3 (d 16 rfl))<|se rfl rfl
  ·exact fun s x e f d u=>lp rfl (vz (d 5 rfl) (d 17 rfl))<|se rfl rfl
  ·exact fun s x e f d u=>lp rfl (vz (d 18 rfl) rfl)<|se rfl rfl
  ·exact fun s x e f d u=>lp rfl (Xk (d 19 rfl) rfl (by decide))<|se rfl rfl
  ·exact fun s x e f d u=>lp rfl (Yu (d 0 rfl))<|se rfl rfl
  intro s23 w24 e25 hf26 ha27
  have K28:=Kp.ofD (kp:=[(20,42)]) rfl hf26
  have d29 : s23 40 = (.int .i64 ((IntKind.wrap .i64 ((vn.e2 a0 a1) + 7)).tmod 2147483648)):=ha27 20 rfl
  have d30 : s23 41 = (.pointer (some ⟨bs,0,none⟩)):=ha27 21 rfl
  clear ha27 hf26
  refine lp rfl (qc Tryz.underlying128 rfl Tryz.sizeOf3 rfl d30)<|Yf (.plain rfl) rfl rfl Tryz.sizeOf3 rfl d29 rfl (Blk.ext k3 (e7.t e25)) (ltb rfl)<|fun w31 h32 k33=>nx<|qk ?_
  obtain ⟨c34,H⟩:=qa H
  refine Yi [LEq (.pointer (some ⟨bs,0,none⟩)),LEq (.pointer (some ⟨bs,0,none⟩)),LEq (.pointer (some ⟨bs,0,none⟩)),LRd 1 (Go.UL.encI .u8) a0,LEq (.pointer (some ⟨bs,0,none⟩)),LEq (.pointer (some ⟨bs,0,none⟩)),LEq (.pointer (some ⟨bs,1,none⟩)),LEq (.int .i64 (IntKind.wrap .i64 (a1.pos + 1))),LEq (.int .i64 (vn.e1 a1)),yv ((Go.UL.encI .u8) (gt a0 (vn.e1 a1))),LEq (.int .u8 (gt a0 (vn.e1 a1))),LEq (.int .i64 (IntKind.wrap .i64 (gt a0 (vn.e1 a1)))),LEq (.int .i64 (IntKind.wrap .i64 (gt a0 (vn.e1 a1))))] (by kernel_rfl) (by kernel_rfl) ⟨qm,qm,qm,LRd.mono,qm,qm,qm,qm,qm,yv.mono,qm,qm,qm,trivial⟩ ⟨?_,?_,?_,?_,?_,?_,?_,?_,?_,?_,?_,?_,?_,trivial⟩ ?_
  ·exact fun s x e f d u=>lp rfl (xm (.pointer (some ⟨bs,0,none⟩)) ((f 0 rfl).trans ((K28 0 rfl).trans (K10 0 rfl))))<|se rfl rfl
  ·exact fun s x e f d u=>lp rfl (Yu (d 0 rfl))<|se rfl rfl
  ·exact fun s x e f d u=>lp rfl (qc Tryz.underlying128 rfl Tryz.sizeOf22 rfl (d 1 rfl))<|se rfl rfl
  ·exact fun s x e f d u=>lp rfl (qz Tryz.isAgg22 (Blk.ext k33 e) (d 2 rfl) rfl)<|se rfl (Rd.ext fc (Ext.trans (Below.trans (Ext.trans (Ext.trans (Below.trans kc (Below.mono (Wr.below h2 hz) (Nat.le_refl _))) e7) e25) (Below.mono (Wr.below h32 hz) (Nat.le_refl _))) e))
  ·exact fun s x e f d u=>lp rfl (xm (.pointer (some ⟨bs,0,none⟩)) ((f 0 rfl).trans ((K28 0 rfl).trans (K10 0 rfl))))<|se rfl rfl
  ·exact fun s x e f d u=>lp rfl (Yu (d 4 rfl))<|se rfl rfl
  ·exact fun s x e f d u=>lp rfl (qc Tryz.underlying128 rfl Tryz.sizeOf3 rfl (d 5 rfl))<|se rfl rfl
  ·exact fun s x e f d u=>lp rfl (qz Tryz.isAgg3 (Blk.ext k33 e) (d 6 rfl) rfl)<|se rfl rfl
  ·exact fun s x e f d u=>lp rfl (Q3 (d 7 rfl) rfl)<|se rfl rfl
  ·intro s x e f d u
   have d37 : Rd 1 (Go.UL.encI .u8) x (s 46) a0:=(d 3 rfl)
   exact vg (.plain rfl) rfl (ltb rfl) rfl Tryz.underlying22 Tryz.sizeOf5 rfl d37 (d 8 rfl) c34<|fun p39 h40=>se rfl ⟨_,rfl,h40⟩
  ·intro s x e f d u
   obtain ⟨p41,h42,h43⟩:=(d 9 rfl)
   exact lp rfl (y8 Tryz.isAgg5 h42 h43 rfl)<|se rfl rfl
  ·exact fun s x e f d u=>lp rfl (QZ Tryz.underlying5 Tryz.underlying3 (d 10 rfl))<|se rfl rfl
  ·exact fun s x e f d u=>lp rfl (qA (d 11 rfl))<|se rfl rfl
  intro s44 w45 e46 hf47 ha48
  have K49:=Kp.ofD (kp:=[(2,3),(43,55)]) rfl hf47
  have d50 : s44 2 = (.int .i64 (IntKind.wrap .i64 (gt a0 (vn.e1 a1)))):=ha48 12 rfl
  clear ha48 hf47
  refine qg<|qr<|qv<|qy ?_
  obtain rfl:=si H
  exact Y6 d50 (Gr.trans (Gr.trans (Gr.trans (Gr.trans (Gr.ofWr h2) (Gr.ext e7)) (Gr.ext e25)) (Gr.ofWr h32)) (Gr.ext e46)) (Blk.ext k33 e46)
 ·refine qh (d11.trans (cb q12))<|qw<|qg<|qk<|wr<|lp rfl (xm (.pointer (some ⟨bs,0,none⟩)) (K10 0 rfl))<|lp rfl (Yu rfl)<|lp rfl (qc Tryz.underlying128 rfl Tryz.sizeOf3 rfl rfl)<|lp rfl (qz Tryz.isAgg3 (Blk.ext k3 e7) rfl rfl)<|lp rfl (j8 rfl rfl)<|nx ?_
  rcases qe H with ⟨q51,H⟩ | ⟨q51,H⟩
  ·refine ql (cb q51)<|wr<|lp rfl (xa (.int .i64 0) rfl)<|nx<|qr<|qv<|qy ?_
   obtain rfl:=si H
   exact Y6 rfl (Gr.trans (Gr.ofWr h2) (Gr.ext e7)) (Blk.ext k3 e7)
  ·refine qh (cb q51)<|qw<|qg<|wr<|lp rfl (xm (.pointer (some ⟨bs,0,none⟩)) (K10 0 rfl))<|lp rfl (xm (.pointer (some ⟨bs,0,none⟩)) (K10 0 rfl))<|lp rfl (Yu rfl)<|lp rfl (qc Tryz.underlying128 rfl Tryz.sizeOf3 rfl rfl)<|lp rfl (qz Tryz.isAgg3 (Blk.ext k3 e7) rfl rfl)<|lp rfl (X_mul rfl rfl)<|lp rfl (vz rfl rfl)<|lp rfl (Xk rfl rfl (by decide))<|lp rfl (Yu rfl)<|lp rfl (qc Tryz.underlying128 rfl Tryz.sizeOf3 rfl rfl)<|Yf (.plain rfl) rfl rfl Tryz.sizeOf3 rfl rfl rfl (Blk.ext k3 e7) (ltb rfl)<|fun w52 h53 k54=>nx<|wr<|lp rfl (xm (.pointer (some ⟨bs,0,none⟩)) (K10 0 rfl))<|lp rfl (Yu rfl)<|lp rfl (qc Tryz.underlying128 rfl Tryz.sizeOf3 rfl rfl)<|lp rfl (qz Tryz.isAgg3 k54 rfl rfl)<|lp rfl (X_quo rfl rfl (by decide))<|lp rfl (Xk rfl rfl (by decide))<|lp rfl (qA rfl)<|nx<|qr<|qy ?_
   obtain rfl:=si H
   exact Y6 rfl (Gr.trans (Gr.trans (Gr.ofWr h2) (Gr.ext e7)) (Gr.ofWr h53)) k54
theorem vn.calls {w : World} {a0 : List Int} {a1 : DSrc} {r : Int × DSrc} {wc : World} {cv : Value} {bs : Nat} (kc : Ext wc w) (fc : Rd 1 (Go.UL.encI .u8) wc cv a0) (hz : wc.heap.size≤bs) (ks : Blk w bs (vR cv a1).toArray 128) (H : (vn.sh a0 a1) = some r) :
  Calls Tryz.prog 179 #[.pointer (some ⟨bs,0,none⟩)] w (Rt (RS 128 bs cv w (.int .i64 r.1) r.2)):=vn.walk kc fc hz ks (vn.eq a0 a1 H)
/-! (*spec.l00Src).next -/
theorem vv.walk {w : World} {a0 : List Int} {a1 : DSrc} {a2 : Int} {wc : World} {cv : Value} {bs : Nat} (kc : Ext wc w) (fc : Rd 1 (Go.UL.encI .u8) wc cv a0) (hz : wc.heap.size≤bs) (ks : Blk w bs (vR cv a1).toArray 128) {r : Int × DSrc} (H : vv.sh a0 a1 a2 = some r) :
  Calls Tryz.prog 115 #[.pointer (some ⟨bs,0,none⟩),.int .i64 a2] w (Rt (RS 128 bs cv w (.int .i64 r.1) r.2)):=by
 unfold vv.sh at H
 refine qi Tryz.func115 rfl (Nat.le_of_ble_eq_true rfl) Tryz.ntmps115 rfl ?_
 refine wr<|lp rfl (xa (.int .i64 0) rfl)<|nx<|qk<|wr<|lp rfl (xm (.int .i64 a2) rfl)<|lp rfl (JN rfl rfl)<|nx ?_
 rcases qe H with ⟨q1,H⟩ | ⟨q1,H⟩
 ·refine ql (cb q1)<|wr<|lp rfl (xa (.int .i64 0) rfl)<|nx<|qr<|qv<|qy ?_
  obtain rfl:=si H
  exact Y6 rfl (Gr.refl _ _ _) ks
 ·refine qh (cb q1)<|qw<|qg<|qk<|wr<|lp rfl (xm (.int .i64 a2) rfl)<|lp rfl (JN rfl rfl)<|nx ?_
  rcases qe H with ⟨q2,H⟩ | ⟨q2,H⟩
  ·refine ql (cb q2)<|wr<|lp rfl (xm (.pointer (some ⟨bs,0,none⟩)) rfl) ?_
   obtain ⟨z3,x4,H⟩:=bind_some H
   refine yS (.plain rfl) rfl (ltb rfl) rfl Tryz.call179 (vn.calls (w:=w) (a0:=a0) (a1:=a1) kc fc hz ks x4) rfl<|fun w7 g8 k9=>lp rfl (xm (.int .i64 a2) rfl) ?_
   obtain ⟨c10,H⟩:=qa H
   refine lp rfl (Xk rfl rfl (od c10))<|lp rfl (xa (.int .i64 (z3.1.tmod a2)) rfl)<|nx<|qr<|qv<|qy ?_
   obtain rfl:=si H
   exact Y6 rfl g8 k9
  ·refine qh (cb q2)<|qw<|qg<|wr<|lp rfl (xm (.pointer (some ⟨bs,0,none⟩)) rfl) ?_
   obtain ⟨z11,x12,H⟩:=bind_some H
   refine yS (.plain rfl) rfl (ltb rfl) rfl Tryz.call179 (vn.calls (w:=w) (a0:=a0) (a1:=a1) kc fc hz ks x12) rfl<|fun w15 g16 k17=>lp rfl (xa (.int .i64 z11.1) rfl)<|nx<|wr<|lp rfl (xm (.pointer (some ⟨bs,0,none⟩)) rfl) ?_
   obtain ⟨z18,x19,H⟩:=bind_some H
   refine yS (.plain rfl) rfl (ltb rfl) rfl Tryz.call179 (vn.calls (w:=w15) (a0:=a0) (a1:=z11.2) (Ext.gr kc g16 hz) fc hz k17 x19) rfl<|fun w22 g23 k24=>lp rfl (xa (.int .i64 z18.1) rfl)<|nx<|wr<|lp rfl (xm (.pointer (some ⟨bs,0,none⟩)) rfl) ?_
   obtain ⟨z25,x26,H⟩:=bind_some H
   refine yS (.plain rfl) rfl (ltb rfl) rfl Tryz.call179 (vn.calls (w:=w22) (a0:=a0) (a1:=z18.2) (Ext.gr (Ext.gr kc g16 hz) g23 hz) fc hz k24 x26) rfl<|fun w29 g30 k31=>lp rfl (xa (.int .i64 z25.1) rfl)<|nx<|wr<|lp rfl (xm (.int .i64 z11.1) rfl)<|lp rfl (X_mul rfl rfl)<|lp rfl (xm (.int .i64 z18.1) rfl)<|lp rfl (X_mul rfl rfl)<|lp rfl (vz rfl rfl)<|lp rfl (xm (.int .i64 z25.1) rfl)<|lp rfl (vz rfl rfl)<|lp rfl (xm (.int .i64 a2) rfl) ?_
   obtain ⟨c32,H⟩:=qa H
   refine lp rfl (Xk rfl rfl (od c32))<|lp rfl (qA rfl)<|nx<|qr<|qy ?_
   obtain rfl:=si H
   exact Y6 rfl (Gr.trans (Gr.trans g16 g23) g30) k31
theorem vv.calls {w : World} {a0 : List Int} {a1 : DSrc} {a2 : Int} {r : Int × DSrc} {wc : World} {cv : Value} {bs : Nat} (kc : Ext wc w) (fc : Rd 1 (Go.UL.encI .u8) wc cv a0) (hz : wc.heap.size≤bs) (ks : Blk w bs (vR cv a1).toArray 128) (H : (vv.sh a0 a1 a2) = some r) :
  Calls Tryz.prog 115 #[.pointer (some ⟨bs,0,none⟩),.int .i64 a2] w (Rt (RS 128 bs cv w (.int .i64 r.1) r.2)):=vv.walk kc fc hz ks (vv.eq a0 a1 a2 H)
/-! (*spec.l00Src).chance -/
theorem yU.walk {w : World} {a0 : List Int} {a1 : DSrc} {a2 : Int} {wc : World} {cv : Value} {bs : Nat} (kc : Ext wc w) (fc : Rd 1 (Go.UL.encI .u8) wc cv a0) (hz : wc.heap.size≤bs) (ks : Blk w bs (vR cv a1).toArray 128) {r : Bool × DSrc} (H : yU.sh a0 a1 a2 = some r) :
  Calls Tryz.prog 189 #[.pointer (some ⟨bs,0,none⟩),.int .i64 a2] w (Rt (RS 128 bs cv w (.bool r.1) r.2)):=by
 unfold yU.sh at H
 refine qi Tryz.func189 rfl (Nat.le_of_ble_eq_true rfl) Tryz.ntmps189 rfl ?_
 refine wr<|lp rfl (xa (.bool false) rfl)<|nx<|wr<|lp rfl (xm (.pointer (some ⟨bs,0,none⟩)) rfl)<|lp rfl (xm (.int .i64 a2) rfl) ?_
 obtain ⟨z1,x2,H⟩:=bind_some H
 refine yS (.plain rfl) rfl (ltb rfl) rfl Tryz.call115 (vv.calls (w:=w) (a0:=a0) (a1:=a1) (a2:=a2) kc fc hz ks x2) rfl<|fun w5 g6 k7=>lp rfl (xm (.int .i64 a2) rfl)<|lp rfl (Q3 rfl rfl)<|lp rfl (vx rfl rfl)<|lp rfl (xa (.bool (decide (z1.1 = (IntKind.wrap .i64 (a2 - 1))))) rfl)<|nx<|qr<|qy ?_
 obtain rfl:=si H
 exact Y6 rfl g6 k7
theorem yU.calls {w : World} {a0 : List Int} {a1 : DSrc} {a2 : Int} {r : Bool × DSrc} {wc : World} {cv : Value} {bs : Nat} (kc : Ext wc w) (fc : Rd 1 (Go.UL.encI .u8) wc cv a0) (hz : wc.heap.size≤bs) (ks : Blk w bs (vR cv a1).toArray 128) (H : (yU.sh a0 a1 a2) = some r) :
  Calls Tryz.prog 189 #[.pointer (some ⟨bs,0,none⟩),.int .i64 a2] w (Rt (RS 128 bs cv w (.bool r.1) r.2)):=yU.walk kc fc hz ks (yU.eq a0 a1 a2 H)
/-! (*spec.l00Src).room -/
theorem jq.walk {w : World} {a0 : List Int} {a1 : DSrc} {a2 : Int} {wc : World} {cv : Value} {bs : Nat} (kc : Ext wc w) (fc : Rd 1 (Go.UL.encI .u8) wc cv a0) (hz : wc.heap.size≤bs) (ks : Blk w bs (vR cv a1).toArray 128) {r : Int × DSrc} (H : jq.sh a0 a1 a2 = some r) :
  Calls Tryz.prog 127 #[.pointer (some ⟨bs,0,none⟩),.int .i64 a2] w (Rt (RS 128 bs cv w (.int .i64 r.1) r.2)):=by
 unfold jq.sh at H
 refine qi Tryz.func127 rfl (Nat.le_of_ble_eq_true rfl) Tryz.ntmps127 rfl ?_
 refine wr<|lp rfl (xa (.int .i64 0) rfl)<|nx<|wr<|lp rfl (xm (.pointer (some ⟨bs,0,none⟩)) rfl)<|lp rfl (Yu rfl)<|lp rfl (qc Tryz.underlying128 rfl Tryz.sizeOf22 rfl rfl)<|lp rfl (qz Tryz.isAgg22 ks rfl rfl)<|lp rfl (qS Tryz.underlying22 rfl (Rd.ext fc kc))<|lp rfl (X_quo rfl rfl (by decide))<|lp rfl (vz rfl rfl)<|lp rfl (xm (.int .i64 a2) rfl)<|lp rfl (X_min rfl rfl)<|lp rfl (qA rfl)<|nx<|qr<|qy ?_
 obtain rfl:=si H
 exact Y6 rfl (Gr.refl _ _ _) ks
theorem jq.calls {w : World} {a0 : List Int} {a1 : DSrc} {a2 : Int} {r : Int × DSrc} {wc : World} {cv : Value} {bs : Nat} (kc : Ext wc w) (fc : Rd 1 (Go.UL.encI .u8) wc cv a0) (hz : wc.heap.size≤bs) (ks : Blk w bs (vR cv a1).toArray 128) (H : (jq.sh a0 a1 a2) = some r) :
  Calls Tryz.prog 127 #[.pointer (some ⟨bs,0,none⟩),.int .i64 a2] w (Rt (RS 128 bs cv w (.int .i64 r.1) r.2)):=jq.walk kc fc hz ks (jq.eq a0 a1 a2 H)
/-! (*spec.l00Src).pick -/
theorem y5.walk {w : World} {a0 : List Int} {a1 : DSrc} {a2 : List (List UInt8)} {wc : World} {cv : Value} {bs : Nat} (kc : Ext wc w) (fc : Rd 1 (Go.UL.encI .u8) wc cv a0) (hz : wc.heap.size≤bs) (ks : Blk w bs (vR cv a1).toArray 128) {v_a2 : Value} {B_a2 : Nat} (o_a2 : Ow 9 1 y4 B_a2 w v_a2 a2) (l_a2 : bs + 1≤B_a2) {r : List UInt8 × DSrc} (H : y5.sh a0 a1 a2 = some r) :
  Calls Tryz.prog 188 #[.pointer (some ⟨bs,0,none⟩),v_a2] w (Rt (RS 128 bs cv w (S r.1) r.2)):=by
 unfold y5.sh at H
 refine qi Tryz.func188 rfl (Nat.le_of_ble_eq_true rfl) Tryz.ntmps188 rfl ?_
 refine wr<|lp rfl (xa (S ([] : List UInt8)) rfl)<|nx<|qk<|wr<|lp rfl (xm v_a2 rfl)<|lp rfl (qS Tryz.underlying44 rfl (Ow.rd o_a2))<|lp rfl (vx rfl rfl)<|nx ?_
 rcases qe H with ⟨q1,H⟩ | ⟨q1,H⟩
 ·refine ql (cb q1)<|wr<|lp rfl (xa (S ([] : List UInt8)) rfl)<|nx<|qr<|qv<|qy ?_
  obtain rfl:=si H
  exact Y6 rfl (Gr.refl _ _ _) ks
 ·refine qh (cb q1)<|qw<|qg<|wr<|lp rfl (xm v_a2 rfl)<|lp rfl (xm (.pointer (some ⟨bs,0,none⟩)) rfl)<|lp rfl (xm v_a2 rfl)<|lp rfl (qS Tryz.underlying44 rfl (Ow.rd o_a2)) ?_
  obtain ⟨z2,x3,H⟩:=bind_some H
  refine yS (.plain rfl) rfl (ltb rfl) rfl Tryz.call115 (vv.calls (w:=w) (a0:=a0) (a1:=a1) (a2:=(a2.length : Int)) kc fc hz ks x3) rfl<|fun w6 g7 k8=>?_
  obtain ⟨c9,H⟩:=qa H
  refine vg (.plain rfl) rfl (ltb rfl) rfl Tryz.underlying44 Tryz.sizeOf9 rfl (Ow.rd (Ow.later o_a2 g7 l_a2)) rfl c9<|fun p10 h11=>lp rfl (y8 Tryz.isAgg9 rfl h11 rfl)<|lp rfl (xa (S (gt a2 z2.1)) rfl)<|nx<|qr<|qy ?_
  obtain rfl:=si H
  exact Y6 rfl g7 k8
theorem y5.calls {w : World} {a0 : List Int} {a1 : DSrc} {a2 : List (List UInt8)} {r : List UInt8 × DSrc} {wc : World} {cv : Value} {bs : Nat} (kc : Ext wc w) (fc : Rd 1 (Go.UL.encI .u8) wc cv a0) (hz : wc.heap.size≤bs) (ks : Blk w bs (vR cv a1).toArray 128) {v_a2 : Value} {B_a2 : Nat} (o_a2 : Ow 9 1 y4 B_a2 w v_a2 a2) (l_a2 : bs + 1≤B_a2) (H : (y5.sh a0 a1 a2) = some r) :
  Calls Tryz.prog 188 #[.pointer (some ⟨bs,0,none⟩),v_a2] w (Rt (RS 128 bs cv w (S r.1) r.2)):=y5.walk kc fc hz ks o_a2 l_a2 (y5.eq a0 a1 a2 H)
/-! (*spec.l00Src).part -/
theorem yB.walk {w : World} {a0 : List Int} {a1 : DSrc} {wc : World} {cv : Value} {bs : Nat} (kc : Ext wc w) (fc : Rd 1 (Go.UL.encI .u8) wc cv a0) (hz : wc.heap.size≤bs) (ks : Blk w bs (vR cv a1).toArray 128) {r : List UInt8 × DSrc} (H : yB.sh a0 a1 = some r) :
  Calls Tryz.prog 190 #[.pointer (some ⟨bs,0,none⟩)] w (Rt (RS 128 bs cv w (S r.1) r.2)):=by
 unfold yB.sh at H
 refine qi Tryz.func190 rfl (Nat.le_of_ble_eq_true rfl) Tryz.ntmps190 rfl ?_
 refine wr<|lp rfl (xa (S ([] : List UInt8)) rfl)<|nx<|wr<|lp rfl (xm (.pointer (some ⟨bs,0,none⟩)) rfl)<|yt (.plain rfl) rfl (ltb rfl) rfl Tryz.underlying44 Tryz.sizeOf9 Tryz.zeroValue9 rfl rfl rfl (vs:=[(S ([97] : List UInt8)),(S ([98] : List UInt8)),(S ([99] : List UInt8)),(S ([97,46,98] : List UInt8)),(S ([120] : List UInt8))]) rfl (qX rfl)<|fun b1 w2 z3 z4 e5 k6=>?_
 obtain ⟨z7,x8,H⟩:=bind_some H
 refine yS (.plain rfl) rfl (ltb rfl) rfl Tryz.call188 (y5.calls (w:=w2) (a0:=a0) (a1:=a1) (a2:=yB.lit1) (Ext.trans kc e5) fc hz (Blk.ext ks e5) (Ow.new (xs:=yB.lit1) (sz:=1) (enc:=y4) (base:=w.heap.size) k6 (Nat.le_of_eq z3) rfl (fun _ _=>rfl) (Nat.le_of_ble_eq_true rfl)) (Nat.le_trans (Blk.lt ks) (Nat.le_refl _)) x8) rfl<|fun w11 g12 k13=>lp rfl (xa (S z7.1) rfl)<|nx<|qr<|qy ?_
 obtain rfl:=si H
 exact Y6 rfl (Gr.trans (Gr.ext e5) g12) k13
theorem yB.calls {w : World} {a0 : List Int} {a1 : DSrc} {r : List UInt8 × DSrc} {wc : World} {cv : Value} {bs : Nat} (kc : Ext wc w) (fc : Rd 1 (Go.UL.encI .u8) wc cv a0) (hz : wc.heap.size≤bs) (ks : Blk w bs (vR cv a1).toArray 128) (H : (yB.sh a0 a1) = some r) :
  Calls Tryz.prog 190 #[.pointer (some ⟨bs,0,none⟩)] w (Rt (RS 128 bs cv w (S r.1) r.2)):=yB.walk kc fc hz ks (yB.eq a0 a1 H)
/-! (*spec.l00Src).path -/
theorem yy.walk {k : Nat} {w : World} {a0 : List Int} {a1 : DSrc} {wc : World} {cv : Value} {bs : Nat} (kc : Ext wc w) (fc : Rd 1 (Go.UL.encI .u8) wc cv a0) (hz : wc.heap.size≤bs) (ks : Blk w bs (vR cv a1).toArray 128) {r : List UInt8 × DSrc} (H : yy.sh k a0 a1 = some r) :
  Calls Tryz.prog 130 #[.pointer (some ⟨bs,0,none⟩)] w (Rt (RS 128 bs cv w (S r.1) r.2)):=by
 unfold yy.sh at H
 refine qi Tryz.func130 rfl (Nat.le_of_ble_eq_true rfl) Tryz.ntmps130 rfl ?_
 refine wr<|lp rfl (xa (S ([] : List UInt8)) rfl)<|nx<|wr<|lp rfl (xm (.pointer (some ⟨bs,0,none⟩)) rfl) ?_
 obtain ⟨z1,x2,H⟩:=bind_some H
 refine yS (.plain rfl) rfl (ltb rfl) rfl Tryz.call190 (yB.calls (w:=w) (a0:=a0) (a1:=a1) kc fc hz ks x2) rfl<|fun w5 g6 k7=>lp rfl (xa (S z1.1) rfl)<|nx<|qk<|wr<|lp rfl (xm (.pointer (some ⟨bs,0,none⟩)) rfl) ?_
 obtain ⟨z8,x9,H⟩:=bind_some H
 refine yS (.plain rfl) rfl (ltb rfl) rfl Tryz.call115 (vv.calls (w:=w5) (a0:=a0) (a1:=z1.2) (a2:=3) (Ext.gr kc g6 hz) fc hz k7 x9) rfl<|fun w12 g13 k14=>lp rfl (xa (.int .i64 z8.1) rfl)<|nx ?_
 obtain ⟨z18,L19,C20⟩:=bind_some H
 clear H
 refine  vT (fun s0 sQ wQ=>∃ (x3_21 : List UInt8) (y22 : DSrc),Kp [(3,5),(9,18)] s0 sQ∧sQ 3 = S x3_21∧Blk wQ bs ((vR cv) y22).toArray 128∧Gr bs (bs + 1) w12 wQ∧Ext wc wQ∧z18 = .inr (x3_21,y22)) ?_ ?_
 ·refine qF<|vA (fun s0 kk sQ wQ=>∃ (x3_15 : List UInt8) (x4_16 : Int) (y17 : DSrc),Kp [(3,5),(9,18)] s0 sQ∧sQ 3 = S x3_15∧sQ 4 = .int .i64 x4_16∧Blk wQ bs ((vR cv) y17).toArray 128∧Gr bs (bs + 1) w12 wQ∧Ext wc wQ∧qt (yy.b1 a0) kk (x3_15,x4_16,y17) = some z18) k ⟨z1.1,z8.1,z8.2,kz,rfl,rfl,k14,(Gr.refl _ _ _),(Ext.gr (Ext.gr kc g6 hz) g13 hz),L19⟩ ?_
  rintro k27 s28 w29 ⟨x3_15,x4_16,y17,K30,h33,h34,h35,e31,e31c,L32⟩
  cases k27 with
  | zero=>exact absurd L32 (by simp [qt])
  | succ k27=>
   obtain ⟨t36,H,S37⟩:=qQ L32
   clear L32
   unfold yy.b1 at H
   refine qk<|wr<|lp rfl (qf h34)<|lp rfl (j8 rfl rfl)<|nx ?_
   rcases qe H with ⟨q38,H⟩ | ⟨q38,H⟩
   ·refine ql (cb q38)<|qw<|qg<|qk<|qF<|qO<|lp rfl (qf h33)<|lp rfl (xm (.pointer (some ⟨bs,0,none⟩)) (K30 0 rfl)) ?_
    obtain ⟨z39,x40,H⟩:=bind_some H
    refine yS (.plain rfl) rfl (ltb rfl) rfl Tryz.call190 (yB.calls (w:=w29) (a0:=a0) (a1:=y17) e31c fc hz h35 x40) rfl<|fun w43 g44 k45=>?_
    obtain ⟨c46,H⟩:=qa H
    refine lp rfl (Y2 rfl rfl (od c46)) ?_
    obtain ⟨c47,H⟩:=qa H
    refine lp rfl (Y2 rfl rfl (od c47))<|lp rfl (xa (S (x3_15 ++ (([47] : List UInt8) ++ z39.1))) rfl)<|qP<|vK<|qg<|qO<|lp rfl (qf h34)<|lp rfl (Q3 rfl rfl)<|lp rfl (xa (.int .i64 (IntKind.wrap .i64 (x4_16 - 1))) rfl)<|nx ?_
    obtain rfl:=si H
    exact ⟨_,Nat.lt_succ_self _,x3_15 ++ (([47] : List UInt8) ++ z39.1),IntKind.wrap .i64 (x4_16 - 1),z39.2,(ku3 (ku8 K30 rfl) rfl),rfl,rfl,k45,(Gr.trans e31 g44),(Ext.gr e31c g44 hz),S37⟩
   ·refine qh (cb q38)<|yc<|vm<|vm<|yV<|qg ?_
    obtain rfl:=si H
    obtain rfl:=si S37
    exact ⟨x3_15,y17,(ku2 K30 rfl),h33,h35,e31,e31c,rfl⟩
 ·rintro s24 w23 ⟨x3_21,y22,K25,h48,h49,e26,e26c,y50⟩
  rw [y50] at C20
  have H:=C20
  replace H : _ = some _:=H
  refine qg<|wr<|lp rfl (qf h48)<|lp rfl (xa (S x3_21) rfl)<|nx<|qr<|qy ?_
  obtain rfl:=si H
  exact Y6 rfl (Gr.trans (Gr.trans g6 g13) e26) h49
theorem yy.calls {w : World} {a0 : List Int} {a1 : DSrc} {r : List UInt8 × DSrc} {wc : World} {cv : Value} {bs : Nat} (kc : Ext wc w) (fc : Rd 1 (Go.UL.encI .u8) wc cv a0) (hz : wc.heap.size≤bs) (ks : Blk w bs (vR cv a1).toArray 128) (H : (yy.sh 4 a0 a1) = some r) :
  Calls Tryz.prog 130 #[.pointer (some ⟨bs,0,none⟩)] w (Rt (RS 128 bs cv w (S r.1) r.2)):=by
 obtain ⟨k,h⟩:=yy.eq a0 a1 H
 exact yy.walk kc fc hz ks h
/-! (*spec.l00Src).body -/
theorem yI.walk {w : World} {a0 : List Int} {a1 : DSrc} {wc : World} {cv : Value} {bs : Nat} (kc : Ext wc w) (fc : Rd 1 (Go.UL.encI .u8) wc cv a0) (hz : wc.heap.size≤bs) (ks : Blk w bs (vR cv a1).toArray 128) {r : List UInt8 × DSrc} (H : yI.sh a0 a1 = some r) :
  Calls Tryz.prog 187 #[.pointer (some ⟨bs,0,none⟩)] w (Rt (RS 128 bs cv w (S r.1) r.2)):=by
 unfold yI.sh at H
 refine qi Tryz.func187 rfl (Nat.le_of_ble_eq_true rfl) Tryz.ntmps187 rfl ?_
 refine wr<|lp rfl (xa (S ([] : List UInt8)) rfl)<|nx<|wr<|lp rfl (xm (.pointer (some ⟨bs,0,none⟩)) rfl)<|yt (.plain rfl) rfl (ltb rfl) rfl Tryz.underlying44 Tryz.sizeOf9 Tryz.zeroValue9 rfl rfl rfl (vs:=[(S ([] : List UInt8)),(S ([111,110,101] : List UInt8)),(S ([116,119,111] : List UInt8)),(S ([120,0,121] : List UInt8)),(S ([108,111,110,103,32,108,111,110,103,32,98,111,100,121,32,104,101,114,101,33] : List UInt8))]) rfl (qX rfl)<|fun b1 w2 z3 z4 e5 k6=>?_
 obtain ⟨z7,x8,H⟩:=bind_some H
 refine yS (.plain rfl) rfl (ltb rfl) rfl Tryz.call188 (y5.calls (w:=w2) (a0:=a0) (a1:=a1) (a2:=yI.lit1) (Ext.trans kc e5) fc hz (Blk.ext ks e5) (Ow.new (xs:=yI.lit1) (sz:=1) (enc:=y4) (base:=w.heap.size) k6 (Nat.le_of_eq z3) rfl (fun _ _=>rfl) (Nat.le_of_ble_eq_true rfl)) (Nat.le_trans (Blk.lt ks) (Nat.le_refl _)) x8) rfl<|fun w11 g12 k13=>lp rfl (xa (S z7.1) rfl)<|nx<|qr<|qy ?_
 obtain rfl:=si H
 exact Y6 rfl (Gr.trans (Gr.ext e5) g12) k13
theorem yI.calls {w : World} {a0 : List Int} {a1 : DSrc} {r : List UInt8 × DSrc} {wc : World} {cv : Value} {bs : Nat} (kc : Ext wc w) (fc : Rd 1 (Go.UL.encI .u8) wc cv a0) (hz : wc.heap.size≤bs) (ks : Blk w bs (vR cv a1).toArray 128) (H : (yI.sh a0 a1) = some r) :
  Calls Tryz.prog 187 #[.pointer (some ⟨bs,0,none⟩)] w (Rt (RS 128 bs cv w (S r.1) r.2)):=yI.walk kc fc hz ks (yI.eq a0 a1 H)
/-! (*spec.l00Src).record -/
theorem yx.walk {w : World} {a0 : List Int} {a1 : DSrc} {a2 : List UInt8} {wc : World} {cv : Value} {bs : Nat} (kc : Ext wc w) (fc : Rd 1 (Go.UL.encI .u8) wc cv a0) (hz : wc.heap.size≤bs) (ks : Blk w bs (vR cv a1).toArray 128) {r : Rec × DSrc} (H : yx.sh a0 a1 a2 = some r) :
  Calls Tryz.prog 129 #[.pointer (some ⟨bs,0,none⟩),S a2] w (Rt (RS 128 bs cv w (.agg (qj r.1).toArray) r.2)):=by
 unfold yx.sh at H
 refine Vt Tryz.func129 rfl (Nat.le_of_ble_eq_true rfl) Tryz.ntmps129 ?_
 refine wr<|jU (.plain rfl) rfl (ltb rfl) rfl Tryz.zeroValue52<|fun b1 w2 z3 z4 e5 k6=>nx<|qk<|wr<|lp rfl (xm (.pointer (some ⟨bs,0,none⟩)) rfl) ?_
 obtain ⟨z7,x8,H⟩:=bind_some H
 refine yS (.plain rfl) rfl (ltb rfl) rfl Tryz.call115 (vv.calls (w:=w2) (a0:=a0) (a1:=a1) (a2:=8) (Ext.trans kc e5) fc hz (Blk.ext ks e5) x8) rfl<|fun w11 g12 k13=>nx ?_
 obtain ⟨z14,L15,C16⟩:=bind_some H
 clear H
 refine vT (fun s0 sQ wQ=>∃ (y17 : DSrc),Kp [(7,32)] s0 sQ∧Blk wQ bs ((vR cv) y17).toArray 128∧Blk wQ b1 (qj (⟨0,([] : List UInt8),([] : List UInt8),0,false⟩ : Rec)).toArray 52∧Gr bs (bs + 1) w11 wQ∧Ext wc wQ∧z14 = .inr y17) ?_ ?_
 ·have H:=L15
  refine qF<|qk<|wr<|lp rfl (vx rfl rfl)<|lp rfl (xa (.bool (decide (z7.1 = 0))) rfl)<|nx ?_
  obtain ⟨z18,L19,C20⟩:=bind_some H
  clear H
  refine vT (fun s0 sQ wQ=>∃ (x7_21 : Bool),Kp [(7,8),(9,11)] s0 sQ∧sQ 7 = .bool x7_21∧Blk wQ bs ((vR cv) z7.2).toArray 128∧Blk wQ b1 (qj (⟨0,([] : List UInt8),([] : List UInt8),0,false⟩ : Rec)).toArray 52∧Gr bs (bs + 1) w11 wQ∧Ext wc wQ∧z18 = .inr x7_21) ?_ ?_
  ·have H:=L19
   rcases qe H with ⟨q22,H⟩ | ⟨q22,H⟩
   ·refine ql (cb q22)<|qw<|qg ?_
    obtain rfl:=si H
    exact ⟨(decide (z7.1 = 0)),kz,rfl,k13,(Gr.blk g12 k6 (Or.inl (Nat.le_trans (Nat.le_trans (Blk.lt ks) (Nat.le_refl _)) (Nat.le_of_eq z3)))),(Gr.refl _ _ _),(Ext.gr (Ext.trans kc e5) g12 hz),rfl⟩
   ·refine qh (cb q22)<|wr<|lp rfl (vx rfl rfl)<|lp rfl (xa (.bool (decide (z7.1 = 1))) rfl)<|nx ?_
    rcases qe H with ⟨q23,H⟩ | ⟨q23,H⟩
    ·refine ql (cb q23)<|qw<|qg ?_
     obtain rfl:=si H
     exact ⟨(decide (z7.1 = 1)),(ku2 kz rfl),rfl,k13,(Gr.blk g12 k6 (Or.inl (Nat.le_trans (Nat.le_trans (Blk.lt ks) (Nat.le_refl _)) (Nat.le_of_eq z3)))),(Gr.refl _ _ _),(Ext.gr (Ext.trans kc e5) g12 hz),rfl⟩
    ·refine qh (cb q23)<|qO<|lp rfl (vx rfl rfl)<|lp rfl (xa (.bool (decide (z7.1 = 2))) rfl)<|nx ?_
     obtain rfl:=si H
     exact ⟨(decide (z7.1 = 2)),(ku4 kz rfl),rfl,k13,(Gr.blk g12 k6 (Or.inl (Nat.le_trans (Nat.le_trans (Blk.lt ks) (Nat.le_refl _)) (Nat.le_of_eq z3)))),(Gr.refl _ _ _),(Ext.gr (Ext.trans kc e5) g12 hz),rfl⟩
  ·rintro s25 w24 ⟨x7_21,K26,h29,h30,h31,e27,e27c,y28⟩
   rw [y28] at C20
   have H:=C20
   refine qg ?_
   rcases qe H with ⟨q32,H⟩ | ⟨q32,H⟩
   ·refine ql (h29.trans (cb q32))<|wr<|lp rfl (xm (S a2) (K26 1 rfl))<|lp rfl (xm (.pointer (some ⟨bs,0,none⟩)) (K26 0 rfl)) ?_
    obtain ⟨z33,x34,H⟩:=bind_some H
    refine yS (.plain rfl) rfl (ltb rfl) rfl Tryz.call187 (yI.calls (w:=w24) (a0:=a0) (a1:=z7.2) e27c fc hz h30 x34) rfl<|fun w37 g38 k39=>yt (.plain rfl) rfl (ltb rfl) rfl Tryz.underlying179 Tryz.sizeOf3 Tryz.zeroValue3 rfl rfl rfl (vs:=[(.int .i64 420),(.int .i64 0),(.int .i64 511)]) rfl (qX rfl)<|fun b40 w41 z42 z43 e44 k45=>lp rfl (xm (.pointer (some ⟨bs,0,none⟩)) (K26 0 rfl)) ?_
    obtain ⟨z46,x47,H⟩:=bind_some H
    refine yS (.plain rfl) rfl (ltb rfl) rfl Tryz.call115 (vv.calls (w:=w41) (a0:=a0) (a1:=z33.2) (a2:=3) (Ext.trans (Ext.gr e27c g38 hz) e44) fc hz (Blk.ext k39 e44) x47) rfl<|fun w50 g51 k52=>?_
    obtain ⟨c53,H⟩:=qa H
    refine vg (.plain rfl) rfl (ltb rfl) rfl Tryz.underlying179 Tryz.sizeOf3 rfl (Ow.rd (Ow.later (Ow.new (xs:=[420,0,511]) (sz:=1) (enc:=(Go.UL.encI .i64)) (base:=w37.heap.size) k45 (Nat.le_of_eq z42) rfl (fun _ _=>by rfl) (Nat.le_of_ble_eq_true rfl)) g51 (Nat.le_trans (Blk.lt ks) ((Gr.trans (Gr.trans (Gr.trans (Gr.ext e5) g12) e27) g38)).size))) rfl c53<|fun p54 h55=>lp rfl (y8 Tryz.isAgg3 rfl h55 rfl)<|lp rfl (yZ (vs:=[(0,(.int .i64 1)),(1,(S a2)),(2,(S z33.1)),(3,(.int .i64 (gt ([420,0,511] : List Int) z46.1)))]) (pl:=#[(0,1),(1,1),(2,1),(3,1),(4,1)]) Tryz.underlying52 Tryz.zeroValue52 rfl (fun _=>by kernel_rfl) rfl rfl rfl)<|vU (.plain rfl) rfl rfl Tryz.sizeOf52 (K26 4 rfl) rfl rfl rfl rfl (Gr.blk g51 (Blk.ext (Gr.blk g38 h31 (Or.inl (Nat.le_trans (Nat.le_trans (Blk.lt ks) (Nat.le_refl _)) (Nat.le_of_eq z3)))) e44) (Or.inl (Nat.le_trans (Nat.le_trans (Blk.lt ks) (Nat.le_refl _)) (Nat.le_of_eq z3))))<|fun w56 h57 k58=>nx<|qr<|vc<|qv<|qv<|VD ?_
    obtain rfl:=si H
    have H:=C16
    obtain rfl:=si H
    exact finC1s rfl (K26 4 rfl) k58 Tryz.isAgg52 Tryz.sizeOf52 rfl (Gr.thn (Gr.trans (Gr.trans (Gr.trans (Gr.trans (Gr.trans (Gr.ext e5) g12) e27) g38) (Gr.ext e44)) g51) (Wr.below h57 (Nat.le_of_eq z3))) (Gr.blk (Gr.ofBelow (Wr.below h57 (Nat.le_of_eq z3))) k52 (Or.inr (Nat.le_trans (Blk.lt ks) (Nat.le_refl _))))
   ·refine qh (h29.trans (cb q32))<|wr<|lp rfl (vx (K26 6 rfl) rfl)<|lp rfl (xa (.bool (decide (z7.1 = 3))) rfl)<|nx ?_
    rcases qe H with ⟨q59,H⟩ | ⟨q59,H⟩
    ·refine ql (cb q59)<|wr<|lp rfl (xm (S a2) (K26 1 rfl))<|lp rfl (xm (.pointer (some ⟨bs,0,none⟩)) (K26 0 rfl))<|yt (.plain rfl) rfl (ltb rfl) rfl Tryz.underlying44 Tryz.sizeOf9 Tryz.zeroValue9 rfl rfl rfl (vs:=[(S ([97] : List UInt8)),(S ([46,46,47,98] : List UInt8)),(S ([47] : List UInt8))]) rfl (qX rfl)<|fun b60 w61 z62 z63 e64 k65=>?_
     obtain ⟨z66,x67,H⟩:=bind_some H
     refine yS (.plain rfl) rfl (ltb rfl) rfl Tryz.call188 (y5.calls (w:=w61) (a0:=a0) (a1:=z7.2) (a2:=([([97] : List UInt8),([46,46,47,98] : List UInt8),([47] : List UInt8)] : List (List UInt8))) (Ext.trans e27c e64) fc hz (Blk.ext h30 e64) (Ow.new (xs:=[([97] : List UInt8),([46,46,47,98] : List UInt8),([47] : List UInt8)]) (sz:=1) (enc:=y4) (base:=w24.heap.size) k65 (Nat.le_of_eq z62) rfl (fun _ _=>by rfl) (Nat.le_of_ble_eq_true rfl)) (Nat.le_trans (Blk.lt ks) ((Gr.trans (Gr.trans (Gr.ext e5) g12) e27)).size) x67) rfl<|fun w70 g71 k72=>lp rfl (yZ (vs:=[(0,(.int .i64 2)),(1,(S a2)),(2,(S z66.1))]) (pl:=#[(0,1),(1,1),(2,1),(3,1),(4,1)]) Tryz.underlying52 Tryz.zeroValue52 rfl (fun _=>by kernel_rfl) rfl rfl rfl)<|vU (.plain rfl) rfl rfl Tryz.sizeOf52 (K26 4 rfl) rfl rfl rfl rfl (Gr.blk g71 (Blk.ext h31 e64) (Or.inl (Nat.le_trans (Nat.le_trans (Blk.lt ks) (Nat.le_refl _)) (Nat.le_of_eq z3))))<|fun w73 h74 k75=>nx<|qr<|vc<|qv<|qv<|VD ?_
     obtain rfl:=si H
     have H:=C16
     obtain rfl:=si H
     exact finC1s rfl (K26 4 rfl) k75 Tryz.isAgg52 Tryz.sizeOf52 rfl (Gr.thn (Gr.trans (Gr.trans (Gr.trans (Gr.trans (Gr.ext e5) g12) e27) (Gr.ext e64)) g71) (Wr.below h74 (Nat.le_of_eq z3))) (Gr.blk (Gr.ofBelow (Wr.below h74 (Nat.le_of_eq z3))) k72 (Or.inr (Nat.le_trans (Blk.lt ks) (Nat.le_refl _))))
    ·refine qh (cb q59)<|qk<|wr<|lp rfl (vx (K26 6 rfl) rfl)<|lp rfl (xa (.bool (decide (z7.1 = 4))) rfl)<|nx ?_
     rcases qe H with ⟨q76,H⟩ | ⟨q76,H⟩
     ·refine ql (cb q76)<|qw<|qg ?_
      rcases qe H with ⟨q77,H⟩ | ⟨q77,H⟩
      ·refine ql (cb q77)<|wr<|lp rfl (xm (S a2) (K26 1 rfl))<|lp rfl (yZ (vs:=[(0,(.int .i64 4)),(1,(S a2))]) (pl:=#[(0,1),(1,1),(2,1),(3,1),(4,1)]) Tryz.underlying52 Tryz.zeroValue52 rfl (fun _=>by kernel_rfl) rfl rfl rfl)<|vU (.plain rfl) rfl rfl Tryz.sizeOf52 (K26 4 rfl) rfl rfl rfl rfl h31<|fun w78 h79 k80=>nx<|qr<|vc<|qv<|qv<|VD ?_
       obtain rfl:=si H
       have H:=C16
       obtain rfl:=si H
       exact finC1s rfl (K26 4 rfl) k80 Tryz.isAgg52 Tryz.sizeOf52 rfl (Gr.thn (Gr.trans (Gr.trans (Gr.ext e5) g12) e27) (Wr.below h79 (Nat.le_of_eq z3))) (Gr.blk (Gr.ofBelow (Wr.below h79 (Nat.le_of_eq z3))) h30 (Or.inr (Nat.le_trans (Blk.lt ks) (Nat.le_refl _))))
      ·refine qh (cb q77)<|qw<|vK<|qg ?_
       obtain rfl:=si H
       exact ⟨z7.2,(ku4 (Kp.cut (ku2 kz rfl) K26 rfl) rfl),h30,h31,e27,e27c,rfl⟩
     ·refine qh (cb q76)<|qO<|lp rfl (vx (K26 6 rfl) rfl)<|lp rfl (xa (.bool (decide (z7.1 = 5))) rfl)<|nx ?_
      rcases qe H with ⟨q81,H⟩ | ⟨q81,H⟩
      ·refine ql (cb q81)<|wr<|lp rfl (xm (S a2) (K26 1 rfl))<|lp rfl (yZ (vs:=[(0,(.int .i64 4)),(1,(S a2))]) (pl:=#[(0,1),(1,1),(2,1),(3,1),(4,1)]) Tryz.underlying52 Tryz.zeroValue52 rfl (fun _=>by kernel_rfl) rfl rfl rfl)<|vU (.plain rfl) rfl rfl Tryz.sizeOf52 (K26 4 rfl) rfl rfl rfl rfl h31<|fun w82 h83 k84=>nx<|qr<|vc<|qv<|qv<|VD ?_
       obtain rfl:=si H
       have H:=C16
       obtain rfl:=si H
       exact finC1s rfl (K26 4 rfl) k84 Tryz.isAgg52 Tryz.sizeOf52 rfl (Gr.thn (Gr.trans (Gr.trans (Gr.ext e5) g12) e27) (Wr.below h83 (Nat.le_of_eq z3))) (Gr.blk (Gr.ofBelow (Wr.below h83 (Nat.le_of_eq z3))) h30 (Or.inr (Nat.le_trans (Blk.lt ks) (Nat.le_refl _))))
      ·refine qh (cb q81)<|qw<|vK<|qg ?_
       obtain rfl:=si H
       exact ⟨z7.2,(ku2 (ku4 (Kp.cut (ku2 kz rfl) K26 rfl) rfl) rfl),h30,h31,e27,e27c,rfl⟩
 ·rintro s86 w85 ⟨y17,K87,h90,h91,e88,e88c,y89⟩
  rw [y89] at C16
  have H:=C16
  refine qg<|qk ?_
  obtain ⟨z98,x99,H⟩:=bind_some H
  obtain ⟨c105,H⟩:=qa H
  obtain ⟨z108,x109,H⟩:=bind_some H
  refine W_drawS 9 [LEq (S a2),LOw 3 1 (Go.UL.encI .i64) w85.heap.size ([493,448] : List Int),LEq (.pointer (some ⟨bs,0,none⟩)),LEq (.int .i64 z98.1),LOp 3 1 (Go.UL.encI .i64) w85.heap.size ([493,448] : List Int) z98.1,LEq (.int .i64 (gt ([493,448] : List Int) z98.1)),LEq (.pointer (some ⟨bs,0,none⟩)),LEq (.bool z108.1),LEq (.agg #[(.int .i64 3),(S a2),(S ([] : List UInt8)),(.int .i64 (gt ([493,448] : List Int) z98.1)),(.bool z108.1)])] [(7,z108.2),(3,z98.2)] y17 [(7,3,[])] (by kernel_rfl) (by kernel_rfl) (by kernel_rfl) (by kernel_rfl) rfl h90 ⟨LEq.keep,(LOw.keep (Nat.le_trans (Blk.lt ks) ((Gr.trans (Gr.trans (Gr.ext e5) g12) e88)).size)),LEq.keep,LEq.keep,(LOp.keep (Nat.le_trans (Blk.lt ks) ((Gr.trans (Gr.trans (Gr.ext e5) g12) e88)).size)),LEq.keep,LEq.keep,LEq.keep,LEq.keep,trivial⟩ ⟨?_,?_,?_,?_,?_,?_,?_,?_,?_,trivial⟩ ?_
  ·intro s115 w116 dn117 hg118 hi119 hn120 hp121 hq122 hf123 hd124 hu125
   exact lp rfl (xm (S a2) ((hf123 1 rfl).trans (K87 1 rfl)))<|qP<|Gi rfl rfl rfl rfl er rfl
  ·intro s126 w127 dn128 hg129 hi130 hn131 hp132 hq133 hf134 hd135 hu136
   exact yt (.plain rfl) rfl (ltb rfl) rfl Tryz.underlying179 Tryz.sizeOf3 Tryz.zeroValue3 rfl rfl rfl (vs:=[(.int .i64 493),(.int .i64 448)]) rfl (qX rfl)<|fun b137 w138 z139 z140 e141 k142=>qP<|Gi rfl rfl rfl rfl e141 (Ow.base (Ow.new (xs:=[493,448]) (sz:=1) (enc:=(Go.UL.encI .i64)) (base:=w127.heap.size) k142 (Nat.le_of_eq z139) rfl (fun _ _=>by rfl) (Nat.le_of_ble_eq_true rfl)) (hg129).size)
  ·intro s143 w144 dn145 hg146 hi147 hn148 hp149 hq150 hf151 hd152 hu153
   exact lp rfl (xm (.pointer (some ⟨bs,0,none⟩)) ((hf151 0 rfl).trans (K87 0 rfl)))<|qP<|Gi rfl rfl rfl rfl er rfl
  ·intro s154 w155 dn156 hg157 hi158 hn159 hp160 hq161 hf162 hd163 hu164
   have a166 : dn156 7 = false:=hq161 7 rfl
   have k165 : Blk w155 bs (vR cv y17).toArray 128:=by
    have h:=hi158
    simp only [InvS,Ju,hn159,a166,cond_true,cond_false] at h
    exact h
   have a167 : Vz dn156 3 3 = true:=setD_self
   have a168 : Vz dn156 3 7 = false:=(setD_ne rfl).trans a166
   have d169 : s154 34 = (.pointer (some ⟨bs,0,none⟩)):=(hd163 2 rfl rfl)
   exact yS (.plain rfl) rfl (ltb rfl) rfl Tryz.call115 (vv.calls (w:=w155) (a0:=a0) (a1:=y17) (a2:=2) (Ext.gr e88c hg157 hz) fc hz k165 x99) (va d169 (va rfl rfl))<|fun w172 g173 k174=>qP<|stepQh rfl rfl rfl rfl g173 (by simp only [InvS,Ju,a167,a168,cond_true,cond_false]; exact k174) rfl
  ·intro s175 w176 dn177 hg178 hi179 hn180 hp181 hq182 hf183 hd184 hu185
   have d186 : Ow 3 1 (Go.UL.encI .i64) w85.heap.size w176 (s175 33) ([493,448] : List Int):=(hd184 1 rfl rfl)
   have d187 : s175 35 = (.int .i64 z98.1):=(hd184 3 rfl rfl)
   have c188:=c105
   exact L_idxO (.plain rfl) rfl (ltb rfl) rfl Tryz.underlying179 Tryz.sizeOf3 rfl d186 d187 c188<|fun p189 h190=>qP<|Gi rfl rfl rfl rfl er ⟨_,_,rfl,h190⟩
  ·intro s191 w192 dn193 hg194 hi195 hn196 hp197 hq198 hf199 hd200 hu201
   obtain ⟨u202,p203,h204,o205⟩:=(hd200 4 rfl rfl)
   exact lp rfl (y8 Tryz.isAgg3 h204 (OP.at o205) rfl)<|qP<|Gi rfl rfl rfl rfl er rfl
  ·intro s206 w207 dn208 hg209 hi210 hn211 hp212 hq213 hf214 hd215 hu216
   exact lp rfl (xm (.pointer (some ⟨bs,0,none⟩)) ((hf214 0 rfl).trans (K87 0 rfl)))<|qP<|Gi rfl rfl rfl rfl er rfl
  ·intro s217 w218 dn219 hg220 hi221 hn222 hp223 hq224 hf225 hd226 hu227
   have a229 : dn219 3 = true:=hp223 3 rfl
   have k228 : Blk w218 bs (vR cv z98.2).toArray 128:=by
    have h:=hi221
    simp only [InvS,Ju,a229,hn222,cond_true,cond_false] at h
    exact h
   have a231 : Vz dn219 7 7 = true:=setD_self
   have d232 : s217 38 = (.pointer (some ⟨bs,0,none⟩)):=(hd226 6 rfl rfl)
   exact yS (.plain rfl) rfl (ltb rfl) rfl Tryz.call189 (yU.calls (w:=w218) (a0:=a0) (a1:=z98.2) (a2:=3) (Ext.gr e88c hg220 hz) fc hz k228 x109) (va d232 (va rfl rfl))<|fun w235 g236 k237=>qP<|stepQh rfl rfl rfl rfl g236 (by simp only [InvS,Ju,a231,cond_true,cond_false]; exact k237) rfl
  ·intro s238 w239 dn240 hg241 hi242 hn243 hp244 hq245 hf246 hd247 hu248
   have d249 : s238 32 = (S a2):=(hd247 0 rfl rfl)
   have d250 : s238 37 = (.int .i64 (gt ([493,448] : List Int) z98.1)):=(hd247 5 rfl rfl)
   have d251 : s238 39 = (.bool z108.1):=(hd247 7 rfl rfl)
   exact lp rfl (yZ (vs:=[(0,(.int .i64 3)),(1,(S a2)),(3,(.int .i64 (gt ([493,448] : List Int) z98.1))),(4,(.bool z108.1))]) (pl:=#[(0,1),(1,1),(2,1),(3,1),(4,1)]) Tryz.underlying52 Tryz.zeroValue52 rfl (fun _=>by kernel_rfl) rfl (va rfl (va d249 (va d250 (va d251 rfl)))) rfl)<|qP<|Gi rfl rfl rfl rfl er rfl
  intro s252 w253 hg254 hb255 hf256 ha257
  have K258:=Kp.ofD (kp:=[(32,41)]) rfl hf256
  have k259 : Blk w253 bs (vR cv z108.2).toArray 128:=hb255
  have d260 : s252 40 = (.agg #[(.int .i64 3),(S a2),(S ([] : List UInt8)),(.int .i64 (gt ([493,448] : List Int) z98.1)),(.bool z108.1)]):=ha257 8 rfl rfl
  clear ha257 hf256
  refine vU (.plain rfl) rfl rfl Tryz.sizeOf52 ((K258 4 rfl).trans (K87 4 rfl)) d260 rfl rfl rfl (Gr.blk hg254 h91 (Or.inl (Nat.le_trans (Nat.le_trans (Blk.lt ks) (Nat.le_refl _)) (Nat.le_of_eq z3))))<|fun w261 h262 k263=>nx<|qr<|VD ?_
  obtain rfl:=si H
  exact finC1s rfl ((K258 4 rfl).trans (K87 4 rfl)) k263 Tryz.isAgg52 Tryz.sizeOf52 rfl (Gr.thn (Gr.trans (Gr.trans (Gr.trans (Gr.ext e5) g12) e88) hg254) (Wr.below h262 (Nat.le_of_eq z3))) (Gr.blk (Gr.ofBelow (Wr.below h262 (Nat.le_of_eq z3))) k259 (Or.inr (Nat.le_trans (Blk.lt ks) (Nat.le_refl _))))
theorem yx.calls {w : World} {a0 : List Int} {a1 : DSrc} {a2 : List UInt8} {r : Rec × DSrc} {wc : World} {cv : Value} {bs : Nat} (kc : Ext wc w) (fc : Rd 1 (Go.UL.encI .u8) wc cv a0) (hz : wc.heap.size≤bs) (ks : Blk w bs (vR cv a1).toArray 128) (H : (yx.sh a0 a1 a2) = some r) :
  Calls Tryz.prog 129 #[.pointer (some ⟨bs,0,none⟩),S a2] w (Rt (RS 128 bs cv w (.agg (qj r.1).toArray) r.2)):=yx.walk kc fc hz ks (yx.eq a0 a1 a2 H)
/-! laws.sameNodes -/
theorem vF.calls {w : World} {a0 : List Nd} {a1 : List Nd} {v_a0 : Value} (f_a0 : Rd 4 qp w v_a0 a0) {v_a1 : Value} (f_a1 : Rd 4 qp w v_a1 a1) (h0 : a0.length≤4611686018427387904) :
  Calls Tryz.prog 17 #[v_a0,v_a1] w (Rt (RP w (.bool (decide (a0 = a1))))):=by
 obtain ⟨k,H⟩:=vF.eq a0 a1 h0
 generalize (decide (a0 = a1)) = r at H ⊢
 unfold vF.sh at H
 refine qi Tryz.func17 rfl (Nat.le_of_ble_eq_true rfl) Tryz.ntmps17 rfl ?_
 refine wr<|lp rfl (xa (.bool false) rfl)<|nx<|qk<|wr<|lp rfl (xm v_a0 rfl)<|lp rfl (qS Tryz.underlying29 rfl f_a0)<|lp rfl (xm v_a1 rfl)<|lp rfl (qS Tryz.underlying29 rfl f_a1)<|lp rfl (QJ rfl rfl)<|nx ?_
 rcases qe H with ⟨q1,H⟩ | ⟨q1,H⟩
 ·refine ql (cb q1)<|wr<|lp rfl (xa (.bool false) rfl)<|nx<|qr<|qv<|qy ?_
  obtain rfl:=si H
  exact vt rfl er
 ·refine qh (cb q1)<|qw<|qg<|qk<|wr<|lp rfl (xa (.int .i64 0) rfl)<|nx ?_
  obtain ⟨z3,L4,C5⟩:=bind_some H
  clear H
  refine  vT (fun s0 sQ wQ=>Kp [(4,6),(11,26)] s0 sQ∧Ext w wQ∧z3 = .inr ()) ?_ ?_
  ·refine qF<|vA (fun s0 kk sQ wQ=>∃ (x5_2 : Int),Kp [(4,6),(11,26)] s0 sQ∧sQ 5 = .int .i64 x5_2∧Ext w wQ∧qt (vF.b1 a0 a1) kk x5_2 = some z3) k ⟨0,kz,rfl,er,L4⟩ ?_
   rintro k10 s11 w12 ⟨x5_2,K13,h16,e14,L15⟩
   cases k10 with
   | zero=>exact absurd L15 (by simp [qt])
   | succ k10=>
    obtain ⟨t17,H,S18⟩:=qQ L15
    clear L15
    unfold vF.b1 at H
    refine qk<|wr<|lp rfl (qf h16)<|lp rfl (xm v_a0 (K13 0 rfl))<|lp rfl (qS Tryz.underlying29 rfl (Rd.ext f_a0 e14))<|lp rfl (ym rfl rfl)<|nx ?_
    rcases qe H with ⟨q19,H⟩ | ⟨q19,H⟩
    ·refine ql (cb q19)<|qw<|qg<|qk<|qF<|qk ?_
     obtain ⟨c20,H⟩:=qa H
     obtain ⟨c23,H⟩:=qa H
     refine Yi [LEq v_a0,LEq (.int .i64 x5_2),yv (qp (gt a0 x5_2)),LEq (.agg (qp (gt a0 x5_2)).toArray),LEq v_a1,LEq (.int .i64 x5_2),yv (qp (gt a1 x5_2)),LEq (.agg (qp (gt a1 x5_2)).toArray),LEq (.bool (!decide ((gt a0 x5_2) = (gt a1 x5_2))))] (by kernel_rfl) (by kernel_rfl) ⟨qm,qm,yv.mono,qm,qm,qm,yv.mono,qm,qm,trivial⟩ ⟨?_,?_,?_,?_,?_,?_,?_,?_,?_,trivial⟩ ?_
     ·exact fun s x e f d u=>lp rfl (xm v_a0 ((f 0 rfl).trans (K13 0 rfl)))<|se rfl rfl
     ·exact fun s x e f d u=>lp rfl (xm (.int .i64 x5_2) ((f 5 rfl).trans h16))<|se rfl rfl
     ·exact fun s x e f d u=>vg (.plain rfl) rfl (ltb rfl) rfl Tryz.underlying29 Tryz.sizeOf91 (d 0 rfl) (Rd.ext f_a0 (e14.t e)) (d 1 rfl) c20<|fun p27 h28=>se rfl ⟨_,rfl,h28⟩
     ·intro s x e f d u
      obtain ⟨p29,h30,h31⟩:=(d 2 rfl)
      exact lp rfl (qW Tryz.isAgg91 Tryz.sizeOf91 rfl h30 h31)<|se rfl rfl
     ·exact fun s x e f d u=>lp rfl (xm v_a1 ((f 1 rfl).trans (K13 1 rfl)))<|se rfl rfl
     ·exact fun s x e f d u=>lp rfl (xm (.int .i64 x5_2) ((f 5 rfl).trans h16))<|se rfl rfl
     ·exact fun s x e f d u=>vg (.plain rfl) rfl (ltb rfl) rfl Tryz.underlying29 Tryz.sizeOf91 (d 4 rfl) (Rd.ext f_a1 (e14.t e)) (d 5 rfl) c23<|fun p33 h34=>se rfl ⟨_,rfl,h34⟩
     ·intro s x e f d u
      obtain ⟨p35,h36,h37⟩:=(d 6 rfl)
      exact lp rfl (qW Tryz.isAgg91 Tryz.sizeOf91 rfl h36 h37)<|se rfl rfl
     ·exact fun s x e f d u=>lp rfl (X_neA Eqg.t91 (Eqs.t91 (gt a0 x5_2) (gt a1 x5_2)) (d 3 rfl) (d 7 rfl))<|se rfl rfl
     intro s38 w39 e40 hf41 ha42
     have K43:=Kp.ofD (kp:=[(17,26)]) rfl hf41
     have d44 : s38 25 = (.bool (!decide ((gt a0 x5_2) = (gt a1 x5_2)))):=ha42 8 rfl
     clear ha42 hf41
     refine qg ?_
     rcases qe H with ⟨q45,H⟩ | ⟨q45,H⟩
     ·refine ql (d44.trans (cb q45))<|wr<|lp rfl (xa (.bool false) rfl)<|nx<|qr<|vc<|qv<|qv<|vc<|qv<|qv<|qy ?_
      obtain rfl:=si H
      obtain rfl:=si S18
      have H:=C5
      obtain rfl:=si H
      exact vt rfl (e14.t e40)
     ·refine qh (d44.trans (cb q45))<|qw<|vK<|qg<|qO<|lp rfl (xm (.int .i64 x5_2) ((K43 5 rfl).trans h16))<|lp rfl (vz rfl rfl)<|lp rfl (xa (.int .i64 (IntKind.wrap .i64 (x5_2 + 1))) rfl)<|nx ?_
      obtain rfl:=si H
      exact ⟨_,Nat.lt_succ_self _,IntKind.wrap .i64 (x5_2 + 1),(ku3 (Kp.cut (ku4 K13 rfl) K43 rfl) rfl),rfl,(e14.t e40),S18⟩
    ·refine qh (cb q19)<|yc<|vm<|vm<|yV<|qg ?_
     obtain rfl:=si H
     obtain rfl:=si S18
     exact ⟨(ku4 K13 rfl),e14,rfl⟩
  ·rintro s7 w6 ⟨K8,e9,y46⟩
   rw [y46] at C5
   have H:=C5
   replace H : _ = some _:=H
   refine qg<|wr<|lp rfl (xa (.bool true) rfl)<|nx<|qr<|qy ?_
   obtain rfl:=si H
   exact vt rfl e9
/-! spec.l03Put,by text -/

/-! spec.l03Put,at any depth -/
abbrev qG.e1 (a1 : Rec) (x0_13 : List Rec) (x9_50 : Int):=((!decide (((gt x0_13 x9_50).path) = a1.path)) && (!(decide (a1.kind = 3))))
abbrev qG.e2 (a1 : Rec) (x0_13 : List Rec) (x9_50 : Int):=((decide (a1.path = []) && !decide (((gt x0_13 x9_50).path) = [])) || vw ((gt x0_13 x9_50).path) a1.path)
theorem qG.walk {n : Nat} (ih : ∀ {w : World} {a0 : List Rec} {a1 : Rec} {v_a0 : Value} (f_a0 : Rd 5 qj w v_a0 a0) (h0 : putQ n a0 a1 = true),Calls Tryz.prog 128 #[v_a0,.agg (qj a1).toArray] w (Rt (RO 52 5 qj w (putG n a0 a1)))) {k : Nat} {w : World} {a0 : List Rec} {a1 : Rec} {v_a0 : Value} (f_a0 : Rd 5 qj w v_a0 a0) {r : List Rec} (H : qG.sh n k a0 a1 = some r) :
  Calls Tryz.prog 128 #[v_a0,.agg (qj a1).toArray] w (Rt (RO 52 5 qj w r)):=by
 unfold qG.sh at H
 refine qi Tryz.func128 rfl (Nat.le_of_ble_eq_true rfl) Tryz.ntmps128 rfl ?_
 refine wr<|Qq (.plain rfl) rfl (ltb rfl) rfl rfl<|fun b1 w2 z3 z4 e5 k6=>lp rfl (xa (.slice none 0 0) rfl)<|nx<|qk<|wr<|lp rfl (qc Tryz.underlying52 rfl Tryz.sizeOf9 rfl rfl)<|lp rfl (qz Tryz.isAgg9 k6 rfl rfl) ?_
 obtain ⟨c7,H⟩:=qa H
 refine lc rfl rfl Tryz.call154 (vr.calls (w:=w2) (a0:=a1.path) (od c7)) rfl<|fun w8 e9=>lp rfl (xa (S (qd a1.path)) rfl)<|nx<|wr<|lp rfl (xm (S (qd a1.path)) rfl)<|lp rfl (VL rfl rfl)<|nx ?_
 obtain ⟨z10,L11,C12⟩:=bind_some H
 clear H
 refine vT (fun s0 sQ wQ=>∃ (x0_13 : List Rec) (v14 : Value),Kp [(0,1),(6,7),(15,32)] s0 sQ∧sQ 0 = v14∧Rd 5 qj wQ v14 x0_13∧Ext w8 wQ∧z10 = .inr x0_13) ?_ ?_
 ·have H:=L11
  rcases qe H with ⟨q15,H⟩ | ⟨q15,H⟩
  ·refine ql (cb q15)<|wr<|lp rfl (xm v_a0 rfl)<|lp rfl (xm (S (qd a1.path)) rfl) ?_
   obtain ⟨c16,H⟩:=qa H
   refine lc rfl rfl Tryz.call162 (yK.calls (w:=w8) (a0:=a0) (a1:=(qd a1.path)) (Rd.ext f_a0 (e5.t e9)) (od c16)) rfl<|fun w17 e18=>lp rfl (xa (.int .i64 (qJ a0 (qd a1.path))) rfl)<|nx<|wr<|lp rfl (xm (.int .i64 (qJ a0 (qd a1.path))) rfl)<|lp rfl (ym rfl rfl)<|lp rfl (xm (.bool (decide ((qJ a0 (qd a1.path)) < 0))) rfl) ?_
   obtain ⟨z20,x21,H⟩:=bind_some H
   refine yf 7 [(21,28)] 27 (fun q=>q = z20) ?_ ?_
   ·rcases qe x21 with ⟨b18_,H⟩ | ⟨b18_,H⟩
    ·refine ls rfl rfl rfl (cb b18_) rfl<|ls rfl rfl rfl (cb b18_) rfl<|ls rfl rfl rfl (cb b18_) rfl<|ls rfl rfl rfl (cb b18_) rfl<|ls rfl rfl rfl (cb b18_) rfl<|ls rfl rfl rfl (cb b18_) rfl<|lp rfl (qq (b:=true) (v:=(.bool true)) (cb b18_) rfl) ?_
     obtain rfl:=si H
     exact nx ⟨(ku3 (ku4 kz rfl) rfl),⟨_,rfl,rfl⟩,er⟩
    ·refine lg rfl rfl rfl rfl (cb b18_) (xm v_a0 rfl)<|lg rfl rfl rfl rfl (cb b18_) (xm (.int .i64 (qJ a0 (qd a1.path))) rfl) ?_
     obtain ⟨c20,H⟩:=qa H
     refine vg (tg rfl rfl rfl (cb b18_)) rfl (ltb rfl) rfl Tryz.underlying35 Tryz.sizeOf52 rfl (Rd.ext f_a0 ((e5.t e9).t e18)) rfl c20<|fun p21 h22=>lg rfl rfl rfl rfl (cb b18_) (qc Tryz.underlying52 rfl Tryz.sizeOf3 rfl rfl)<|lg rfl rfl rfl rfl (cb b18_) (yd Tryz.isAgg3 (j:=0) h22 rfl rfl)<|lg rfl rfl rfl rfl (cb b18_) (QJ rfl rfl)<|lp rfl (qq (b:=false) (v:=(.bool (!decide (((gt a0 (qJ a0 (qd a1.path))).kind) = 3)))) (cb b18_) rfl) ?_
     obtain rfl:=si H
     exact nx ⟨(ku3 (ku4 kz rfl) rfl),⟨_,rfl,rfl⟩,er⟩
   intro s26 w22 z27 K23 hq h24 e25
   rw [hq] at h24; clear hq
   refine nx ?_
   rcases qe H with ⟨q28,H⟩ | ⟨q28,H⟩
   ·refine ql (h24.trans (cb q28))<|qO<|lp rfl (xm v_a0 (K23 0 rfl))<|lp rfl (xm (S (qd a1.path)) (K23 5 rfl))<|lp rfl (yZ (vs:=[(0,(.int .i64 3)),(1,(S (qd a1.path))),(3,(.int .i64 493))]) (pl:=#[(0,1),(1,1),(2,1),(3,1),(4,1)]) Tryz.underlying52 Tryz.zeroValue52 rfl (fun _=>by kernel_rfl) rfl rfl rfl) ?_
    obtain ⟨c29,H⟩:=qa H
    refine vp (.plain rfl) rfl (ltb rfl) rfl Tryz.call128 (ih (w:=w22) (a0:=a0) (a1:=(⟨3,(qd a1.path),([] : List UInt8),493,false⟩ : Rec)) (Rd.ext f_a0 (((e5.t e9).t e18).t e25)) (od c29)) rfl<|fun v32 w30 e31 o33=>lp rfl (xa v32 rfl)<|nx ?_
    obtain rfl:=si H
    exact ⟨(putG n a0 (⟨3,(qd a1.path),([] : List UInt8),493,false⟩ : Rec)),v32,(ku1 (ku4 (Kp.cut (ku3 (ku4 kz rfl) rfl) K23 rfl) rfl) rfl),rfl,(Ow.rd o33),((e18.t e25).t e31),rfl⟩
   ·refine qh (h24.trans (cb q28))<|qw<|qg ?_
    obtain rfl:=si H
    exact ⟨a0,v_a0,(Kp.cut (ku3 (ku4 kz rfl) rfl) K23 rfl),(K23 0 rfl),(Rd.ext f_a0 (((e5.t e9).t e18).t e25)),(e18.t e25),rfl⟩
  ·refine qh (cb q15)<|qw<|qg ?_
   obtain rfl:=si H
   exact ⟨a0,v_a0,kz,rfl,(Rd.ext f_a0 (e5.t e9)),er,rfl⟩
 ·rintro s35 w34 ⟨x0_13,v14,K36,h39,h40,e37,y38⟩
  rw [y38] at C12
  have H:=C12
  refine qg<|wr<|yt (.plain rfl) rfl (ltb rfl) rfl Tryz.underlying35 Tryz.sizeOf52 Tryz.zeroValue52 rfl rfl rfl (vs:=[]) rfl (qX rfl)<|fun b41 w42 z43 z44 e45 k46=>lp rfl (xa (.slice (some ⟨b41,0,none⟩) 0 0) rfl)<|nx<|wr<|lp rfl (xa (.bool false) rfl)<|nx<|qk<|wr<|lp rfl (xa (.int .i64 0) rfl)<|nx ?_
  obtain ⟨z51,L52,C53⟩:=bind_some H
  clear H
  refine  vT (fun s0 sQ wQ=>∃ (x7_54 : List Rec) (v55 : Value) (x8_56 : Bool),Kp [(7,10),(33,86)] s0 sQ∧sQ 7 = v55∧Ow 52 5 qj w42.heap.size wQ v55 x7_54∧sQ 8 = .bool x8_56∧Ext w42 wQ∧z51 = .inr (x7_54,x8_56)) ?_ ?_
  ·refine qF<|vA (fun s0 kk sQ wQ=>∃ (x7_47 : List Rec) (v48 : Value) (x8_49 : Bool) (x9_50 : Int),Kp [(7,10),(33,86)] s0 sQ∧sQ 7 = v48∧Ow 52 5 qj w42.heap.size wQ v48 x7_47∧sQ 8 = .bool x8_49∧sQ 9 = .int .i64 x9_50∧Ext w42 wQ∧qt (qG.b1 a1 x0_13) kk (x7_47,x8_49,x9_50) = some z51) k ⟨([] : List Rec),(.slice (some ⟨b41,0,none⟩) 0 0),false,0,kz,rfl,(Ow.zero),rfl,rfl,er,L52⟩ ?_
   rintro k61 s62 w63 ⟨x7_47,v48,x8_49,x9_50,K64,h67,h68,h69,h70,e65,L66⟩
   cases k61 with
   | zero=>exact absurd L66 (by simp [qt])
   | succ k61=>
    obtain ⟨t71,H,S72⟩:=qQ L66
    clear L66
    unfold qG.b1 at H
    refine qk<|wr<|lp rfl (qf h70)<|lp rfl (xm v14 ((K64 0 rfl).trans h39))<|lp rfl (qS Tryz.underlying35 rfl (Rd.ext h40 (e45.t e65)))<|lp rfl (ym rfl rfl)<|nx ?_
    rcases qe H with ⟨q73,H⟩ | ⟨q73,H⟩
    ·refine ql (cb q73)<|qw<|qg<|qk<|qF<|qk<|qk ?_
     obtain ⟨c74,H⟩:=qa H
     obtain ⟨c77,H⟩:=qa H
     obtain ⟨c78,H⟩:=qa H
     refine Yi [LEq (.bool x8_49),LEq (.bool (!x8_49)),LEq (.bool (!x8_49)),LIf (!x8_49) (LEq (.pointer (some ⟨b1,1,none⟩))),LIf (!x8_49) (LEq (S a1.path)),LIf (!x8_49) (LEq v14),LIf (!x8_49) (LEq (.int .i64 x9_50)),LIf (!x8_49) (yv (qj (gt x0_13 x9_50))),LIf (!x8_49) (LAt 1 (qj (gt x0_13 x9_50))),LIf (!x8_49) (LEq (S ((gt x0_13 x9_50).path))),LIf (!x8_49) (LEq (.bool (vy (cut 47 a1.path) (cut 47 ((gt x0_13 x9_50).path))))),LEq (.bool ((!x8_49) && (vy (cut 47 a1.path) (cut 47 ((gt x0_13 x9_50).path)))))] (by kernel_rfl) (by kernel_rfl) ⟨qm,qm,qm,lm,lm,lm,lm,(LIf.mono yv.mono),(LIf.mono LAt.mono),lm,lm,qm,trivial⟩ ⟨?_,?_,?_,?_,?_,?_,?_,?_,?_,?_,?_,?_,trivial⟩ ?_
     ·exact fun s x e f d u=>lp rfl (xm (.bool x8_49) ((f 8 rfl).trans h69))<|se rfl rfl
     ·exact fun s x e f d u=>lp rfl (yR (d 0 rfl))<|se rfl rfl
     ·exact fun s x e f d u=>lp rfl (qf (d 1 rfl))<|se rfl rfl
     ·exact fun s x e f d u=>gT rfl rfl rfl rfl (d 2 rfl) rfl fun b t=>lt t rfl rfl (qc Tryz.underlying52 rfl Tryz.sizeOf9 rfl ((f 3 rfl).trans ((K64 3 rfl).trans (K36 3 rfl))))<|sg rfl rfl b rfl
     ·exact fun s x e f d u=>gT rfl rfl rfl rfl (d 2 rfl) rfl fun b t=>lt t rfl rfl (qz Tryz.isAgg9 (Blk.ext k6 ((((e9.t e37).t e45).t e65).t e)) ((d 3 rfl).1 b) rfl)<|sg rfl rfl b rfl
     ·exact fun s x e f d u=>gT rfl rfl rfl rfl (d 2 rfl) rfl fun b t=>lt t rfl rfl (xm v14 ((f 0 rfl).trans ((K64 0 rfl).trans h39)))<|sg rfl rfl b rfl
     ·exact fun s x e f d u=>gT rfl rfl rfl rfl (d 2 rfl) rfl fun b t=>lt t rfl rfl (xm (.int .i64 x9_50) ((f 9 rfl).trans h70))<|sg rfl rfl b rfl
     ·exact fun s x e f d u=>gT rfl rfl rfl rfl (d 2 rfl) rfl fun b t=>vg t rfl (ltb rfl) rfl Tryz.underlying35 Tryz.sizeOf52 ((d 5 rfl).1 b) (Rd.ext h40 ((e45.t e65).t e)) ((d 6 rfl).1 b) (vM b c74)<|fun p82 h83=>sg rfl rfl b ⟨_,rfl,h83⟩
     ·intro s x e f d u
      refine gT rfl rfl rfl rfl (d 2 rfl) rfl fun b t=>?_
      obtain ⟨p84,h85,h86⟩:=((d 7 rfl).1 b)
      exact lt t rfl rfl (qc Tryz.underlying52 rfl Tryz.sizeOf9 rfl h85)<|sg rfl rfl b ⟨_,rfl,h86⟩
     ·intro s x e f d u
      refine gT rfl rfl rfl rfl (d 2 rfl) rfl fun b t=>?_
      obtain ⟨p87,h88,h89⟩:=((d 8 rfl).1 b)
      exact lt t rfl rfl (yd Tryz.isAgg9 (j:=1) h89 h88 rfl)<|sg rfl rfl b rfl
     ·exact fun s x e f d u=>gT rfl rfl rfl rfl (d 2 rfl) rfl fun b t=>vL t rfl (ltb rfl) rfl Tryz.call153 (vN.calls (w:=x) (a0:=a1.path) (a1:=(gt x0_13 x9_50).path) (od (vM b c77)) (od (vM b c78))) (va ((d 4 rfl).1 b) (va ((d 9 rfl).1 b) rfl))<|fun w92 e93=>sgx rfl rfl b e93 rfl
     ·exact fun s x e f d u=>lp rfl (jT (d 2 rfl) rfl fun h=>((d 10 rfl).1 h))<|se rfl rfl
     intro s94 w95 e96 hf97 ha98
     have K99:=Kp.ofD (kp:=[(39,51)]) rfl hf97
     have d100 : s94 50 = (.bool ((!x8_49) && (vy (cut 47 a1.path) (cut 47 ((gt x0_13 x9_50).path))))):=ha98 11 rfl
     clear ha98 hf97
     refine qg ?_
     obtain ⟨z101,L102,C103⟩:=bind_some H
     clear H
     refine vT (fun s0 sQ wQ=>∃ (x7_104 : List Rec) (v105 : Value) (x8_106 : Bool),Kp [(7,9),(51,55)] s0 sQ∧sQ 7 = v105∧Ow 52 5 qj w42.heap.size wQ v105 x7_104∧sQ 8 = .bool x8_106∧Ext w42 wQ∧z101 = .inr (x7_104,x8_106)) ?_ ?_
     ·have H:=L102
      rcases qe H with ⟨q107,H⟩ | ⟨q107,H⟩
      ·refine ql (d100.trans (cb q107))<|wr<|lp rfl (xm v48 ((K99 7 rfl).trans h67))<|lp rfl (qW Tryz.isAgg52 Tryz.sizeOf52 rfl ((K99 3 rfl).trans ((K64 3 rfl).trans (K36 3 rfl))) (Blk.at0 (Blk.ext k6 ((((e9.t e37).t e45).t e65).t e96))))<|yt (.plain rfl) rfl (ltb rfl) rfl Tryz.underlying35 Tryz.sizeOf52 Tryz.zeroValue52 rfl rfl rfl (vs:=[(.agg #[(.int .i64 a1.kind),(S a1.path),(S a1.body),(.int .i64 a1.mode),(.bool a1.opq)])]) rfl (qX rfl)<|fun b108 w109 z110 z111 e112 k113=>?_
       obtain ⟨c114,H⟩:=qa H
       refine yP (enc:=qj) (.plain rfl) rfl (ltb rfl) rfl El.t35 rfl rfl (Ow.ext h68 (e96.t e112)) (Ow.rd (Ow.new (xs:=[a1]) (sz:=5) (enc:=qj) (base:=w95.heap.size) k113 (Nat.le_of_eq z110) rfl (fun _ _=>by rfl) (Nat.le_of_ble_eq_true rfl))) (Yg _) (od c114) (((e65.t e96).t e112)).size<|fun v115 w116 o117 z118 g119=>lp rfl (xa v115 rfl)<|nx<|qO<|lp rfl (xa (.bool true) rfl)<|nx ?_
       obtain rfl:=si H
       exact ⟨x7_47 ++ ([a1] : List Rec),v115,true,(ku2 (ku4 kz rfl) rfl),rfl,o117,rfl,(g119 _ ((e65.t e96).t e112)),rfl⟩
      ·refine qh (d100.trans (cb q107))<|qw<|qg ?_
       obtain rfl:=si H
       exact ⟨x7_47,v48,x8_49,kz,((K99 7 rfl).trans h67),(Ow.ext h68 e96),((K99 8 rfl).trans h69),(e65.t e96),rfl⟩
     ·rintro s121 w120 ⟨x7_104,v105,x8_106,K122,h125,h126,h127,e123,y124⟩
      rw [y124] at C103
      have H:=C103
      refine qg<|qk ?_
      obtain ⟨c128,H⟩:=qa H
      obtain ⟨c131,H⟩:=qa H
      refine Yi [LEq v14,LEq (.int .i64 x9_50),yv (qj (gt x0_13 x9_50)),LAt 1 (qj (gt x0_13 x9_50)),LEq (S ((gt x0_13 x9_50).path)),LEq (.pointer (some ⟨b1,1,none⟩)),LEq (S a1.path),LEq (.bool (!decide (((gt x0_13 x9_50).path) = a1.path))),LEq (.bool (!decide (((gt x0_13 x9_50).path) = a1.path))),LIf (!decide (((gt x0_13 x9_50).path) = a1.path)) (LEq (.pointer (some ⟨b1,0,none⟩))),LIf (!decide (((gt x0_13 x9_50).path) = a1.path)) (LEq (.int .i64 a1.kind)),LIf (!decide (((gt x0_13 x9_50).path) = a1.path)) (LEq (.bool (decide (a1.kind = 3)))),LIf (!decide (((gt x0_13 x9_50).path) = a1.path)) (LEq (.bool (decide (a1.kind = 3)))),LIf (qG.e1 a1 x0_13 x9_50) (LEq v14),LIf (qG.e1 a1 x0_13 x9_50) (LEq (.int .i64 x9_50)),LIf (qG.e1 a1 x0_13 x9_50) (yv (qj (gt x0_13 x9_50))),LIf (qG.e1 a1 x0_13 x9_50) (LAt 1 (qj (gt x0_13 x9_50))),LIf (qG.e1 a1 x0_13 x9_50) (LEq (S ((gt x0_13 x9_50).path))),LIf (qG.e1 a1 x0_13 x9_50) (LEq (.pointer (some ⟨b1,1,none⟩))),LIf (qG.e1 a1 x0_13 x9_50) (LEq (S a1.path)),LIf (qG.e1 a1 x0_13 x9_50) (LEq (.bool (qG.e2 a1 x0_13 x9_50))),LIf (qG.e1 a1 x0_13 x9_50) (LEq (.bool (!(qG.e2 a1 x0_13 x9_50)))),LIf (!decide (((gt x0_13 x9_50).path) = a1.path)) (LEq (.bool ((decide (a1.kind = 3)) || (!(qG.e2 a1 x0_13 x9_50))))),LEq (.bool ((!decide (((gt x0_13 x9_50).path) = a1.path)) && ((decide (a1.kind = 3)) || (!(qG.e2 a1 x0_13 x9_50)))))] (by kernel_rfl) (by kernel_rfl) ⟨qm,qm,yv.mono,LAt.mono,qm,qm,qm,qm,qm,lm,lm,lm,lm,lm,lm,(LIf.mono yv.mono),(LIf.mono LAt.mono),lm,lm,lm,lm,lm,lm,qm,trivial⟩ ⟨?_,?_,?_,?_,?_,?_,?_,?_,?_,?_,?_,?_,?_,?_,?_,?_,?_,?_,?_,?_,?_,?_,?_,?_,trivial⟩ ?_
      ·exact fun s x e f d u=>lp rfl (xm v14 ((f 0 rfl).trans ((K122 0 rfl).trans ((K99 0 rfl).trans ((K64 0 rfl).trans h39)))))<|se rfl rfl
      ·exact fun s x e f d u=>lp rfl (xm (.int .i64 x9_50) ((f 9 rfl).trans ((K122 9 rfl).trans ((K99 9 rfl).trans h70))))<|se rfl rfl
      ·exact fun s x e f d u=>vg (.plain rfl) rfl (ltb rfl) rfl Tryz.underlying35 Tryz.sizeOf52 (d 0 rfl) (Rd.ext h40 ((e45.t e123).t e)) (d 1 rfl) c128<|fun p137 h138=>se rfl ⟨_,rfl,h138⟩
      ·intro s x e f d u
       obtain ⟨p139,h140,h141⟩:=(d 2 rfl)
       exact lp rfl (qc Tryz.underlying52 rfl Tryz.sizeOf9 rfl h140)<|se rfl ⟨_,rfl,h141⟩
      ·intro s x e f d u
       obtain ⟨p142,h143,h144⟩:=(d 3 rfl)
       exact lp rfl (yd Tryz.isAgg9 (j:=1) h144 h143 rfl)<|se rfl rfl
      ·exact fun s x e f d u=>lp rfl (qc Tryz.underlying52 rfl Tryz.sizeOf9 rfl ((f 3 rfl).trans ((K122 3 rfl).trans ((K99 3 rfl).trans ((K64 3 rfl).trans (K36 3 rfl))))))<|se rfl rfl
      ·exact fun s x e f d u=>lp rfl (qz Tryz.isAgg9 (Blk.ext k6 ((((e9.t e37).t e45).t e123).t e)) (d 5 rfl) rfl)<|se rfl rfl
      ·exact fun s x e f d u=>lp rfl (VL (d 4 rfl) (d 6 rfl))<|se rfl rfl
      ·exact fun s x e f d u=>lp rfl (qf (d 7 rfl))<|se rfl rfl
      ·exact fun s x e f d u=>gT rfl rfl rfl rfl (d 8 rfl) rfl fun b t=>lt t rfl rfl (qc Tryz.underlying52 rfl Tryz.sizeOf3 rfl ((f 3 rfl).trans ((K122 3 rfl).trans ((K99 3 rfl).trans ((K64 3 rfl).trans (K36 3 rfl))))))<|sg rfl rfl b rfl
      ·exact fun s x e f d u=>gT rfl rfl rfl rfl (d 8 rfl) rfl fun b t=>lt t rfl rfl (qz Tryz.isAgg3 (Blk.ext k6 ((((e9.t e37).t e45).t e123).t e)) ((d 9 rfl).1 b) rfl)<|sg rfl rfl b rfl
      ·exact fun s x e f d u=>gT rfl rfl rfl rfl (d 8 rfl) rfl fun b t=>lt t rfl rfl (vx ((d 10 rfl).1 b) rfl)<|sg rfl rfl b rfl
      ·exact fun s x e f d u=>gT rfl rfl rfl rfl (d 8 rfl) rfl fun b t=>lt t rfl rfl (xm (.bool (decide (a1.kind = 3))) ((d 11 rfl).1 b))<|sg rfl rfl b rfl
      ·exact fun s x e f d u=>hF rfl rfl rfl rfl (d 12 rfl) rfl fun b t=>lt t rfl rfl (xm v14 ((f 0 rfl).trans ((K122 0 rfl).trans ((K99 0 rfl).trans ((K64 0 rfl).trans h39)))))<|sg rfl rfl b rfl
      ·exact fun s x e f d u=>hF rfl rfl rfl rfl (d 12 rfl) rfl fun b t=>lt t rfl rfl (xm (.int .i64 x9_50) ((f 9 rfl).trans ((K122 9 rfl).trans ((K99 9 rfl).trans h70))))<|sg rfl rfl b rfl
      ·exact fun s x e f d u=>hF rfl rfl rfl rfl (d 12 rfl) rfl fun b t=>vg t rfl (ltb rfl) rfl Tryz.underlying35 Tryz.sizeOf52 ((d 13 rfl).1 (qY (jB b) (qI (vh (jC b))))) (Rd.ext h40 ((e45.t e123).t e)) ((d 14 rfl).1 (qY (jB b) (qI (vh (jC b))))) (vM b c131)<|fun p146 h147=>sg rfl rfl b ⟨_,rfl,h147⟩
      ·intro s x e f d u
       refine hF rfl rfl rfl rfl (d 12 rfl) rfl fun b t=>?_
       obtain ⟨p148,h149,h150⟩:=((d 15 rfl).1 (qY (jB b) (qI (vh (jC b)))))
       exact lt t rfl rfl (qc Tryz.underlying52 rfl Tryz.sizeOf9 rfl h149)<|sg rfl rfl b ⟨_,rfl,h150⟩
      ·intro s x e f d u
       refine hF rfl rfl rfl rfl (d 12 rfl) rfl fun b t=>?_
       obtain ⟨p151,h152,h153⟩:=((d 16 rfl).1 (qY (jB b) (qI (vh (jC b)))))
       exact lt t rfl rfl (yd Tryz.isAgg9 (j:=1) h153 h152 rfl)<|sg rfl rfl b rfl
      ·exact fun s x e f d u=>hF rfl rfl rfl rfl (d 12 rfl) rfl fun b t=>lt t rfl rfl (qc Tryz.underlying52 rfl Tryz.sizeOf9 rfl ((f 3 rfl).trans ((K122 3 rfl).trans ((K99 3 rfl).trans ((K64 3 rfl).trans (K36 3 rfl))))))<|sg rfl rfl b rfl
      ·exact fun s x e f d u=>hF rfl rfl rfl rfl (d 12 rfl) rfl fun b t=>lt t rfl rfl (qz Tryz.isAgg9 (Blk.ext k6 ((((e9.t e37).t e45).t e123).t e)) ((d 18 rfl).1 (qY (jB b) (qI (vh (jC b))))) rfl)<|sg rfl rfl b rfl
      ·exact fun s x e f d u=>hF rfl rfl rfl rfl (d 12 rfl) rfl fun b t=>vL t rfl (ltb rfl) rfl Tryz.call186 (jY.calls (w:=x) (a0:=(gt x0_13 x9_50).path) (a1:=a1.path)) (va ((d 17 rfl).1 (qY (jB b) (qI (vh (jC b))))) (va ((d 19 rfl).1 (qY (jB b) (qI (vh (jC b))))) rfl))<|fun w154 e155=>sgx rfl rfl b e155 rfl
      ·exact fun s x e f d u=>hF rfl rfl rfl rfl (d 12 rfl) rfl fun b t=>lt t rfl rfl (yR ((d 20 rfl).1 (qY (jB b) (qI (vh (jC b))))))<|sg rfl rfl b rfl
      ·exact fun s x e f d u=>gT rfl rfl rfl rfl (d 8 rfl) rfl fun b t=>lt t rfl rfl (VI ((d 12 rfl).1 b) rfl fun h=>((d 21 rfl).1 (qY b (qI h))))<|sg rfl rfl b rfl
      ·exact fun s x e f d u=>lp rfl (jT (d 8 rfl) rfl fun h=>((d 22 rfl).1 h))<|se rfl rfl
      intro s156 w157 e158 hf159 ha160
      have K161:=Kp.ofD (kp:=[(55,79)]) rfl hf159
      have d162 : s156 78 = (.bool ((!decide (((gt x0_13 x9_50).path) = a1.path)) && ((decide (a1.kind = 3)) || (!(qG.e2 a1 x0_13 x9_50))))):=ha160 23 rfl
      clear ha160 hf159
      refine qg ?_
      rcases qe H with ⟨q163,H⟩ | ⟨q163,H⟩
      ·refine ql (d162.trans (cb q163))<|qO<|lp rfl (xm v105 ((K161 7 rfl).trans h125))<|lp rfl (xm v14 ((K161 0 rfl).trans ((K122 0 rfl).trans ((K99 0 rfl).trans ((K64 0 rfl).trans h39)))))<|lp rfl (xm (.int .i64 x9_50) ((K161 9 rfl).trans ((K122 9 rfl).trans ((K99 9 rfl).trans h70)))) ?_
       obtain ⟨c164,H⟩:=qa H
       refine vg (.plain rfl) rfl (ltb rfl) rfl Tryz.underlying35 Tryz.sizeOf52 rfl (Rd.ext h40 ((e45.t e123).t e158)) rfl c164<|fun p165 h166=>lp rfl (qW Tryz.isAgg52 Tryz.sizeOf52 rfl rfl h166)<|yt (.plain rfl) rfl (ltb rfl) rfl Tryz.underlying35 Tryz.sizeOf52 Tryz.zeroValue52 rfl rfl rfl (vs:=[(.agg (qj (gt x0_13 x9_50)).toArray)]) rfl (qX rfl)<|fun b167 w168 z169 z170 e171 k172=>?_
       obtain ⟨c173,H⟩:=qa H
       refine yP (enc:=qj) (.plain rfl) rfl (ltb rfl) rfl El.t35 rfl rfl (Ow.ext h126 (e158.t e171)) (Ow.rd (Ow.new (xs:=[gt x0_13 x9_50]) (sz:=5) (enc:=qj) (base:=w157.heap.size) k172 (Nat.le_of_eq z169) rfl (fun _ _=>by rfl) (Nat.le_of_ble_eq_true rfl))) (Yg _) (od c173) (((e123.t e158).t e171)).size<|fun v174 w175 o176 z177 g178=>lp rfl (xa v174 rfl)<|qP<|vK<|qg<|qO<|lp rfl (xm (.int .i64 x9_50) ((K161 9 rfl).trans ((K122 9 rfl).trans ((K99 9 rfl).trans h70))))<|lp rfl (vz rfl rfl)<|lp rfl (xa (.int .i64 (IntKind.wrap .i64 (x9_50 + 1))) rfl)<|nx ?_
       obtain rfl:=si H
       exact ⟨_,Nat.lt_succ_self _,x7_104 ++ ([gt x0_13 x9_50] : List Rec),v174,x8_106,IntKind.wrap .i64 (x9_50 + 1),(ku3 (ku8 (Kp.cut (Kp.cut (Kp.cut (ku4 K64 rfl) K99 rfl) K122 rfl) K161 rfl) rfl) rfl),rfl,o176,((K161 8 rfl).trans h127),rfl,(g178 _ ((e123.t e158).t e171)),S72⟩
      ·refine qh (d162.trans (cb q163))<|qw<|vK<|qg<|qO<|lp rfl (xm (.int .i64 x9_50) ((K161 9 rfl).trans ((K122 9 rfl).trans ((K99 9 rfl).trans h70))))<|lp rfl (vz rfl rfl)<|lp rfl (xa (.int .i64 (IntKind.wrap .i64 (x9_50 + 1))) rfl)<|nx ?_
       obtain rfl:=si H
       exact ⟨_,Nat.lt_succ_self _,x7_104,v105,x8_106,IntKind.wrap .i64 (x9_50 + 1),(ku3 (Kp.cut (Kp.cut (Kp.cut (ku4 K64 rfl) K99 rfl) K122 rfl) K161 rfl) rfl),((K161 7 rfl).trans h125),(Ow.ext h126 e158),((K161 8 rfl).trans h127),rfl,(e123.t e158),S72⟩
    ·refine qh (cb q73)<|yc<|vm<|vm<|yV<|qg ?_
     obtain rfl:=si H
     obtain rfl:=si S72
     exact ⟨x7_47,v48,x8_49,(ku4 K64 rfl),h67,h68,h69,e65,rfl⟩
  ·rintro s58 w57 ⟨x7_54,v55,x8_56,K59,h179,h180,h181,e60,y182⟩
   rw [y182] at C53
   have H:=C53
   replace H : _ = some _:=H
   refine qg<|qk<|wr<|lp rfl (qf h181)<|lp rfl (yR rfl)<|nx ?_
   rcases qe H with ⟨q183,H⟩ | ⟨q183,H⟩
   ·refine ql (cb q183)<|qO<|lp rfl (qf h179)<|lp rfl (qW Tryz.isAgg52 Tryz.sizeOf52 rfl ((K59 3 rfl).trans (K36 3 rfl)) (Blk.at0 (Blk.ext k6 (((e9.t e37).t e45).t e60))))<|yt (.plain rfl) rfl (ltb rfl) rfl Tryz.underlying35 Tryz.sizeOf52 Tryz.zeroValue52 rfl rfl rfl (vs:=[(.agg #[(.int .i64 a1.kind),(S a1.path),(S a1.body),(.int .i64 a1.mode),(.bool a1.opq)])]) rfl (qX rfl)<|fun b184 w185 z186 z187 e188 k189=>?_
    obtain ⟨c190,H⟩:=qa H
    refine yP (enc:=qj) (.plain rfl) rfl (ltb rfl) rfl El.t35 rfl rfl (Ow.ext h180 e188) (Ow.rd (Ow.new (xs:=[a1]) (sz:=5) (enc:=qj) (base:=w57.heap.size) k189 (Nat.le_of_eq z186) rfl (fun _ _=>by rfl) (Nat.le_of_ble_eq_true rfl))) (Yg _) (od c190) ((e60.t e188)).size<|fun v191 w192 o193 z194 g195=>lp rfl (xa v191 rfl)<|nx<|wr<|lp rfl (xm v191 rfl)<|lp rfl (xa v191 rfl)<|nx<|qr<|qy ?_
    obtain rfl:=si H
    exact QD rfl ((((e5.t e9).t e37).t e45).t (g195 _ (e60.t e188))) o193 ((((e5.t e9).t e37).t e45)).size
   ·refine qh (cb q183)<|qw<|qg<|wr<|lp rfl (qf h179)<|lp rfl (xa v55 rfl)<|nx<|qr<|qy ?_
    obtain rfl:=si H
    exact QD rfl ((((e5.t e9).t e37).t e45).t e60) h180 ((((e5.t e9).t e37).t e45)).size

/-! spec.l03Put,by text -/
theorem Vq.all : ∀ (n : Nat) (hn : n≤50) {w : World} {a0 : List Rec} {a1 : Rec} {v_a0 : Value} (f_a0 : Rd 5 qj w v_a0 a0) (h0 : putQ n a0 a1 = true),Calls Tryz.prog 128 #[v_a0,.agg (qj a1).toArray] w (Rt (RO 52 5 qj w (putG n a0 a1))):=by
  intro n
  induction n with
  | zero=>intro hn w a0 a1 v f h; exact Bool.noConfusion h
  | succ n ih=>intro hn w a0 a1 v f h; obtain ⟨k,H⟩:=qG.eq n (by omega) a0 a1 h; exact qG.walk (n:=n) (fun f h=>ih (by omega) f h) f H
theorem Vq.calls {w : World} {a0 : List Rec} {a1 : Rec} {v_a0 : Value} (f_a0 : Rd 5 qj w v_a0 a0) (h0 : VM 2 a0 a1 = true) : Calls Tryz.prog 128 #[v_a0,.agg (qj a1).toArray] w (Rt (RO 52 5 qj w (Qr 2 a0 a1))):=Vq.all 3 (by omega) f_a0 h0

/-! (*spec.l00Src).layer -/
theorem yp.walk {k : Nat} {w : World} {a0 : List Int} {a1 : DSrc} {wc : World} {cv : Value} {bs : Nat} (kc : Ext wc w) (fc : Rd 1 (Go.UL.encI .u8) wc cv a0) (hz : wc.heap.size≤bs) (ks : Blk w bs (vR cv a1).toArray 128) {r : List Rec × DSrc} (H : yp.sh k a0 a1 = some r) :
  Calls Tryz.prog 69 #[.pointer (some ⟨bs,0,none⟩)] w (Rt (RSO 128 bs cv 52 5 qj w r.1 r.2)):=by
 unfold yp.sh at H
 refine qi Tryz.func69 rfl (Nat.le_of_ble_eq_true rfl) Tryz.ntmps69 rfl ?_
 refine wr<|lp rfl (xa (.slice none 0 0) rfl)<|nx<|wr<|yt (.plain rfl) rfl (ltb rfl) rfl Tryz.underlying35 Tryz.sizeOf52 Tryz.zeroValue52 rfl rfl rfl (vs:=[]) rfl (qX rfl)<|fun b1 w2 z3 z4 e5 k6=>lp rfl (xa (.slice (some ⟨b1,0,none⟩) 0 0) rfl)<|nx<|qk<|wr<|lp rfl (xm (.pointer (some ⟨bs,0,none⟩)) rfl)<|lp rfl (xm (.pointer (some ⟨bs,0,none⟩)) rfl) ?_
 obtain ⟨z7,x8,H⟩:=bind_some H
 refine yS (.plain rfl) rfl (ltb rfl) rfl Tryz.call127 (jq.calls (w:=w2) (a0:=a0) (a1:=a1) (a2:=6) (Ext.trans kc e5) fc hz (Blk.ext ks e5) x8) rfl<|fun w11 g12 k13=>lp rfl (vz rfl rfl) ?_
 obtain ⟨z14,x15,H⟩:=bind_some H
 refine yS (.plain rfl) rfl (ltb rfl) rfl Tryz.call115 (vv.calls (w:=w11) (a0:=a0) (a1:=z7.2) (a2:=IntKind.wrap .i64 (z7.1 + 3)) (Ext.gr (Ext.trans kc e5) g12 hz) fc hz k13 x15) rfl<|fun w18 g19 k20=>lp rfl (xa (.int .i64 z14.1) rfl)<|nx ?_
 obtain ⟨z25,L26,C27⟩:=bind_some H
 clear H
 refine  vT (fun s0 sQ wQ=>∃ (x3_28 : List Rec) (v29 : Value) (y30 : DSrc),Kp [(3,6),(12,26)] s0 sQ∧sQ 3 = v29∧Ow 52 5 qj w18.heap.size wQ v29 x3_28∧Blk wQ bs ((vR cv) y30).toArray 128∧Gr bs (bs + 1) w18 wQ∧Ext wc wQ∧z25 = .inr (x3_28,y30)) ?_ ?_
 ·refine qF<|vA (fun s0 kk sQ wQ=>∃ (x3_21 : List Rec) (v22 : Value) (x4_23 : Int) (y24 : DSrc),Kp [(3,6),(12,26)] s0 sQ∧sQ 3 = v22∧Ow 52 5 qj w18.heap.size wQ v22 x3_21∧sQ 4 = .int .i64 x4_23∧Blk wQ bs ((vR cv) y24).toArray 128∧Gr bs (bs + 1) w18 wQ∧Ext wc wQ∧qt (yp.b1 a0) kk (x3_21,x4_23,y24) = some z25) k ⟨([] : List Rec),(.slice (some ⟨b1,0,none⟩) 0 0),z14.1,z14.2,kz,rfl,(Ow.zero),rfl,k20,(Gr.refl _ _ _),(Ext.gr (Ext.gr (Ext.trans kc e5) g12 hz) g19 hz),L26⟩ ?_
  rintro k35 s36 w37 ⟨x3_21,v22,x4_23,y24,K38,h41,h42,h43,h44,e39,e39c,L40⟩
  cases k35 with
  | zero=>exact absurd L40 (by simp [qt])
  | succ k35=>
   obtain ⟨t45,H,S46⟩:=qQ L40
   clear L40
   unfold yp.b1 at H
   refine qk<|wr<|lp rfl (qf h43)<|lp rfl (j8 rfl rfl)<|nx ?_
   rcases qe H with ⟨q47,H⟩ | ⟨q47,H⟩
   ·refine ql (cb q47)<|qw<|qg<|qk<|qF<|wr<|lp rfl (qf h41)<|lp rfl (xm (.pointer (some ⟨bs,0,none⟩)) (K38 0 rfl))<|lp rfl (xm (.pointer (some ⟨bs,0,none⟩)) (K38 0 rfl)) ?_
    obtain ⟨z48,x49,H⟩:=bind_some H
    refine yS (.plain rfl) rfl (ltb rfl) rfl Tryz.call130 (yy.calls (w:=w37) (a0:=a0) (a1:=y24) e39c fc hz h44 x49) rfl<|fun w52 g53 k54=>?_
    obtain ⟨z55,x56,H⟩:=bind_some H
    refine yS (.plain rfl) rfl (ltb rfl) rfl Tryz.call129 (yx.calls (w:=w52) (a0:=a0) (a1:=z48.2) (a2:=z48.1) (Ext.gr e39c g53 hz) fc hz k54 x56) rfl<|fun w59 g60 k61=>?_
    obtain ⟨c62,H⟩:=qa H
    refine vp (.plain rfl) rfl (ltb rfl) rfl Tryz.call128 (Vq.calls (w:=w59) (a0:=x3_21) (a1:=z55.1) (Ow.rd (Ow.later (Ow.later h42 g53 (Nat.le_trans (Blk.lt ks) ((Gr.trans (Gr.trans (Gr.ext e5) g12) g19)).size)) g60 (Nat.le_trans (Blk.lt ks) ((Gr.trans (Gr.trans (Gr.ext e5) g12) g19)).size))) (od c62)) rfl<|fun v65 w63 e64 o66=>lp rfl (xa v65 rfl)<|nx<|wr<|lp rfl (xm v65 rfl)<|lp rfl (qS Tryz.underlying35 rfl (Ow.rd o66))<|lp rfl (JN rfl rfl)<|nx ?_
    rcases qe H with ⟨q67,H⟩ | ⟨q67,H⟩
    ·refine ql (cb q67)<|qO<|lp rfl (xm v65 rfl)<|lp rfl (xa v65 rfl)<|qP<|vK<|qg<|qO<|lp rfl (qf h43)<|lp rfl (Q3 rfl rfl)<|lp rfl (xa (.int .i64 (IntKind.wrap .i64 (x4_23 - 1))) rfl)<|nx ?_
     obtain rfl:=si H
     exact ⟨_,Nat.lt_succ_self _,(Qr 2 x3_21 z55.1),v65,IntKind.wrap .i64 (x4_23 - 1),z55.2,(ku1 (ku8 (ku8 K38 rfl) rfl) rfl),rfl,(Ow.base o66 ((Gr.trans (Gr.trans e39 g53) g60)).size),rfl,(Blk.ext k61 e64),(Gr.trans (Gr.trans (Gr.trans e39 g53) g60) (Gr.ext e64)),(Ext.trans (Ext.gr (Ext.gr e39c g53 hz) g60 hz) e64),S46⟩
    ·refine qh (cb q67)<|qw<|vK<|qg<|qO<|lp rfl (qf h43)<|lp rfl (Q3 rfl rfl)<|lp rfl (xa (.int .i64 (IntKind.wrap .i64 (x4_23 - 1))) rfl)<|nx ?_
     obtain rfl:=si H
     exact ⟨_,Nat.lt_succ_self _,x3_21,v22,IntKind.wrap .i64 (x4_23 - 1),z55.2,(ku3 (ku4 (ku8 K38 rfl) rfl) rfl),h41,(Ow.ext (Ow.later (Ow.later h42 g53 (Nat.le_trans (Blk.lt ks) ((Gr.trans (Gr.trans (Gr.ext e5) g12) g19)).size)) g60 (Nat.le_trans (Blk.lt ks) ((Gr.trans (Gr.trans (Gr.ext e5) g12) g19)).size)) e64),rfl,(Blk.ext k61 e64),(Gr.trans (Gr.trans (Gr.trans e39 g53) g60) (Gr.ext e64)),(Ext.trans (Ext.gr (Ext.gr e39c g53 hz) g60 hz) e64),S46⟩
   ·refine qh (cb q47)<|yc<|vm<|vm<|yV<|qg ?_
    obtain rfl:=si H
    obtain rfl:=si S46
    exact ⟨x3_21,v22,y24,(ku2 K38 rfl),h41,h42,h44,e39,e39c,rfl⟩
 ·rintro s32 w31 ⟨x3_28,v29,y30,K33,h68,h69,h70,e34,e34c,y71⟩
  rw [y71] at C27
  have H:=C27
  replace H : _ = some _:=H
  refine qg<|wr<|lp rfl (qf h68)<|lp rfl (xa v29 rfl)<|nx<|qr<|qy ?_
  obtain rfl:=si H
  exact Yj rfl (Gr.trans (Gr.trans (Gr.trans (Gr.ext e5) g12) g19) e34) h70 h69 ((Gr.trans (Gr.trans (Gr.ext e5) g12) g19)).size
theorem yp.calls {w : World} {a0 : List Int} {a1 : DSrc} {r : List Rec × DSrc} {wc : World} {cv : Value} {bs : Nat} (kc : Ext wc w) (fc : Rd 1 (Go.UL.encI .u8) wc cv a0) (hz : wc.heap.size≤bs) (ks : Blk w bs (vR cv a1).toArray 128) (H : (yp.sh 12 a0 a1) = some r) :
  Calls Tryz.prog 69 #[.pointer (some ⟨bs,0,none⟩)] w (Rt (RSO 128 bs cv 52 5 qj w r.1 r.2)):=by
 obtain ⟨k,h⟩:=yp.eq a0 a1 H
 exact yp.walk kc fc hz ks h
/-! (*spec.l00Src).tree -/
theorem vD.walk {k : Nat} {w : World} {a0 : List Int} {a1 : DSrc} {wc : World} {cv : Value} {bs : Nat} (kc : Ext wc w) (fc : Rd 1 (Go.UL.encI .u8) wc cv a0) (hz : wc.heap.size≤bs) (ks : Blk w bs (vR cv a1).toArray 128) {r : List Nd × DSrc} (H : vD.sh k a0 a1 = some r) :
  Calls Tryz.prog 85 #[.pointer (some ⟨bs,0,none⟩)] w (Rt (RSO 128 bs cv 91 4 qp w r.1 r.2)):=by
 unfold vD.sh at H
 refine qi Tryz.func85 rfl (Nat.le_of_ble_eq_true rfl) Tryz.ntmps85 rfl ?_
 refine wr<|lp rfl (xa (.slice none 0 0) rfl)<|nx<|wr<|yt (.plain rfl) rfl (ltb rfl) rfl Tryz.underlying35 Tryz.sizeOf52 Tryz.zeroValue52 rfl rfl rfl (vs:=[]) rfl (qX rfl)<|fun b1 w2 z3 z4 e5 k6=>lp rfl (xa (.slice (some ⟨b1,0,none⟩) 0 0) rfl)<|nx<|qk<|wr<|lp rfl (xm (.pointer (some ⟨bs,0,none⟩)) rfl)<|lp rfl (xm (.pointer (some ⟨bs,0,none⟩)) rfl) ?_
 obtain ⟨z7,x8,H⟩:=bind_some H
 refine yS (.plain rfl) rfl (ltb rfl) rfl Tryz.call127 (jq.calls (w:=w2) (a0:=a0) (a1:=a1) (a2:=7) (Ext.trans kc e5) fc hz (Blk.ext ks e5) x8) rfl<|fun w11 g12 k13=>lp rfl (vz rfl rfl) ?_
 obtain ⟨z14,x15,H⟩:=bind_some H
 refine yS (.plain rfl) rfl (ltb rfl) rfl Tryz.call115 (vv.calls (w:=w11) (a0:=a0) (a1:=z7.2) (a2:=IntKind.wrap .i64 (z7.1 + 2)) (Ext.gr (Ext.trans kc e5) g12 hz) fc hz k13 x15) rfl<|fun w18 g19 k20=>lp rfl (xa (.int .i64 z14.1) rfl)<|nx ?_
 obtain ⟨z25,L26,C27⟩:=bind_some H
 clear H
 refine  vT (fun s0 sQ wQ=>∃ (x3_28 : List Rec) (v29 : Value) (y30 : DSrc),Kp [(3,7),(15,35)] s0 sQ∧sQ 3 = v29∧Ow 52 5 qj w18.heap.size wQ v29 x3_28∧Blk wQ bs ((vR cv) y30).toArray 128∧Gr bs (bs + 1) w18 wQ∧Ext wc wQ∧z25 = .inr (x3_28,y30)) ?_ ?_
 ·refine qF<|vA (fun s0 kk sQ wQ=>∃ (x3_21 : List Rec) (v22 : Value) (x4_23 : Int) (y24 : DSrc),Kp [(3,7),(15,35)] s0 sQ∧sQ 3 = v22∧Ow 52 5 qj w18.heap.size wQ v22 x3_21∧sQ 4 = .int .i64 x4_23∧Blk wQ bs ((vR cv) y24).toArray 128∧Gr bs (bs + 1) w18 wQ∧Ext wc wQ∧qt (vD.b1 a0) kk (x3_21,x4_23,y24) = some z25) k ⟨([] : List Rec),(.slice (some ⟨b1,0,none⟩) 0 0),z14.1,z14.2,kz,rfl,(Ow.zero),rfl,k20,(Gr.refl _ _ _),(Ext.gr (Ext.gr (Ext.trans kc e5) g12 hz) g19 hz),L26⟩ ?_
  rintro k35 s36 w37 ⟨x3_21,v22,x4_23,y24,K38,h41,h42,h43,h44,e39,e39c,L40⟩
  cases k35 with
  | zero=>exact absurd L40 (by simp [qt])
  | succ k35=>
   obtain ⟨t45,H,S46⟩:=qQ L40
   clear L40
   unfold vD.b1 at H
   refine qk<|wr<|lp rfl (qf h43)<|lp rfl (j8 rfl rfl)<|nx ?_
   rcases qe H with ⟨q47,H⟩ | ⟨q47,H⟩
   ·refine ql (cb q47)<|qw<|qg<|qk<|qF<|wr<|lp rfl (xm (.pointer (some ⟨bs,0,none⟩)) (K38 0 rfl))<|lp rfl (xm (.pointer (some ⟨bs,0,none⟩)) (K38 0 rfl)) ?_
    obtain ⟨z48,x49,H⟩:=bind_some H
    refine yS (.plain rfl) rfl (ltb rfl) rfl Tryz.call130 (yy.calls (w:=w37) (a0:=a0) (a1:=y24) e39c fc hz h44 x49) rfl<|fun w52 g53 k54=>?_
    obtain ⟨z55,x56,H⟩:=bind_some H
    refine yS (.plain rfl) rfl (ltb rfl) rfl Tryz.call129 (yx.calls (w:=w52) (a0:=a0) (a1:=z48.2) (a2:=z48.1) (Ext.gr e39c g53 hz) fc hz k54 x56) rfl<|fun w59 g60 k61=>jU (.plain rfl) rfl (ltb rfl) rfl Tryz.zeroValue52<|fun b62 w63 z64 z65 e66 k67=>vU (.plain rfl) rfl rfl Tryz.sizeOf52 rfl rfl rfl rfl rfl k67<|fun w68 h69 k70=>nx<|wr<|lp rfl (qc Tryz.underlying52 rfl Tryz.sizeOf4 rfl rfl)<|Yf (.plain rfl) rfl rfl Tryz.sizeOf4 rfl rfl rfl k70 (ltb rfl)<|fun w71 h72 k73=>nx<|qk<|wr<|lp rfl (qc Tryz.underlying52 rfl Tryz.sizeOf3 rfl rfl)<|lp rfl (qz Tryz.isAgg3 k73 rfl rfl)<|lp rfl (vx rfl rfl)<|nx ?_
    rcases qe H with ⟨q74,H⟩ | ⟨q74,H⟩
    ·refine ql (cb q74)<|qO<|lp rfl (qc Tryz.underlying52 rfl Tryz.sizeOf3 rfl rfl)<|Yf (.plain rfl) rfl rfl Tryz.sizeOf3 rfl rfl rfl k73 (ltb rfl)<|fun w75 h76 k77=>nx<|wr<|lp rfl (qf h41)<|lp rfl (qW Tryz.isAgg52 Tryz.sizeOf52 rfl rfl (Blk.at0 k77)) ?_
     obtain ⟨c78,H⟩:=qa H
     refine vp (.plain rfl) rfl (ltb rfl) rfl Tryz.call128 (Vq.calls (w:=w75) (a0:=x3_21) (a1:=(⟨3,z55.1.path,z55.1.body,z55.1.mode,false⟩ : Rec)) (Ow.rd (Ow.ext (Ow.later (Ow.later h42 g53 (Nat.le_trans (Blk.lt ks) ((Gr.trans (Gr.trans (Gr.ext e5) g12) g19)).size)) g60 (Nat.le_trans (Blk.lt ks) ((Gr.trans (Gr.trans (Gr.ext e5) g12) g19)).size)) (Below.trans (Below.trans (Below.trans e66 (Wr.below h69 (Nat.le_of_eq z64))) (Wr.below h72 (Nat.le_of_eq z64))) (Wr.below h76 (Nat.le_of_eq z64))))) (od c78)) rfl<|fun v81 w79 e80 o82=>lp rfl (xa v81 rfl)<|nx<|wr<|lp rfl (xm v81 rfl)<|lp rfl (qS Tryz.underlying35 rfl (Ow.rd o82))<|lp rfl (JN rfl rfl)<|nx ?_
     rcases qe H with ⟨q83,H⟩ | ⟨q83,H⟩
     ·refine ql (cb q83)<|qO<|lp rfl (xm v81 rfl)<|lp rfl (xa v81 rfl)<|qP<|vK<|qg<|qO<|lp rfl (qf h43)<|lp rfl (Q3 rfl rfl)<|lp rfl (xa (.int .i64 (IntKind.wrap .i64 (x4_23 - 1))) rfl)<|nx ?_
      obtain rfl:=si H
      exact ⟨_,Nat.lt_succ_self _,(Qr 2 x3_21 (⟨3,z55.1.path,z55.1.body,z55.1.mode,false⟩ : Rec)),v81,IntKind.wrap .i64 (x4_23 - 1),z55.2,(ku8 (ku8 (ku8 K38 rfl) rfl) rfl),rfl,(Ow.base o82 ((Gr.trans (Gr.trans (Gr.trans e39 g53) g60) (Gr.ext (Below.trans (Below.trans (Below.trans e66 (Wr.below h69 (Nat.le_of_eq z64))) (Wr.below h72 (Nat.le_of_eq z64))) (Wr.below h76 (Nat.le_of_eq z64)))))).size),rfl,(Blk.ext k61 (Ext.trans (Below.trans (Below.trans (Below.trans e66 (Wr.below h69 (Nat.le_of_eq z64))) (Wr.below h72 (Nat.le_of_eq z64))) (Wr.below h76 (Nat.le_of_eq z64))) e80)),(Gr.trans (Gr.trans (Gr.trans (Gr.trans e39 g53) g60) (Gr.ext (Below.trans (Below.trans (Below.trans e66 (Wr.below h69 (Nat.le_of_eq z64))) (Wr.below h72 (Nat.le_of_eq z64))) (Wr.below h76 (Nat.le_of_eq z64))))) (Gr.ext e80)),(Ext.trans (Below.trans (Below.trans (Below.trans (Ext.trans (Ext.gr (Ext.gr e39c g53 hz) g60 hz) e66) (Below.mono (Wr.below h69 (Nat.le_of_eq z64)) ((Ext.gr (Ext.gr e39c g53 hz) g60 hz)).size)) (Below.mono (Wr.below h72 (Nat.le_of_eq z64)) ((Ext.gr (Ext.gr e39c g53 hz) g60 hz)).size)) (Below.mono (Wr.below h76 (Nat.le_of_eq z64)) ((Ext.gr (Ext.gr e39c g53 hz) g60 hz)).size)) e80),S46⟩
     ·refine qh (cb q83)<|qw<|vK<|qg<|qO<|lp rfl (qf h43)<|lp rfl (Q3 rfl rfl)<|lp rfl (xa (.int .i64 (IntKind.wrap .i64 (x4_23 - 1))) rfl)<|nx ?_
      obtain rfl:=si H
      exact ⟨_,Nat.lt_succ_self _,x3_21,v22,IntKind.wrap .i64 (x4_23 - 1),z55.2,(ku2 (ku4 (ku8 (ku8 K38 rfl) rfl) rfl) rfl),h41,(Ow.ext (Ow.later (Ow.later h42 g53 (Nat.le_trans (Blk.lt ks) ((Gr.trans (Gr.trans (Gr.ext e5) g12) g19)).size)) g60 (Nat.le_trans (Blk.lt ks) ((Gr.trans (Gr.trans (Gr.ext e5) g12) g19)).size)) (Ext.trans (Below.trans (Below.trans (Below.trans e66 (Wr.below h69 (Nat.le_of_eq z64))) (Wr.below h72 (Nat.le_of_eq z64))) (Wr.below h76 (Nat.le_of_eq z64))) e80)),rfl,(Blk.ext k61 (Ext.trans (Below.trans (Below.trans (Below.trans e66 (Wr.below h69 (Nat.le_of_eq z64))) (Wr.below h72 (Nat.le_of_eq z64))) (Wr.below h76 (Nat.le_of_eq z64))) e80)),(Gr.trans (Gr.trans (Gr.trans (Gr.trans e39 g53) g60) (Gr.ext (Below.trans (Below.trans (Below.trans e66 (Wr.below h69 (Nat.le_of_eq z64))) (Wr.below h72 (Nat.le_of_eq z64))) (Wr.below h76 (Nat.le_of_eq z64))))) (Gr.ext e80)),(Ext.trans (Below.trans (Below.trans (Below.trans (Ext.trans (Ext.gr (Ext.gr e39c g53 hz) g60 hz) e66) (Below.mono (Wr.below h69 (Nat.le_of_eq z64)) ((Ext.gr (Ext.gr e39c g53 hz) g60 hz)).size)) (Below.mono (Wr.below h72 (Nat.le_of_eq z64)) ((Ext.gr (Ext.gr e39c g53 hz) g60 hz)).size)) (Below.mono (Wr.below h76 (Nat.le_of_eq z64)) ((Ext.gr (Ext.gr e39c g53 hz) g60 hz)).size)) e80),S46⟩
    ·refine qh (cb q74)<|qw<|qg<|wr<|lp rfl (qf h41)<|lp rfl (qW Tryz.isAgg52 Tryz.sizeOf52 rfl rfl (Blk.at0 k73)) ?_
     obtain ⟨c84,H⟩:=qa H
     refine vp (.plain rfl) rfl (ltb rfl) rfl Tryz.call128 (Vq.calls (w:=w71) (a0:=x3_21) (a1:=(⟨z55.1.kind,z55.1.path,z55.1.body,z55.1.mode,false⟩ : Rec)) (Ow.rd (Ow.ext (Ow.later (Ow.later h42 g53 (Nat.le_trans (Blk.lt ks) ((Gr.trans (Gr.trans (Gr.ext e5) g12) g19)).size)) g60 (Nat.le_trans (Blk.lt ks) ((Gr.trans (Gr.trans (Gr.ext e5) g12) g19)).size)) (Below.trans (Below.trans e66 (Wr.below h69 (Nat.le_of_eq z64))) (Wr.below h72 (Nat.le_of_eq z64))))) (od c84)) rfl<|fun v87 w85 e86 o88=>lp rfl (xa v87 rfl)<|nx<|wr<|lp rfl (xm v87 rfl)<|lp rfl (qS Tryz.underlying35 rfl (Ow.rd o88))<|lp rfl (JN rfl rfl)<|nx ?_
     rcases qe H with ⟨q89,H⟩ | ⟨q89,H⟩
     ·refine ql (cb q89)<|qO<|lp rfl (xm v87 rfl)<|lp rfl (xa v87 rfl)<|qP<|vK<|qg<|qO<|lp rfl (qf h43)<|lp rfl (Q3 rfl rfl)<|lp rfl (xa (.int .i64 (IntKind.wrap .i64 (x4_23 - 1))) rfl)<|nx ?_
      obtain rfl:=si H
      exact ⟨_,Nat.lt_succ_self _,(Qr 2 x3_21 (⟨z55.1.kind,z55.1.path,z55.1.body,z55.1.mode,false⟩ : Rec)),v87,IntKind.wrap .i64 (x4_23 - 1),z55.2,(ku3 (ku4 (ku8 (ku8 K38 rfl) rfl) rfl) rfl),rfl,(Ow.base o88 ((Gr.trans (Gr.trans (Gr.trans e39 g53) g60) (Gr.ext (Below.trans (Below.trans e66 (Wr.below h69 (Nat.le_of_eq z64))) (Wr.below h72 (Nat.le_of_eq z64)))))).size),rfl,(Blk.ext k61 (Ext.trans (Below.trans (Below.trans e66 (Wr.below h69 (Nat.le_of_eq z64))) (Wr.below h72 (Nat.le_of_eq z64))) e86)),(Gr.trans (Gr.trans (Gr.trans (Gr.trans e39 g53) g60) (Gr.ext (Below.trans (Below.trans e66 (Wr.below h69 (Nat.le_of_eq z64))) (Wr.below h72 (Nat.le_of_eq z64))))) (Gr.ext e86)),(Ext.trans (Below.trans (Below.trans (Ext.trans (Ext.gr (Ext.gr e39c g53 hz) g60 hz) e66) (Below.mono (Wr.below h69 (Nat.le_of_eq z64)) ((Ext.gr (Ext.gr e39c g53 hz) g60 hz)).size)) (Below.mono (Wr.below h72 (Nat.le_of_eq z64)) ((Ext.gr (Ext.gr e39c g53 hz) g60 hz)).size)) e86),S46⟩
     ·refine qh (cb q89)<|qw<|vK<|qg<|qO<|lp rfl (qf h43)<|lp rfl (Q3 rfl rfl)<|lp rfl (xa (.int .i64 (IntKind.wrap .i64 (x4_23 - 1))) rfl)<|nx ?_
      obtain rfl:=si H
      exact ⟨_,Nat.lt_succ_self _,x3_21,v22,IntKind.wrap .i64 (x4_23 - 1),z55.2,(ku1 (ku4 (ku8 (ku8 K38 rfl) rfl) rfl) rfl),h41,(Ow.ext (Ow.later (Ow.later h42 g53 (Nat.le_trans (Blk.lt ks) ((Gr.trans (Gr.trans (Gr.ext e5) g12) g19)).size)) g60 (Nat.le_trans (Blk.lt ks) ((Gr.trans (Gr.trans (Gr.ext e5) g12) g19)).size)) (Ext.trans (Below.trans (Below.trans e66 (Wr.below h69 (Nat.le_of_eq z64))) (Wr.below h72 (Nat.le_of_eq z64))) e86)),rfl,(Blk.ext k61 (Ext.trans (Below.trans (Below.trans e66 (Wr.below h69 (Nat.le_of_eq z64))) (Wr.below h72 (Nat.le_of_eq z64))) e86)),(Gr.trans (Gr.trans (Gr.trans (Gr.trans e39 g53) g60) (Gr.ext (Below.trans (Below.trans e66 (Wr.below h69 (Nat.le_of_eq z64))) (Wr.below h72 (Nat.le_of_eq z64))))) (Gr.ext e86)),(Ext.trans (Below.trans (Below.trans (Ext.trans (Ext.gr (Ext.gr e39c g53 hz) g60 hz) e66) (Below.mono (Wr.below h69 (Nat.le_of_eq z64)) ((Ext.gr (Ext.gr e39c g53 hz) g60 hz)).size)) (Below.mono (Wr.below h72 (Nat.le_of_eq z64)) ((Ext.gr (Ext.gr e39c g53 hz) g60 hz)).size)) e86),S46⟩
   ·refine qh (cb q47)<|yc<|vm<|vm<|yV<|qg ?_
    obtain rfl:=si H
    obtain rfl:=si S46
    exact ⟨x3_21,v22,y24,(ku2 K38 rfl),h41,h42,h44,e39,e39c,rfl⟩
 ·rintro s32 w31 ⟨x3_28,v29,y30,K33,h90,h91,h92,e34,e34c,y93⟩
  rw [y93] at C27
  have H:=C27
  replace H : _ = some _:=H
  refine qg<|wr<|yt (.plain rfl) rfl (ltb rfl) rfl Tryz.underlying29 Tryz.sizeOf91 Tryz.zeroValue91 rfl rfl rfl (vs:=[]) rfl (qX rfl)<|fun b94 w95 z96 z97 e98 k99=>lp rfl (xa (.slice (some ⟨b94,0,none⟩) 0 0) rfl)<|nx<|qk<|wr<|lp rfl (xa (.int .i64 0) rfl)<|nx ?_
  obtain ⟨z103,L104,C105⟩:=bind_some H
  clear H
  refine  vT (fun s0 sQ wQ=>∃ (x7_106 : List Nd) (v107 : Value),Kp [(7,9),(36,50)] s0 sQ∧sQ 7 = v107∧Ow 91 4 qp w95.heap.size wQ v107 x7_106∧Blk wQ bs ((vR cv) y30).toArray 128∧Gr bs (bs + 1) w95 wQ∧Ext wc wQ∧z103 = .inr x7_106) ?_ ?_
  ·refine qF<|vA (fun s0 kk sQ wQ=>∃ (x7_100 : List Nd) (v101 : Value) (x8_102 : Int),Kp [(7,9),(36,50)] s0 sQ∧sQ 7 = v101∧Ow 91 4 qp w95.heap.size wQ v101 x7_100∧sQ 8 = .int .i64 x8_102∧Blk wQ bs ((vR cv) y30).toArray 128∧Ow 52 5 qj w18.heap.size wQ v29 x3_28∧Gr bs (bs + 1) w95 wQ∧Ext wc wQ∧qt (vD.b2 x3_28) kk (x7_100,x8_102) = some z103) k ⟨([] : List Nd),(.slice (some ⟨b94,0,none⟩) 0 0),0,kz,rfl,(Ow.zero),rfl,(Blk.ext h92 e98),(Ow.ext h91 e98),(Gr.refl _ _ _),(Ext.trans e34c e98),L104⟩ ?_
   rintro k112 s113 w114 ⟨x7_100,v101,x8_102,K115,h118,h119,h120,h121,h122,e116,e116c,L117⟩
   cases k112 with
   | zero=>exact absurd L117 (by simp [qt])
   | succ k112=>
    obtain ⟨t123,H,S124⟩:=qQ L117
    clear L117
    unfold vD.b2 at H
    refine qk<|wr<|lp rfl (qf h120)<|lp rfl (xm v29 ((K115 3 rfl).trans h90))<|lp rfl (qS Tryz.underlying35 rfl (Ow.rd h122))<|lp rfl (ym rfl rfl)<|nx ?_
    rcases qe H with ⟨q125,H⟩ | ⟨q125,H⟩
    ·refine ql (cb q125)<|qw<|qg<|qk<|qF<|qO<|lp rfl (qf h118)<|lp rfl (xm v29 ((K115 3 rfl).trans h90))<|lp rfl (qf h120) ?_
     obtain ⟨c126,H⟩:=qa H
     refine vg (.plain rfl) rfl (ltb rfl) rfl Tryz.underlying35 Tryz.sizeOf52 rfl (Ow.rd h122) rfl c126<|fun p127 h128=>lp rfl (qW Tryz.isAgg52 Tryz.sizeOf52 rfl rfl h128)<|lc rfl rfl Tryz.call146 (Qc.calls (w:=w114) (a0:=gt x3_28 x8_102)) rfl<|fun w129 e130=>yt (.plain rfl) rfl (ltb rfl) rfl Tryz.underlying29 Tryz.sizeOf91 Tryz.zeroValue91 rfl rfl rfl (vs:=[(.agg (qp (jl (gt x3_28 x8_102))).toArray)]) rfl (qX rfl)<|fun b131 w132 z133 z134 e135 k136=>?_
     obtain ⟨c137,H⟩:=qa H
     refine yP (enc:=qp) (.plain rfl) rfl (ltb rfl) rfl El.t29 rfl rfl (Ow.ext h119 (e130.t e135)) (Ow.rd (Ow.new (xs:=[(jl (gt x3_28 x8_102))]) (sz:=4) (enc:=qp) (base:=w129.heap.size) k136 (Nat.le_of_eq z133) rfl (fun _ _=>by rfl) (Nat.le_of_ble_eq_true rfl))) (Qt _) (od c137) ((Gr.trans (Gr.trans e116 (Gr.ext e130)) (Gr.ext e135))).size<|fun v138 w139 o140 z141 g142=>lp rfl (xa v138 rfl)<|qP<|vK<|qg<|qO<|lp rfl (qf h120)<|lp rfl (vz rfl rfl)<|lp rfl (xa (.int .i64 (IntKind.wrap .i64 (x8_102 + 1))) rfl)<|nx ?_
     obtain rfl:=si H
     exact ⟨_,Nat.lt_succ_self _,x7_100 ++ ([(jl (gt x3_28 x8_102))] : List Nd),v138,IntKind.wrap .i64 (x8_102 + 1),(ku8 (ku8 K115 rfl) rfl),rfl,o140,rfl,(Gr.blk (Gr.ofBelow (g142 _ (Below.refl _ _))) (Blk.ext h121 (e130.t e135)) (Or.inr (Nat.le_trans (Blk.lt ks) ((Gr.trans (Gr.trans (Gr.trans (Gr.trans (Gr.ext e5) g12) g19) e34) (Gr.ext e98))).size))),(Ow.before (Ow.ext h122 (e130.t e135)) (Gr.ofBelow (g142 _ (Below.refl _ _))) (Ow.hb h91) (e98).size),(Gr.thn (Gr.trans (Gr.trans e116 (Gr.ext e130)) (Gr.ext e135)) (g142 _ (Below.refl _ _))),(Below.trans (Ext.trans (Ext.trans e116c e130) e135) (Below.mono (g142 _ (Below.refl _ _)) ((Ext.trans e34c e98)).size)),S124⟩
    ·refine qh (cb q125)<|yc<|vm<|vm<|yV<|qg ?_
     obtain rfl:=si H
     obtain rfl:=si S124
     exact ⟨x7_100,v101,(ku4 K115 rfl),h118,h119,h121,e116,e116c,rfl⟩
  ·rintro s109 w108 ⟨x7_106,v107,K110,h143,h144,h145,e111,e111c,y146⟩
   rw [y146] at C105
   have H:=C105
   replace H : _ = some _:=H
   refine qg<|wr<|lp rfl (qf h143)<|lp rfl (xa v107 rfl)<|nx<|qr<|qy ?_
   obtain rfl:=si H
   exact Yj rfl (Gr.trans (Gr.trans (Gr.trans (Gr.trans (Gr.trans (Gr.ext e5) g12) g19) e34) (Gr.ext e98)) e111) h145 h144 ((Gr.trans (Gr.trans (Gr.trans (Gr.trans (Gr.ext e5) g12) g19) e34) (Gr.ext e98))).size
theorem vD.calls {w : World} {a0 : List Int} {a1 : DSrc} {r : List Nd × DSrc} {wc : World} {cv : Value} {bs : Nat} (kc : Ext wc w) (fc : Rd 1 (Go.UL.encI .u8) wc cv a0) (hz : wc.heap.size≤bs) (ks : Blk w bs (vR cv a1).toArray 128) (H : (vD.sh 24 a0 a1) = some r) :
  Calls Tryz.prog 85 #[.pointer (some ⟨bs,0,none⟩)] w (Rt (RSO 128 bs cv 91 4 qp w r.1 r.2)):=by
 obtain ⟨k,h⟩:=vD.eq a0 a1 H
 exact vD.walk kc fc hz ks h
/-! (*spec.l00Src).akin -/
theorem jI.walk {w : World} {a0 : List Int} {a1 : DSrc} {a2 : List Rec} {wc : World} {cv : Value} {bs : Nat} (kc : Ext wc w) (fc : Rd 1 (Go.UL.encI .u8) wc cv a0) (hz : wc.heap.size≤bs) (ks : Blk w bs (vR cv a1).toArray 128) {v_a2 : Value} (f_a2 : Rd 5 qj wc v_a2 a2) {r : List Rec × DSrc} (H : jI.sh a0 a1 a2 = some r) :
  Calls Tryz.prog 70 #[.pointer (some ⟨bs,0,none⟩),v_a2] w (Rt (RSO 128 bs cv 52 5 qj w r.1 r.2)):=by
 unfold jI.sh at H
 refine qi Tryz.func70 rfl (Nat.le_of_ble_eq_true rfl) Tryz.ntmps70 rfl ?_
 refine wr<|lp rfl (xa (.slice none 0 0) rfl)<|nx<|wr<|yt (.plain rfl) rfl (ltb rfl) rfl Tryz.underlying35 Tryz.sizeOf52 Tryz.zeroValue52 rfl rfl rfl (vs:=[]) rfl (qX rfl)<|fun b1 w2 z3 z4 e5 k6=>lp rfl (xm v_a2 rfl) ?_
 obtain ⟨c7,H⟩:=qa H
 refine yP (enc:=qj) (.plain rfl) rfl (ltb rfl) rfl El.t35 rfl rfl (Ow.zero (base:=w2.heap.size) (w:=w2)) (Rd.ext f_a2 (Ext.trans kc e5)) (Yg _) (od c7) (Nat.le_refl _)<|fun v8 w9 o10 z11 g12=>lp rfl (xa v8 rfl)<|nx<|wr<|lp rfl (xm v8 rfl)<|lp rfl (qS Tryz.underlying35 rfl (Ow.rd o10))<|lp rfl (xa (.int .i64 ((([] : List Rec) ++ a2).length : Int)) rfl)<|nx<|qk<|wr<|lp rfl (xm (.int .i64 ((([] : List Rec) ++ a2).length : Int)) rfl)<|lp rfl (vx rfl rfl)<|nx ?_
 rcases qe H with ⟨q13,H⟩ | ⟨q13,H⟩
 ·refine ql (cb q13)<|wr<|lp rfl (xm v8 rfl)<|lp rfl (xa v8 rfl)<|nx<|qr<|qv<|qy ?_
  obtain rfl:=si H
  exact Yj rfl (Gr.trans (Gr.ext e5) (Gr.ext (Below.trans er (g12 _ (Below.refl _ _))))) (Blk.ext ks (e5.t (Below.trans er (g12 _ (Below.refl _ _))))) o10 (e5).size
 ·refine qh (cb q13)<|qw<|qg<|wr<|lp rfl (xm (.pointer (some ⟨bs,0,none⟩)) rfl)<|lp rfl (xm (.int .i64 ((([] : List Rec) ++ a2).length : Int)) rfl) ?_
  obtain ⟨z14,x15,H⟩:=bind_some H
  refine yS (.plain rfl) rfl (ltb rfl) rfl Tryz.call115 (vv.calls (w:=w9) (a0:=a0) (a1:=a1) (a2:=((([] : List Rec) ++ a2).length : Int)) (Below.trans (Ext.trans kc e5) (Below.mono (g12 _ (Below.refl _ _)) ((Ext.trans kc e5)).size)) fc hz (Blk.ext ks (e5.t (Below.trans er (g12 _ (Below.refl _ _))))) x15) rfl<|fun w18 g19 k20=>lp rfl (xa (.int .i64 z14.1) rfl)<|nx<|qk<|wr<|lp rfl (xm (.pointer (some ⟨bs,0,none⟩)) rfl) ?_
  obtain ⟨z21,x22,H⟩:=bind_some H
  refine yS (.plain rfl) rfl (ltb rfl) rfl Tryz.call115 (vv.calls (w:=w18) (a0:=a0) (a1:=z14.2) (a2:=6) (Ext.gr (Below.trans (Ext.trans kc e5) (Below.mono (g12 _ (Below.refl _ _)) ((Ext.trans kc e5)).size)) g19 hz) fc hz k20 x22) rfl<|fun w25 g26 k27=>nx<|qF<|wr<|lp rfl (vx rfl rfl)<|lp rfl (xa (.bool (decide (z21.1 = 0))) rfl)<|nx ?_
  rcases qe H with ⟨q28,H⟩ | ⟨q28,H⟩
  ·refine ql (cb q28)<|wr<|lp rfl (xm v8 rfl) ?_
   obtain ⟨c29,H⟩:=qa H
   obtain ⟨c30,H⟩:=qa H
   refine vp (.plain rfl) rfl (ltb rfl) rfl Tryz.call76 (vQ.calls (w:=w25) (a0:=([] : List Rec) ++ a2) (Ow.rd (Ow.later (Ow.later o10 g19 (Nat.le_trans (Blk.lt ks) (e5).size)) g26 (Nat.le_trans (Blk.lt ks) (e5).size))) (od c29) (od c30)) rfl<|fun v33 w31 e32 o34=>lp rfl (xa v33 rfl)<|nx<|qr<|vc<|qv<|qy ?_
   obtain rfl:=si H
   exact Yj rfl (Gr.trans (Gr.trans (Gr.trans (Gr.trans (Gr.ext e5) (Gr.ext (Below.trans er (g12 _ (Below.refl _ _))))) g19) g26) (Gr.ext e32)) (Blk.ext k27 e32) o34 ((Gr.trans (Gr.trans (Gr.trans (Gr.ext e5) (Gr.ext (Below.trans er (g12 _ (Below.refl _ _))))) g19) g26)).size
  ·refine qh (cb q28)<|wr<|lp rfl (vx rfl rfl)<|lp rfl (xa (.bool (decide (z21.1 = 1))) rfl)<|nx ?_
   rcases qe H with ⟨q35,H⟩ | ⟨q35,H⟩
   ·refine ql (cb q35)<|wr<|lp rfl (xm v8 rfl)<|lp rfl (xm (.int .i64 z14.1) rfl) ?_
    obtain ⟨c36,H⟩:=qa H
    refine vg (.plain rfl) rfl (ltb rfl) rfl Tryz.underlying35 Tryz.sizeOf52 rfl (Ow.rd (Ow.later (Ow.later o10 g19 (Nat.le_trans (Blk.lt ks) (e5).size)) g26 (Nat.le_trans (Blk.lt ks) (e5).size))) rfl c36<|fun p37 h38=>lp rfl (qc Tryz.underlying52 rfl Tryz.sizeOf3 rfl rfl)<|lp rfl (yd Tryz.isAgg3 (j:=0) h38 rfl rfl)<|lp rfl (vx rfl rfl)<|nx ?_
    rcases qe H with ⟨q39,H⟩ | ⟨q39,H⟩
    ·refine ql (cb q39)<|qO<|lp rfl (xm v8 rfl)<|lp rfl (xm (.int .i64 z14.1) rfl)<|lp rfl (xm v8 rfl)<|lp rfl (xm (.int .i64 z14.1) rfl) ?_
     obtain ⟨c40,H⟩:=qa H
     refine vg (.plain rfl) rfl (ltb rfl) rfl Tryz.underlying35 Tryz.sizeOf52 rfl (Ow.rd (Ow.later (Ow.later o10 g19 (Nat.le_trans (Blk.lt ks) (e5).size)) g26 (Nat.le_trans (Blk.lt ks) (e5).size))) rfl c40<|fun p41 h42=>lp rfl (qc Tryz.underlying52 rfl Tryz.sizeOf4 rfl rfl)<|lp rfl (yd Tryz.isAgg4 (j:=4) h42 rfl rfl)<|lp rfl (yR rfl) ?_
     obtain ⟨c45,H⟩:=qa H
     refine L_idxO (.plain rfl) rfl (ltb rfl) rfl Tryz.underlying35 Tryz.sizeOf52 rfl (Ow.later (Ow.later o10 g19 (Nat.le_trans (Blk.lt ks) (e5).size)) g26 (Nat.le_trans (Blk.lt ks) (e5).size)) rfl c45<|fun p43 h44=>lp rfl (qc Tryz.underlying52 rfl Tryz.sizeOf4 rfl rfl)<|Gv (a:=(⟨(gt (([] : List Rec) ++ a2) z14.1).kind,(gt (([] : List Rec) ++ a2) z14.1).path,(gt (([] : List Rec) ++ a2) z14.1).body,(gt (([] : List Rec) ++ a2) z14.1).mode,(!((gt (([] : List Rec) ++ a2) z14.1).opq))⟩ : Rec)) (vs:=[(.bool (!((gt (([] : List Rec) ++ a2) z14.1).opq)))]) (off:=4) (.plain rfl) rfl rfl Tryz.sizeOf4 rfl h44 rfl rfl rfl rfl rfl rfl<|fun b46 w47 h48 h49 h50 o51=>qP<|vK<|qg<|wr<|lp rfl (xm v8 rfl)<|lp rfl (xa v8 rfl)<|nx<|qr<|qy ?_
     obtain rfl:=si H
     exact Yj rfl (Gr.trans (Gr.ext e5) (Gr.thn (Gr.trans (Gr.trans (Gr.ext (Below.trans er (g12 _ (Below.refl _ _)))) g19) g26) (Wr.below h50 h49))) (Gr.blk (Gr.ofBelow (Wr.below h50 h49)) k27 (Or.inr (Nat.le_trans (Blk.lt ks) (e5).size))) o51 (e5).size
    ·refine qh (cb q39)<|qw<|vK<|qg<|wr<|lp rfl (xm v8 rfl)<|lp rfl (xa v8 rfl)<|nx<|qr<|qy ?_
     obtain rfl:=si H
     exact Yj rfl (Gr.trans (Gr.trans (Gr.trans (Gr.ext e5) (Gr.ext (Below.trans er (g12 _ (Below.refl _ _))))) g19) g26) k27 (Ow.later (Ow.later o10 g19 (Nat.le_trans (Blk.lt ks) (e5).size)) g26 (Nat.le_trans (Blk.lt ks) (e5).size)) (e5).size
   ·refine qh (cb q35)<|wr<|lp rfl (vx rfl rfl)<|lp rfl (xa (.bool (decide (z21.1 = 2))) rfl)<|nx ?_
    rcases qe H with ⟨q52,H⟩ | ⟨q52,H⟩
    ·refine ql (cb q52)<|wr<|lp rfl (xm v8 rfl)<|lp rfl (xm (.int .i64 ((([] : List Rec) ++ a2).length : Int)) rfl)<|lp rfl (Q3 rfl rfl) ?_
     obtain ⟨c53,H⟩:=qa H
     refine L_front (.plain rfl) rfl (ltb rfl) rfl Tryz.underlying35 Tryz.sizeOf52 rfl (Ow.later (Ow.later o10 g19 (Nat.le_trans (Blk.lt ks) (e5).size)) g26 (Nat.le_trans (Blk.lt ks) (e5).size)) (h:=IntKind.wrap .i64 (((([] : List Rec) ++ a2).length : Int) - 1)) ⟨_,rfl⟩ c53<|fun v54 h55=>lp rfl (xa v54 rfl)<|nx<|qr<|vc<|qv<|qy ?_
     obtain rfl:=si H
     exact Yj rfl (Gr.trans (Gr.trans (Gr.trans (Gr.ext e5) (Gr.ext (Below.trans er (g12 _ (Below.refl _ _))))) g19) g26) k27 h55 (e5).size
    ·refine qh (cb q52)<|wr<|lp rfl (vx rfl rfl)<|lp rfl (xa (.bool (decide (z21.1 = 3))) rfl)<|nx ?_
     rcases qe H with ⟨q56,H⟩ | ⟨q56,H⟩
     ·refine ql (cb q56)<|wr<|lp rfl (xm v8 rfl)<|lp rfl (xm (.pointer (some ⟨bs,0,none⟩)) rfl)<|lp rfl (xm v8 rfl)<|lp rfl (xm (.int .i64 z14.1) rfl) ?_
      obtain ⟨c57,H⟩:=qa H
      refine vg (.plain rfl) rfl (ltb rfl) rfl Tryz.underlying35 Tryz.sizeOf52 rfl (Ow.rd (Ow.later (Ow.later o10 g19 (Nat.le_trans (Blk.lt ks) (e5).size)) g26 (Nat.le_trans (Blk.lt ks) (e5).size))) rfl c57<|fun p58 h59=>lp rfl (qc Tryz.underlying52 rfl Tryz.sizeOf9 rfl rfl)<|lp rfl (yd Tryz.isAgg9 (j:=1) h59 rfl rfl) ?_
      obtain ⟨z60,x61,H⟩:=bind_some H
      refine yS (.plain rfl) rfl (ltb rfl) rfl Tryz.call129 (yx.calls (w:=w25) (a0:=a0) (a1:=z21.2) (a2:=(gt (([] : List Rec) ++ a2) z14.1).path) (Ext.gr (Ext.gr (Below.trans (Ext.trans kc e5) (Below.mono (g12 _ (Below.refl _ _)) ((Ext.trans kc e5)).size)) g19 hz) g26 hz) fc hz k27 x61) rfl<|fun w64 g65 k66=>?_
      obtain ⟨c67,H⟩:=qa H
      refine vp (.plain rfl) rfl (ltb rfl) rfl Tryz.call128 (Vq.calls (w:=w64) (a0:=([] : List Rec) ++ a2) (a1:=z60.1) (Ow.rd (Ow.later (Ow.later (Ow.later o10 g19 (Nat.le_trans (Blk.lt ks) (e5).size)) g26 (Nat.le_trans (Blk.lt ks) (e5).size)) g65 (Nat.le_trans (Blk.lt ks) (e5).size))) (od c67)) rfl<|fun v70 w68 e69 o71=>lp rfl (xa v70 rfl)<|nx<|wr<|lp rfl (xm v70 rfl)<|lp rfl (qS Tryz.underlying35 rfl (Ow.rd o71))<|lp rfl (JN rfl rfl)<|nx ?_
      rcases qe H with ⟨q72,H⟩ | ⟨q72,H⟩
      ·refine ql (cb q72)<|wr<|lp rfl (xm v70 rfl)<|lp rfl (xa v70 rfl)<|nx<|qr<|vc<|qv<|qy ?_
       obtain rfl:=si H
       exact Yj rfl (Gr.trans (Gr.trans (Gr.trans (Gr.trans (Gr.trans (Gr.ext e5) (Gr.ext (Below.trans er (g12 _ (Below.refl _ _))))) g19) g26) g65) (Gr.ext e69)) (Blk.ext k66 e69) o71 ((Gr.trans (Gr.trans (Gr.trans (Gr.trans (Gr.ext e5) (Gr.ext (Below.trans er (g12 _ (Below.refl _ _))))) g19) g26) g65)).size
      ·refine qh (cb q72)<|qw<|vK<|qg<|wr<|lp rfl (xm v8 rfl)<|lp rfl (xa v8 rfl)<|nx<|qr<|qy ?_
       obtain rfl:=si H
       exact Yj rfl (Gr.trans (Gr.trans (Gr.trans (Gr.trans (Gr.trans (Gr.ext e5) (Gr.ext (Below.trans er (g12 _ (Below.refl _ _))))) g19) g26) g65) (Gr.ext e69)) (Blk.ext k66 e69) (Ow.ext (Ow.later (Ow.later (Ow.later o10 g19 (Nat.le_trans (Blk.lt ks) (e5).size)) g26 (Nat.le_trans (Blk.lt ks) (e5).size)) g65 (Nat.le_trans (Blk.lt ks) (e5).size)) e69) (e5).size
     ·refine qh (cb q56)<|wr<|lp rfl (vx rfl rfl)<|lp rfl (xa (.bool (decide (z21.1 = 4))) rfl)<|nx ?_
      rcases qe H with ⟨q73,H⟩ | ⟨q73,H⟩
      ·refine ql (cb q73)<|wr<|lp rfl (xm v8 rfl)<|lp rfl (xm (.int .i64 z14.1) rfl) ?_
       obtain ⟨c74,H⟩:=qa H
       refine vg (.plain rfl) rfl (ltb rfl) rfl Tryz.underlying35 Tryz.sizeOf52 rfl (Ow.rd (Ow.later (Ow.later o10 g19 (Nat.le_trans (Blk.lt ks) (e5).size)) g26 (Nat.le_trans (Blk.lt ks) (e5).size))) rfl c74<|fun p75 h76=>lp rfl (qc Tryz.underlying52 rfl Tryz.sizeOf3 rfl rfl)<|lp rfl (yd Tryz.isAgg3 (j:=0) h76 rfl rfl)<|lp rfl (vx rfl rfl)<|nx ?_
       rcases qe H with ⟨q77,H⟩ | ⟨q77,H⟩
       ·refine ql (cb q77)<|qO<|lp rfl (xm v8 rfl)<|lp rfl (xm (.int .i64 z14.1) rfl) ?_
        obtain ⟨c80,H⟩:=qa H
        refine L_idxO (.plain rfl) rfl (ltb rfl) rfl Tryz.underlying35 Tryz.sizeOf52 rfl (Ow.later (Ow.later o10 g19 (Nat.le_trans (Blk.lt ks) (e5).size)) g26 (Nat.le_trans (Blk.lt ks) (e5).size)) rfl c80<|fun p78 h79=>lp rfl (qc Tryz.underlying52 rfl Tryz.sizeOf9 rfl rfl)<|Gv (a:=(⟨(gt (([] : List Rec) ++ a2) z14.1).kind,(gt (([] : List Rec) ++ a2) z14.1).path,([111,116,104,101,114] : List UInt8),(gt (([] : List Rec) ++ a2) z14.1).mode,(gt (([] : List Rec) ++ a2) z14.1).opq⟩ : Rec)) (vs:=[(S ([111,116,104,101,114] : List UInt8))]) (off:=2) (.plain rfl) rfl rfl Tryz.sizeOf9 rfl h79 rfl rfl rfl rfl rfl rfl<|fun b81 w82 h83 h84 h85 o86=>qP<|vK<|qg<|wr<|lp rfl (xm v8 rfl)<|lp rfl (xa v8 rfl)<|nx<|qr<|qy ?_
        obtain rfl:=si H
        exact Yj rfl (Gr.trans (Gr.ext e5) (Gr.thn (Gr.trans (Gr.trans (Gr.ext (Below.trans er (g12 _ (Below.refl _ _)))) g19) g26) (Wr.below h85 h84))) (Gr.blk (Gr.ofBelow (Wr.below h85 h84)) k27 (Or.inr (Nat.le_trans (Blk.lt ks) (e5).size))) o86 (e5).size
       ·refine qh (cb q77)<|qw<|vK<|qg<|wr<|lp rfl (xm v8 rfl)<|lp rfl (xa v8 rfl)<|nx<|qr<|qy ?_
        obtain rfl:=si H
        exact Yj rfl (Gr.trans (Gr.trans (Gr.trans (Gr.ext e5) (Gr.ext (Below.trans er (g12 _ (Below.refl _ _))))) g19) g26) k27 (Ow.later (Ow.later o10 g19 (Nat.le_trans (Blk.lt ks) (e5).size)) g26 (Nat.le_trans (Blk.lt ks) (e5).size)) (e5).size
      ·refine qh (cb q73)<|qw<|vK<|qg<|wr<|lp rfl (xm v8 rfl)<|lp rfl (xa v8 rfl)<|nx<|qr<|qy ?_
       obtain rfl:=si H
       exact Yj rfl (Gr.trans (Gr.trans (Gr.trans (Gr.ext e5) (Gr.ext (Below.trans er (g12 _ (Below.refl _ _))))) g19) g26) k27 (Ow.later (Ow.later o10 g19 (Nat.le_trans (Blk.lt ks) (e5).size)) g26 (Nat.le_trans (Blk.lt ks) (e5).size)) (e5).size
theorem jI.calls {w : World} {a0 : List Int} {a1 : DSrc} {a2 : List Rec} {r : List Rec × DSrc} {wc : World} {cv : Value} {bs : Nat} (kc : Ext wc w) (fc : Rd 1 (Go.UL.encI .u8) wc cv a0) (hz : wc.heap.size≤bs) (ks : Blk w bs (vR cv a1).toArray 128) {v_a2 : Value} (f_a2 : Rd 5 qj wc v_a2 a2) (H : (jI.sh a0 a1 a2) = some r) :
  Calls Tryz.prog 70 #[.pointer (some ⟨bs,0,none⟩),v_a2] w (Rt (RSO 128 bs cv 52 5 qj w r.1 r.2)):=jI.walk kc fc hz ks f_a2 (jI.eq a0 a1 a2 H)
/-! spec.LayerDrawn -/
theorem ya.walk {w : World} {a0 : List Int} {v_a0 : Value} (f_a0 : Rd 1 (Go.UL.encI .u8) w v_a0 a0) {r : List Rec} (H : ya.sh a0 = some r) :
  Calls Tryz.prog 18 #[v_a0] w (Rt (RO 52 5 qj w r)):=by
 unfold ya.sh at H
 refine qi Tryz.func18 rfl (Nat.le_of_ble_eq_true rfl) Tryz.ntmps18 rfl ?_
 refine wr<|lp rfl (xa (.slice none 0 0) rfl)<|nx<|wr<|lp rfl (xm v_a0 rfl) ?_
 obtain ⟨z1,x2,H⟩:=bind_some H
 refine L_callSN (.plain rfl) rfl (ltb rfl) rfl Tryz.call56 (vG.calls (w:=w) (a0:=a0) f_a0 x2) rfl<|fun b5 w3 z6 e4 k7=>?_
 obtain ⟨z8,x9,H⟩:=bind_some H
 refine XO (.plain rfl) rfl (ltb rfl) rfl Tryz.call69 (yp.calls (w:=w3) (a0:=a0) (a1:=z1) e4 f_a0 z6 k7 x9) rfl<|fun v15 w12 g13 k14 o16=>lp rfl (xa v15 rfl)<|nx<|qr<|qy ?_
 obtain rfl:=si H
 exact QD rfl (Ext.gr e4 g13 z6) o16 (e4).size
theorem ya.calls {w : World} {a0 : List Int} {r : List Rec} {v_a0 : Value} (f_a0 : Rd 1 (Go.UL.encI .u8) w v_a0 a0) (H : (ya.sh a0) = some r) :
  Calls Tryz.prog 18 #[v_a0] w (Rt (RO 52 5 qj w r)):=ya.walk f_a0 (ya.eq a0 H)
/-! spec.AkinDrawn -/
theorem yo.walk {w : World} {a0 : List Int} {a1 : List Rec} {v_a0 : Value} (f_a0 : Rd 1 (Go.UL.encI .u8) w v_a0 a0) {v_a1 : Value} (f_a1 : Rd 5 qj w v_a1 a1) {r : List Rec} (H : yo.sh a0 a1 = some r) :
  Calls Tryz.prog 19 #[v_a0,v_a1] w (Rt (RO 52 5 qj w r)):=by
 unfold yo.sh at H
 refine qi Tryz.func19 rfl (Nat.le_of_ble_eq_true rfl) Tryz.ntmps19 rfl ?_
 refine wr<|lp rfl (xa (.slice none 0 0) rfl)<|nx<|wr<|lp rfl (xm v_a0 rfl) ?_
 obtain ⟨z1,x2,H⟩:=bind_some H
 refine L_callSN (.plain rfl) rfl (ltb rfl) rfl Tryz.call56 (vG.calls (w:=w) (a0:=a0) f_a0 x2) rfl<|fun b5 w3 z6 e4 k7=>lp rfl (xm v_a1 rfl) ?_
 obtain ⟨z8,x9,H⟩:=bind_some H
 refine XO (.plain rfl) rfl (ltb rfl) rfl Tryz.call70 (jI.calls (w:=w3) (a0:=a0) (a1:=z1) (a2:=a1) e4 f_a0 z6 k7 f_a1 x9) rfl<|fun v15 w12 g13 k14 o16=>lp rfl (xa v15 rfl)<|nx<|qr<|qy ?_
 obtain rfl:=si H
 exact QD rfl (Ext.gr e4 g13 z6) o16 (e4).size
theorem yo.calls {w : World} {a0 : List Int} {a1 : List Rec} {r : List Rec} {v_a0 : Value} (f_a0 : Rd 1 (Go.UL.encI .u8) w v_a0 a0) {v_a1 : Value} (f_a1 : Rd 5 qj w v_a1 a1) (H : (yo.sh a0 a1) = some r) :
  Calls Tryz.prog 19 #[v_a0,v_a1] w (Rt (RO 52 5 qj w r)):=yo.walk f_a0 f_a1 (yo.eq a0 a1 H)
/-! spec.TreeDrawn -/
theorem yn.walk {w : World} {a0 : List Int} {v_a0 : Value} (f_a0 : Rd 1 (Go.UL.encI .u8) w v_a0 a0) {r : List Nd} (H : yn.sh a0 = some r) :
  Calls Tryz.prog 24 #[v_a0] w (Rt (RO 91 4 qp w r)):=by
 unfold yn.sh at H
 refine qi Tryz.func24 rfl (Nat.le_of_ble_eq_true rfl) Tryz.ntmps24 rfl ?_
 refine wr<|lp rfl (xa (.slice none 0 0) rfl)<|nx<|wr<|lp rfl (xm v_a0 rfl) ?_
 obtain ⟨z1,x2,H⟩:=bind_some H
 refine L_callSN (.plain rfl) rfl (ltb rfl) rfl Tryz.call56 (vG.calls (w:=w) (a0:=a0) f_a0 x2) rfl<|fun b5 w3 z6 e4 k7=>?_
 obtain ⟨z8,x9,H⟩:=bind_some H
 refine XO (.plain rfl) rfl (ltb rfl) rfl Tryz.call85 (vD.calls (w:=w3) (a0:=a0) (a1:=z1) e4 f_a0 z6 k7 x9) rfl<|fun v15 w12 g13 k14 o16=>lp rfl (xa v15 rfl)<|nx<|qr<|qy ?_
 obtain rfl:=si H
 exact QD rfl (Ext.gr e4 g13 z6) o16 (e4).size
theorem yn.calls {w : World} {a0 : List Int} {r : List Nd} {v_a0 : Value} (f_a0 : Rd 1 (Go.UL.encI .u8) w v_a0 a0) (H : (yn.sh a0) = some r) :
  Calls Tryz.prog 24 #[v_a0] w (Rt (RO 91 4 qp w r)):=yn.walk f_a0 (yn.eq a0 H)
/-! laws.FnWitness -/
theorem law_FnWitness.walk {w : World} {a0 : List Int} {a1 : List Int} (gv : GV 0 w) {v_a0 : Value} (f_a0 : Rd 1 (Go.UL.encI .u8) w v_a0 a0) {v_a1 : Value} (f_a1 : Rd 1 (Go.UL.encI .u8) w v_a1 a1) {r : Bool} (H : law_FnWitness.sh a0 a1 = some r) :
  Calls Tryz.prog 4 #[v_a0,v_a1] w (Rt (RP w (.bool r))):=by
 unfold law_FnWitness.sh at H
 refine qi Tryz.func4 rfl (Nat.le_of_ble_eq_true rfl) Tryz.ntmps4 rfl ?_
 refine wr<|lp rfl (xa (.bool false) rfl)<|nx<|qk<|wr<|lp rfl (xm v_a0 rfl)<|lp rfl (qS Tryz.underlying22 rfl f_a0)<|lp rfl (j8 rfl rfl)<|lp rfl (xm (.bool (decide (1048576 < (a0.length : Int)))) rfl) ?_
 obtain ⟨z2,x3,H⟩:=bind_some H
 refine yf 4 [(34,38)] 37 (fun q=>q = z2) ?_ ?_
 ·rcases qe x3 with ⟨b0_,H⟩ | ⟨b0_,H⟩
  ·refine ls rfl rfl rfl (cb b0_) rfl<|ls rfl rfl rfl (cb b0_) rfl<|ls rfl rfl rfl (cb b0_) rfl<|lp rfl (qq (b:=true) (v:=(.bool true)) (cb b0_) rfl) ?_
   obtain rfl:=si H
   exact nx ⟨(ku4 kz rfl),⟨_,rfl,rfl⟩,er⟩
  ·refine lg rfl rfl rfl rfl (cb b0_) (xm v_a1 rfl)<|lg rfl rfl rfl rfl (cb b0_) (qS Tryz.underlying22 rfl f_a1)<|lg rfl rfl rfl rfl (cb b0_) (j8 rfl rfl)<|lp rfl (qq (b:=false) (v:=(.bool (decide (1048576 < (a1.length : Int))))) (cb b0_) rfl) ?_
   obtain rfl:=si H
   exact nx ⟨(ku4 kz rfl),⟨_,rfl,rfl⟩,er⟩
 intro s8 w4 z9 K5 hq h6 e7
 rw [hq] at h6; clear hq
 refine nx ?_
 rcases qe H with ⟨q10,H⟩ | ⟨q10,H⟩
 ·refine ql (h6.trans (cb q10))<|wr<|lp rfl (xa (.bool true) rfl)<|nx<|qr<|qv<|qy ?_
  obtain rfl:=si H
  exact vt rfl e7
 ·refine qh (h6.trans (cb q10))<|qw<|qg<|wr<|lp rfl (xm v_a0 (K5 0 rfl)) ?_
  obtain ⟨z11,x12,H⟩:=bind_some H
  refine vp (.plain rfl) rfl (ltb rfl) rfl Tryz.call18 (ya.calls (w:=w4) (a0:=a0) (Rd.ext f_a0 e7) x12) rfl<|fun v15 w13 e14 o16=>lp rfl (xa v15 rfl)<|nx<|wr<|lp rfl (xm v_a1 (K5 1 rfl))<|lp rfl (xm v15 rfl) ?_
  obtain ⟨z17,x18,H⟩:=bind_some H
  refine vp (.plain rfl) rfl (ltb rfl) rfl Tryz.call19 (yo.calls (w:=w13) (a0:=a1) (a1:=z11) (Rd.ext f_a1 (e7.t e14)) (Ow.rd o16) x18) rfl<|fun v21 w19 e20 o22=>lp rfl (xa v21 rfl)<|nx<|wr<|lp rfl (xm v15 rfl)<|lp rfl (xm v21 rfl) ?_
  obtain ⟨c23,H⟩:=qa H
  obtain ⟨c24,H⟩:=qa H
  obtain ⟨c25,H⟩:=qa H
  obtain ⟨c26,H⟩:=qa H
  refine lc rfl rfl Tryz.call20 (Qn.calls (w:=w19) (a0:=z11) (a1:=z17) (GV.ext gv ((e7.t e14).t e20)) (Ow.rd (Ow.ext o16 e20)) (Ow.rd o22) (od c23) (od c24) (od c25) (od c26)) rfl<|fun w27 e28=>lp rfl (qf rfl)<|lp rfl (ve (v:=(.bool ((jL z11 z17).1))) rfl rfl)<|lp rfl (ve (v:=(.int .i64 ((jL z11 z17).2))) rfl rfl)<|lp rfl (xa (.bool ((jL z11 z17).1)) rfl)<|lp rfl (xa (.int .i64 ((jL z11 z17).2)) rfl)<|nx<|wr<|lp rfl (xm v15 rfl)<|lp rfl (xm v21 rfl) ?_
  obtain ⟨c29,H⟩:=qa H
  obtain ⟨c30,H⟩:=qa H
  obtain ⟨c31,H⟩:=qa H
  obtain ⟨c32,H⟩:=qa H
  refine lc rfl rfl Tryz.call21 (Qi.calls (w:=w27) (a0:=z11) (a1:=z17) (Ow.rd (Ow.ext o16 (e20.t e28))) (Ow.rd (Ow.ext o22 e28)) (od c29) (od c30) (od c31) (od c32)) rfl<|fun w33 e34=>lp rfl (qf rfl)<|lp rfl (ve (v:=(.bool ((jL z11 z17).1))) rfl rfl)<|lp rfl (ve (v:=(.int .i64 ((jL z11 z17).2))) rfl rfl)<|lp rfl (xa (.bool ((jL z11 z17).1)) rfl)<|lp rfl (xa (.int .i64 ((jL z11 z17).2)) rfl)<|nx<|wr<|lp rfl (xm v15 rfl)<|lp rfl (xm v21 rfl) ?_
  obtain ⟨c35,H⟩:=qa H
  obtain ⟨c36,H⟩:=qa H
  obtain ⟨c37,H⟩:=qa H
  obtain ⟨c38,H⟩:=qa H
  refine V0 (.plain rfl) rfl (ltb rfl) rfl Tryz.call22 (vj.calls (w:=w33) (a0:=z11) (a1:=z17) (GV.ext gv ((((e7.t e14).t e20).t e28).t e34)) (Ow.rd (Ow.ext o16 ((e20.t e28).t e34))) (Ow.rd (Ow.ext o22 (e28.t e34))) (od c35) (od c36) (od c37) (od c38)) rfl<|fun v41 w39 e40 o42=>lp rfl (xm (.tuple #[v41,(.int .i64 ((qD z11 z17).2))]) rfl)<|lp rfl (ve (v:=v41) rfl rfl)<|lp rfl (ve (v:=(.int .i64 ((qD z11 z17).2))) rfl rfl)<|lp rfl (xa v41 rfl)<|lp rfl (xa (.int .i64 ((qD z11 z17).2)) rfl)<|nx<|wr<|lp rfl (xm v15 rfl)<|lp rfl (xm v21 rfl) ?_
  obtain ⟨c43,H⟩:=qa H
  obtain ⟨c44,H⟩:=qa H
  obtain ⟨c45,H⟩:=qa H
  obtain ⟨c46,H⟩:=qa H
  refine V0 (.plain rfl) rfl (ltb rfl) rfl Tryz.call23 (jE.calls (w:=w39) (a0:=z11) (a1:=z17) (Ow.rd (Ow.ext o16 (((e20.t e28).t e34).t e40))) (Ow.rd (Ow.ext o22 ((e28.t e34).t e40))) (od c43) (od c44) (od c45) (od c46)) rfl<|fun v49 w47 e48 o50=>lp rfl (xm (.tuple #[v49,(.int .i64 ((qD z11 z17).2))]) rfl)<|lp rfl (ve (v:=v49) rfl rfl)<|lp rfl (ve (v:=(.int .i64 ((qD z11 z17).2))) rfl rfl)<|lp rfl (xa v49 rfl)<|lp rfl (xa (.int .i64 ((qD z11 z17).2)) rfl)<|nx<|qk<|wr<|lp rfl (xm (.int .i64 ((jL z11 z17).2)) rfl)<|lp rfl (QJ rfl rfl)<|lp rfl (xm (.bool (!decide (((jL z11 z17).2) = 0))) rfl) ?_
  obtain ⟨z52,x53,H⟩:=bind_some H
  refine yf 4 [(70,74)] 73 (fun q=>q = z52) ?_ ?_
  ·rcases qe x53 with ⟨b50_,H⟩ | ⟨b50_,H⟩
   ·refine ls rfl rfl rfl (cb b50_) rfl<|ls rfl rfl rfl (cb b50_) rfl<|ls rfl rfl rfl (cb b50_) rfl<|lp rfl (qq (b:=true) (v:=(.bool true)) (cb b50_) rfl) ?_
    obtain rfl:=si H
    exact nx ⟨(ku4 kz rfl),⟨_,rfl,rfl⟩,er⟩
   ·refine lg rfl rfl rfl rfl (cb b50_) (xm (.bool ((jL z11 z17).1)) rfl)<|lg rfl rfl rfl rfl (cb b50_) (xm (.bool ((jL z11 z17).1)) rfl)<|lg rfl rfl rfl rfl (cb b50_) (X_bne Tryz.underlying4 rfl rfl)<|lp rfl (qq (b:=false) (v:=(.bool (!decide (((jL z11 z17).1) = ((jL z11 z17).1))))) (cb b50_) rfl) ?_
    obtain rfl:=si H
    exact nx ⟨(ku4 kz rfl),⟨_,rfl,rfl⟩,er⟩
  intro s58 w54 z59 K55 hq h56 e57
  rw [hq] at h56; clear hq
  refine lp rfl (qf h56) ?_
  obtain ⟨z61,x62,H⟩:=bind_some H
  refine yf 4 [(75,79)] 78 (fun q=>q = z61) ?_ ?_
  ·rcases qe x62 with ⟨b59_,H⟩ | ⟨b59_,H⟩
   ·refine ls rfl rfl rfl (cb b59_) rfl<|ls rfl rfl rfl (cb b59_) rfl<|ls rfl rfl rfl (cb b59_) rfl<|lp rfl (qq (b:=true) (v:=(.bool true)) (cb b59_) rfl) ?_
    obtain rfl:=si H
    exact nx ⟨(ku4 kz rfl),⟨_,rfl,rfl⟩,er⟩
   ·refine lg rfl rfl rfl rfl (cb b59_) (xm (.int .i64 ((qD z11 z17).2)) (K55 12 rfl))<|lg rfl rfl rfl rfl (cb b59_) (xm (.int .i64 ((qD z11 z17).2)) (K55 14 rfl))<|lg rfl rfl rfl rfl (cb b59_) (QJ rfl rfl)<|lp rfl (qq (b:=false) (v:=(.bool (!decide (((qD z11 z17).2) = ((qD z11 z17).2))))) (cb b59_) rfl) ?_
    obtain rfl:=si H
    exact nx ⟨(ku4 kz rfl),⟨_,rfl,rfl⟩,er⟩
  intro s67 w63 z68 K64 hq h65 e66
  rw [hq] at h65; clear hq
  refine lp rfl (qf h65) ?_
  obtain ⟨z70,x71,H⟩:=bind_some H
  refine yf 5 [(80,85)] 84 (fun q=>q = z70) ?_ ?_
  ·rcases qe x71 with ⟨b68_,H⟩ | ⟨b68_,H⟩
   ·refine ls rfl rfl rfl (cb b68_) rfl<|ls rfl rfl rfl (cb b68_) rfl<|ls rfl rfl rfl (cb b68_) rfl<|ls rfl rfl rfl (cb b68_) rfl<|lp rfl (qq (b:=true) (v:=(.bool true)) (cb b68_) rfl) ?_
    obtain rfl:=si H
    exact nx ⟨(ku1 (ku4 kz rfl) rfl),⟨_,rfl,rfl⟩,er⟩
   ·refine lg rfl rfl rfl rfl (cb b68_) (xm v41 ((K64 11 rfl).trans (K55 11 rfl)))<|lg rfl rfl rfl rfl (cb b68_) (xm v49 ((K64 13 rfl).trans (K55 13 rfl))) ?_
    obtain ⟨c70,H⟩:=qa H
    refine vL (tg rfl rfl rfl (cb b68_)) rfl (ltb rfl) rfl Tryz.call17 (vF.calls (w:=w63) (a0:=(qD z11 z17).1) (a1:=(qD z11 z17).1) (Ow.rd (Ow.ext o42 ((e48.t e57).t e66))) (Ow.rd (Ow.ext o50 (e57.t e66))) (od c70)) rfl<|fun w71 e72=>lg rfl rfl rfl rfl (cb b68_) (yR rfl)<|lp rfl (qq (b:=false) (v:=(.bool (!(decide (((qD z11 z17).1) = ((qD z11 z17).1)))))) (cb b68_) rfl) ?_
    obtain rfl:=si H
    exact nx ⟨(ku1 (ku4 kz rfl) rfl),⟨_,rfl,rfl⟩,e72⟩
  intro s76 w72 z77 K73 hq h74 e75
  rw [hq] at h74; clear hq
  refine lp rfl (qf h74) ?_
  obtain ⟨z79,x80,H⟩:=bind_some H
  refine yf 5 [(86,91)] 90 (fun q=>q = z79) ?_ ?_
  ·rcases qe x80 with ⟨b77_,H⟩ | ⟨b77_,H⟩
   ·refine ls rfl rfl rfl (cb b77_) rfl<|ls rfl rfl rfl (cb b77_) rfl<|ls rfl rfl rfl (cb b77_) rfl<|ls rfl rfl rfl (cb b77_) rfl<|lp rfl (qq (b:=true) (v:=(.bool true)) (cb b77_) rfl) ?_
    obtain rfl:=si H
    exact nx ⟨(ku1 (ku4 kz rfl) rfl),⟨_,rfl,rfl⟩,er⟩
   ·refine lg rfl rfl rfl rfl (cb b77_) (xm (.int .i64 ((qD z11 z17).2)) ((K73 14 rfl).trans ((K64 14 rfl).trans (K55 14 rfl))))<|lg rfl rfl rfl rfl (cb b77_) (vx rfl rfl)<|lg rfl rfl rfl rfl (cb b77_) (xm (.bool ((jL z11 z17).1)) ((K73 9 rfl).trans ((K64 9 rfl).trans (K55 9 rfl))))<|lg rfl rfl rfl rfl (cb b77_) (X_bne Tryz.underlying4 rfl rfl)<|lp rfl (qq (b:=false) (v:=(.bool (!decide ((decide (((qD z11 z17).2) = 18)) = ((jL z11 z17).1))))) (cb b77_) rfl) ?_
    obtain rfl:=si H
    exact nx ⟨(ku1 (ku4 kz rfl) rfl),⟨_,rfl,rfl⟩,er⟩
  intro s85 w81 z86 K82 hq h83 e84
  rw [hq] at h83; clear hq
  refine nx ?_
  rcases qe H with ⟨q87,H⟩ | ⟨q87,H⟩
  ·refine ql (h83.trans (cb q87))<|wr<|lp rfl (xa (.bool false) rfl)<|nx<|qr<|qv<|qy ?_
   obtain rfl:=si H
   exact vt rfl ((((((((((e7.t e14).t e20).t e28).t e34).t e40).t e48).t e57).t e66).t e75).t e84)
  ·refine qh (h83.trans (cb q87))<|qw<|qg<|qk<|wr<|lp rfl (xm (.bool ((jL z11 z17).1)) ((K82 9 rfl).trans ((K73 9 rfl).trans ((K64 9 rfl).trans (K55 9 rfl)))))<|nx ?_
   rcases qe H with ⟨q88,H⟩ | ⟨q88,H⟩
   ·refine ql (cb q88)<|wr<|lp rfl (xm v_a1 ((K82 1 rfl).trans ((K73 1 rfl).trans ((K64 1 rfl).trans ((K55 1 rfl).trans (K5 1 rfl)))))) ?_
    obtain ⟨z89,x90,H⟩:=bind_some H
    refine vp (.plain rfl) rfl (ltb rfl) rfl Tryz.call24 (yn.calls (w:=w81) (a0:=a1) (Rd.ext f_a1 ((((((((((e7.t e14).t e20).t e28).t e34).t e40).t e48).t e57).t e66).t e75).t e84)) x90) rfl<|fun v93 w91 e92 o94=>lp rfl (xa v93 rfl)<|nx<|wr<|lp rfl (xm v15 ((K82 5 rfl).trans ((K73 5 rfl).trans ((K64 5 rfl).trans (K55 5 rfl)))))<|lp rfl (xm v93 rfl) ?_
    obtain ⟨c95,H⟩:=qa H
    obtain ⟨c96,H⟩:=qa H
    obtain ⟨c97,H⟩:=qa H
    obtain ⟨c98,H⟩:=qa H
    refine V0 (.plain rfl) rfl (ltb rfl) rfl Tryz.call25 (jA.calls (w:=w91) (a0:=z11) (a1:=z89) (GV.ext gv (((((((((((e7.t e14).t e20).t e28).t e34).t e40).t e48).t e57).t e66).t e75).t e84).t e92)) (Ow.rd (Ow.ext o16 (((((((((e20.t e28).t e34).t e40).t e48).t e57).t e66).t e75).t e84).t e92))) (Ow.rd o94) (od c95) (od c96) (od c97) (od c98)) rfl<|fun v101 w99 e100 o102=>lp rfl (xm (.tuple #[v101,(.int .i64 ((qE z11 z89).2))]) rfl)<|lp rfl (ve (v:=v101) rfl rfl)<|lp rfl (ve (v:=(.int .i64 ((qE z11 z89).2))) rfl rfl)<|lp rfl (xa v101 rfl)<|lp rfl (xa (.int .i64 ((qE z11 z89).2)) rfl)<|nx<|wr<|lp rfl (xm v21 ((K82 6 rfl).trans ((K73 6 rfl).trans ((K64 6 rfl).trans (K55 6 rfl)))))<|lp rfl (xm v93 rfl) ?_
    obtain ⟨c103,H⟩:=qa H
    obtain ⟨c104,H⟩:=qa H
    obtain ⟨c105,H⟩:=qa H
    obtain ⟨c106,H⟩:=qa H
    refine V0 (.plain rfl) rfl (ltb rfl) rfl Tryz.call25 (jA.calls (w:=w99) (a0:=z17) (a1:=z89) (GV.ext gv ((((((((((((e7.t e14).t e20).t e28).t e34).t e40).t e48).t e57).t e66).t e75).t e84).t e92).t e100)) (Ow.rd (Ow.ext o22 (((((((((e28.t e34).t e40).t e48).t e57).t e66).t e75).t e84).t e92).t e100))) (Ow.rd (Ow.ext o94 e100)) (od c103) (od c104) (od c105) (od c106)) rfl<|fun v109 w107 e108 o110=>lp rfl (xm (.tuple #[v109,(.int .i64 ((qE z17 z89).2))]) rfl)<|lp rfl (ve (v:=v109) rfl rfl)<|lp rfl (ve (v:=(.int .i64 ((qE z17 z89).2))) rfl rfl)<|lp rfl (xa v109 rfl)<|lp rfl (xa (.int .i64 ((qE z17 z89).2)) rfl)<|nx<|wr<|lp rfl (xm v15 ((K82 5 rfl).trans ((K73 5 rfl).trans ((K64 5 rfl).trans (K55 5 rfl)))))<|lp rfl (xm v93 rfl) ?_
    obtain ⟨c111,H⟩:=qa H
    obtain ⟨c112,H⟩:=qa H
    obtain ⟨c113,H⟩:=qa H
    obtain ⟨c114,H⟩:=qa H
    refine V0 (.plain rfl) rfl (ltb rfl) rfl Tryz.call26 (jN.calls (w:=w107) (a0:=z11) (a1:=z89) (Ow.rd (Ow.ext o16 (((((((((((e20.t e28).t e34).t e40).t e48).t e57).t e66).t e75).t e84).t e92).t e100).t e108))) (Ow.rd (Ow.ext o94 (e100.t e108))) (od c111) (od c112) (od c113) (od c114)) rfl<|fun v117 w115 e116 o118=>lp rfl (xm (.tuple #[v117,(.int .i64 ((qE z11 z89).2))]) rfl)<|lp rfl (ve (v:=v117) rfl rfl)<|lp rfl (ve (v:=(.int .i64 ((qE z11 z89).2))) rfl rfl)<|lp rfl (xa v117 rfl)<|lp rfl (xa (.int .i64 ((qE z11 z89).2)) rfl)<|nx<|wr<|lp rfl (xm (.int .i64 ((qE z11 z89).2)) rfl)<|lp rfl (xm (.int .i64 ((qE z11 z89).2)) rfl)<|lp rfl (vx rfl rfl)<|lp rfl (xm (.bool (decide (((qE z11 z89).2) = ((qE z11 z89).2)))) rfl) ?_
    obtain ⟨z120,x121,H⟩:=bind_some H
    refine yf 4 [(116,120)] 119 (fun q=>q = z120) ?_ ?_
    ·rcases qe x121 with ⟨b118_,H⟩ | ⟨b118_,H⟩
     ·refine lg rfl rfl rfl rfl (cb b118_) (xm (.int .i64 ((qE z17 z89).2)) rfl)<|lg rfl rfl rfl rfl (cb b118_) (xm (.int .i64 ((qE z11 z89).2)) rfl)<|lg rfl rfl rfl rfl (cb b118_) (vx rfl rfl)<|lp rfl (qq (b:=true) (v:=(.bool (decide (((qE z17 z89).2) = ((qE z11 z89).2))))) (cb b118_) rfl) ?_
      obtain rfl:=si H
      exact nx ⟨(ku4 kz rfl),⟨_,rfl,rfl⟩,er⟩
     ·refine ls rfl rfl rfl (cb b118_) rfl<|ls rfl rfl rfl (cb b118_) rfl<|ls rfl rfl rfl (cb b118_) rfl<|lp rfl (qq (b:=false) (v:=(.bool false)) (cb b118_) rfl) ?_
      obtain rfl:=si H
      exact nx ⟨(ku4 kz rfl),⟨_,rfl,rfl⟩,er⟩
    intro s126 w122 z127 K123 hq h124 e125
    rw [hq] at h124; clear hq
    refine lp rfl (qf h124) ?_
    obtain ⟨z129,x130,H⟩:=bind_some H
    refine yf 4 [(121,125)] 124 (fun q=>q = z129) ?_ ?_
    ·rcases qe x130 with ⟨b127_,H⟩ | ⟨b127_,H⟩
     ·refine lg rfl rfl rfl rfl (cb b127_) (xm v101 (K123 16 rfl))<|lg rfl rfl rfl rfl (cb b127_) (xm v117 (K123 20 rfl)) ?_
      obtain ⟨c129,H⟩:=qa H
      refine vL (tg rfl rfl rfl (cb b127_)) rfl (ltb rfl) rfl Tryz.call17 (vF.calls (w:=w122) (a0:=(qE z11 z89).1) (a1:=(qE z11 z89).1) (Ow.rd (Ow.ext o102 ((e108.t e116).t e125))) (Ow.rd (Ow.ext o118 e125)) (od c129)) rfl<|fun w130 e131=>lp rfl (qq (b:=true) (v:=(.bool (decide (((qE z11 z89).1) = ((qE z11 z89).1))))) (cb b127_) rfl) ?_
      obtain rfl:=si H
      exact nx ⟨(ku4 kz rfl),⟨_,rfl,rfl⟩,e131⟩
     ·refine ls rfl rfl rfl (cb b127_) rfl<|ls rfl rfl rfl (cb b127_) rfl<|ls rfl rfl rfl (cb b127_) rfl<|lp rfl (qq (b:=false) (v:=(.bool false)) (cb b127_) rfl) ?_
      obtain rfl:=si H
      exact nx ⟨(ku4 kz rfl),⟨_,rfl,rfl⟩,er⟩
    intro s135 w131 z136 K132 hq h133 e134
    rw [hq] at h133; clear hq
    refine lp rfl (qf h133) ?_
    obtain ⟨z138,x139,H⟩:=bind_some H
    refine yf 4 [(126,130)] 129 (fun q=>q = z138) ?_ ?_
    ·rcases qe x139 with ⟨b136_,H⟩ | ⟨b136_,H⟩
     ·refine lg rfl rfl rfl rfl (cb b136_) (xm v109 ((K132 18 rfl).trans (K123 18 rfl)))<|lg rfl rfl rfl rfl (cb b136_) (xm v117 ((K132 20 rfl).trans (K123 20 rfl))) ?_
      obtain ⟨c138,H⟩:=qa H
      refine vL (tg rfl rfl rfl (cb b136_)) rfl (ltb rfl) rfl Tryz.call17 (vF.calls (w:=w131) (a0:=(qE z17 z89).1) (a1:=(qE z11 z89).1) (Ow.rd (Ow.ext o110 ((e116.t e125).t e134))) (Ow.rd (Ow.ext o118 (e125.t e134))) (od c138)) rfl<|fun w139 e140=>lp rfl (qq (b:=true) (v:=(.bool (decide (((qE z17 z89).1) = ((qE z11 z89).1))))) (cb b136_) rfl) ?_
      obtain rfl:=si H
      exact nx ⟨(ku4 kz rfl),⟨_,rfl,rfl⟩,e140⟩
     ·refine ls rfl rfl rfl (cb b136_) rfl<|ls rfl rfl rfl (cb b136_) rfl<|ls rfl rfl rfl (cb b136_) rfl<|lp rfl (qq (b:=false) (v:=(.bool false)) (cb b136_) rfl) ?_
      obtain rfl:=si H
      exact nx ⟨(ku4 kz rfl),⟨_,rfl,rfl⟩,er⟩
    intro s144 w140 z145 K141 hq h142 e143
    rw [hq] at h142; clear hq
    refine lp rfl (qA h142)<|nx<|qr<|qv<|qy ?_
    obtain rfl:=si H
    exact vt rfl (((((((((((((((((e7.t e14).t e20).t e28).t e34).t e40).t e48).t e57).t e66).t e75).t e84).t e92).t e100).t e108).t e116).t e125).t e134).t e143)
   ·refine qh (cb q88)<|qw<|qg<|qk<|wr<|lp rfl (xm v41 ((K82 11 rfl).trans ((K73 11 rfl).trans ((K64 11 rfl).trans (K55 11 rfl))))) ?_
    obtain ⟨c146,H⟩:=qa H
    obtain ⟨c147,H⟩:=qa H
    refine lc rfl rfl Tryz.call27 (qK.calls (w:=w81) (a0:=(qD z11 z17).1) (GV.ext gv ((((((((((e7.t e14).t e20).t e28).t e34).t e40).t e48).t e57).t e66).t e75).t e84)) (Ow.rd (Ow.ext o42 ((((e48.t e57).t e66).t e75).t e84))) (od c146) (od c147)) rfl<|fun w148 e149=>lp rfl (yR rfl)<|nx ?_
    rcases qe H with ⟨q150,H⟩ | ⟨q150,H⟩
    ·refine ql (cb q150)<|wr<|lp rfl (xa (.bool false) rfl)<|nx<|qr<|qv<|qy ?_
     obtain rfl:=si H
     exact vt rfl (((((((((((e7.t e14).t e20).t e28).t e34).t e40).t e48).t e57).t e66).t e75).t e84).t e149)
    ·refine qh (cb q150)<|qw<|qg<|wr<|lp rfl (xm v15 ((K82 5 rfl).trans ((K73 5 rfl).trans ((K64 5 rfl).trans (K55 5 rfl)))))<|lp rfl (xm v41 ((K82 11 rfl).trans ((K73 11 rfl).trans ((K64 11 rfl).trans (K55 11 rfl))))) ?_
     obtain ⟨c151,H⟩:=qa H
     obtain ⟨c152,H⟩:=qa H
     obtain ⟨c153,H⟩:=qa H
     obtain ⟨c154,H⟩:=qa H
     refine V0 (.plain rfl) rfl (ltb rfl) rfl Tryz.call25 (jA.calls (w:=w148) (a0:=z11) (a1:=(qD z11 z17).1) (GV.ext gv (((((((((((e7.t e14).t e20).t e28).t e34).t e40).t e48).t e57).t e66).t e75).t e84).t e149)) (Ow.rd (Ow.ext o16 (((((((((e20.t e28).t e34).t e40).t e48).t e57).t e66).t e75).t e84).t e149))) (Ow.rd (Ow.ext o42 (((((e48.t e57).t e66).t e75).t e84).t e149))) (od c151) (od c152) (od c153) (od c154)) rfl<|fun v157 w155 e156 o158=>lp rfl (xm (.tuple #[v157,(.int .i64 ((qE z11 ((qD z11 z17).1)).2))]) rfl)<|lp rfl (ve (v:=v157) rfl rfl)<|lp rfl (ve (v:=(.int .i64 ((qE z11 ((qD z11 z17).1)).2))) rfl rfl)<|lp rfl (xa v157 rfl)<|lp rfl (xa (.int .i64 ((qE z11 ((qD z11 z17).1)).2)) rfl)<|nx<|wr<|lp rfl (xm v21 ((K82 6 rfl).trans ((K73 6 rfl).trans ((K64 6 rfl).trans (K55 6 rfl)))))<|lp rfl (xm v41 ((K82 11 rfl).trans ((K73 11 rfl).trans ((K64 11 rfl).trans (K55 11 rfl))))) ?_
     obtain ⟨c159,H⟩:=qa H
     obtain ⟨c160,H⟩:=qa H
     obtain ⟨c161,H⟩:=qa H
     obtain ⟨c162,H⟩:=qa H
     refine V0 (.plain rfl) rfl (ltb rfl) rfl Tryz.call25 (jA.calls (w:=w155) (a0:=z17) (a1:=(qD z11 z17).1) (GV.ext gv ((((((((((((e7.t e14).t e20).t e28).t e34).t e40).t e48).t e57).t e66).t e75).t e84).t e149).t e156)) (Ow.rd (Ow.ext o22 (((((((((e28.t e34).t e40).t e48).t e57).t e66).t e75).t e84).t e149).t e156))) (Ow.rd (Ow.ext o42 ((((((e48.t e57).t e66).t e75).t e84).t e149).t e156))) (od c159) (od c160) (od c161) (od c162)) rfl<|fun v165 w163 e164 o166=>lp rfl (xm (.tuple #[v165,(.int .i64 ((qE z17 ((qD z11 z17).1)).2))]) rfl)<|lp rfl (ve (v:=v165) rfl rfl)<|lp rfl (ve (v:=(.int .i64 ((qE z17 ((qD z11 z17).1)).2))) rfl rfl)<|lp rfl (xa v165 rfl)<|lp rfl (xa (.int .i64 ((qE z17 ((qD z11 z17).1)).2)) rfl)<|nx<|wr<|lp rfl (xm v15 ((K82 5 rfl).trans ((K73 5 rfl).trans ((K64 5 rfl).trans (K55 5 rfl)))))<|lp rfl (xm v49 ((K82 13 rfl).trans ((K73 13 rfl).trans ((K64 13 rfl).trans (K55 13 rfl))))) ?_
     obtain ⟨c167,H⟩:=qa H
     obtain ⟨c168,H⟩:=qa H
     obtain ⟨c169,H⟩:=qa H
     obtain ⟨c170,H⟩:=qa H
     refine V0 (.plain rfl) rfl (ltb rfl) rfl Tryz.call26 (jN.calls (w:=w163) (a0:=z11) (a1:=(qD z11 z17).1) (Ow.rd (Ow.ext o16 (((((((((((e20.t e28).t e34).t e40).t e48).t e57).t e66).t e75).t e84).t e149).t e156).t e164))) (Ow.rd (Ow.ext o50 ((((((e57.t e66).t e75).t e84).t e149).t e156).t e164))) (od c167) (od c168) (od c169) (od c170)) rfl<|fun v173 w171 e172 o174=>lp rfl (xm (.tuple #[v173,(.int .i64 ((qE z11 ((qD z11 z17).1)).2))]) rfl)<|lp rfl (ve (v:=v173) rfl rfl)<|lp rfl (ve (v:=(.int .i64 ((qE z11 ((qD z11 z17).1)).2))) rfl rfl)<|lp rfl (xa v173 rfl)<|lp rfl (xa (.int .i64 ((qE z11 ((qD z11 z17).1)).2)) rfl)<|nx<|wr<|lp rfl (xm v21 ((K82 6 rfl).trans ((K73 6 rfl).trans ((K64 6 rfl).trans (K55 6 rfl)))))<|lp rfl (xm v49 ((K82 13 rfl).trans ((K73 13 rfl).trans ((K64 13 rfl).trans (K55 13 rfl))))) ?_
     obtain ⟨c175,H⟩:=qa H
     obtain ⟨c176,H⟩:=qa H
     obtain ⟨c177,H⟩:=qa H
     obtain ⟨c178,H⟩:=qa H
     refine V0 (.plain rfl) rfl (ltb rfl) rfl Tryz.call26 (jN.calls (w:=w171) (a0:=z17) (a1:=(qD z11 z17).1) (Ow.rd (Ow.ext o22 (((((((((((e28.t e34).t e40).t e48).t e57).t e66).t e75).t e84).t e149).t e156).t e164).t e172))) (Ow.rd (Ow.ext o50 (((((((e57.t e66).t e75).t e84).t e149).t e156).t e164).t e172))) (od c175) (od c176) (od c177) (od c178)) rfl<|fun v181 w179 e180 o182=>lp rfl (xm (.tuple #[v181,(.int .i64 ((qE z17 ((qD z11 z17).1)).2))]) rfl)<|lp rfl (ve (v:=v181) rfl rfl)<|lp rfl (ve (v:=(.int .i64 ((qE z17 ((qD z11 z17).1)).2))) rfl rfl)<|lp rfl (xa v181 rfl)<|lp rfl (xa (.int .i64 ((qE z17 ((qD z11 z17).1)).2)) rfl)<|nx<|wr<|lp rfl (xm (.int .i64 ((qE z11 ((qD z11 z17).1)).2)) rfl)<|lp rfl (xm (.int .i64 ((qE z11 ((qD z11 z17).1)).2)) rfl)<|lp rfl (vx rfl rfl)<|lp rfl (qf rfl) ?_
     obtain ⟨z184,x185,H⟩:=bind_some H
     refine yf 4 [(161,165)] 164 (fun q=>q = z184) ?_ ?_
     ·rcases qe x185 with ⟨b182_,H⟩ | ⟨b182_,H⟩
      ·refine lg rfl rfl rfl rfl (cb b182_) (xm (.int .i64 ((qE z17 ((qD z11 z17).1)).2)) rfl)<|lg rfl rfl rfl rfl (cb b182_) (xm (.int .i64 ((qE z17 ((qD z11 z17).1)).2)) rfl)<|lg rfl rfl rfl rfl (cb b182_) (vx rfl rfl)<|lp rfl (qq (b:=true) (v:=(.bool (decide (((qE z17 ((qD z11 z17).1)).2) = ((qE z17 ((qD z11 z17).1)).2))))) (cb b182_) rfl) ?_
       obtain rfl:=si H
       exact nx ⟨(ku4 kz rfl),⟨_,rfl,rfl⟩,er⟩
      ·refine ls rfl rfl rfl (cb b182_) rfl<|ls rfl rfl rfl (cb b182_) rfl<|ls rfl rfl rfl (cb b182_) rfl<|lp rfl (qq (b:=false) (v:=(.bool false)) (cb b182_) rfl) ?_
       obtain rfl:=si H
       exact nx ⟨(ku4 kz rfl),⟨_,rfl,rfl⟩,er⟩
     intro s190 w186 z191 K187 hq h188 e189
     rw [hq] at h188; clear hq
     refine lp rfl (qf h188) ?_
     obtain ⟨z193,x194,H⟩:=bind_some H
     refine yf 3 [(166,169)] 168 (fun q=>q = z193) ?_ ?_
     ·rcases qe x194 with ⟨b191_,H⟩ | ⟨b191_,H⟩
      ·refine lg rfl rfl rfl rfl (cb b191_) (xm (.int .i64 ((qE z11 ((qD z11 z17).1)).2)) (K187 27 rfl))<|lg rfl rfl rfl rfl (cb b191_) (vx rfl rfl)<|lp rfl (qq (b:=true) (v:=(.bool (decide (((qE z11 ((qD z11 z17).1)).2) = 0)))) (cb b191_) rfl) ?_
       obtain rfl:=si H
       exact nx ⟨(ku3 kz rfl),⟨_,rfl,rfl⟩,er⟩
      ·refine ls rfl rfl rfl (cb b191_) rfl<|ls rfl rfl rfl (cb b191_) rfl<|lp rfl (qq (b:=false) (v:=(.bool false)) (cb b191_) rfl) ?_
       obtain rfl:=si H
       exact nx ⟨(ku3 kz rfl),⟨_,rfl,rfl⟩,er⟩
     intro s199 w195 z200 K196 hq h197 e198
     rw [hq] at h197; clear hq
     refine lp rfl (qf h197) ?_
     obtain ⟨z202,x203,H⟩:=bind_some H
     refine yf 3 [(170,173)] 172 (fun q=>q = z202) ?_ ?_
     ·rcases qe x203 with ⟨b200_,H⟩ | ⟨b200_,H⟩
      ·refine lg rfl rfl rfl rfl (cb b200_) (xm (.int .i64 ((qE z17 ((qD z11 z17).1)).2)) ((K196 29 rfl).trans (K187 29 rfl)))<|lg rfl rfl rfl rfl (cb b200_) (vx rfl rfl)<|lp rfl (qq (b:=true) (v:=(.bool (decide (((qE z17 ((qD z11 z17).1)).2) = 0)))) (cb b200_) rfl) ?_
       obtain rfl:=si H
       exact nx ⟨(ku3 kz rfl),⟨_,rfl,rfl⟩,er⟩
      ·refine ls rfl rfl rfl (cb b200_) rfl<|ls rfl rfl rfl (cb b200_) rfl<|lp rfl (qq (b:=false) (v:=(.bool false)) (cb b200_) rfl) ?_
       obtain rfl:=si H
       exact nx ⟨(ku3 kz rfl),⟨_,rfl,rfl⟩,er⟩
     intro s208 w204 z209 K205 hq h206 e207
     rw [hq] at h206; clear hq
     refine lp rfl (qf h206) ?_
     obtain ⟨z211,x212,H⟩:=bind_some H
     refine yf 4 [(174,178)] 177 (fun q=>q = z211) ?_ ?_
     ·rcases qe x212 with ⟨b209_,H⟩ | ⟨b209_,H⟩
      ·refine lg rfl rfl rfl rfl (cb b209_) (xm v157 ((K205 22 rfl).trans ((K196 22 rfl).trans (K187 22 rfl))))<|lg rfl rfl rfl rfl (cb b209_) (xm v173 ((K205 26 rfl).trans ((K196 26 rfl).trans (K187 26 rfl)))) ?_
       obtain ⟨c211,H⟩:=qa H
       refine vL (tg rfl rfl rfl (cb b209_)) rfl (ltb rfl) rfl Tryz.call17 (vF.calls (w:=w204) (a0:=(qE z11 ((qD z11 z17).1)).1) (a1:=(qE z11 ((qD z11 z17).1)).1) (Ow.rd (Ow.ext o158 (((((e164.t e172).t e180).t e189).t e198).t e207))) (Ow.rd (Ow.ext o174 (((e180.t e189).t e198).t e207))) (od c211)) rfl<|fun w212 e213=>lp rfl (qq (b:=true) (v:=(.bool (decide (((qE z11 ((qD z11 z17).1)).1) = ((qE z11 ((qD z11 z17).1)).1))))) (cb b209_) rfl) ?_
       obtain rfl:=si H
       exact nx ⟨(ku4 kz rfl),⟨_,rfl,rfl⟩,e213⟩
      ·refine ls rfl rfl rfl (cb b209_) rfl<|ls rfl rfl rfl (cb b209_) rfl<|ls rfl rfl rfl (cb b209_) rfl<|lp rfl (qq (b:=false) (v:=(.bool false)) (cb b209_) rfl) ?_
       obtain rfl:=si H
       exact nx ⟨(ku4 kz rfl),⟨_,rfl,rfl⟩,er⟩
     intro s217 w213 z218 K214 hq h215 e216
     rw [hq] at h215; clear hq
     refine lp rfl (qf h215) ?_
     obtain ⟨z220,x221,H⟩:=bind_some H
     refine yf 4 [(179,183)] 182 (fun q=>q = z220) ?_ ?_
     ·rcases qe x221 with ⟨b218_,H⟩ | ⟨b218_,H⟩
      ·refine lg rfl rfl rfl rfl (cb b218_) (xm v165 ((K214 24 rfl).trans ((K205 24 rfl).trans ((K196 24 rfl).trans (K187 24 rfl)))))<|lg rfl rfl rfl rfl (cb b218_) (xm v181 ((K214 28 rfl).trans ((K205 28 rfl).trans ((K196 28 rfl).trans (K187 28 rfl))))) ?_
       obtain ⟨c220,H⟩:=qa H
       refine vL (tg rfl rfl rfl (cb b218_)) rfl (ltb rfl) rfl Tryz.call17 (vF.calls (w:=w213) (a0:=(qE z17 ((qD z11 z17).1)).1) (a1:=(qE z17 ((qD z11 z17).1)).1) (Ow.rd (Ow.ext o166 (((((e172.t e180).t e189).t e198).t e207).t e216))) (Ow.rd (Ow.ext o182 (((e189.t e198).t e207).t e216))) (od c220)) rfl<|fun w221 e222=>lp rfl (qq (b:=true) (v:=(.bool (decide (((qE z17 ((qD z11 z17).1)).1) = ((qE z17 ((qD z11 z17).1)).1))))) (cb b218_) rfl) ?_
       obtain rfl:=si H
       exact nx ⟨(ku4 kz rfl),⟨_,rfl,rfl⟩,e222⟩
      ·refine ls rfl rfl rfl (cb b218_) rfl<|ls rfl rfl rfl (cb b218_) rfl<|ls rfl rfl rfl (cb b218_) rfl<|lp rfl (qq (b:=false) (v:=(.bool false)) (cb b218_) rfl) ?_
       obtain rfl:=si H
       exact nx ⟨(ku4 kz rfl),⟨_,rfl,rfl⟩,er⟩
     intro s226 w222 z227 K223 hq h224 e225
     rw [hq] at h224; clear hq
     refine lp rfl (qf h224) ?_
     obtain ⟨z229,x230,H⟩:=bind_some H
     refine yf 5 [(184,189)] 188 (fun q=>q = z229) ?_ ?_
     ·rcases qe x230 with ⟨b227_,H⟩ | ⟨b227_,H⟩
      ·refine lg rfl rfl rfl rfl (cb b227_) (xm v157 ((K223 22 rfl).trans ((K214 22 rfl).trans ((K205 22 rfl).trans ((K196 22 rfl).trans (K187 22 rfl))))))<|lg rfl rfl rfl rfl (cb b227_) (xm v165 ((K223 24 rfl).trans ((K214 24 rfl).trans ((K205 24 rfl).trans ((K196 24 rfl).trans (K187 24 rfl)))))) ?_
       obtain ⟨c229,H⟩:=qa H
       refine vL (tg rfl rfl rfl (cb b227_)) rfl (ltb rfl) rfl Tryz.call17 (vF.calls (w:=w222) (a0:=(qE z11 ((qD z11 z17).1)).1) (a1:=(qE z17 ((qD z11 z17).1)).1) (Ow.rd (Ow.ext o158 (((((((e164.t e172).t e180).t e189).t e198).t e207).t e216).t e225))) (Ow.rd (Ow.ext o166 ((((((e172.t e180).t e189).t e198).t e207).t e216).t e225))) (od c229)) rfl<|fun w230 e231=>lg rfl rfl rfl rfl (cb b227_) (yR rfl)<|lp rfl (qq (b:=true) (v:=(.bool (!(decide (((qE z11 ((qD z11 z17).1)).1) = ((qE z17 ((qD z11 z17).1)).1)))))) (cb b227_) rfl) ?_
       obtain rfl:=si H
       exact nx ⟨(ku1 (ku4 kz rfl) rfl),⟨_,rfl,rfl⟩,e231⟩
      ·refine ls rfl rfl rfl (cb b227_) rfl<|ls rfl rfl rfl (cb b227_) rfl<|ls rfl rfl rfl (cb b227_) rfl<|ls rfl rfl rfl (cb b227_) rfl<|lp rfl (qq (b:=false) (v:=(.bool false)) (cb b227_) rfl) ?_
       obtain rfl:=si H
       exact nx ⟨(ku1 (ku4 kz rfl) rfl),⟨_,rfl,rfl⟩,er⟩
     intro s235 w231 z236 K232 hq h233 e234
     rw [hq] at h233; clear hq
     refine lp rfl (qA h233)<|nx<|qr<|qy ?_
     obtain rfl:=si H
     exact vt rfl (((((((((((((((((((((e7.t e14).t e20).t e28).t e34).t e40).t e48).t e57).t e66).t e75).t e84).t e149).t e156).t e164).t e172).t e180).t e189).t e198).t e207).t e216).t e225).t e234)
theorem law_FnWitness.calls {w : World} {a0 : List Int} {a1 : List Int} (gv : GV 0 w) {v_a0 : Value} (f_a0 : Rd 1 (Go.UL.encI .u8) w v_a0 a0) {v_a1 : Value} (f_a1 : Rd 1 (Go.UL.encI .u8) w v_a1 a1) (h0 : ∀ x ∈ a0,okB x) (h1 : a0.length≤9223372036854775807) (h2 : ∀ x ∈ a1,okB x) (h3 : a1.length≤9223372036854775807) :
  Calls Tryz.prog 4 #[v_a0,v_a1] w (Rt (RP w (.bool true))):=law_FnWitness.walk gv f_a0 f_a1 (law_FnWitness.eq a0 a1 h0 h1 h2 h3)
end Go.Proofs.YtdhmlillkbjjjaaGreatDoor
