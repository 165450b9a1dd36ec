/- The walks, by program (wip/tools). -/
import Derived.Test.YtdhmlillkbjjjaaGreatDoorProg
import Derived.Test.YtdhmlillkbjjjaaGreatDoorKI
import Derived.Test.YtdhmlillkbjjjaaGreatDoormWA
set_option linter.unusedVariables false
set_option linter.unusedSimpArgs false
set_option maxRecDepth 10000
namespace Go.Proofs.YtdhmlillkbjjjaaGreatDoor
open Go.UL Go.RowKit
/-! spec.WinnerAt -/
theorem yI.walk {w : World} {a0 : List (List Rec)} {a1 : List UInt8} {v_a0 : Value} (f_a0 : Rd2 5 qg w v_a0 a0) {r : Rec × Int × Int} (H : yI.sh a0 a1 = some r) :
  Calls Tryz.prog 34 #[v_a0, S a1] w (Rt (RP w (.tuple #[.agg (qg r.1).toArray, .int .i64 r.2.1, .int .i64 r.2.2]))) := by
 unfold yI.sh at H
 refine Qf Tryz.func34 rfl (Nat.le_of_ble_eq_true rfl) Tryz.ntmps34 ?_
 refine wr <| y5 (.plain rfl) rfl (ltb rfl) rfl Tryz.zeroValue52 <| fun b1 w2 z3 z4 e5 k6 => lp rfl (xa (.int .i64 0) rfl) <| lp rfl (xa (.int .i64 0) rfl) <| nx <| qk <| wr <| lp rfl (xm v_a0 rfl) <| lp rfl (jR Tryz.underlying23 rfl (Rd2.ext f_a0 e5)) <| lp rfl (jj rfl rfl) <| lp rfl (xm (.bool (decide (4096 < (a0.length : Int)))) rfl) <| jN 4 [(13, 17)] 16 (.bool ((decide (4096 < (a0.length : Int))) || (decide (65536 < (a1.length : Int))))) ?_ ?_
 ·rcases qw (decide (4096 < (a0.length : Int))) with b6_ | b6_
  ·exact ls rfl rfl rfl (cb b6_) rfl <| ls rfl rfl rfl (cb b6_) rfl <| ls rfl rfl rfl (cb b6_) rfl <| lp rfl (qD (b := true) (v := (.bool true)) (cb b6_) rfl) <| nx ⟨(ku4 kz rfl), (YJ b6_), er⟩
  ·exact lg rfl rfl rfl rfl (cb b6_) (xm (S a1) rfl) <| lg rfl rfl rfl rfl (cb b6_) (j9 Tryz.underlying9 rfl) <| lg rfl rfl rfl rfl (cb b6_) (jj rfl rfl) <| lp rfl (qD (b := false) (v := (.bool (decide (65536 < (a1.length : Int))))) (cb b6_) rfl) <| nx ⟨(ku4 kz rfl), (YG b6_), er⟩
 intro s12 w8 K9 h10 e11
 refine nx ?_
 rcases qf H with ⟨q13, H⟩ | ⟨q13, H⟩
 ·refine qp (h10.trans (cb q13)) <| wr <| lp rfl (yR (vs := []) (pl := #[(0, 1), (1, 1), (2, 1), (3, 1), (4, 1)]) Tryz.underlying52 Tryz.zeroValue52 rfl (fun _ => by kernel_rfl) rfl rfl rfl) <| vk (.plain rfl) rfl rfl Tryz.sizeOf52 (K9 4 rfl) rfl rfl rfl rfl (Blk.ext k6 e11) <| fun w14 h15 k16 => lp rfl (xa (.int .i64 0) rfl) <| lp rfl (xa (.int .i64 2) rfl) <| nx <| qr <| qo <| jA ?_
  obtain rfl := si H
  exact Yg rfl (K9 4 rfl) k16 Tryz.isAgg52 Tryz.sizeOf52 rfl rfl rfl (Below.trans (e5.t e11) (Wr.below h15 (Nat.le_of_eq z3)))
 ·refine qi (h10.trans (cb q13)) <| qq <| qd <| qk <| wr <| lp rfl (xm v_a0 (K9 0 rfl)) ?_
  obtain ⟨c17, H⟩ := qa H
  obtain ⟨c18, H⟩ := qa H
  obtain ⟨c19, H⟩ := qa H
  refine lc rfl rfl Tryz.call60 (vv.calls (w := w8) (a0 := a0) (Rd2.ext f_a0 (e5.t e11)) (od c17) (od c18) (od c19)) rfl <| fun w20 e21 => lp rfl (yS rfl) <| nx ?_
  rcases qf H with ⟨q22, H⟩ | ⟨q22, H⟩
  ·refine qp (cb q22) <| wr <| lp rfl (yR (vs := []) (pl := #[(0, 1), (1, 1), (2, 1), (3, 1), (4, 1)]) Tryz.underlying52 Tryz.zeroValue52 rfl (fun _ => by kernel_rfl) rfl rfl rfl) <| vk (.plain rfl) rfl rfl Tryz.sizeOf52 (K9 4 rfl) rfl rfl rfl rfl (Blk.ext k6 (e11.t e21)) <| fun w23 h24 k25 => lp rfl (xa (.int .i64 0) rfl) <| lp rfl (xa (.int .i64 1) rfl) <| nx <| qr <| qo <| jA ?_
   obtain rfl := si H
   exact Yg rfl (K9 4 rfl) k25 Tryz.isAgg52 Tryz.sizeOf52 rfl rfl rfl (Below.trans ((e5.t e11).t e21) (Wr.below h24 (Nat.le_of_eq z3)))
  ·refine qi (cb q22) <| qq <| qd <| qk <| wr <| lp rfl (xm (S a1) (K9 1 rfl)) <| lc rfl rfl Tryz.call97 (yl.calls (w := w20) (a0 := a1)) rfl <| fun w26 e27 => lp rfl (yS rfl) <| nx ?_
   rcases qf H with ⟨q28, H⟩ | ⟨q28, H⟩
   ·refine qp (cb q28) <| wr <| lp rfl (yR (vs := []) (pl := #[(0, 1), (1, 1), (2, 1), (3, 1), (4, 1)]) Tryz.underlying52 Tryz.zeroValue52 rfl (fun _ => by kernel_rfl) rfl rfl rfl) <| vk (.plain rfl) rfl rfl Tryz.sizeOf52 (K9 4 rfl) rfl rfl rfl rfl (Blk.ext k6 ((e11.t e21).t e27)) <| fun w29 h30 k31 => lp rfl (xa (.int .i64 0) rfl) <| lp rfl (xa (.int .i64 10) rfl) <| nx <| qr <| qo <| jA ?_
    obtain rfl := si H
    exact Yg rfl (K9 4 rfl) k31 Tryz.isAgg52 Tryz.sizeOf52 rfl rfl rfl (Below.trans (((e5.t e11).t e21).t e27) (Wr.below h30 (Nat.le_of_eq z3)))
   ·refine qi (cb q28) <| qq <| qd <| wr <| lp rfl (xm v_a0 (K9 0 rfl)) <| lp rfl (xm (S a1) (K9 1 rfl)) ?_
    obtain ⟨c32, H⟩ := qa H
    obtain ⟨c33, H⟩ := qa H
    obtain ⟨c34, H⟩ := qa H
    obtain ⟨c35, H⟩ := qa H
    refine lc rfl rfl Tryz.call98 (qV.calls (w := w26) (a0 := a0) (a1 := a1) (Rd2.ext f_a0 (((e5.t e11).t e21).t e27)) (od c32) (od c33) (od c34) (od c35)) rfl <| fun w36 e37 => lp rfl (qc rfl) <| lp rfl (qM (v := (.agg (qg ((winner a0 a1).1)).toArray)) rfl rfl) <| lp rfl (qM (v := (.int .i64 ((winner a0 a1).2))) rfl rfl) <| y5 (.plain rfl) rfl (ltb rfl) rfl Tryz.zeroValue52 <| fun b38 w39 z40 z41 e42 k43 => vk (.plain rfl) rfl rfl Tryz.sizeOf52 rfl rfl rfl rfl rfl k43 <| fun w44 h45 k46 => lp rfl (xa (.int .i64 ((winner a0 a1).2)) rfl) <| nx <| qk <| wr <| lp rfl (xm (.int .i64 ((winner a0 a1).2)) rfl) <| lp rfl (yZ rfl rfl) <| nx ?_
    rcases qf H with ⟨q47, H⟩ | ⟨q47, H⟩
    ·refine qp (cb q47) <| wr <| lp rfl (yR (vs := []) (pl := #[(0, 1), (1, 1), (2, 1), (3, 1), (4, 1)]) Tryz.underlying52 Tryz.zeroValue52 rfl (fun _ => by kernel_rfl) rfl rfl rfl) <| vk (.plain rfl) rfl rfl Tryz.sizeOf52 (K9 4 rfl) rfl rfl rfl rfl (Blk.ext k6 ((((e11.t e21).t e27).t e37).t (Below.trans e42 (Wr.below h45 (Nat.le_of_eq z40))))) <| fun w48 h49 k50 => lp rfl (xa (.int .i64 0) rfl) <| lp rfl (xa (.int .i64 5) rfl) <| nx <| qr <| qo <| jA ?_
     obtain rfl := si H
     exact Yg rfl (K9 4 rfl) k50 Tryz.isAgg52 Tryz.sizeOf52 rfl rfl rfl (Below.trans (((((e5.t e11).t e21).t e27).t e37).t (Below.trans e42 (Wr.below h45 (Nat.le_of_eq z40)))) (Wr.below h49 (Nat.le_of_eq z3)))
    ·refine qi (cb q47) <| qq <| qd <| wr <| lp rfl (vC Tryz.isAgg52 Tryz.sizeOf52 rfl rfl (Blk.at0 k46)) <| lp rfl (xm (.int .i64 ((winner a0 a1).2)) rfl) <| vk (.plain rfl) rfl rfl Tryz.sizeOf52 (K9 4 rfl) rfl rfl rfl rfl (Blk.ext k6 ((((e11.t e21).t e27).t e37).t (Below.trans e42 (Wr.below h45 (Nat.le_of_eq z40))))) <| fun w51 h52 k53 => lp rfl (xa (.int .i64 ((winner a0 a1).2)) rfl) <| lp rfl (xa (.int .i64 0) rfl) <| nx <| qr <| jA ?_
     obtain rfl := si H
     exact Yg rfl (K9 4 rfl) k53 Tryz.isAgg52 Tryz.sizeOf52 rfl rfl rfl (Below.trans (((((e5.t e11).t e21).t e27).t e37).t (Below.trans e42 (Wr.below h45 (Nat.le_of_eq z40)))) (Wr.below h52 (Nat.le_of_eq z3)))
theorem yI.calls {w : World} {a0 : List (List Rec)} {a1 : List UInt8} {v_a0 : Value} (f_a0 : Rd2 5 qg w v_a0 a0) (h0 : a0.length ≤ 1048576) (h1 : ∀ l ∈ a0, l.length ≤ 1048576) (h2 : ∀ l ∈ a0, ∀ x ∈ l, x.path.length ≤ 1048576) :
  Calls Tryz.prog 34 #[v_a0, S a1] w (Rt (RP w (.tuple #[.agg (qg ((vG a0 a1).1)).toArray, .int .i64 ((vG a0 a1).2.1), .int .i64 ((vG a0 a1).2.2)]))) := yI.walk f_a0 (yI.eq a0 a1 h0 h1 h2)
/-! impl.winner -/
abbrev vf.e1 (a0 : List (List Rec)) (a1 : List UInt8) (x10_23 : Int) := (gt (gt a0 (IntKind.wrap .i64 (x10_23 - 1))) (qt (gt a0 (IntKind.wrap .i64 (x10_23 - 1))) a1))
theorem vf.walk {k : Nat} {w : World} {a0 : List (List Rec)} {a1 : List UInt8} {v_a0 : Value} (f_a0 : Rd2 5 qg w v_a0 a0) {r : Rec × Int × Bool} (H : vf.sh k a0 a1 = some r) :
  Calls Tryz.prog 94 #[v_a0, S a1] w (Rt (RP w (.tuple #[.agg (qg r.1).toArray, .int .i64 r.2.1, .bool r.2.2]))) := by
 unfold vf.sh at H
 refine Qf Tryz.func94 rfl (Nat.le_of_ble_eq_true rfl) Tryz.ntmps94 ?_
 refine wr <| y5 (.plain rfl) rfl (ltb rfl) rfl Tryz.zeroValue52 <| fun b1 w2 z3 z4 e5 k6 => lp rfl (xa (.int .i64 0) rfl) <| lp rfl (xa (.bool false) rfl) <| nx <| wr <| lp rfl (yR (vs := []) (pl := #[(0, 1), (1, 1), (2, 1), (3, 1), (4, 1)]) Tryz.underlying52 Tryz.zeroValue52 rfl (fun _ => by kernel_rfl) rfl rfl rfl) <| y5 (.plain rfl) rfl (ltb rfl) rfl Tryz.zeroValue52 <| fun b7 w8 z9 z10 e11 k12 => vk (.plain rfl) rfl rfl Tryz.sizeOf52 rfl rfl rfl rfl rfl k12 <| fun w13 h14 k15 => lp rfl (xa (.int .i64 0) rfl) <| lp rfl (xa (.bool false) rfl) <| nx <| qk <| wr <| lp rfl (xm v_a0 rfl) <| lp rfl (xm (S a1) rfl) ?_
 obtain ⟨c16, H⟩ := qa H
 obtain ⟨c17, H⟩ := qa H
 obtain ⟨c18, H⟩ := qa H
 refine lc rfl rfl Tryz.call99 (Ym.calls (w := w13) (a0 := a0) (a1 := a1) (Rd2.ext f_a0 (e5.t (Below.trans e11 (Wr.below h14 (Nat.le_of_eq z9))))) (od c16) (od c17) (od c18)) rfl <| fun w19 e20 => lp rfl (GW rfl rfl) <| lp rfl (xa (.int .i64 (if ((jT a0 a1) < 1 : Prop) then 1 else (jT a0 a1))) rfl) <| nx ?_
 obtain ⟨z25, L26, C27⟩ := bind_some H
 clear H
 refine  vH (fun s0 sQ wQ => ∃ (x8_28 : Int) (x9_29 : Bool) (y30 : Rec), Kp [(8, 12), (17, 46)] s0 sQ ∧ sQ 8 = .int .i64 x8_28 ∧ sQ 9 = .bool x9_29 ∧ Blk wQ b7 (qg y30).toArray 52 ∧ Ext w2 wQ ∧ z25 = .inr (x8_28, x9_29, y30)) ?_ ?_
 ·refine qF <| vB (fun s0 kk sQ wQ => ∃ (x8_21 : Int) (x9_22 : Bool) (x10_23 : Int) (y24 : Rec), Kp [(8, 12), (17, 46)] s0 sQ ∧ sQ 8 = .int .i64 x8_21 ∧ sQ 9 = .bool x9_22 ∧ sQ 10 = .int .i64 x10_23 ∧ Blk wQ b7 (qg y24).toArray 52 ∧ Ext w2 wQ ∧ qn (vf.b1 a0 a1) kk (x8_21, x9_22, x10_23, y24) = some z25) k ⟨0, false, (if ((jT a0 a1) < 1 : Prop) then 1 else (jT a0 a1)), (⟨0, ([] : List UInt8), ([] : List UInt8), 0, false⟩ : Rec), kz, rfl, rfl, rfl, (Blk.ext k15 e20), (Ext.trans (Below.trans e11 (Wr.below h14 (Nat.le_of_eq z9))) e20), L26⟩ ?_
  rintro k35 s36 w37 ⟨x8_21, x9_22, x10_23, y24, K38, h41, h42, h43, h44, e39, L40⟩
  cases k35 with
  | zero => exact absurd L40 (by simp [qn])
  | succ k35 =>
   obtain ⟨t45, H, S46⟩ := qN L40
   clear L40
   unfold vf.b1 at H
   refine qk <| wr <| lp rfl (qc h43) <| lp rfl (xm v_a0 (K38 0 rfl)) <| lp rfl (jR Tryz.underlying23 rfl (Rd2.ext f_a0 (e5.t e39))) <| lp rfl (VX rfl rfl) <| nx ?_
   rcases qf H with ⟨q47, H⟩ | ⟨q47, H⟩
   ·refine qp (cb q47) <| qq <| qd <| qk <| qF <| wr <| lp rfl (xm v_a0 (K38 0 rfl)) <| lp rfl (qc h43) <| lp rfl (jl rfl rfl) ?_
    obtain ⟨c48, H⟩ := qa H
    refine Vk (.plain rfl) rfl (ltb rfl) rfl Tryz.underlying23 Tryz.sizeOf35 rfl (Rd2.ext f_a0 (e5.t e39)) rfl c48 <| fun p49 v51 h50 h52 => lp rfl (qQ Tryz.isAgg35 rfl h50 rfl) <| lp rfl (xm (S a1) (K38 1 rfl)) ?_
    obtain ⟨c53, H⟩ := qa H
    refine lc rfl rfl Tryz.call80 (jO.calls (w := w37) (a0 := gt a0 (IntKind.wrap .i64 (x10_23 - 1))) (a1 := a1) h52 (od c53)) rfl <| fun w54 e55 => lp rfl (xa (.int .i64 (qt (gt a0 (IntKind.wrap .i64 (x10_23 - 1))) a1)) rfl) <| nx <| wr <| lp rfl (xm (.int .i64 (qt (gt a0 (IntKind.wrap .i64 (x10_23 - 1))) a1)) rfl) <| lp rfl (QY rfl rfl) <| nx ?_
    rcases qf H with ⟨q56, H⟩ | ⟨q56, H⟩
    ·refine qp (cb q56) <| wr <| lp rfl (xm v_a0 (K38 0 rfl)) <| lp rfl (qc h43) <| lp rfl (jl rfl rfl) ?_
     obtain ⟨c57, H⟩ := qa H
     refine Vk (.plain rfl) rfl (ltb rfl) rfl Tryz.underlying23 Tryz.sizeOf35 rfl (Rd2.ext f_a0 ((e5.t e39).t e55)) rfl c57 <| fun p58 v60 h59 h61 => lp rfl (qQ Tryz.isAgg35 rfl h59 rfl) <| lp rfl (xm (.int .i64 (qt (gt a0 (IntKind.wrap .i64 (x10_23 - 1))) a1)) rfl) ?_
     obtain ⟨c62, H⟩ := qa H
     refine vw (.plain rfl) rfl (ltb rfl) rfl Tryz.underlying35 Tryz.sizeOf52 rfl h61 rfl c62 <| fun p63 h64 => lp rfl (vC Tryz.isAgg52 Tryz.sizeOf52 rfl rfl h64) <| lp rfl (qc h43) <| vk (.plain rfl) rfl rfl Tryz.sizeOf52 (K38 7 rfl) rfl rfl rfl rfl (Blk.ext h44 e55) <| fun w65 h66 k67 => lp rfl (xa (.int .i64 x10_23) rfl) <| nx <| qJ <| lp rfl (qc h42) <| lp rfl (xm (.bool x9_22) rfl) <| jN 3 [(43, 46)] 45 (.bool (x9_22 || (yC (vf.e1 a0 a1 x10_23)))) ?_ ?_
     ·rcases qw x9_22 with b67_ | b67_
      ·exact ls rfl rfl rfl (cb b67_) rfl <| ls rfl rfl rfl (cb b67_) rfl <| lp rfl (qD (b := true) (v := (.bool true)) (cb b67_) rfl) <| nx ⟨(ku3 kz rfl), (YJ b67_), er⟩
      ·exact lg rfl rfl rfl rfl (cb b67_) (vC Tryz.isAgg52 Tryz.sizeOf52 rfl (K38 7 rfl) (Blk.at0 k67)) <| y1 (tg rfl rfl rfl (cb b67_)) rfl (ltb rfl) rfl Tryz.call160 (Qa.calls (w := w65) (a0 := (vf.e1 a0 a1 x10_23))) rfl <| fun w69 e70 => lp rfl (qD (b := false) (v := (.bool (yC (vf.e1 a0 a1 x10_23)))) (cb b67_) rfl) <| nx ⟨(ku3 kz rfl), (YG b67_), e70⟩
     intro s73 w69 K70 h71 e72
     refine lp rfl (qG h71) <| vb <| ye <| qd <| qJ <| lp rfl (xm (.int .i64 x10_23) ((K70 10 rfl).trans h43)) <| lp rfl (vW rfl rfl) <| lp rfl (xa (.int .i64 (IntKind.wrap .i64 (x10_23 + 1))) rfl) <| nx ?_
     obtain rfl := si H
     exact ⟨_, Nat.lt_succ_self _, x10_23, (x9_22 || (yC (vf.e1 a0 a1 x10_23))), IntKind.wrap .i64 (x10_23 + 1), (vf.e1 a0 a1 x10_23), (ku4 (Kp.cut (ku2 (ku8 (ku8 (ku8 K38 rfl) rfl) rfl) rfl) K70 rfl) rfl), (K70 8 rfl), rfl, rfl, (Blk.ext k67 e72), (Ext.trans (Below.trans (e39.t e55) (Wr.below h66 (Nat.le_of_eq z9))) e72), S46⟩
    ·refine qi (cb q56) <| qq <| ye <| qd <| qJ <| lp rfl (qc h43) <| lp rfl (vW rfl rfl) <| lp rfl (xa (.int .i64 (IntKind.wrap .i64 (x10_23 + 1))) rfl) <| nx ?_
     obtain rfl := si H
     exact ⟨_, Nat.lt_succ_self _, x8_21, x9_22, IntKind.wrap .i64 (x10_23 + 1), y24, (ku1 (ku8 (ku8 K38 rfl) rfl) rfl), h41, h42, rfl, (Blk.ext h44 e55), (e39.t e55), S46⟩
   ·refine qi (cb q47) <| vL <| vd <| vd <| yE <| qd ?_
    obtain rfl := si H
    obtain rfl := si S46
    exact ⟨x8_21, x9_22, y24, (ku4 K38 rfl), h41, h42, h44, e39, rfl⟩
 ·rintro s32 w31 ⟨x8_28, x9_29, y30, K33, h74, h75, h76, e34, y77⟩
  rw [y77] at C27
  have H := C27
  replace H : _ = some _ := H
  refine qd <| qk <| wr <| lp rfl (qe Tryz.underlying52 rfl Tryz.sizeOf3 rfl (K33 7 rfl)) <| lp rfl (qH Tryz.isAgg3 h76 rfl rfl) <| lp rfl (yZ rfl rfl) <| nx ?_
  rcases qf H with ⟨q78, H⟩ | ⟨q78, H⟩
  ·refine qp (cb q78) <| qJ <| lp rfl (qc h75) <| lp rfl (qe Tryz.underlying52 rfl Tryz.sizeOf4 rfl (K33 7 rfl)) <| Qw (.plain rfl) rfl rfl Tryz.sizeOf4 rfl rfl rfl h76 (ltb rfl) <| fun w79 h80 k81 => nx <| wr <| lp rfl (vC Tryz.isAgg52 Tryz.sizeOf52 rfl (K33 7 rfl) (Blk.at0 k81)) <| lp rfl (qc h74) <| lp rfl (qc h74) <| lp rfl (jj rfl rfl) <| vk (.plain rfl) rfl rfl Tryz.sizeOf52 (K33 4 rfl) rfl rfl rfl rfl (Blk.ext k6 (Below.trans e34 (Wr.below h80 (Nat.le_of_eq z9)))) <| fun w82 h83 k84 => lp rfl (xa (.int .i64 x8_28) rfl) <| lp rfl (xa (.bool (decide (0 < x8_28))) rfl) <| nx <| qr <| jA ?_
   obtain rfl := si H
   exact Yg rfl (K33 4 rfl) k84 Tryz.isAgg52 Tryz.sizeOf52 rfl rfl rfl (Below.trans (e5.t (Below.trans e34 (Wr.below h80 (Nat.le_of_eq z9)))) (Wr.below h83 (Nat.le_of_eq z3)))
  ·refine qi (cb q78) <| qq <| qd <| wr <| lp rfl (vC Tryz.isAgg52 Tryz.sizeOf52 rfl (K33 7 rfl) (Blk.at0 h76)) <| lp rfl (qc h74) <| lp rfl (qc h74) <| lp rfl (jj rfl rfl) <| vk (.plain rfl) rfl rfl Tryz.sizeOf52 (K33 4 rfl) rfl rfl rfl rfl (Blk.ext k6 e34) <| fun w85 h86 k87 => lp rfl (xa (.int .i64 x8_28) rfl) <| lp rfl (xa (.bool (decide (0 < x8_28))) rfl) <| nx <| qr <| jA ?_
   obtain rfl := si H
   exact Yg rfl (K33 4 rfl) k87 Tryz.isAgg52 Tryz.sizeOf52 rfl rfl rfl (Below.trans (e5.t e34) (Wr.below h86 (Nat.le_of_eq z3)))
theorem vf.calls {w : World} {a0 : List (List Rec)} {a1 : List UInt8} {v_a0 : Value} (f_a0 : Rd2 5 qg w v_a0 a0) (h0 : qO a0 = true) (h1 : a0.length ≤ 1048576) (h2 : a1.length ≤ 1048576) (h3 : ∀ l ∈ a0, l.length ≤ 1048576) :
  Calls Tryz.prog 94 #[v_a0, S a1] w (Rt (RP w (.tuple #[.agg (qg ((winner a0 a1).1)).toArray, .int .i64 ((winner a0 a1).2), .bool (decide ((0 : Int) < (winner a0 a1).2))]))) := by
 obtain ⟨k, h⟩ := vf.eq a0 a1 h0 h1 h2 h3
 exact vf.walk f_a0 h
/-! impl.WinnerAt -/
theorem yK.walk {w : World} {a0 : List (List Rec)} {a1 : List UInt8} (gv : GV 0 w) {v_a0 : Value} (f_a0 : Rd2 5 qg w v_a0 a0) {r : Rec × Int × Int} (H : yK.sh a0 a1 = some r) :
  Calls Tryz.prog 33 #[v_a0, S a1] w (Rt (RP w (.tuple #[.agg (qg r.1).toArray, .int .i64 r.2.1, .int .i64 r.2.2]))) := by
 unfold yK.sh at H
 refine Qf Tryz.func33 rfl (Nat.le_of_ble_eq_true rfl) Tryz.ntmps33 ?_
 refine wr <| y5 (.plain rfl) rfl (ltb rfl) rfl Tryz.zeroValue52 <| fun b1 w2 z3 z4 e5 k6 => lp rfl (xa (.int .i64 0) rfl) <| lp rfl (xa (.int .i64 0) rfl) <| nx <| qk <| wr <| lp rfl (xm v_a0 rfl) <| lp rfl (xm (S a1) rfl) ?_
 obtain ⟨c7, H⟩ := qa H
 obtain ⟨c8, H⟩ := qa H
 obtain ⟨c9, H⟩ := qa H
 refine lc rfl rfl Tryz.call96 (ja.calls (w := w2) (a0 := a0) (a1 := a1) (GV.ext gv e5) (Rd2.ext f_a0 e5) (od c7) (od c8) (od c9)) rfl <| fun w10 e11 => lp rfl (xa (.int .i64 (pathCode a0 a1)) rfl) <| nx <| wr <| lp rfl (xm (.int .i64 (pathCode a0 a1)) rfl) <| lp rfl (je rfl rfl) <| nx ?_
 rcases qf H with ⟨q12, H⟩ | ⟨q12, H⟩
 ·refine qp (cb q12) <| wr <| lp rfl (yR (vs := []) (pl := #[(0, 1), (1, 1), (2, 1), (3, 1), (4, 1)]) Tryz.underlying52 Tryz.zeroValue52 rfl (fun _ => by kernel_rfl) rfl rfl rfl) <| lp rfl (xm (.int .i64 (pathCode a0 a1)) rfl) <| vk (.plain rfl) rfl rfl Tryz.sizeOf52 rfl rfl rfl rfl rfl (Blk.ext k6 e11) <| fun w13 h14 k15 => lp rfl (xa (.int .i64 0) rfl) <| lp rfl (xa (.int .i64 (pathCode a0 a1)) rfl) <| nx <| qr <| qo <| jA ?_
  obtain rfl := si H
  exact Yg rfl rfl k15 Tryz.isAgg52 Tryz.sizeOf52 rfl rfl rfl (Below.trans (e5.t e11) (Wr.below h14 (Nat.le_of_eq z3)))
 ·refine qi (cb q12) <| qq <| qd <| wr <| lp rfl (xm v_a0 rfl) <| lp rfl (xm (S a1) rfl) ?_
  obtain ⟨c16, H⟩ := qa H
  obtain ⟨c17, H⟩ := qa H
  obtain ⟨c18, H⟩ := qa H
  obtain ⟨c19, H⟩ := qa H
  refine lc rfl rfl Tryz.call94 (vf.calls (w := w10) (a0 := a0) (a1 := a1) (Rd2.ext f_a0 (e5.t e11)) (od c16) (od c17) (od c18) (od c19)) rfl <| fun w20 e21 => lp rfl (qc rfl) <| lp rfl (qM (v := (.agg (qg ((winner a0 a1).1)).toArray)) rfl rfl) <| lp rfl (qM (v := (.int .i64 ((winner a0 a1).2))) rfl rfl) <| lp rfl (qM (v := (.bool (decide ((0 : Int) < (winner a0 a1).2)))) rfl rfl) <| y5 (.plain rfl) rfl (ltb rfl) rfl Tryz.zeroValue52 <| fun b22 w23 z24 z25 e26 k27 => vk (.plain rfl) rfl rfl Tryz.sizeOf52 rfl rfl rfl rfl rfl k27 <| fun w28 h29 k30 => lp rfl (xa (.int .i64 ((winner a0 a1).2)) rfl) <| lp rfl (xa (.bool (decide ((0 : Int) < (winner a0 a1).2))) rfl) <| nx <| qk <| wr <| lp rfl (xm (.bool (decide ((0 : Int) < (winner a0 a1).2))) rfl) <| lp rfl (yS rfl) <| nx ?_
  rcases qf H with ⟨q31, H⟩ | ⟨q31, H⟩
  ·refine qp (cb q31) <| wr <| lp rfl (yR (vs := []) (pl := #[(0, 1), (1, 1), (2, 1), (3, 1), (4, 1)]) Tryz.underlying52 Tryz.zeroValue52 rfl (fun _ => by kernel_rfl) rfl rfl rfl) <| vk (.plain rfl) rfl rfl Tryz.sizeOf52 rfl rfl rfl rfl rfl (Blk.ext k6 ((e11.t e21).t (Below.trans e26 (Wr.below h29 (Nat.le_of_eq z24))))) <| fun w32 h33 k34 => lp rfl (xa (.int .i64 0) rfl) <| lp rfl (xa (.int .i64 5) rfl) <| nx <| qr <| qo <| jA ?_
   obtain rfl := si H
   exact Yg rfl rfl k34 Tryz.isAgg52 Tryz.sizeOf52 rfl rfl rfl (Below.trans (((e5.t e11).t e21).t (Below.trans e26 (Wr.below h29 (Nat.le_of_eq z24)))) (Wr.below h33 (Nat.le_of_eq z3)))
  ·refine qi (cb q31) <| qq <| qd <| wr <| lp rfl (vC Tryz.isAgg52 Tryz.sizeOf52 rfl rfl (Blk.at0 k30)) <| lp rfl (xm (.int .i64 ((winner a0 a1).2)) rfl) <| vk (.plain rfl) rfl rfl Tryz.sizeOf52 rfl rfl rfl rfl rfl (Blk.ext k6 ((e11.t e21).t (Below.trans e26 (Wr.below h29 (Nat.le_of_eq z24))))) <| fun w35 h36 k37 => lp rfl (xa (.int .i64 ((winner a0 a1).2)) rfl) <| lp rfl (xa (.int .i64 0) rfl) <| nx <| qr <| jA ?_
   obtain rfl := si H
   exact Yg rfl rfl k37 Tryz.isAgg52 Tryz.sizeOf52 rfl rfl rfl (Below.trans (((e5.t e11).t e21).t (Below.trans e26 (Wr.below h29 (Nat.le_of_eq z24)))) (Wr.below h36 (Nat.le_of_eq z3)))
theorem yK.calls {w : World} {a0 : List (List Rec)} {a1 : List UInt8} (gv : GV 0 w) {v_a0 : Value} (f_a0 : Rd2 5 qg w v_a0 a0) (h0 : a0.length ≤ 1048576) (h1 : ∀ l ∈ a0, l.length ≤ 1048576) (h2 : ∀ l ∈ a0, ∀ x ∈ l, x.path.length ≤ 1048576) :
  Calls Tryz.prog 33 #[v_a0, S a1] w (Rt (RP w (.tuple #[.agg (qg ((vG a0 a1).1)).toArray, .int .i64 ((vG a0 a1).2.1), .int .i64 ((vG a0 a1).2.2)]))) := yK.walk gv f_a0 (yK.eq a0 a1 h0 h1 h2)
/-! impl.paths -/
theorem ve.calls {w : World} {a0 : List (List Rec)} (gv : GV 0 w) {v_a0 : Value} (f_a0 : Rd2 5 qg w v_a0 a0) (h0 : a0.length ≤ 5) (h1 : ∀ l ∈ a0, l.length ≤ 1048576) (h2 : ∀ l ∈ a0, ∀ x ∈ l, x.path.length ≤ 1048576) :
  Calls Tryz.prog 79 #[v_a0] w (Rt (RO 9 1 vr w (qK a0))) := by
 obtain ⟨k, H⟩ := ve.eq a0 h0 h1 h2
 generalize (qK a0) = r at H ⊢
 unfold ve.sh at H
 refine qh Tryz.func79 rfl (Nat.le_of_ble_eq_true rfl) Tryz.ntmps79 rfl ?_
 refine wr <| lp rfl (xa (.slice none 0 0) rfl) <| nx <| wr <| yw (.plain rfl) rfl (ltb rfl) rfl Tryz.underlying44 Tryz.sizeOf9 Tryz.zeroValue9 rfl rfl rfl (vs := []) rfl (vh rfl) <| fun b1 w2 z3 z4 e5 k6 => lp rfl (xa (.slice (some ⟨b1, 0, none⟩) 0 0) rfl) <| nx <| qk <| wr <| lp rfl (xm v_a0 rfl) <| lp rfl (jR Tryz.underlying23 rfl (Rd2.ext f_a0 e5)) <| lp rfl (xm (.int .i64 0) rfl) <| nx ?_
 obtain ⟨z10, L11, C12⟩ := bind_some H
 clear H
 refine  vH (fun s0 sQ wQ => ∃ (x3_13 : List (List UInt8)) (v14 : Value), Kp [(3, 4), (5, 6), (7, 8), (11, 28)] s0 sQ ∧ sQ 3 = v14 ∧ Ow 9 1 vr w2.heap.size wQ v14 x3_13 ∧ Ext w2 wQ ∧ z10 = .inr x3_13) ?_ ?_
 ·refine qF <| vB (fun s0 kk sQ wQ => ∃ (x3_7 : List (List UInt8)) (v8 : Value) (x11_9 : Int), Kp [(3, 4), (5, 6), (7, 8), (11, 28)] s0 sQ ∧ sQ 3 = v8 ∧ Ow 9 1 vr w2.heap.size wQ v8 x3_7 ∧ sQ 11 = .int .i64 x11_9 ∧ Ext w2 wQ ∧ qn (ve.b1 k a0) kk (x3_7, x11_9) = some z10) k ⟨([] : List (List UInt8)), (.slice (some ⟨b1, 0, none⟩) 0 0), 0, kz, rfl, (Ow.zero), rfl, er, L11⟩ ?_
  rintro k19 s20 w21 ⟨x3_7, v8, x11_9, K22, h25, h26, h27, e23, L24⟩
  cases k19 with
  | zero => exact absurd L24 (by simp [qn])
  | succ k19 =>
   obtain ⟨t28, H, S29⟩ := qN L24
   clear L24
   unfold ve.b1 at H
   refine wr <| lp rfl (yH h27 (K22 10 rfl)) <| nx <| qk ?_
   rcases qf H with ⟨q30, H⟩ | ⟨q30, H⟩
   ·refine qp (cb q30) <| qq <| qd <| qk <| qF <| wr ?_
    obtain ⟨c31, H⟩ := qa H
    refine L_idx2o (.plain rfl) rfl (ltb rfl) rfl Tryz.underlying23 Tryz.sizeOf35 (K22 9 rfl) f_a0 (e5.t e23) h27 c31 <| fun p32 v34 h33 h35 => lp rfl (qQ Tryz.isAgg35 rfl h33 rfl) <| lp rfl (xa v34 rfl) <| nx <| wr <| lp rfl (xm v34 rfl) <| lp rfl (vy Tryz.underlying35 rfl (Rd.ext h35 (e5.t e23))) <| lp rfl (xm (.int .i64 0) rfl) <| nx ?_
    obtain ⟨z39, L40, C41⟩ := bind_some H
    clear H
    refine  vH (fun s0 sQ wQ => ∃ (x3_42 : List (List UInt8)) (v43 : Value), Kp [(3, 4), (7, 8), (17, 27)] s0 sQ ∧ sQ 3 = v43 ∧ Ow 9 1 vr w2.heap.size wQ v43 x3_42 ∧ Ext w2 wQ ∧ z39 = .inr x3_42) ?_ ?_
    ·refine qF <| vB (fun s0 kk sQ wQ => ∃ (x3_36 : List (List UInt8)) (v37 : Value) (x17_38 : Int), Kp [(3, 4), (7, 8), (17, 27)] s0 sQ ∧ sQ 3 = v37 ∧ Ow 9 1 vr w2.heap.size wQ v37 x3_36 ∧ sQ 17 = .int .i64 x17_38 ∧ Ext w2 wQ ∧ qn (ve.b2 a0 x11_9) kk (x3_36, x17_38) = some z39) k ⟨x3_7, v8, 0, kz, h25, h26, rfl, e23, L40⟩ ?_
     rintro k48 s49 w50 ⟨x3_36, v37, x17_38, K51, h54, h55, h56, e52, L53⟩
     cases k48 with
     | zero => exact absurd L53 (by simp [qn])
     | succ k48 =>
      obtain ⟨t57, H, S58⟩ := qN L53
      clear L53
      unfold ve.b2 at H
      refine wr <| lp rfl (yH h56 (K51 16 rfl)) <| nx <| qk ?_
      rcases qf H with ⟨q59, H⟩ | ⟨q59, H⟩
      ·refine qp (cb q59) <| qq <| qd <| qk <| qF <| wr ?_
       obtain ⟨c60, H⟩ := qa H
       refine vw (.plain rfl) rfl (ltb rfl) rfl Tryz.underlying35 Tryz.sizeOf52 (K51 15 rfl) (Rd.ext h35 (e5.t e52)) h56 c60 <| fun p61 h62 => lp rfl (vC Tryz.isAgg52 Tryz.sizeOf52 rfl rfl h62) <| y5 (.plain rfl) rfl (ltb rfl) rfl Tryz.zeroValue52 <| fun b63 w64 z65 z66 e67 k68 => vk (.plain rfl) rfl rfl Tryz.sizeOf52 rfl rfl rfl rfl rfl k68 <| fun w69 h70 k71 => nx <| qJ <| lp rfl (qc h54) <| lp rfl (qe Tryz.underlying52 rfl Tryz.sizeOf9 rfl rfl) <| lp rfl (qH Tryz.isAgg9 k71 rfl rfl) <| yw (.plain rfl) rfl (ltb rfl) rfl Tryz.underlying44 Tryz.sizeOf9 Tryz.zeroValue9 rfl rfl rfl (vs := [(S ((gt (gt a0 x11_9) x17_38).path))]) rfl (vh rfl) <| fun b72 w73 z74 z75 e76 k77 => ?_
       obtain ⟨c78, H⟩ := qa H
       refine jC (enc := vr) (.plain rfl) rfl (ltb rfl) rfl El.t44 rfl rfl (Ow.ext h55 (Ext.trans (Below.trans e67 (Wr.below h70 (Nat.le_of_eq z65))) e76)) (Ow.rd (Ow.new (xs := [(gt (gt a0 x11_9) x17_38).path]) (sz := 1) (enc := vr) (base := w69.heap.size) k77 (Nat.le_of_eq z74) rfl (fun _ _ => by rfl) (Nat.le_of_ble_eq_true rfl))) (Yr _) (od c78) (((e52.t (Below.trans e67 (Wr.below h70 (Nat.le_of_eq z65)))).t e76)).size <| fun v79 w80 o81 z82 g83 => lp rfl (xa v79 rfl) <| vb <| ye <| qd <| qJ <| lp rfl (vW h56 rfl) <| lp rfl (xm (.int .i64 (IntKind.wrap .i64 (x17_38 + 1))) rfl) <| nx ?_
       obtain rfl := si H
       exact ⟨_, Nat.lt_succ_self _, x3_36 ++ ([(gt (gt a0 x11_9) x17_38).path] : List (List UInt8)), v79, IntKind.wrap .i64 (x17_38 + 1), (ku4 (ku8 K51 rfl) rfl), rfl, o81, rfl, (g83 _ ((e52.t (Below.trans e67 (Wr.below h70 (Nat.le_of_eq z65)))).t e76)), S58⟩
      ·refine qi (cb q59) <| vL <| vd <| vd <| yE <| qd ?_
       obtain rfl := si H
       obtain rfl := si S58
       exact ⟨x3_36, v37, (ku1 K51 rfl), h54, h55, e52, rfl⟩
    ·rintro s45 w44 ⟨x3_42, v43, K46, h84, h85, e47, y86⟩
     rw [y86] at C41
     have H := C41
     replace H : _ = some _ := H
     refine ye <| qd <| qJ <| lp rfl (vW ((K46 11 rfl).trans h27) rfl) <| lp rfl (xm (.int .i64 (IntKind.wrap .i64 (x11_9 + 1))) rfl) <| nx ?_
     obtain rfl := si H
     exact ⟨_, Nat.lt_succ_self _, x3_42, v43, IntKind.wrap .i64 (x11_9 + 1), (ku2 (Kp.cut (ku3 (ku4 K22 rfl) rfl) K46 rfl) rfl), h84, h85, rfl, e47, S29⟩
   ·refine qi (cb q30) <| vL <| vd <| vd <| yE <| qd ?_
    obtain rfl := si H
    obtain rfl := si S29
    exact ⟨x3_7, v8, (ku1 K22 rfl), h25, h26, e23, rfl⟩
 ·rintro s16 w15 ⟨x3_13, v14, K17, h87, h88, e18, y89⟩
  rw [y89] at C12
  have H := C12
  replace H : _ = some _ := H
  refine qd <| wr <| lp rfl (qc h87) ?_
  obtain ⟨c90, H⟩ := qa H
  obtain ⟨c91, H⟩ := qa H
  refine jS (.plain rfl) rfl (ltb rfl) rfl Tryz.call136 (Y6.calls (w := w15) h88 (GV.ext gv (e5.t e18)) (GV.pos (GV.ext gv e5)) (od c90) (od c91)) rfl <| fun _ w92 A93 => ?_
  obtain ⟨rfl, B94, ys95, p96, q97, o98⟩ := A93
  refine nx <| wr <| lp rfl (qc h87) <| jS (.plain rfl) rfl (ltb rfl) rfl Tryz.call137 (Ju.calls (w := w92) o98 p96 q97) rfl <| fun v103 w99 A100 => ?_
  obtain ⟨B101, o102⟩ := A100
  refine lp rfl (xa v103 rfl) <| nx <| qr <| qv ?_
  obtain rfl := si H
  exact Yf rfl (e5.t (B101 _ (B94 _ e18))) o102 (e5).size
/-! spec.l07Paths -/
abbrev qu.e1 (a0 : List (List Rec)) (x3_31 : List (List UInt8)) (x4_9 : Int) (x5_33 : Int) (x7_72 : Int) := ((([] : List (List UInt8)) ++ (sub x3_31 0 x7_72)) ++ ([(gt (gt a0 x4_9) x5_33).path] : List (List UInt8)))
theorem qu.walk {k : Nat} {w : World} {a0 : List (List Rec)} {v_a0 : Value} (f_a0 : Rd2 5 qg w v_a0 a0) {r : List (List UInt8)} (H : qu.sh k a0 = some r) :
  Calls Tryz.prog 93 #[v_a0] w (Rt (RO 9 1 vr w r)) := by
 unfold qu.sh at H
 refine qh Tryz.func93 rfl (Nat.le_of_ble_eq_true rfl) Tryz.ntmps93 rfl ?_
 refine wr <| lp rfl (xa (.slice none 0 0) rfl) <| nx <| wr <| yw (.plain rfl) rfl (ltb rfl) rfl Tryz.underlying44 Tryz.sizeOf9 Tryz.zeroValue9 rfl rfl rfl (vs := []) rfl (vh rfl) <| fun b1 w2 z3 z4 e5 k6 => lp rfl (xa (.slice (some ⟨b1, 0, none⟩) 0 0) rfl) <| nx <| qk <| wr <| lp rfl (xa (.int .i64 0) rfl) <| nx ?_
 obtain ⟨z10, L11, C12⟩ := bind_some H
 clear H
 refine  vH (fun s0 sQ wQ => ∃ (x3_13 : List (List UInt8)) (v14 : Value), Kp [(3, 8), (9, 70)] s0 sQ ∧ sQ 3 = v14 ∧ Ow 9 1 vr w2.heap.size wQ v14 x3_13 ∧ Ext w2 wQ ∧ z10 = .inr x3_13) ?_ ?_
 ·refine qF <| vB (fun s0 kk sQ wQ => ∃ (x3_7 : List (List UInt8)) (v8 : Value) (x4_9 : Int), Kp [(3, 8), (9, 70)] s0 sQ ∧ sQ 3 = v8 ∧ Ow 9 1 vr w2.heap.size wQ v8 x3_7 ∧ sQ 4 = .int .i64 x4_9 ∧ Ext w2 wQ ∧ qn (qu.b1 k a0) kk (x3_7, x4_9) = some z10) k ⟨([] : List (List UInt8)), (.slice (some ⟨b1, 0, none⟩) 0 0), 0, kz, rfl, (Ow.zero), rfl, er, L11⟩ ?_
  rintro k19 s20 w21 ⟨x3_7, v8, x4_9, K22, h25, h26, h27, e23, L24⟩
  cases k19 with
  | zero => exact absurd L24 (by simp [qn])
  | succ k19 =>
   obtain ⟨t28, H, S29⟩ := qN L24
   clear L24
   unfold qu.b1 at H
   refine qk <| wr <| lp rfl (qc h27) <| lp rfl (xm v_a0 (K22 0 rfl)) <| lp rfl (jR Tryz.underlying23 rfl (Rd2.ext f_a0 (e5.t e23))) <| lp rfl (yH rfl rfl) <| nx ?_
   rcases qf H with ⟨q30, H⟩ | ⟨q30, H⟩
   ·refine qp (cb q30) <| qq <| qd <| qk <| qF <| wr <| lp rfl (xa (.int .i64 0) rfl) <| nx ?_
    obtain ⟨z34, L35, C36⟩ := bind_some H
    clear H
    refine  vH (fun s0 sQ wQ => ∃ (x3_37 : List (List UInt8)) (v38 : Value), Kp [(3, 4), (5, 8), (15, 70)] s0 sQ ∧ sQ 3 = v38 ∧ Ow 9 1 vr w2.heap.size wQ v38 x3_37 ∧ Ext w21 wQ ∧ z34 = .inr x3_37) ?_ ?_
    ·refine qF <| vB (fun s0 kk sQ wQ => ∃ (x3_31 : List (List UInt8)) (v32 : Value) (x5_33 : Int), Kp [(3, 4), (5, 8), (15, 70)] s0 sQ ∧ sQ 3 = v32 ∧ Ow 9 1 vr w2.heap.size wQ v32 x3_31 ∧ sQ 5 = .int .i64 x5_33 ∧ Ext w21 wQ ∧ qn (qu.b2 k a0 x4_9) kk (x3_31, x5_33) = some z34) k ⟨x3_7, v8, 0, kz, h25, h26, rfl, er, L35⟩ ?_
     rintro k43 s44 w45 ⟨x3_31, v32, x5_33, K46, h49, h50, h51, e47, L48⟩
     cases k43 with
     | zero => exact absurd L48 (by simp [qn])
     | succ k43 =>
      obtain ⟨t52, H, S53⟩ := qN L48
      clear L48
      unfold qu.b2 at H
      refine qk <| wr <| lp rfl (qc h51) <| lp rfl (xm v_a0 ((K46 0 rfl).trans (K22 0 rfl))) <| lp rfl (xm (.int .i64 x4_9) ((K46 4 rfl).trans h27)) ?_
      obtain ⟨c54, H⟩ := qa H
      refine Vk (.plain rfl) rfl (ltb rfl) rfl Tryz.underlying23 Tryz.sizeOf35 rfl (Rd2.ext f_a0 ((e5.t e23).t e47)) rfl c54 <| fun p55 v57 h56 h58 => lp rfl (qQ Tryz.isAgg35 rfl h56 rfl) <| lp rfl (vy Tryz.underlying35 rfl h58) <| lp rfl (yH rfl rfl) <| nx ?_
      rcases qf H with ⟨q59, H⟩ | ⟨q59, H⟩
      ·refine qp (cb q59) <| qq <| qd <| qk <| qF <| wr <| lp rfl (xm v_a0 ((K46 0 rfl).trans (K22 0 rfl))) <| lp rfl (xm (.int .i64 x4_9) ((K46 4 rfl).trans h27)) ?_
       obtain ⟨c60, H⟩ := qa H
       refine Vk (.plain rfl) rfl (ltb rfl) rfl Tryz.underlying23 Tryz.sizeOf35 rfl (Rd2.ext f_a0 ((e5.t e23).t e47)) rfl c60 <| fun p61 v63 h62 h64 => lp rfl (qQ Tryz.isAgg35 rfl h62 rfl) <| lp rfl (qc h51) ?_
       obtain ⟨c65, H⟩ := qa H
       refine vw (.plain rfl) rfl (ltb rfl) rfl Tryz.underlying35 Tryz.sizeOf52 rfl h64 rfl c65 <| fun p66 h67 => lp rfl (qe Tryz.underlying52 rfl Tryz.sizeOf9 rfl rfl) <| lp rfl (jh Tryz.isAgg9 (j := 1) h67 rfl rfl) <| lp rfl (xa (S ((gt (gt a0 x4_9) x5_33).path)) rfl) <| nx <| wr <| lp rfl (qc h49) <| lp rfl (vy Tryz.underlying44 rfl (Ow.rd h50)) <| lp rfl (xa (.int .i64 (x3_31.length : Int)) rfl) <| nx <| qk ?_
       obtain ⟨z69, L70, C71⟩ := bind_some H
       clear H
       refine  vH (fun s0 sQ wQ => ∃ (x7_72 : Int), Kp [(7, 8), (34, 47)] s0 sQ ∧ sQ 7 = .int .i64 x7_72 ∧ Ext w45 wQ ∧ z69 = .inr x7_72) ?_ ?_
       ·refine qF <| vB (fun s0 kk sQ wQ => ∃ (x7_68 : Int), Kp [(7, 8), (34, 47)] s0 sQ ∧ sQ 7 = .int .i64 x7_68 ∧ Ext w45 wQ ∧ qn (qu.b3 a0 x4_9 x3_31 x5_33) kk x7_68 = some z69) k ⟨(x3_31.length : Int), kz, rfl, er, L70⟩ ?_
        rintro k77 s78 w79 ⟨x7_68, K80, h83, e81, L82⟩
        cases k77 with
        | zero => exact absurd L82 (by simp [qn])
        | succ k77 =>
         obtain ⟨t84, H, S85⟩ := qN L82
         clear L82
         unfold qu.b3 at H
         refine qk <| wr <| lp rfl (qc h83) <| lp rfl (jj rfl rfl) <| lp rfl (xm (.bool (decide (0 < x7_68))) rfl) ?_
         obtain ⟨z87, x88, H⟩ := bind_some H
         refine jp 8 [(37, 45)] 44 (fun q => q = z87) ?_ ?_
         ·rcases qf x88 with ⟨b85_, H⟩ | ⟨b85_, H⟩
          ·refine lg rfl rfl rfl rfl (cb b85_) (xm (S ((gt (gt a0 x4_9) x5_33).path)) (K80 6 rfl)) <| lg rfl rfl rfl rfl (cb b85_) (xm v32 ((K80 3 rfl).trans h49)) <| lg rfl rfl rfl rfl (cb b85_) (qc h83) <| lg rfl rfl rfl rfl (cb b85_) (jl rfl rfl) ?_
           obtain ⟨c87, H⟩ := qa H
           refine vw (tg rfl rfl rfl (cb b85_)) rfl (ltb rfl) rfl Tryz.underlying44 Tryz.sizeOf9 rfl (Ow.rd (Ow.ext h50 e81)) rfl c87 <| fun p88 h89 => lg rfl rfl rfl rfl (cb b85_) (qQ Tryz.isAgg9 rfl h89 rfl) ?_
           obtain ⟨c90, H⟩ := qa H
           obtain ⟨c91, H⟩ := qa H
           refine y1 (tg rfl rfl rfl (cb b85_)) rfl (ltb rfl) rfl Tryz.call153 (vD.calls (w := w79) (a0 := (gt (gt a0 x4_9) x5_33).path) (a1 := gt x3_31 (IntKind.wrap .i64 (x7_68 - 1))) (od c90) (od c91)) rfl <| fun w92 e93 => lp rfl (qD (b := true) (v := (.bool (vP (cut 47 ((gt (gt a0 x4_9) x5_33).path)) (cut 47 (gt x3_31 (IntKind.wrap .i64 (x7_68 - 1))))))) (cb b85_) rfl) ?_
           obtain rfl := si H
           exact nx ⟨(ku8 kz rfl), ⟨_, rfl, rfl⟩, e93⟩
          ·refine ls rfl rfl rfl (cb b85_) rfl <| ls rfl rfl rfl (cb b85_) rfl <| ls rfl rfl rfl (cb b85_) rfl <| ls rfl rfl rfl (cb b85_) rfl <| ls rfl rfl rfl (cb b85_) rfl <| ls rfl rfl rfl (cb b85_) rfl <| ls rfl rfl rfl (cb b85_) rfl <| lp rfl (qD (b := false) (v := (.bool false)) (cb b85_) rfl) ?_
           obtain rfl := si H
           exact nx ⟨(ku8 kz rfl), ⟨_, rfl, rfl⟩, er⟩
         intro s94 w89 z95 K90 hq h91 e92
         rw [hq] at h91; clear hq
         refine nx ?_
         rcases qf H with ⟨q96, H⟩ | ⟨q96, H⟩
         ·refine qp (h91.trans (cb q96)) <| qq <| qd <| qF <| qJ <| lp rfl (xm (.int .i64 x7_68) ((K90 7 rfl).trans h83)) <| lp rfl (jl rfl rfl) <| lp rfl (xa (.int .i64 (IntKind.wrap .i64 (x7_68 - 1))) rfl) <| vb <| ye <| qd ?_
          obtain rfl := si H
          exact ⟨_, Nat.lt_succ_self _, IntKind.wrap .i64 (x7_68 - 1), (ku3 (Kp.cut (ku3 K80 rfl) K90 rfl) rfl), rfl, (e81.t e92), S85⟩
         ·refine qi (h91.trans (cb q96)) <| vL <| vd <| vd <| yE <| qd ?_
          obtain rfl := si H
          obtain rfl := si S85
          exact ⟨x7_68, (Kp.cut (ku3 K80 rfl) K90 rfl), ((K90 7 rfl).trans h83), (e81.t e92), rfl⟩
       ·rintro s74 w73 ⟨x7_72, K75, h97, e76, y98⟩
        rw [y98] at C71
        have H := C71
        replace H : _ = some _ := H
        refine qd <| wr <| lp rfl (qc h97) <| lp rfl (yZ rfl rfl) <| lp rfl (xm (.bool (decide (x7_72 = 0))) rfl) ?_
        obtain ⟨z100, x101, H⟩ := bind_some H
        refine jp 8 [(50, 58)] 57 (fun q => q = z100) ?_ ?_
        ·rcases qf x101 with ⟨b98_, H⟩ | ⟨b98_, H⟩
         ·refine ls rfl rfl rfl (cb b98_) rfl <| ls rfl rfl rfl (cb b98_) rfl <| ls rfl rfl rfl (cb b98_) rfl <| ls rfl rfl rfl (cb b98_) rfl <| ls rfl rfl rfl (cb b98_) rfl <| ls rfl rfl rfl (cb b98_) rfl <| ls rfl rfl rfl (cb b98_) rfl <| lp rfl (qD (b := true) (v := (.bool true)) (cb b98_) rfl) ?_
          obtain rfl := si H
          exact nx ⟨(ku8 kz rfl), ⟨_, rfl, rfl⟩, er⟩
         ·refine lg rfl rfl rfl rfl (cb b98_) (xm v32 ((K75 3 rfl).trans h49)) <| lg rfl rfl rfl rfl (cb b98_) (qc h97) <| lg rfl rfl rfl rfl (cb b98_) (jl rfl rfl) ?_
          obtain ⟨c100, H⟩ := qa H
          refine vw (tg rfl rfl rfl (cb b98_)) rfl (ltb rfl) rfl Tryz.underlying44 Tryz.sizeOf9 rfl (Ow.rd (Ow.ext h50 e76)) rfl c100 <| fun p101 h102 => lg rfl rfl rfl rfl (cb b98_) (qQ Tryz.isAgg9 rfl h102 rfl) <| lg rfl rfl rfl rfl (cb b98_) (xm (S ((gt (gt a0 x4_9) x5_33).path)) (K75 6 rfl)) <| lg rfl rfl rfl rfl (cb b98_) (Qv rfl rfl) <| lp rfl (qD (b := false) (v := (.bool (!decide ((gt x3_31 (IntKind.wrap .i64 (x7_72 - 1))) = ((gt (gt a0 x4_9) x5_33).path))))) (cb b98_) rfl) ?_
          obtain rfl := si H
          exact nx ⟨(ku8 kz rfl), ⟨_, rfl, rfl⟩, er⟩
        intro s106 w102 z107 K103 hq h104 e105
        rw [hq] at h104; clear hq
        refine nx ?_
        rcases qf H with ⟨q108, H⟩ | ⟨q108, H⟩
        ·refine qp (h104.trans (cb q108)) ?_
         obtain ⟨c115, H⟩ := qa H
         obtain ⟨c118, H⟩ := qa H
         obtain ⟨c130, H⟩ := qa H
         obtain ⟨c136, H⟩ := qa H
         obtain ⟨c139, H⟩ := qa H
         refine W_drawR (B := w102.heap.size) [LEmp, LEq v32, LEq (.int .i64 x7_72), GZ w102 1 vr (sub x3_31 0 x7_72), LOw 9 1 vr w102.heap.size (([] : List (List UInt8)) ++ (sub x3_31 0 x7_72)), LEq (S ((gt (gt a0 x4_9) x5_33).path)), LRd 1 vr ([(gt (gt a0 x4_9) x5_33).path] : List (List UInt8)), LOw 9 1 vr w102.heap.size (qu.e1 a0 x3_31 x4_9 x5_33 x7_72), LEq v32, LEq (.int .i64 x7_72), GZ w102 1 vr (sub x3_31 x7_72 (x3_31.length : Int)), LOw 9 1 vr w102.heap.size ((qu.e1 a0 x3_31 x4_9 x5_33 x7_72) ++ (sub x3_31 x7_72 (x3_31.length : Int))), LOw 9 1 vr w102.heap.size ((qu.e1 a0 x3_31 x4_9 x5_33 x7_72) ++ (sub x3_31 x7_72 (x3_31.length : Int)))] [⟨true, true, true, false, []⟩, ⟨true, true, true, false, []⟩, ⟨true, true, true, false, []⟩, ⟨true, true, true, false, [1, 2]⟩, ⟨true, false, true, false, [0, 3]⟩, ⟨true, true, true, false, []⟩, ⟨true, false, true, false, [5]⟩, ⟨false, false, true, false, [4, 6]⟩, ⟨true, true, false, false, []⟩, ⟨true, true, false, false, []⟩, ⟨true, true, false, false, [8, 9]⟩, ⟨false, false, false, false, [7, 10]⟩, ⟨true, false, false, true, [11]⟩] [(7, 0, [4]), (11, 0, [7, 4]), (7, 1, [4, 3]), (11, 1, [7, 4, 3]), (7, 2, [4, 3]), (11, 2, [7, 4, 3]), (7, 3, [4]), (11, 3, [7, 4]), (7, 4, []), (11, 4, [7]), (7, 5, [6]), (11, 5, [7, 6]), (7, 6, []), (11, 6, [7]), (11, 7, []), (12, 7, []), (12, 11, [])] (by kernel_rfl) (by kernel_rfl) (Nat.le_refl _) ⟨⟨LEmp.rig.mono, fun _ => LEmp.rig⟩, ⟨LEq.rig.mono, fun _ => LEq.rig⟩, ⟨LEq.rig.mono, fun _ => LEq.rig⟩, ⟨GZ.rig.mono, fun _ => GZ.rig⟩, ⟨LOw.mono, noR⟩, ⟨LEq.rig.mono, fun _ => LEq.rig⟩, ⟨LRd.mono, noR⟩, ⟨LOw.mono, noR⟩, ⟨LEq.rig.mono, fun _ => LEq.rig⟩, ⟨LEq.rig.mono, fun _ => LEq.rig⟩, ⟨GZ.rig.mono, fun _ => GZ.rig⟩, ⟨LOw.mono, noR⟩, ⟨LOw.mono, noR⟩, trivial⟩ ⟨?_, ?_, ?_, ?_, ?_, ?_, ?_, ?_, ?_, ?_, ?_, ?_, ?_, trivial⟩ ?_
         ·intro s145 w146 hb147 hx148 hf149 hd150 hu151
          have e152 : Ext w102 w146 := hx148 rfl
          exact yw (.plain rfl) rfl (ltb rfl) rfl Tryz.underlying44 Tryz.sizeOf9 Tryz.zeroValue9 rfl rfl rfl (vs := []) rfl (vh rfl) <| fun b153 w154 z155 z156 e157 k158 => vb <| V5 rfl rfl rfl e157 ⟨_, rfl⟩
         ·intro s159 w160 hb161 hx162 hf163 hd164 hu165
          have e166 : Ext w102 w160 := hx162 rfl
          exact lp rfl (xm v32 ((hu165 12 rfl).trans ((K103 3 rfl).trans ((K75 3 rfl).trans h49)))) <| vb <| V5 rfl rfl rfl er rfl
         ·intro s167 w168 hb169 hx170 hf171 hd172 hu173
          have e174 : Ext w102 w168 := hx170 rfl
          exact lp rfl (xm (.int .i64 x7_72) ((hf171 7 rfl).trans ((K103 7 rfl).trans h97))) <| vb <| V5 rfl rfl rfl er rfl
         ·intro s175 w176 hb177 hx178 hf179 hd180 hu181
          have e182 : Ext w102 w176 := hx178 rfl
          have d183 : s175 59 = v32 := (hd180 1 rfl)
          have d184 : s175 60 = (.int .i64 x7_72) := (hd180 2 rfl)
          have c185 := c115
          exact L_sub (.plain rfl) rfl (ltb rfl) rfl Tryz.underlying44 Tryz.sizeOf9 d183 (Ow.rd (Ow.ext h50 (e76.t e105))) (l := 0) (h := x7_72) rfl ⟨_, d184⟩ c185 <| fun v186 h187 => vb <| V5 rfl rfl rfl er h187
         ·intro s188 w189 hb190 hx191 hf192 hd193 hu194
          have e195 : Ext w102 w189 := hx191 rfl
          obtain ⟨b196, h197⟩ := (hd193 0 rfl)
          have d198 : Rd 1 vr w102 (s188 61) (sub x3_31 0 x7_72) := (hd193 3 rfl)
          have c199 := c118
          exact jC (enc := vr) (.plain rfl) rfl (ltb rfl) rfl El.t44 h197 rfl (Ow.zero (base := w189.heap.size) (w := w189)) (Rd.ext d198 e195) (Yr _) (od c199) (Nat.le_refl _) <| fun v200 w201 o202 z203 g204 => vb <| V5 rfl rfl rfl (g204 _ er) (Ow.base o202 e195.size)
         ·intro s205 w206 hb207 hx208 hf209 hd210 hu211
          have e212 : Ext w102 w206 := hx208 rfl
          exact lp rfl (xm (S ((gt (gt a0 x4_9) x5_33).path)) ((hf209 6 rfl).trans ((K103 6 rfl).trans (K75 6 rfl)))) <| vb <| V5 rfl rfl rfl er rfl
         ·intro s213 w214 hb215 hx216 hf217 hd218 hu219
          have e220 : Ext w102 w214 := hx216 rfl
          have d221 : s213 63 = (S ((gt (gt a0 x4_9) x5_33).path)) := (hd218 5 rfl)
          exact yw (.plain rfl) rfl (ltb rfl) rfl Tryz.underlying44 Tryz.sizeOf9 Tryz.zeroValue9 rfl rfl rfl (vs := [(S ((gt (gt a0 x4_9) x5_33).path))]) (vI d221 rfl) (vh rfl) <| fun b222 w223 z224 z225 e226 k227 => vb <| V5 rfl rfl rfl e226 (Ow.rd (Ow.new (xs := [(gt (gt a0 x4_9) x5_33).path]) (sz := 1) (enc := vr) (base := w214.heap.size) k227 (Nat.le_of_eq z224) rfl (fun _ _ => by rfl) (Nat.le_of_ble_eq_true rfl)))
         ·intro s228 w229 hb230 hx231 hf232 hd233 hu234
          have e235 : Ext w102 w229 := hx231 rfl
          have d236 : Ow 9 1 vr w102.heap.size w229 (s228 62) (([] : List (List UInt8)) ++ (sub x3_31 0 x7_72)) := (hd233 4 rfl)
          have d237 : Rd 1 vr w229 (s228 64) ([(gt (gt a0 x4_9) x5_33).path] : List (List UInt8)) := (hd233 6 rfl)
          have c238 := c130
          exact jC (enc := vr) (.plain rfl) rfl (ltb rfl) rfl El.t44 rfl rfl d236 d237 (Yr _) (od c238) (e235).size <| fun v239 w240 o241 z242 g243 => vb <| stepH rfl rfl rfl (g243 _ (Below.refl _ _)) o241
         ·intro s244 w245 hb246 hx247 hf248 hd249 hu250
          have e251 : Ext w102 w245 := Below.trans er hb246
          exact lp rfl (xm v32 ((hu250 12 rfl).trans ((K103 3 rfl).trans ((K75 3 rfl).trans h49)))) <| vb <| V5 rfl rfl rfl er rfl
         ·intro s252 w253 hb254 hx255 hf256 hd257 hu258
          have e259 : Ext w102 w253 := Below.trans er hb254
          exact lp rfl (xm (.int .i64 x7_72) ((hf256 7 rfl).trans ((K103 7 rfl).trans h97))) <| vb <| V5 rfl rfl rfl er rfl
         ·intro s260 w261 hb262 hx263 hf264 hd265 hu266
          have e267 : Ext w102 w261 := Below.trans er hb262
          have d268 : s260 66 = v32 := (hd265 8 rfl)
          have d269 : s260 67 = (.int .i64 x7_72) := (hd265 9 rfl)
          have c270 := c136
          exact L_sub (.plain rfl) rfl (ltb rfl) rfl Tryz.underlying44 Tryz.sizeOf9 d268 (Ow.rd (Ow.ext h50 (e76.t e105))) (l := x7_72) (h := (x3_31.length : Int)) ⟨_, d269⟩ rfl c270 <| fun v271 h272 => vb <| V5 rfl rfl rfl er h272
         ·intro s273 w274 hb275 hx276 hf277 hd278 hu279
          have e280 : Ext w102 w274 := Below.trans er hb275
          have d281 : Ow 9 1 vr w102.heap.size w274 (s273 65) (qu.e1 a0 x3_31 x4_9 x5_33 x7_72) := (hd278 7 rfl)
          have d282 : Rd 1 vr w102 (s273 68) (sub x3_31 x7_72 (x3_31.length : Int)) := (hd278 10 rfl)
          have c283 := c139
          exact jC (enc := vr) (.plain rfl) rfl (ltb rfl) rfl El.t44 rfl rfl d281 (Rd.ext d282 e280) (Yr _) (od c283) (e280).size <| fun v284 w285 o286 z287 g288 => vb <| stepH rfl rfl rfl (g288 _ (Below.refl _ _)) o286
         ·intro s289 w290 hb291 hx292 hf293 hd294 hu295
          have e296 : Ext w102 w290 := Below.trans er hb291
          have d297 : Ow 9 1 vr w102.heap.size w290 (s289 69) ((qu.e1 a0 x3_31 x4_9 x5_33 x7_72) ++ (sub x3_31 x7_72 (x3_31.length : Int))) := (hd294 11 rfl)
          exact lp rfl (xa (s289 69) rfl) <| vb <| V5 rfl rfl rfl er d297
         intro s298 w299 hb300 hf302 ha303
         have K304 := Kp.ofD (kp := [(3, 4), (58, 70)]) rfl hf302
         have e301 : Ext w102 w299 := hb300
         have d305 : Ow 9 1 vr w102.heap.size w299 (s298 3) ((qu.e1 a0 x3_31 x4_9 x5_33 x7_72) ++ (sub x3_31 x7_72 (x3_31.length : Int))) := ha303 12 rfl rfl
         clear ha303 hf302
         refine ye <| qd <| qJ <| lp rfl (xm (.int .i64 x5_33) ((K304 5 rfl).trans ((K103 5 rfl).trans ((K75 5 rfl).trans h51)))) <| lp rfl (vW rfl rfl) <| lp rfl (xa (.int .i64 (IntKind.wrap .i64 (x5_33 + 1))) rfl) <| nx ?_
         obtain rfl := si H
         exact ⟨_, Nat.lt_succ_self _, (qu.e1 a0 x3_31 x4_9 x5_33 x7_72) ++ (sub x3_31 x7_72 (x3_31.length : Int)), (s298 3), IntKind.wrap .i64 (x5_33 + 1), (ku3 (Kp.cut (Kp.cut (ku3 (Kp.cut (ku3 (ku8 (ku8 K46 rfl) rfl) rfl) K75 rfl) rfl) K103 rfl) K304 rfl) rfl), rfl, (Ow.base d305 (((e23.t e47).t e76).t e105).size), rfl, (((e47.t e76).t e105).t e301), S53⟩
        ·refine qi (h104.trans (cb q108)) <| qq <| ye <| qd <| qJ <| lp rfl (xm (.int .i64 x5_33) ((K103 5 rfl).trans ((K75 5 rfl).trans h51))) <| lp rfl (vW rfl rfl) <| lp rfl (xa (.int .i64 (IntKind.wrap .i64 (x5_33 + 1))) rfl) <| nx ?_
         obtain rfl := si H
         exact ⟨_, Nat.lt_succ_self _, x3_31, v32, IntKind.wrap .i64 (x5_33 + 1), (ku3 (Kp.cut (ku3 (Kp.cut (ku3 (ku8 (ku8 K46 rfl) rfl) rfl) K75 rfl) rfl) K103 rfl) rfl), ((K103 3 rfl).trans ((K75 3 rfl).trans h49)), (Ow.ext h50 (e76.t e105)), rfl, ((e47.t e76).t e105), S53⟩
      ·refine qi (cb q59) <| vL <| vd <| vd <| yE <| qd ?_
       obtain rfl := si H
       obtain rfl := si S53
       exact ⟨x3_31, v32, (ku3 (ku4 K46 rfl) rfl), h49, h50, e47, rfl⟩
    ·rintro s40 w39 ⟨x3_37, v38, K41, h306, h307, e42, y308⟩
     rw [y308] at C36
     have H := C36
     replace H : _ = some _ := H
     refine ye <| qd <| qJ <| lp rfl (xm (.int .i64 x4_9) ((K41 4 rfl).trans h27)) <| lp rfl (vW rfl rfl) <| lp rfl (xa (.int .i64 (IntKind.wrap .i64 (x4_9 + 1))) rfl) <| nx ?_
     obtain rfl := si H
     exact ⟨_, Nat.lt_succ_self _, x3_37, v38, IntKind.wrap .i64 (x4_9 + 1), (ku3 (Kp.cut (ku1 (ku4 K22 rfl) rfl) K41 rfl) rfl), h306, h307, rfl, (e23.t e42), S29⟩
   ·refine qi (cb q30) <| vL <| vd <| vd <| yE <| qd ?_
    obtain rfl := si H
    obtain rfl := si S29
    exact ⟨x3_7, v8, (ku4 K22 rfl), h25, h26, e23, rfl⟩
 ·rintro s16 w15 ⟨x3_13, v14, K17, h309, h310, e18, y311⟩
  rw [y311] at C12
  have H := C12
  replace H : _ = some _ := H
  refine qd <| wr <| lp rfl (qc h309) <| lp rfl (xa v14 rfl) <| nx <| qr <| qv ?_
  obtain rfl := si H
  exact Yf rfl (e5.t e18) h310 (e5).size
theorem qu.calls {w : World} {a0 : List (List Rec)} {v_a0 : Value} (f_a0 : Rd2 5 qg w v_a0 a0) (h0 : qO a0 = true) :
  Calls Tryz.prog 93 #[v_a0] w (Rt (RO 9 1 vr w (qK a0))) := by
 obtain ⟨k, h⟩ := qu.eq a0 h0
 exact qu.walk f_a0 h
/-! spec.PathsOf -/
theorem yU.walk {w : World} {a0 : List (List Rec)} {v_a0 : Value} (f_a0 : Rd2 5 qg w v_a0 a0) {r : List (List UInt8) × Int} (H : yU.sh a0 = some r) :
  Calls Tryz.prog 29 #[v_a0] w (Rt (RT 9 1 vr w r.1 (.int .i64 r.2))) := by
 unfold yU.sh at H
 refine qh Tryz.func29 rfl (Nat.le_of_ble_eq_true rfl) Tryz.ntmps29 rfl ?_
 refine wr <| lp rfl (xa (.slice none 0 0) rfl) <| lp rfl (xa (.int .i64 0) rfl) <| nx <| qk <| wr <| lp rfl (xm v_a0 rfl) <| lp rfl (jR Tryz.underlying23 rfl f_a0) <| lp rfl (jj rfl rfl) <| nx ?_
 rcases qf H with ⟨q1, H⟩ | ⟨q1, H⟩
 ·refine qp (cb q1) <| wr <| yw (.plain rfl) rfl (ltb rfl) rfl Tryz.underlying44 Tryz.sizeOf9 Tryz.zeroValue9 rfl rfl rfl (vs := []) rfl (vh rfl) <| fun b2 w3 z4 z5 e6 k7 => lp rfl (xa (.slice (some ⟨b2, 0, none⟩) 0 0) rfl) <| lp rfl (xa (.int .i64 2) rfl) <| nx <| qr <| qo <| qv ?_
  obtain rfl := si H
  exact Yn rfl rfl e6 (Ow.zero (base := w.heap.size)) (Nat.le_refl _)
 ·refine qi (cb q1) <| qq <| qd <| qk <| wr <| lp rfl (xm v_a0 rfl) ?_
  obtain ⟨c8, H⟩ := qa H
  obtain ⟨c9, H⟩ := qa H
  obtain ⟨c10, H⟩ := qa H
  refine lc rfl rfl Tryz.call60 (vv.calls (w := w) (a0 := a0) f_a0 (od c8) (od c9) (od c10)) rfl <| fun w11 e12 => lp rfl (yS rfl) <| nx ?_
  rcases qf H with ⟨q13, H⟩ | ⟨q13, H⟩
  ·refine qp (cb q13) <| wr <| yw (.plain rfl) rfl (ltb rfl) rfl Tryz.underlying44 Tryz.sizeOf9 Tryz.zeroValue9 rfl rfl rfl (vs := []) rfl (vh rfl) <| fun b14 w15 z16 z17 e18 k19 => lp rfl (xa (.slice (some ⟨b14, 0, none⟩) 0 0) rfl) <| lp rfl (xa (.int .i64 1) rfl) <| nx <| qr <| qo <| qv ?_
   obtain rfl := si H
   exact Yn rfl rfl (e12.t e18) (Ow.zero (base := w.heap.size)) (Nat.le_refl _)
  ·refine qi (cb q13) <| qq <| qd <| wr <| lp rfl (xm v_a0 rfl) ?_
   obtain ⟨c20, H⟩ := qa H
   refine yX (.plain rfl) rfl (ltb rfl) rfl Tryz.call93 (qu.calls (w := w11) (a0 := a0) (Rd2.ext f_a0 e12) (od c20)) rfl <| fun v23 w21 e22 o24 => lp rfl (xa v23 rfl) <| lp rfl (xa (.int .i64 0) rfl) <| nx <| qr <| qv ?_
   obtain rfl := si H
   exact Yn rfl rfl (e12.t e22) o24 (e12).size
theorem yU.calls {w : World} {a0 : List (List Rec)} {v_a0 : Value} (f_a0 : Rd2 5 qg w v_a0 a0) (h0 : a0.length ≤ 1048576) (h1 : ∀ l ∈ a0, l.length ≤ 1048576) (h2 : ∀ l ∈ a0, ∀ x ∈ l, x.path.length ≤ 1048576) :
  Calls Tryz.prog 29 #[v_a0] w (Rt (RT 9 1 vr w ((qA a0).1) (.int .i64 ((qA a0).2)))) := yU.walk f_a0 (yU.eq a0 h0 h1 h2)
/-! impl.PathsOf -/
theorem yV.walk {w : World} {a0 : List (List Rec)} (gv : GV 0 w) {v_a0 : Value} (f_a0 : Rd2 5 qg w v_a0 a0) {r : List (List UInt8) × Int} (H : yV.sh a0 = some r) :
  Calls Tryz.prog 28 #[v_a0] w (Rt (RT 9 1 vr w r.1 (.int .i64 r.2))) := by
 unfold yV.sh at H
 refine qh Tryz.func28 rfl (Nat.le_of_ble_eq_true rfl) Tryz.ntmps28 rfl ?_
 refine wr <| lp rfl (xa (.slice none 0 0) rfl) <| lp rfl (xa (.int .i64 0) rfl) <| nx <| qk <| wr <| lp rfl (xm v_a0 rfl) ?_
 obtain ⟨c1, H⟩ := qa H
 obtain ⟨c2, H⟩ := qa H
 obtain ⟨c3, H⟩ := qa H
 refine lc rfl rfl Tryz.call58 (yz.calls (w := w) (a0 := a0) gv f_a0 (od c1) (od c2) (od c3)) rfl <| fun w4 e5 => lp rfl (xa (.int .i64 (stackCode a0)) rfl) <| nx <| wr <| lp rfl (xm (.int .i64 (stackCode a0)) rfl) <| lp rfl (je rfl rfl) <| nx ?_
 rcases qf H with ⟨q6, H⟩ | ⟨q6, H⟩
 ·refine qp (cb q6) <| wr <| lp rfl (xm (.int .i64 (stackCode a0)) rfl) <| lp rfl (xa (.slice none 0 0) rfl) <| lp rfl (xa (.int .i64 (stackCode a0)) rfl) <| nx <| qr <| qo <| qv ?_
  obtain rfl := si H
  exact Yn rfl rfl e5 (Ow.zero (base := w.heap.size)) (Nat.le_refl _)
 ·refine qi (cb q6) <| qq <| qd <| wr <| lp rfl (xm v_a0 rfl) ?_
  obtain ⟨c7, H⟩ := qa H
  obtain ⟨c8, H⟩ := qa H
  obtain ⟨c9, H⟩ := qa H
  refine yX (.plain rfl) rfl (ltb rfl) rfl Tryz.call79 (ve.calls (w := w4) (a0 := a0) (GV.ext gv e5) (Rd2.ext f_a0 e5) (od c7) (od c8) (od c9)) rfl <| fun v12 w10 e11 o13 => lp rfl (xa v12 rfl) <| lp rfl (xa (.int .i64 0) rfl) <| nx <| qr <| qv ?_
  obtain rfl := si H
  exact Yn rfl rfl (e5.t e11) o13 (e5).size
theorem yV.calls {w : World} {a0 : List (List Rec)} (gv : GV 0 w) {v_a0 : Value} (f_a0 : Rd2 5 qg w v_a0 a0) (h0 : a0.length ≤ 1048576) (h1 : ∀ l ∈ a0, l.length ≤ 1048576) (h2 : ∀ l ∈ a0, ∀ x ∈ l, x.path.length ≤ 1048576) :
  Calls Tryz.prog 28 #[v_a0] w (Rt (RT 9 1 vr w ((qA a0).1) (.int .i64 ((qA a0).2)))) := yV.walk gv f_a0 (yV.eq a0 h0 h1 h2)
/-! spec.l07Merge, by text -/
theorem Gu.calls {w : World} {a0 : List (List Rec)} {v_a0 : Value} (f_a0 : Rd2 5 qg w v_a0 a0) (h0 : qO a0 = true) :
    Calls Tryz.prog 95 #[v_a0] w (Rt (RTT 52 5 qg 59 2 yt w (mergeL a0) (QF a0))) := by
  obtain ⟨h5, hL⟩ := QK h0
  have hn := Q1 h0
  have hlen1 : a0.length ≤ 1048576 := by omega
  have hls : ∀ l ∈ a0, l.length ≤ 1048576 := fun l hl => by have := Vc (hL l hl); omega
  have hws := wins_sheet h0
  have hwl := wins_len h0
  refine qh Tryz.func95 rfl (Nat.le_of_ble_eq_true rfl) Tryz.ntmps95 rfl ?_
  refine wr <| lp rfl (xa (.slice none 0 0) rfl) <| lp rfl (xa (.slice none 0 0) rfl) <| nx <| wr <| lp rfl (xm v_a0 rfl) <|
    yX (.plain rfl) rfl (ltb rfl) rfl Tryz.call93 (qu.calls (w := w) (a0 := a0) f_a0 h0) rfl <| fun vp w1 e1 o1 => lp rfl (xa vp rfl) <| nx <|
    wr <| yw (.plain rfl) rfl (ltb rfl) rfl Tryz.underlying35 Tryz.sizeOf52 Tryz.zeroValue52 rfl rfl rfl (vs := []) rfl (vh rfl) <| fun b2 w2 z1 z2 e2 k2 => lp rfl (xa (.slice (some ⟨b2, 0, none⟩) 0 0) rfl) <| nx <|
    wr <| yw (.plain rfl) rfl (ltb rfl) rfl Tryz.underlying47 Tryz.sizeOf59 Tryz.zeroValue59 rfl rfl rfl (vs := []) rfl (vh rfl) <| fun b3 w3 z3 z4 e3 k3 => lp rfl (xa (.slice (some ⟨b3, 0, none⟩) 0 0) rfl) <| nx <|
    qk <| wr <| lp rfl (xa (.int .i64 0) rfl) <| nx ?_
  refine vH (fun s0 σ W => ∃ v5 v6, σ 5 = v5 ∧ σ 6 = v6 ∧ Ow 52 5 qg w1.heap.size W v5 (JZ a0) ∧ Ow 59 2 yt w1.heap.size W v6 (QF a0) ∧ Ext w1 W) ?_ ?_
  · refine qF <| vB (fun s0 m σ W => ∃ (i : Nat) (v5 v6 : Value), i + m = (qK a0).length ∧ σ 0 = v_a0 ∧ σ 4 = vp ∧ σ 7 = .int .i64 (i : Int) ∧ σ 5 = v5 ∧ σ 6 = v6 ∧ Ow 52 5 qg w1.heap.size W v5 (((qK a0).take i).filterMap (VG a0)) ∧ Ow 59 2 yt w1.heap.size W v6 (((qK a0).take i).filterMap (Qy a0)) ∧ Qo v5 v6 ∧ Ext w1 W) (qK a0).length
      ⟨0, _, _, by omega, rfl, rfl, rfl, rfl, rfl, Ow.zero, Ow.zero, Qo.zero, Ext.trans e2 e3⟩ ?_
    rintro m s1 W1 ⟨i, v5, v6, him, q0, q4, q7, q5, q6, hO5, hO6, hD, hE⟩
    refine qk <| wr <| lp rfl (qc q7) <| lp rfl (qc q4) <| lp rfl (vy Tryz.underlying44 rfl (o1.rd.ext hE)) <| lp rfl (yH rfl rfl) <| nx ?_
    by_cases hi : i < (qK a0).length
    · have hmem : gt (qK a0) (i : Int) ∈ qK a0 := by rw [vJ, vY hi]; exact List.getElem_mem hi
      have hps := yi (VP h0 _ hmem)
      have hf5 := Xl (f := VG a0) hi
      have hf6 := Xl (f := Qy a0) hi
      have hl5 : (((qK a0).take i).filterMap (VG a0)).length ≤ 80 := by have := List.length_filterMap_le (VG a0) ((qK a0).take i); simp at this; omega
      have hl6 : (((qK a0).take i).filterMap (Qy a0)).length ≤ 80 := by have := List.length_filterMap_le (Qy a0) ((qK a0).take i); simp at this; omega
      have hw : IntKind.wrap .i64 ((i : Int) + 1) = ((i + 1 : Nat) : Int) := by rw [Go.UL.wrap_small (by omega) (by omega)]; omega
      obtain ⟨p, hp⟩ : ∃ p, gt (qK a0) (i : Int) = p := ⟨_, rfl⟩
      refine qp (cb (decide_eq_true (by omega))) <| qq <| qd <| qk <| qF <| wr <| lp rfl (qc q0) <| lp rfl (qc q4) <| lp rfl (qc q7) <|
        vw (.plain rfl) rfl (ltb rfl) rfl Tryz.underlying44 Tryz.sizeOf9 rfl (o1.rd.ext hE) rfl (qT hi) <| fun pa hA => ?_
      rw [hp] at hA hps hf5 hf6
      refine lp rfl (qQ (v := S p) Tryz.isAgg9 rfl hA rfl) <|
        lc rfl rfl Tryz.call98 (qV.calls (w := W1) (a0 := a0) (a1 := p) (f_a0.ext (e1.t hE)) h0 hlen1 hps hls) rfl <| fun W2 e4 => lp rfl (qc rfl) <|
        lp rfl (qM (v := (.agg (qg (winner a0 p).1).toArray)) rfl rfl) <| lp rfl (qM (v := (.int .i64 (winner a0 p).2)) rfl rfl) <| y5 (.plain rfl) rfl (ltb rfl) rfl Tryz.zeroValue52 <| fun b5 W3 z5 z6 e5 k5 =>
        vk (.plain rfl) rfl rfl Tryz.sizeOf52 rfl rfl rfl rfl rfl k5 <| fun W4 hw4 k6 => lp rfl (xa (.int .i64 (winner a0 p).2) rfl) <| nx <|
        wr <| lp rfl (xm (.int .i64 (winner a0 p).2) rfl) <| lp rfl (jj rfl rfl) <| nx ?_
      have e6 : Ext W2 W4 := Below.trans e5 (Wr.below hw4 (Nat.le_of_eq z5))
      have e7 : Ext W1 W4 := Ext.trans e4 e6
      have hE4 : Ext w1 W4 := Ext.trans hE e7
      by_cases hc : (0 : Int) < (winner a0 p).2
      · have g5 : VG a0 p = some (winner a0 p).1 := by unfold VG; rw [if_pos hc]
        have g6 : Qy a0 p = some ⟨p, (winner a0 p).2⟩ := by unfold Qy; rw [if_pos hc]
        rw [g5] at hf5
        rw [g6] at hf6
        refine qp (cb (decide_eq_true hc)) <| wr <| lp rfl (xm v5 q5) <| lp rfl (vC (cs := qg (winner a0 p).1) Tryz.isAgg52 Tryz.sizeOf52 rfl rfl (Blk.at0 k6)) <|
          yw (.plain rfl) rfl (ltb rfl) rfl Tryz.underlying35 Tryz.sizeOf52 Tryz.zeroValue52 rfl rfl rfl (vs := [(.agg (qg (winner a0 p).1).toArray)]) rfl (vh rfl) <| fun b7 W5 z7 z8 e8 k8 => ?_
        refine Y9 (enc := qg) (.plain rfl) rfl (ltb rfl) rfl El.t35 rfl rfl (Ow.ext hO5 (e7.t e8)) (Ow.rd (Ow.new (xs := [(winner a0 p).1]) (sz := 5) (enc := qg) (base := W4.heap.size) k8 (Nat.le_of_eq z7) rfl (fun _ _ => by rfl) (Nat.le_of_ble_eq_true rfl))) (Vq _) (by simp only [List.length_cons, List.length_nil]; omega) (Ext.trans hE4 e8).size <|
          fun v9 W6 o9 z9 g9 ap9 => lp rfl (xa v9 rfl) <| nx <| qJ <| lp rfl (xm v6 q6) <| lp rfl (xm vp q4) <| lp rfl (qc (v := .int .i64 (i : Int)) q7) <| ?_
        have hE6 : Ext w1 W6 := g9 _ (Ext.trans hE4 e8)
        obtain ⟨hO6', hD'⟩ := ap9 (Ow.ext hO6 (e7.t e8)) hD
        refine vw (.plain rfl) rfl (ltb rfl) rfl Tryz.underlying44 Tryz.sizeOf9 rfl (o1.rd.ext hE6) rfl (qT hi) <| fun pb hB => ?_
        rw [hp] at hB
        refine lp rfl (qQ (v := S p) Tryz.isAgg9 rfl hB rfl) <| lp rfl (qc (v := .int .i64 (winner a0 p).2) rfl) <|
          lp rfl (yR (vs := [(0, (S p)), (1, (.int .i64 (winner a0 p).2))]) (pl := #[(0, 1), (1, 1)]) Tryz.underlying59 Tryz.zeroValue59 rfl (fun _ => by kernel_rfl) rfl rfl rfl) <|
          yw (.plain rfl) rfl (ltb rfl) rfl Tryz.underlying47 Tryz.sizeOf59 Tryz.zeroValue59 rfl rfl rfl (vs := [(.agg #[(S p), (.int .i64 (winner a0 p).2)])]) rfl (vh rfl) <| fun b10 W7 z10 z11 e10 k10 => ?_
        refine Y9 (enc := yt) (.plain rfl) rfl (ltb rfl) rfl El.t47 rfl rfl (Ow.ext hO6' e10) (Ow.rd (Ow.new (xs := [(⟨p, (winner a0 p).2⟩ : Pick)]) (sz := 2) (enc := yt) (base := W6.heap.size) k10 (Nat.le_of_eq z10) rfl (fun _ _ => by rfl) (Nat.le_of_ble_eq_true rfl))) (GU _) (by simp only [List.length_cons, List.length_nil]; omega) (Ext.trans hE6 e10).size <|
          fun v11 W8 o11 z12 g11 ap11 => lp rfl (xa v11 rfl) <| vb <| ye <| qd <| qJ <| lp rfl (qc q7) <| lp rfl (vW rfl rfl) <| lp rfl (qG (v := .int .i64 ((i + 1 : Nat) : Int)) (congrArg (Value.int .i64) hw)) <| nx ?_
        obtain ⟨o9', hD''⟩ := ap11 (Ow.ext o9 e10) hD'.symm
        exact ⟨m - 1, by omega, i + 1, v9, v11, by omega, q0, q4, rfl, rfl, rfl, by rw [hf5]; exact o9', by rw [hf6]; exact o11, hD''.symm, g11 _ (Ext.trans hE6 e10)⟩
      · have g5 : VG a0 p = none := by unfold VG; rw [if_neg hc]
        have g6 : Qy a0 p = none := by unfold Qy; rw [if_neg hc]
        rw [g5] at hf5
        rw [g6] at hf6
        refine qi (cb (decide_eq_false hc)) <| qq <| ye <| qd <| qJ <| lp rfl (qc q7) <| lp rfl (vW rfl rfl) <| lp rfl (qG (v := .int .i64 ((i + 1 : Nat) : Int)) (congrArg (Value.int .i64) hw)) <| nx ?_
        exact ⟨m - 1, by omega, i + 1, v5, v6, by omega, q0, q4, rfl, q5, q6, by rw [hf5]; simpa using Ow.ext hO5 e7, by rw [hf6]; simpa using Ow.ext hO6 e7, hD, hE4⟩
    · have hie : i = (qK a0).length := by omega
      rw [hie, List.take_length] at hO5 hO6
      refine qi (cb (decide_eq_false (by omega))) <| vL <| vd <| vd <| yE <| qd ?_
      exact ⟨v5, v6, q5, q6, hO5, hO6, hE⟩
  · rintro s2 W2 ⟨v5, v6, q5, q6, hO5, hO6, hE⟩
    refine qd <| wr <| lp rfl (qc q5) <| yX (.plain rfl) rfl (ltb rfl) rfl Tryz.call76 (vN.calls (w := W2) (a0 := JZ a0) hO5.rd (by omega) (V4 hws)) rfl <| fun v7 W3 e4 o7 =>
      lp rfl (xm v6 q6) <| lp rfl (xa v7 rfl) <| lp rfl (xa v6 rfl) <| nx <| qr <| qv ?_
    exact fin2oo rfl rfl (e1.t (Ext.trans hE e4)) o7 (e1.t hE).size (Ow.ext hO6 e4) e1.size

/-! spec.MergeTrace -/
theorem yp.walk {w : World} {a0 : List (List Rec)} {v_a0 : Value} (f_a0 : Rd2 5 qg w v_a0 a0) {r : List Pick × Int} (H : yp.sh a0 = some r) :
  Calls Tryz.prog 31 #[v_a0] w (Rt (RT 59 2 yt w r.1 (.int .i64 r.2))) := by
 unfold yp.sh at H
 refine qh Tryz.func31 rfl (Nat.le_of_ble_eq_true rfl) Tryz.ntmps31 rfl ?_
 refine wr <| lp rfl (xa (.slice none 0 0) rfl) <| lp rfl (xa (.int .i64 0) rfl) <| nx <| qk <| wr <| lp rfl (xm v_a0 rfl) <| lp rfl (jR Tryz.underlying23 rfl f_a0) <| lp rfl (jj rfl rfl) <| nx ?_
 rcases qf H with ⟨q1, H⟩ | ⟨q1, H⟩
 ·refine qp (cb q1) <| wr <| yw (.plain rfl) rfl (ltb rfl) rfl Tryz.underlying47 Tryz.sizeOf59 Tryz.zeroValue59 rfl rfl rfl (vs := []) rfl (vh rfl) <| fun b2 w3 z4 z5 e6 k7 => lp rfl (xa (.slice (some ⟨b2, 0, none⟩) 0 0) rfl) <| lp rfl (xa (.int .i64 2) rfl) <| nx <| qr <| qo <| qv ?_
  obtain rfl := si H
  exact Yn rfl rfl e6 (Ow.zero (base := w.heap.size)) (Nat.le_refl _)
 ·refine qi (cb q1) <| qq <| qd <| qk <| wr <| lp rfl (xm v_a0 rfl) ?_
  obtain ⟨c8, H⟩ := qa H
  obtain ⟨c9, H⟩ := qa H
  obtain ⟨c10, H⟩ := qa H
  refine lc rfl rfl Tryz.call60 (vv.calls (w := w) (a0 := a0) f_a0 (od c8) (od c9) (od c10)) rfl <| fun w11 e12 => lp rfl (yS rfl) <| nx ?_
  rcases qf H with ⟨q13, H⟩ | ⟨q13, H⟩
  ·refine qp (cb q13) <| wr <| yw (.plain rfl) rfl (ltb rfl) rfl Tryz.underlying47 Tryz.sizeOf59 Tryz.zeroValue59 rfl rfl rfl (vs := []) rfl (vh rfl) <| fun b14 w15 z16 z17 e18 k19 => lp rfl (xa (.slice (some ⟨b14, 0, none⟩) 0 0) rfl) <| lp rfl (xa (.int .i64 1) rfl) <| nx <| qr <| qo <| qv ?_
   obtain rfl := si H
   exact Yn rfl rfl (e12.t e18) (Ow.zero (base := w.heap.size)) (Nat.le_refl _)
  ·refine qi (cb q13) <| qq <| qd <| wr <| lp rfl (xm v_a0 rfl) ?_
   obtain ⟨c20, H⟩ := qa H
   refine L_callTT (.plain rfl) rfl (ltb rfl) rfl Tryz.call95 (Gu.calls (w := w11) (a0 := a0) (Rd2.ext f_a0 e12) (od c20)) rfl <| fun v23 v24 w21 e22 o25 o26 => lp rfl (xm (.tuple #[v23, v24]) rfl) <| lp rfl (qM (v := v23) rfl rfl) <| lp rfl (qM (v := v24) rfl rfl) <| lp rfl (xa v23 rfl) <| lp rfl (xa v24 rfl) <| nx <| wr <| lp rfl (xm v24 rfl) <| lp rfl (xa v24 rfl) <| lp rfl (xa (.int .i64 0) rfl) <| nx <| qr <| qv ?_
   obtain rfl := si H
   exact Yn rfl rfl (e12.t e22) o26 (e12).size
theorem yp.calls {w : World} {a0 : List (List Rec)} {v_a0 : Value} (f_a0 : Rd2 5 qg w v_a0 a0) (h0 : a0.length ≤ 1048576) (h1 : ∀ l ∈ a0, l.length ≤ 1048576) (h2 : ∀ l ∈ a0, ∀ x ∈ l, x.path.length ≤ 1048576) :
  Calls Tryz.prog 31 #[v_a0] w (Rt (RT 59 2 yt w ((qI a0).1) (.int .i64 ((qI a0).2)))) := yp.walk f_a0 (yp.eq a0 h0 h1 h2)
/-! impl.MergeTrace -/
theorem vc.walk {k : Nat} {w : World} {a0 : List (List Rec)} (gv : GV 0 w) {v_a0 : Value} (f_a0 : Rd2 5 qg w v_a0 a0) {r : List Pick × Int} (H : vc.sh k a0 = some r) :
  Calls Tryz.prog 30 #[v_a0] w (Rt (RT 59 2 yt w r.1 (.int .i64 r.2))) := by
 unfold vc.sh at H
 refine qh Tryz.func30 rfl (Nat.le_of_ble_eq_true rfl) Tryz.ntmps30 rfl ?_
 refine wr <| lp rfl (xa (.slice none 0 0) rfl) <| lp rfl (xa (.int .i64 0) rfl) <| nx <| qk <| wr <| lp rfl (xm v_a0 rfl) ?_
 obtain ⟨c1, H⟩ := qa H
 obtain ⟨c2, H⟩ := qa H
 obtain ⟨c3, H⟩ := qa H
 refine lc rfl rfl Tryz.call58 (yz.calls (w := w) (a0 := a0) gv f_a0 (od c1) (od c2) (od c3)) rfl <| fun w4 e5 => lp rfl (xa (.int .i64 (stackCode a0)) rfl) <| nx <| wr <| lp rfl (xm (.int .i64 (stackCode a0)) rfl) <| lp rfl (je rfl rfl) <| nx ?_
 rcases qf H with ⟨q6, H⟩ | ⟨q6, H⟩
 ·refine qp (cb q6) <| wr <| lp rfl (xm (.int .i64 (stackCode a0)) rfl) <| lp rfl (xa (.slice none 0 0) rfl) <| lp rfl (xa (.int .i64 (stackCode a0)) rfl) <| nx <| qr <| qo <| qv ?_
  obtain rfl := si H
  exact Yn rfl rfl e5 (Ow.zero (base := w.heap.size)) (Nat.le_refl _)
 ·refine qi (cb q6) <| qq <| qd <| wr <| yw (.plain rfl) rfl (ltb rfl) rfl Tryz.underlying47 Tryz.sizeOf59 Tryz.zeroValue59 rfl rfl rfl (vs := []) rfl (vh rfl) <| fun b7 w8 z9 z10 e11 k12 => lp rfl (xa (.slice (some ⟨b7, 0, none⟩) 0 0) rfl) <| nx <| qk <| wr <| lp rfl (xm v_a0 rfl) ?_
  obtain ⟨c13, H⟩ := qa H
  obtain ⟨c14, H⟩ := qa H
  obtain ⟨c15, H⟩ := qa H
  refine yX (.plain rfl) rfl (ltb rfl) rfl Tryz.call79 (ve.calls (w := w8) (a0 := a0) (GV.ext gv (e5.t e11)) (Rd2.ext f_a0 (e5.t e11)) (od c13) (od c14) (od c15)) rfl <| fun v18 w16 e17 o19 => lp rfl (vy Tryz.underlying44 rfl (Ow.rd o19)) <| lp rfl (xm (.int .i64 0) rfl) <| nx ?_
  obtain ⟨z23, L24, C25⟩ := bind_some H
  clear H
  refine  vH (fun s0 sQ wQ => ∃ (x5_26 : List Pick) (v27 : Value), Kp [(5, 6), (7, 11), (20, 39)] s0 sQ ∧ sQ 5 = v27 ∧ Ow 59 2 yt w16.heap.size wQ v27 x5_26 ∧ Ext w16 wQ ∧ z23 = .inr x5_26) ?_ ?_
  ·refine qF <| vB (fun s0 kk sQ wQ => ∃ (x5_20 : List Pick) (v21 : Value) (x20_22 : Int), Kp [(5, 6), (7, 11), (20, 39)] s0 sQ ∧ sQ 5 = v21 ∧ Ow 59 2 yt w16.heap.size wQ v21 x5_20 ∧ sQ 20 = .int .i64 x20_22 ∧ Ext w16 wQ ∧ qn (vc.b1 a0) kk (x5_20, x20_22) = some z23) k ⟨([] : List Pick), (.slice (some ⟨b7, 0, none⟩) 0 0), 0, kz, rfl, (Ow.zero), rfl, er, L24⟩ ?_
   rintro k32 s33 w34 ⟨x5_20, v21, x20_22, K35, h38, h39, h40, e36, L37⟩
   cases k32 with
   | zero => exact absurd L37 (by simp [qn])
   | succ k32 =>
    obtain ⟨t41, H, S42⟩ := qN L37
    clear L37
    unfold vc.b1 at H
    refine wr <| lp rfl (yH h40 (K35 19 rfl)) <| nx <| qk ?_
    rcases qf H with ⟨q43, H⟩ | ⟨q43, H⟩
    ·refine qp (cb q43) <| qq <| qd <| qk <| qF <| wr ?_
     obtain ⟨c44, H⟩ := qa H
     refine vw (.plain rfl) rfl (ltb rfl) rfl Tryz.underlying44 Tryz.sizeOf9 (K35 18 rfl) (Ow.rd (Ow.ext o19 e36)) h40 c44 <| fun p45 h46 => lp rfl (qQ Tryz.isAgg9 rfl h46 rfl) <| lp rfl (xa (S (gt (qK a0) x20_22)) rfl) <| nx <| wr <| lp rfl (xm v_a0 (K35 0 rfl)) <| lp rfl (xm (S (gt (qK a0) x20_22)) rfl) ?_
     obtain ⟨c47, H⟩ := qa H
     obtain ⟨c48, H⟩ := qa H
     obtain ⟨c49, H⟩ := qa H
     obtain ⟨c50, H⟩ := qa H
     refine lc rfl rfl Tryz.call94 (vf.calls (w := w34) (a0 := a0) (a1 := gt (qK a0) x20_22) (Rd2.ext f_a0 (((e5.t e11).t e17).t e36)) (od c47) (od c48) (od c49) (od c50)) rfl <| fun w51 e52 => lp rfl (qc rfl) <| lp rfl (qM (v := (.agg (qg ((winner a0 (gt (qK a0) x20_22)).1)).toArray)) rfl rfl) <| lp rfl (qM (v := (.int .i64 ((winner a0 (gt (qK a0) x20_22)).2))) rfl rfl) <| lp rfl (qM (v := (.bool (decide ((0 : Int) < (winner a0 (gt (qK a0) x20_22)).2)))) rfl rfl) <| y5 (.plain rfl) rfl (ltb rfl) rfl Tryz.zeroValue52 <| fun b53 w54 z55 z56 e57 k58 => vk (.plain rfl) rfl rfl Tryz.sizeOf52 rfl rfl rfl rfl rfl k58 <| fun w59 h60 k61 => lp rfl (xa (.int .i64 ((winner a0 (gt (qK a0) x20_22)).2)) rfl) <| lp rfl (xa (.bool (decide ((0 : Int) < (winner a0 (gt (qK a0) x20_22)).2))) rfl) <| nx <| wr <| lp rfl (xm (.bool (decide ((0 : Int) < (winner a0 (gt (qK a0) x20_22)).2))) rfl) <| nx ?_
     rcases qf H with ⟨q62, H⟩ | ⟨q62, H⟩
     ·refine qp (cb q62) <| qJ <| lp rfl (qc h38) <| lp rfl (xm (S (gt (qK a0) x20_22)) rfl) <| lp rfl (xm (.int .i64 ((winner a0 (gt (qK a0) x20_22)).2)) rfl) <| lp rfl (yR (vs := [(0, (S (gt (qK a0) x20_22))), (1, (.int .i64 ((winner a0 (gt (qK a0) x20_22)).2)))]) (pl := #[(0, 1), (1, 1)]) Tryz.underlying59 Tryz.zeroValue59 rfl (fun _ => by kernel_rfl) rfl rfl rfl) <| yw (.plain rfl) rfl (ltb rfl) rfl Tryz.underlying47 Tryz.sizeOf59 Tryz.zeroValue59 rfl rfl rfl (vs := [(.agg #[(S (gt (qK a0) x20_22)), (.int .i64 ((winner a0 (gt (qK a0) x20_22)).2))])]) rfl (vh rfl) <| fun b63 w64 z65 z66 e67 k68 => ?_
      obtain ⟨c69, H⟩ := qa H
      refine jC (enc := yt) (.plain rfl) rfl (ltb rfl) rfl El.t47 rfl rfl (Ow.ext h39 ((e52.t (Below.trans e57 (Wr.below h60 (Nat.le_of_eq z55)))).t e67)) (Ow.rd (Ow.new (xs := [(⟨gt (qK a0) x20_22, (winner a0 (gt (qK a0) x20_22)).2⟩ : Pick)]) (sz := 2) (enc := yt) (base := w59.heap.size) k68 (Nat.le_of_eq z65) rfl (fun _ _ => by rfl) (Nat.le_of_ble_eq_true rfl))) (GU _) (od c69) ((((e36.t e52).t (Below.trans e57 (Wr.below h60 (Nat.le_of_eq z55)))).t e67)).size <| fun v70 w71 o72 z73 g74 => lp rfl (xa v70 rfl) <| vb <| ye <| qd <| qJ <| lp rfl (vW h40 rfl) <| lp rfl (xm (.int .i64 (IntKind.wrap .i64 (x20_22 + 1))) rfl) <| nx ?_
      obtain rfl := si H
      exact ⟨_, Nat.lt_succ_self _, x5_20 ++ ([(⟨gt (qK a0) x20_22, (winner a0 (gt (qK a0) x20_22)).2⟩ : Pick)] : List Pick), v70, IntKind.wrap .i64 (x20_22 + 1), (ku8 (ku8 (ku8 K35 rfl) rfl) rfl), rfl, o72, rfl, (g74 _ (((e36.t e52).t (Below.trans e57 (Wr.below h60 (Nat.le_of_eq z55)))).t e67)), S42⟩
     ·refine qi (cb q62) <| qq <| ye <| qd <| qJ <| lp rfl (vW h40 rfl) <| lp rfl (xm (.int .i64 (IntKind.wrap .i64 (x20_22 + 1))) rfl) <| nx ?_
      obtain rfl := si H
      exact ⟨_, Nat.lt_succ_self _, x5_20, v21, IntKind.wrap .i64 (x20_22 + 1), (ku1 (ku8 (ku8 K35 rfl) rfl) rfl), h38, (Ow.ext h39 (e52.t (Below.trans e57 (Wr.below h60 (Nat.le_of_eq z55))))), rfl, ((e36.t e52).t (Below.trans e57 (Wr.below h60 (Nat.le_of_eq z55)))), S42⟩
    ·refine qi (cb q43) <| vL <| vd <| vd <| yE <| qd ?_
     obtain rfl := si H
     obtain rfl := si S42
     exact ⟨x5_20, v21, (ku1 K35 rfl), h38, h39, e36, rfl⟩
  ·rintro s29 w28 ⟨x5_26, v27, K30, h75, h76, e31, y77⟩
   rw [y77] at C25
   have H := C25
   replace H : _ = some _ := H
   refine qd <| wr <| lp rfl (qc h75) <| lp rfl (xa v27 rfl) <| lp rfl (xa (.int .i64 0) rfl) <| nx <| qr <| qv ?_
   obtain rfl := si H
   exact Yn rfl rfl (((e5.t e11).t e17).t e31) h76 (((e5.t e11).t e17)).size
theorem vc.calls {w : World} {a0 : List (List Rec)} (gv : GV 0 w) {v_a0 : Value} (f_a0 : Rd2 5 qg w v_a0 a0) (h0 : a0.length ≤ 1048576) (h1 : ∀ l ∈ a0, l.length ≤ 1048576) (h2 : ∀ l ∈ a0, ∀ x ∈ l, x.path.length ≤ 1048576) :
  Calls Tryz.prog 30 #[v_a0] w (Rt (RT 59 2 yt w ((qI a0).1) (.int .i64 ((qI a0).2)))) := by
 obtain ⟨k, h⟩ := vc.eq a0 h0 h1 h2
 exact vc.walk gv f_a0 h
/-! spec.l00Source -/
theorem vM.walk {w : World} {a0 : List Int} {v_a0 : Value} (f_a0 : Rd 1 (Go.UL.encI .u8) w v_a0 a0) {r : DSrc} (H : vM.sh a0 = some r) :
  Calls Tryz.prog 56 #[v_a0] w (Rt (RSN 128 v_a0 w r)) := by
 unfold vM.sh at H
 refine qh Tryz.func56 rfl (Nat.le_of_ble_eq_true rfl) Tryz.ntmps56 rfl ?_
 refine wr <| lp rfl (qG rfl) <| nx <| wr <| lp rfl (xm v_a0 rfl) <| lp rfl (xm v_a0 rfl) <| lp rfl (vy Tryz.underlying22 rfl f_a0) <| lp rfl (GJ rfl rfl (by decide)) <| lp rfl (yR (vs := [(0, v_a0), (2, (.int .i64 ((a0.length : Int).tmod 1000)))]) (pl := #[(0, 1), (1, 1), (2, 1)]) Tryz.underlying128 Tryz.zeroValue128 rfl (fun _ => by kernel_rfl) rfl rfl (by obtain ⟨A9, c9, e9⟩ := Rd.shape f_a0; rw [e9]; rfl)) <| Ve (.plain rfl) rfl (ltb rfl) rfl rfl <| fun b1 w2 z3 z4 e5 k6 => lp rfl (xa (.pointer (some ⟨b1, 0, none⟩)) rfl) <| nx <| qr <| qv ?_
 obtain rfl := si H
 exact fin1sn rfl e5 (Nat.le_trans (er).size (Nat.le_of_eq z3)) k6
theorem vM.calls {w : World} {a0 : List Int} {r : DSrc} {v_a0 : Value} (f_a0 : Rd 1 (Go.UL.encI .u8) w v_a0 a0) (H : (vM.sh a0) = some r) :
  Calls Tryz.prog 56 #[v_a0] w (Rt (RSN 128 v_a0 w r)) := vM.walk f_a0 (vM.eq a0 H)
/-! (*spec.l00Src).byte -/
abbrev qU.e1 (a1 : DSrc) := (IntKind.wrap .i64 ((IntKind.wrap .i64 (a1.pos + 1)) - 1))
abbrev qU.e2 (a0 : List Int) (a1 : DSrc) := (IntKind.wrap .i64 ((IntKind.wrap .i64 (a1.seed * 31)) + (IntKind.wrap .i64 (gt a0 (qU.e1 a1)))))
theorem qU.walk {w : World} {a0 : List Int} {a1 : DSrc} {wc : World} {cv : Value} {bs : Nat} (kc : Ext wc w) (fc : Rd 1 (Go.UL.encI .u8) wc cv a0) (hz : wc.heap.size ≤ bs) (ks : Blk w bs (vt cv a1).toArray 128) {r : Int × DSrc} (H : qU.sh a0 a1 = some r) :
  Calls Tryz.prog 179 #[.pointer (some ⟨bs, 0, none⟩)] w (Rt (RS 128 bs cv w (.int .i64 r.1) r.2)) := by
 unfold qU.sh at H
 refine qh Tryz.func179 rfl (Nat.le_of_ble_eq_true rfl) Tryz.ntmps179 rfl ?_
 refine wr <| lp rfl (xa (.int .i64 0) rfl) <| nx <| wr <| lp rfl (xm (.pointer (some ⟨bs, 0, none⟩)) rfl) <| lp rfl (Q7 rfl) <| lp rfl (qe Tryz.underlying128 rfl Tryz.sizeOf3 rfl rfl) <| lp rfl (qH Tryz.isAgg3 ks rfl rfl) <| lp rfl (vW rfl rfl) <| lp rfl (Q7 rfl) <| lp rfl (qe Tryz.underlying128 rfl Tryz.sizeOf3 rfl rfl) <| Qw (.plain rfl) rfl rfl Tryz.sizeOf3 rfl rfl rfl ks (ltb rfl) <| fun w1 h2 k3 => nx <| qk <| qk ?_
 refine YK [LEq (.pointer (some ⟨bs, 0, none⟩)), LEq (.pointer (some ⟨bs, 0, none⟩)), LEq (.pointer (some ⟨bs, 1, none⟩)), LEq (.int .i64 (IntKind.wrap .i64 (a1.pos + 1))), LEq (.pointer (some ⟨bs, 0, none⟩)), LEq (.pointer (some ⟨bs, 0, none⟩)), LEq (.pointer (some ⟨bs, 0, none⟩)), LRd 1 (Go.UL.encI .u8) a0, LEq (.int .i64 (a0.length : Int)), LEq (.bool (decide ((IntKind.wrap .i64 (a1.pos + 1)) ≤ (a0.length : Int))))] (by kernel_rfl) (by kernel_rfl) ⟨qm, qm, qm, qm, qm, qm, qm, LRd.mono, qm, qm, trivial⟩ ⟨?_, ?_, ?_, ?_, ?_, ?_, ?_, ?_, ?_, ?_, trivial⟩ ?_
 ·exact fun s x e f d u => lp rfl (xm (.pointer (some ⟨bs, 0, none⟩)) (f 0 rfl)) <| se rfl rfl
 ·exact fun s x e f d u => lp rfl (Q7 (d 0 rfl)) <| se rfl rfl
 ·exact fun s x e f d u => lp rfl (qe Tryz.underlying128 rfl Tryz.sizeOf3 rfl (d 1 rfl)) <| se rfl rfl
 ·exact fun s x e f d u => lp rfl (qH Tryz.isAgg3 (Blk.ext k3 e) (d 2 rfl) rfl) <| se rfl rfl
 ·exact fun s x e f d u => lp rfl (xm (.pointer (some ⟨bs, 0, none⟩)) (f 0 rfl)) <| se rfl rfl
 ·exact fun s x e f d u => lp rfl (Q7 (d 4 rfl)) <| se rfl rfl
 ·exact fun s x e f d u => lp rfl (qe Tryz.underlying128 rfl Tryz.sizeOf22 rfl (d 5 rfl)) <| se rfl rfl
 ·exact fun s x e f d u => lp rfl (qH Tryz.isAgg22 (Blk.ext k3 e) (d 6 rfl) rfl) <| se rfl (Rd.ext fc (Ext.trans (Below.trans kc (Below.mono (Wr.below h2 hz) (Nat.le_refl _))) e))
 ·intro s x e f d u
  have d4 : Rd 1 (Go.UL.encI .u8) x (s 17) a0 := (d 7 rfl)
  exact lp rfl (vy Tryz.underlying22 rfl d4) <| se rfl rfl
 ·exact fun s x e f d u => lp rfl (VX (d 3 rfl) (d 8 rfl)) <| se rfl rfl
 intro s5 w6 e7 hf8 ha9
 have K10 := Kp.ofD (kp := [(10, 20)]) rfl hf8
 have d11 : s5 19 = (.bool (decide ((IntKind.wrap .i64 (a1.pos + 1)) ≤ (a0.length : Int)))) := ha9 9 rfl
 clear ha9 hf8
 refine qd ?_
 rcases qf H with ⟨q12, H⟩ | ⟨q12, H⟩
 ·refine qp (d11.trans (cb q12)) <| qk ?_
  obtain ⟨c13, H⟩ := qa H
  refine W_dN 22 [LEq (.pointer (some ⟨bs, 0, none⟩)), LEq (.pointer (some ⟨bs, 0, none⟩)), LEq (.pointer (some ⟨bs, 0, none⟩)), LEq (.pointer (some ⟨bs, 2, none⟩)), LEq (.int .i64 a1.seed), LEq (.int .i64 (IntKind.wrap .i64 (a1.seed * 31))), LEq (.pointer (some ⟨bs, 0, none⟩)), LEq (.pointer (some ⟨bs, 0, none⟩)), LEq (.pointer (some ⟨bs, 0, none⟩)), LRd 1 (Go.UL.encI .u8) a0, LEq (.pointer (some ⟨bs, 0, none⟩)), LEq (.pointer (some ⟨bs, 0, none⟩)), LEq (.pointer (some ⟨bs, 1, none⟩)), LEq (.int .i64 (IntKind.wrap .i64 (a1.pos + 1))), LEq (.int .i64 (qU.e1 a1)), yO ((Go.UL.encI .u8) (gt a0 (qU.e1 a1))), LEq (.int .u8 (gt a0 (qU.e1 a1))), LEq (.int .i64 (IntKind.wrap .i64 (gt a0 (qU.e1 a1)))), LEq (.int .i64 (qU.e2 a0 a1)), LEq (.int .i64 (IntKind.wrap .i64 ((qU.e2 a0 a1) + 7))), LEq (.int .i64 ((IntKind.wrap .i64 ((qU.e2 a0 a1) + 7)).tmod 2147483648)), LEq (.pointer (some ⟨bs, 0, none⟩))] (by kernel_rfl) (by kernel_rfl) (by kernel_rfl) ⟨qm, qm, qm, qm, qm, qm, qm, qm, qm, LRd.mono, qm, qm, qm, qm, qm, yO.mono, qm, qm, qm, qm, qm, qm, trivial⟩ ⟨?_, ?_, ?_, ?_, ?_, ?_, ?_, ?_, ?_, ?_, ?_, ?_, ?_, ?_, ?_, ?_, ?_, ?_, ?_, ?_, ?_, ?_, trivial⟩ ?_
  ·exact fun s x e f d u => lp rfl (xm (.pointer (some ⟨bs, 0, none⟩)) ((f 0 rfl).trans (K10 0 rfl))) <| se rfl rfl
  ·exact fun s x e f d u => lp rfl (xm (.pointer (some ⟨bs, 0, none⟩)) ((f 0 rfl).trans (K10 0 rfl))) <| se rfl rfl
  ·exact fun s x e f d u => lp rfl (Q7 (d 1 rfl)) <| se rfl rfl
  ·exact fun s x e f d u => lp rfl (qe Tryz.underlying128 rfl Tryz.sizeOf3 rfl (d 2 rfl)) <| se rfl rfl
  ·exact fun s x e f d u => lp rfl (qH Tryz.isAgg3 (Blk.ext k3 (e7.t e)) (d 3 rfl) rfl) <| se rfl rfl
  ·exact fun s x e f d u => lp rfl (X_mul (d 4 rfl) rfl) <| se rfl rfl
  ·exact fun s x e f d u => lp rfl (xm (.pointer (some ⟨bs, 0, none⟩)) ((f 0 rfl).trans (K10 0 rfl))) <| se rfl rfl
  ·exact fun s x e f d u => lp rfl (Q7 (d 6 rfl)) <| se rfl rfl
  ·exact fun s x e f d u => lp rfl (qe Tryz.underlying128 rfl Tryz.sizeOf22 rfl (d 7 rfl)) <| se rfl rfl
  ·exact fun s x e f d u => lp rfl (qH Tryz.isAgg22 (Blk.ext k3 (e7.t e)) (d 8 rfl) rfl) <| se rfl (Rd.ext fc (Ext.trans (Ext.trans (Below.trans kc (Below.mono (Wr.below h2 hz) (Nat.le_refl _))) e7) e))
  ·exact fun s x e f d u => lp rfl (xm (.pointer (some ⟨bs, 0, none⟩)) ((f 0 rfl).trans (K10 0 rfl))) <| se rfl rfl
  ·exact fun s x e f d u => lp rfl (Q7 (d 10 rfl)) <| se rfl rfl
  ·exact fun s x e f d u => lp rfl (qe Tryz.underlying128 rfl Tryz.sizeOf3 rfl (d 11 rfl)) <| se rfl rfl
  ·exact fun s x e f d u => lp rfl (qH Tryz.isAgg3 (Blk.ext k3 (e7.t e)) (d 12 rfl) rfl) <| se rfl rfl
  ·exact fun s x e f d u => lp rfl (jl (d 13 rfl) rfl) <| se rfl rfl
  ·intro s x e f d u
   have d16 : Rd 1 (Go.UL.encI .u8) x (s 29) a0 := (d 9 rfl)
   exact vw (.plain rfl) rfl (ltb rfl) rfl Tryz.underlying22 Tryz.sizeOf5 rfl d16 (d 14 rfl) c13 <| fun p18 h19 => se rfl ⟨_, rfl, h19⟩
  ·intro s x e f d u
   obtain ⟨p20, h21, h22⟩ := (d 15 rfl)
   exact lp rfl (qQ Tryz.isAgg5 h21 h22 rfl) <| se rfl rfl
  ·exact fun s x e f d u => lp rfl (Y0 Tryz.underlying5 Tryz.underlying3 (d 16 rfl)) <| se rfl rfl
  ·exact fun s x e f d u => lp rfl (vW (d 5 rfl) (d 17 rfl)) <| se rfl rfl
  ·exact fun s x e f d u => lp rfl (vW (d 18 rfl) rfl) <| se rfl rfl
  ·exact fun s x e f d u => lp rfl (GJ (d 19 rfl) rfl (by decide)) <| se rfl rfl
  ·exact fun s x e f d u => lp rfl (Q7 (d 0 rfl)) <| se rfl rfl
  intro s23 w24 e25 hf26 ha27
  have K28 := Kp.ofD (kp := [(20, 42)]) rfl hf26
  have d29 : s23 40 = (.int .i64 ((IntKind.wrap .i64 ((qU.e2 a0 a1) + 7)).tmod 2147483648)) := ha27 20 rfl
  have d30 : s23 41 = (.pointer (some ⟨bs, 0, none⟩)) := ha27 21 rfl
  clear ha27 hf26
  refine lp rfl (qe Tryz.underlying128 rfl Tryz.sizeOf3 rfl d30) <| Qw (.plain rfl) rfl rfl Tryz.sizeOf3 rfl d29 rfl (Blk.ext k3 (e7.t e25)) (ltb rfl) <| fun w31 h32 k33 => nx <| qk ?_
  obtain ⟨c34, H⟩ := qa H
  refine YK [LEq (.pointer (some ⟨bs, 0, none⟩)), LEq (.pointer (some ⟨bs, 0, none⟩)), LEq (.pointer (some ⟨bs, 0, none⟩)), LRd 1 (Go.UL.encI .u8) a0, LEq (.pointer (some ⟨bs, 0, none⟩)), LEq (.pointer (some ⟨bs, 0, none⟩)), LEq (.pointer (some ⟨bs, 1, none⟩)), LEq (.int .i64 (IntKind.wrap .i64 (a1.pos + 1))), LEq (.int .i64 (qU.e1 a1)), yO ((Go.UL.encI .u8) (gt a0 (qU.e1 a1))), LEq (.int .u8 (gt a0 (qU.e1 a1))), LEq (.int .i64 (IntKind.wrap .i64 (gt a0 (qU.e1 a1)))), LEq (.int .i64 (IntKind.wrap .i64 (gt a0 (qU.e1 a1))))] (by kernel_rfl) (by kernel_rfl) ⟨qm, qm, qm, LRd.mono, qm, qm, qm, qm, qm, yO.mono, qm, qm, qm, trivial⟩ ⟨?_, ?_, ?_, ?_, ?_, ?_, ?_, ?_, ?_, ?_, ?_, ?_, ?_, trivial⟩ ?_
  ·exact fun s x e f d u => lp rfl (xm (.pointer (some ⟨bs, 0, none⟩)) ((f 0 rfl).trans ((K28 0 rfl).trans (K10 0 rfl)))) <| se rfl rfl
  ·exact fun s x e f d u => lp rfl (Q7 (d 0 rfl)) <| se rfl rfl
  ·exact fun s x e f d u => lp rfl (qe Tryz.underlying128 rfl Tryz.sizeOf22 rfl (d 1 rfl)) <| se rfl rfl
  ·exact fun s x e f d u => lp rfl (qH Tryz.isAgg22 (Blk.ext k33 e) (d 2 rfl) rfl) <| se rfl (Rd.ext fc (Ext.trans (Below.trans (Ext.trans (Ext.trans (Below.trans kc (Below.mono (Wr.below h2 hz) (Nat.le_refl _))) e7) e25) (Below.mono (Wr.below h32 hz) (Nat.le_refl _))) e))
  ·exact fun s x e f d u => lp rfl (xm (.pointer (some ⟨bs, 0, none⟩)) ((f 0 rfl).trans ((K28 0 rfl).trans (K10 0 rfl)))) <| se rfl rfl
  ·exact fun s x e f d u => lp rfl (Q7 (d 4 rfl)) <| se rfl rfl
  ·exact fun s x e f d u => lp rfl (qe Tryz.underlying128 rfl Tryz.sizeOf3 rfl (d 5 rfl)) <| se rfl rfl
  ·exact fun s x e f d u => lp rfl (qH Tryz.isAgg3 (Blk.ext k33 e) (d 6 rfl) rfl) <| se rfl rfl
  ·exact fun s x e f d u => lp rfl (jl (d 7 rfl) rfl) <| se rfl rfl
  ·intro s x e f d u
   have d37 : Rd 1 (Go.UL.encI .u8) x (s 46) a0 := (d 3 rfl)
   exact vw (.plain rfl) rfl (ltb rfl) rfl Tryz.underlying22 Tryz.sizeOf5 rfl d37 (d 8 rfl) c34 <| fun p39 h40 => se rfl ⟨_, rfl, h40⟩
  ·intro s x e f d u
   obtain ⟨p41, h42, h43⟩ := (d 9 rfl)
   exact lp rfl (qQ Tryz.isAgg5 h42 h43 rfl) <| se rfl rfl
  ·exact fun s x e f d u => lp rfl (Y0 Tryz.underlying5 Tryz.underlying3 (d 10 rfl)) <| se rfl rfl
  ·exact fun s x e f d u => lp rfl (qG (d 11 rfl)) <| se rfl rfl
  intro s44 w45 e46 hf47 ha48
  have K49 := Kp.ofD (kp := [(2, 3), (43, 55)]) rfl hf47
  have d50 : s44 2 = (.int .i64 (IntKind.wrap .i64 (gt a0 (qU.e1 a1)))) := ha48 12 rfl
  clear ha48 hf47
  refine qd <| qr <| qo <| qv ?_
  obtain rfl := si H
  exact Vt d50 (Gr.trans (Gr.trans (Gr.trans (Gr.trans (Gr.ofWr h2) (Gr.ext e7)) (Gr.ext e25)) (Gr.ofWr h32)) (Gr.ext e46)) (Blk.ext k33 e46)
 ·refine qi (d11.trans (cb q12)) <| qq <| qd <| qk <| wr <| lp rfl (xm (.pointer (some ⟨bs, 0, none⟩)) (K10 0 rfl)) <| lp rfl (Q7 rfl) <| lp rfl (qe Tryz.underlying128 rfl Tryz.sizeOf3 rfl rfl) <| lp rfl (qH Tryz.isAgg3 (Blk.ext k3 e7) rfl rfl) <| lp rfl (jj rfl rfl) <| nx ?_
  rcases qf H with ⟨q51, H⟩ | ⟨q51, H⟩
  ·refine qp (cb q51) <| wr <| lp rfl (xa (.int .i64 0) rfl) <| nx <| qr <| qo <| qv ?_
   obtain rfl := si H
   exact Vt rfl (Gr.trans (Gr.ofWr h2) (Gr.ext e7)) (Blk.ext k3 e7)
  ·refine qi (cb q51) <| qq <| qd <| wr <| lp rfl (xm (.pointer (some ⟨bs, 0, none⟩)) (K10 0 rfl)) <| lp rfl (xm (.pointer (some ⟨bs, 0, none⟩)) (K10 0 rfl)) <| lp rfl (Q7 rfl) <| lp rfl (qe Tryz.underlying128 rfl Tryz.sizeOf3 rfl rfl) <| lp rfl (qH Tryz.isAgg3 (Blk.ext k3 e7) rfl rfl) <| lp rfl (X_mul rfl rfl) <| lp rfl (vW rfl rfl) <| lp rfl (GJ rfl rfl (by decide)) <| lp rfl (Q7 rfl) <| lp rfl (qe Tryz.underlying128 rfl Tryz.sizeOf3 rfl rfl) <| Qw (.plain rfl) rfl rfl Tryz.sizeOf3 rfl rfl rfl (Blk.ext k3 e7) (ltb rfl) <| fun w52 h53 k54 => nx <| wr <| lp rfl (xm (.pointer (some ⟨bs, 0, none⟩)) (K10 0 rfl)) <| lp rfl (Q7 rfl) <| lp rfl (qe Tryz.underlying128 rfl Tryz.sizeOf3 rfl rfl) <| lp rfl (qH Tryz.isAgg3 k54 rfl rfl) <| lp rfl (X_quo rfl rfl (by decide)) <| lp rfl (GJ rfl rfl (by decide)) <| lp rfl (qG rfl) <| nx <| qr <| qv ?_
   obtain rfl := si H
   exact Vt rfl (Gr.trans (Gr.trans (Gr.ofWr h2) (Gr.ext e7)) (Gr.ofWr h53)) k54
theorem qU.calls {w : World} {a0 : List Int} {a1 : DSrc} {r : Int × DSrc} {wc : World} {cv : Value} {bs : Nat} (kc : Ext wc w) (fc : Rd 1 (Go.UL.encI .u8) wc cv a0) (hz : wc.heap.size ≤ bs) (ks : Blk w bs (vt cv a1).toArray 128) (H : (qU.sh a0 a1) = some r) :
  Calls Tryz.prog 179 #[.pointer (some ⟨bs, 0, none⟩)] w (Rt (RS 128 bs cv w (.int .i64 r.1) r.2)) := qU.walk kc fc hz ks (qU.eq a0 a1 H)
/-! (*spec.l00Src).next -/
theorem vj.walk {w : World} {a0 : List Int} {a1 : DSrc} {a2 : Int} {wc : World} {cv : Value} {bs : Nat} (kc : Ext wc w) (fc : Rd 1 (Go.UL.encI .u8) wc cv a0) (hz : wc.heap.size ≤ bs) (ks : Blk w bs (vt cv a1).toArray 128) {r : Int × DSrc} (H : vj.sh a0 a1 a2 = some r) :
  Calls Tryz.prog 115 #[.pointer (some ⟨bs, 0, none⟩), .int .i64 a2] w (Rt (RS 128 bs cv w (.int .i64 r.1) r.2)) := by
 unfold vj.sh at H
 refine qh Tryz.func115 rfl (Nat.le_of_ble_eq_true rfl) Tryz.ntmps115 rfl ?_
 refine wr <| lp rfl (xa (.int .i64 0) rfl) <| nx <| qk <| wr <| lp rfl (xm (.int .i64 a2) rfl) <| lp rfl (VX rfl rfl) <| nx ?_
 rcases qf H with ⟨q1, H⟩ | ⟨q1, H⟩
 ·refine qp (cb q1) <| wr <| lp rfl (xa (.int .i64 0) rfl) <| nx <| qr <| qo <| qv ?_
  obtain rfl := si H
  exact Vt rfl (Gr.refl _ _ _) ks
 ·refine qi (cb q1) <| qq <| qd <| qk <| wr <| lp rfl (xm (.int .i64 a2) rfl) <| lp rfl (VX rfl rfl) <| nx ?_
  rcases qf H with ⟨q2, H⟩ | ⟨q2, H⟩
  ·refine qp (cb q2) <| wr <| lp rfl (xm (.pointer (some ⟨bs, 0, none⟩)) rfl) ?_
   obtain ⟨z3, x4, H⟩ := bind_some H
   refine yQ (.plain rfl) rfl (ltb rfl) rfl Tryz.call179 (qU.calls (w := w) (a0 := a0) (a1 := a1) kc fc hz ks x4) rfl <| fun w7 g8 k9 => lp rfl (xm (.int .i64 a2) rfl) ?_
   obtain ⟨c10, H⟩ := qa H
   refine lp rfl (GJ rfl rfl (od c10)) <| lp rfl (xa (.int .i64 (z3.1.tmod a2)) rfl) <| nx <| qr <| qo <| qv ?_
   obtain rfl := si H
   exact Vt rfl g8 k9
  ·refine qi (cb q2) <| qq <| qd <| wr <| lp rfl (xm (.pointer (some ⟨bs, 0, none⟩)) rfl) ?_
   obtain ⟨z11, x12, H⟩ := bind_some H
   refine yQ (.plain rfl) rfl (ltb rfl) rfl Tryz.call179 (qU.calls (w := w) (a0 := a0) (a1 := a1) kc fc hz ks x12) rfl <| fun w15 g16 k17 => lp rfl (xa (.int .i64 z11.1) rfl) <| nx <| wr <| lp rfl (xm (.pointer (some ⟨bs, 0, none⟩)) rfl) ?_
   obtain ⟨z18, x19, H⟩ := bind_some H
   refine yQ (.plain rfl) rfl (ltb rfl) rfl Tryz.call179 (qU.calls (w := w15) (a0 := a0) (a1 := z11.2) (Ext.gr kc g16 hz) fc hz k17 x19) rfl <| fun w22 g23 k24 => lp rfl (xa (.int .i64 z18.1) rfl) <| nx <| wr <| lp rfl (xm (.pointer (some ⟨bs, 0, none⟩)) rfl) ?_
   obtain ⟨z25, x26, H⟩ := bind_some H
   refine yQ (.plain rfl) rfl (ltb rfl) rfl Tryz.call179 (qU.calls (w := w22) (a0 := a0) (a1 := z18.2) (Ext.gr (Ext.gr kc g16 hz) g23 hz) fc hz k24 x26) rfl <| fun w29 g30 k31 => lp rfl (xa (.int .i64 z25.1) rfl) <| nx <| wr <| lp rfl (xm (.int .i64 z11.1) rfl) <| lp rfl (X_mul rfl rfl) <| lp rfl (xm (.int .i64 z18.1) rfl) <| lp rfl (X_mul rfl rfl) <| lp rfl (vW rfl rfl) <| lp rfl (xm (.int .i64 z25.1) rfl) <| lp rfl (vW rfl rfl) <| lp rfl (xm (.int .i64 a2) rfl) ?_
   obtain ⟨c32, H⟩ := qa H
   refine lp rfl (GJ rfl rfl (od c32)) <| lp rfl (qG rfl) <| nx <| qr <| qv ?_
   obtain rfl := si H
   exact Vt rfl (Gr.trans (Gr.trans g16 g23) g30) k31
theorem vj.calls {w : World} {a0 : List Int} {a1 : DSrc} {a2 : Int} {r : Int × DSrc} {wc : World} {cv : Value} {bs : Nat} (kc : Ext wc w) (fc : Rd 1 (Go.UL.encI .u8) wc cv a0) (hz : wc.heap.size ≤ bs) (ks : Blk w bs (vt cv a1).toArray 128) (H : (vj.sh a0 a1 a2) = some r) :
  Calls Tryz.prog 115 #[.pointer (some ⟨bs, 0, none⟩), .int .i64 a2] w (Rt (RS 128 bs cv w (.int .i64 r.1) r.2)) := vj.walk kc fc hz ks (vj.eq a0 a1 a2 H)
/-! (*spec.l00Src).chance -/
theorem yk.walk {w : World} {a0 : List Int} {a1 : DSrc} {a2 : Int} {wc : World} {cv : Value} {bs : Nat} (kc : Ext wc w) (fc : Rd 1 (Go.UL.encI .u8) wc cv a0) (hz : wc.heap.size ≤ bs) (ks : Blk w bs (vt cv a1).toArray 128) {r : Bool × DSrc} (H : yk.sh a0 a1 a2 = some r) :
  Calls Tryz.prog 189 #[.pointer (some ⟨bs, 0, none⟩), .int .i64 a2] w (Rt (RS 128 bs cv w (.bool r.1) r.2)) := by
 unfold yk.sh at H
 refine qh Tryz.func189 rfl (Nat.le_of_ble_eq_true rfl) Tryz.ntmps189 rfl ?_
 refine wr <| lp rfl (xa (.bool false) rfl) <| nx <| wr <| lp rfl (xm (.pointer (some ⟨bs, 0, none⟩)) rfl) <| lp rfl (xm (.int .i64 a2) rfl) ?_
 obtain ⟨z1, x2, H⟩ := bind_some H
 refine yQ (.plain rfl) rfl (ltb rfl) rfl Tryz.call115 (vj.calls (w := w) (a0 := a0) (a1 := a1) (a2 := a2) kc fc hz ks x2) rfl <| fun w5 g6 k7 => lp rfl (xm (.int .i64 a2) rfl) <| lp rfl (jl rfl rfl) <| lp rfl (yZ rfl rfl) <| lp rfl (xa (.bool (decide (z1.1 = (IntKind.wrap .i64 (a2 - 1))))) rfl) <| nx <| qr <| qv ?_
 obtain rfl := si H
 exact Vt rfl g6 k7
theorem yk.calls {w : World} {a0 : List Int} {a1 : DSrc} {a2 : Int} {r : Bool × DSrc} {wc : World} {cv : Value} {bs : Nat} (kc : Ext wc w) (fc : Rd 1 (Go.UL.encI .u8) wc cv a0) (hz : wc.heap.size ≤ bs) (ks : Blk w bs (vt cv a1).toArray 128) (H : (yk.sh a0 a1 a2) = some r) :
  Calls Tryz.prog 189 #[.pointer (some ⟨bs, 0, none⟩), .int .i64 a2] w (Rt (RS 128 bs cv w (.bool r.1) r.2)) := yk.walk kc fc hz ks (yk.eq a0 a1 a2 H)
/-! (*spec.l00Src).room -/
theorem y0.walk {w : World} {a0 : List Int} {a1 : DSrc} {a2 : Int} {wc : World} {cv : Value} {bs : Nat} (kc : Ext wc w) (fc : Rd 1 (Go.UL.encI .u8) wc cv a0) (hz : wc.heap.size ≤ bs) (ks : Blk w bs (vt cv a1).toArray 128) {r : Int × DSrc} (H : y0.sh a0 a1 a2 = some r) :
  Calls Tryz.prog 127 #[.pointer (some ⟨bs, 0, none⟩), .int .i64 a2] w (Rt (RS 128 bs cv w (.int .i64 r.1) r.2)) := by
 unfold y0.sh at H
 refine qh Tryz.func127 rfl (Nat.le_of_ble_eq_true rfl) Tryz.ntmps127 rfl ?_
 refine wr <| lp rfl (xa (.int .i64 0) rfl) <| nx <| wr <| lp rfl (xm (.pointer (some ⟨bs, 0, none⟩)) rfl) <| lp rfl (Q7 rfl) <| lp rfl (qe Tryz.underlying128 rfl Tryz.sizeOf22 rfl rfl) <| lp rfl (qH Tryz.isAgg22 ks rfl rfl) <| lp rfl (vy Tryz.underlying22 rfl (Rd.ext fc kc)) <| lp rfl (X_quo rfl rfl (by decide)) <| lp rfl (vW rfl rfl) <| lp rfl (xm (.int .i64 a2) rfl) <| lp rfl (X_min rfl rfl) <| lp rfl (qG rfl) <| nx <| qr <| qv ?_
 obtain rfl := si H
 exact Vt rfl (Gr.refl _ _ _) ks
theorem y0.calls {w : World} {a0 : List Int} {a1 : DSrc} {a2 : Int} {r : Int × DSrc} {wc : World} {cv : Value} {bs : Nat} (kc : Ext wc w) (fc : Rd 1 (Go.UL.encI .u8) wc cv a0) (hz : wc.heap.size ≤ bs) (ks : Blk w bs (vt cv a1).toArray 128) (H : (y0.sh a0 a1 a2) = some r) :
  Calls Tryz.prog 127 #[.pointer (some ⟨bs, 0, none⟩), .int .i64 a2] w (Rt (RS 128 bs cv w (.int .i64 r.1) r.2)) := y0.walk kc fc hz ks (y0.eq a0 a1 a2 H)
/-! (*spec.l00Src).pick -/
theorem yy.walk {w : World} {a0 : List Int} {a1 : DSrc} {a2 : List (List UInt8)} {wc : World} {cv : Value} {bs : Nat} (kc : Ext wc w) (fc : Rd 1 (Go.UL.encI .u8) wc cv a0) (hz : wc.heap.size ≤ bs) (ks : Blk w bs (vt cv a1).toArray 128) {v_a2 : Value} {B_a2 : Nat} (o_a2 : Ow 9 1 vr B_a2 w v_a2 a2) (l_a2 : bs + 1 ≤ B_a2) {r : List UInt8 × DSrc} (H : yy.sh a0 a1 a2 = some r) :
  Calls Tryz.prog 188 #[.pointer (some ⟨bs, 0, none⟩), v_a2] w (Rt (RS 128 bs cv w (S r.1) r.2)) := by
 unfold yy.sh at H
 refine qh Tryz.func188 rfl (Nat.le_of_ble_eq_true rfl) Tryz.ntmps188 rfl ?_
 refine wr <| lp rfl (xa (S ([] : List UInt8)) rfl) <| nx <| qk <| wr <| lp rfl (xm v_a2 rfl) <| lp rfl (vy Tryz.underlying44 rfl (Ow.rd o_a2)) <| lp rfl (yZ rfl rfl) <| nx ?_
 rcases qf H with ⟨q1, H⟩ | ⟨q1, H⟩
 ·refine qp (cb q1) <| wr <| lp rfl (xa (S ([] : List UInt8)) rfl) <| nx <| qr <| qo <| qv ?_
  obtain rfl := si H
  exact Vt rfl (Gr.refl _ _ _) ks
 ·refine qi (cb q1) <| qq <| qd <| wr <| lp rfl (xm v_a2 rfl) <| lp rfl (xm (.pointer (some ⟨bs, 0, none⟩)) rfl) <| lp rfl (xm v_a2 rfl) <| lp rfl (vy Tryz.underlying44 rfl (Ow.rd o_a2)) ?_
  obtain ⟨z2, x3, H⟩ := bind_some H
  refine yQ (.plain rfl) rfl (ltb rfl) rfl Tryz.call115 (vj.calls (w := w) (a0 := a0) (a1 := a1) (a2 := (a2.length : Int)) kc fc hz ks x3) rfl <| fun w6 g7 k8 => ?_
  obtain ⟨c9, H⟩ := qa H
  refine vw (.plain rfl) rfl (ltb rfl) rfl Tryz.underlying44 Tryz.sizeOf9 rfl (Ow.rd (Ow.later o_a2 g7 l_a2)) rfl c9 <| fun p10 h11 => lp rfl (qQ Tryz.isAgg9 rfl h11 rfl) <| lp rfl (xa (S (gt a2 z2.1)) rfl) <| nx <| qr <| qv ?_
  obtain rfl := si H
  exact Vt rfl g7 k8
theorem yy.calls {w : World} {a0 : List Int} {a1 : DSrc} {a2 : List (List UInt8)} {r : List UInt8 × DSrc} {wc : World} {cv : Value} {bs : Nat} (kc : Ext wc w) (fc : Rd 1 (Go.UL.encI .u8) wc cv a0) (hz : wc.heap.size ≤ bs) (ks : Blk w bs (vt cv a1).toArray 128) {v_a2 : Value} {B_a2 : Nat} (o_a2 : Ow 9 1 vr B_a2 w v_a2 a2) (l_a2 : bs + 1 ≤ B_a2) (H : (yy.sh a0 a1 a2) = some r) :
  Calls Tryz.prog 188 #[.pointer (some ⟨bs, 0, none⟩), v_a2] w (Rt (RS 128 bs cv w (S r.1) r.2)) := yy.walk kc fc hz ks o_a2 l_a2 (yy.eq a0 a1 a2 H)
/-! (*spec.l00Src).part -/
theorem vK.walk {w : World} {a0 : List Int} {a1 : DSrc} {wc : World} {cv : Value} {bs : Nat} (kc : Ext wc w) (fc : Rd 1 (Go.UL.encI .u8) wc cv a0) (hz : wc.heap.size ≤ bs) (ks : Blk w bs (vt cv a1).toArray 128) {r : List UInt8 × DSrc} (H : vK.sh a0 a1 = some r) :
  Calls Tryz.prog 190 #[.pointer (some ⟨bs, 0, none⟩)] w (Rt (RS 128 bs cv w (S r.1) r.2)) := by
 unfold vK.sh at H
 refine qh Tryz.func190 rfl (Nat.le_of_ble_eq_true rfl) Tryz.ntmps190 rfl ?_
 refine wr <| lp rfl (xa (S ([] : List UInt8)) rfl) <| nx <| wr <| lp rfl (xm (.pointer (some ⟨bs, 0, none⟩)) rfl) <| yw (.plain rfl) rfl (ltb rfl) rfl Tryz.underlying44 Tryz.sizeOf9 Tryz.zeroValue9 rfl rfl rfl (vs := [(S ([97] : List UInt8)), (S ([98] : List UInt8)), (S ([99] : List UInt8)), (S ([97, 46, 98] : List UInt8)), (S ([120] : List UInt8))]) rfl (vh rfl) <| fun b1 w2 z3 z4 e5 k6 => ?_
 obtain ⟨z7, x8, H⟩ := bind_some H
 refine yQ (.plain rfl) rfl (ltb rfl) rfl Tryz.call188 (yy.calls (w := w2) (a0 := a0) (a1 := a1) (a2 := vK.lit1) (Ext.trans kc e5) fc hz (Blk.ext ks e5) (Ow.new (xs := vK.lit1) (sz := 1) (enc := vr) (base := w.heap.size) k6 (Nat.le_of_eq z3) rfl (fun _ _ => rfl) (Nat.le_of_ble_eq_true rfl)) (Nat.le_trans (Blk.lt ks) (Nat.le_refl _)) x8) rfl <| fun w11 g12 k13 => lp rfl (xa (S z7.1) rfl) <| nx <| qr <| qv ?_
 obtain rfl := si H
 exact Vt rfl (Gr.trans (Gr.ext e5) g12) k13
theorem vK.calls {w : World} {a0 : List Int} {a1 : DSrc} {r : List UInt8 × DSrc} {wc : World} {cv : Value} {bs : Nat} (kc : Ext wc w) (fc : Rd 1 (Go.UL.encI .u8) wc cv a0) (hz : wc.heap.size ≤ bs) (ks : Blk w bs (vt cv a1).toArray 128) (H : (vK.sh a0 a1) = some r) :
  Calls Tryz.prog 190 #[.pointer (some ⟨bs, 0, none⟩)] w (Rt (RS 128 bs cv w (S r.1) r.2)) := vK.walk kc fc hz ks (vK.eq a0 a1 H)
/-! (*spec.l00Src).path -/
theorem ya.walk {k : Nat} {w : World} {a0 : List Int} {a1 : DSrc} {wc : World} {cv : Value} {bs : Nat} (kc : Ext wc w) (fc : Rd 1 (Go.UL.encI .u8) wc cv a0) (hz : wc.heap.size ≤ bs) (ks : Blk w bs (vt cv a1).toArray 128) {r : List UInt8 × DSrc} (H : ya.sh k a0 a1 = some r) :
  Calls Tryz.prog 130 #[.pointer (some ⟨bs, 0, none⟩)] w (Rt (RS 128 bs cv w (S r.1) r.2)) := by
 unfold ya.sh at H
 refine qh Tryz.func130 rfl (Nat.le_of_ble_eq_true rfl) Tryz.ntmps130 rfl ?_
 refine wr <| lp rfl (xa (S ([] : List UInt8)) rfl) <| nx <| wr <| lp rfl (xm (.pointer (some ⟨bs, 0, none⟩)) rfl) ?_
 obtain ⟨z1, x2, H⟩ := bind_some H
 refine yQ (.plain rfl) rfl (ltb rfl) rfl Tryz.call190 (vK.calls (w := w) (a0 := a0) (a1 := a1) kc fc hz ks x2) rfl <| fun w5 g6 k7 => lp rfl (xa (S z1.1) rfl) <| nx <| qk <| wr <| lp rfl (xm (.pointer (some ⟨bs, 0, none⟩)) rfl) ?_
 obtain ⟨z8, x9, H⟩ := bind_some H
 refine yQ (.plain rfl) rfl (ltb rfl) rfl Tryz.call115 (vj.calls (w := w5) (a0 := a0) (a1 := z1.2) (a2 := 3) (Ext.gr kc g6 hz) fc hz k7 x9) rfl <| fun w12 g13 k14 => lp rfl (xa (.int .i64 z8.1) rfl) <| nx ?_
 obtain ⟨z18, L19, C20⟩ := bind_some H
 clear H
 refine  vH (fun s0 sQ wQ => ∃ (x3_21 : List UInt8) (y22 : DSrc), Kp [(3, 5), (9, 18)] s0 sQ ∧ sQ 3 = S x3_21 ∧ Blk wQ bs ((vt cv) y22).toArray 128 ∧ Gr bs (bs + 1) w12 wQ ∧ Ext wc wQ ∧ z18 = .inr (x3_21, y22)) ?_ ?_
 ·refine qF <| vB (fun s0 kk sQ wQ => ∃ (x3_15 : List UInt8) (x4_16 : Int) (y17 : DSrc), Kp [(3, 5), (9, 18)] s0 sQ ∧ sQ 3 = S x3_15 ∧ sQ 4 = .int .i64 x4_16 ∧ Blk wQ bs ((vt cv) y17).toArray 128 ∧ Gr bs (bs + 1) w12 wQ ∧ Ext wc wQ ∧ qn (ya.b1 a0) kk (x3_15, x4_16, y17) = some z18) k ⟨z1.1, z8.1, z8.2, kz, rfl, rfl, k14, (Gr.refl _ _ _), (Ext.gr (Ext.gr kc g6 hz) g13 hz), L19⟩ ?_
  rintro k27 s28 w29 ⟨x3_15, x4_16, y17, K30, h33, h34, h35, e31, e31c, L32⟩
  cases k27 with
  | zero => exact absurd L32 (by simp [qn])
  | succ k27 =>
   obtain ⟨t36, H, S37⟩ := qN L32
   clear L32
   unfold ya.b1 at H
   refine qk <| wr <| lp rfl (qc h34) <| lp rfl (jj rfl rfl) <| nx ?_
   rcases qf H with ⟨q38, H⟩ | ⟨q38, H⟩
   ·refine qp (cb q38) <| qq <| qd <| qk <| qF <| qJ <| lp rfl (qc h33) <| lp rfl (xm (.pointer (some ⟨bs, 0, none⟩)) (K30 0 rfl)) ?_
    obtain ⟨z39, x40, H⟩ := bind_some H
    refine yQ (.plain rfl) rfl (ltb rfl) rfl Tryz.call190 (vK.calls (w := w29) (a0 := a0) (a1 := y17) e31c fc hz h35 x40) rfl <| fun w43 g44 k45 => ?_
    obtain ⟨c46, H⟩ := qa H
    refine lp rfl (X_cat rfl rfl (od c46)) ?_
    obtain ⟨c47, H⟩ := qa H
    refine lp rfl (X_cat rfl rfl (od c47)) <| lp rfl (xa (S (x3_15 ++ (([47] : List UInt8) ++ z39.1))) rfl) <| vb <| ye <| qd <| qJ <| lp rfl (qc h34) <| lp rfl (jl rfl rfl) <| lp rfl (xa (.int .i64 (IntKind.wrap .i64 (x4_16 - 1))) rfl) <| nx ?_
    obtain rfl := si H
    exact ⟨_, Nat.lt_succ_self _, x3_15 ++ (([47] : List UInt8) ++ z39.1), IntKind.wrap .i64 (x4_16 - 1), z39.2, (ku3 (ku8 K30 rfl) rfl), rfl, rfl, k45, (Gr.trans e31 g44), (Ext.gr e31c g44 hz), S37⟩
   ·refine qi (cb q38) <| vL <| vd <| vd <| yE <| qd ?_
    obtain rfl := si H
    obtain rfl := si S37
    exact ⟨x3_15, y17, (ku2 K30 rfl), h33, h35, e31, e31c, rfl⟩
 ·rintro s24 w23 ⟨x3_21, y22, K25, h48, h49, e26, e26c, y50⟩
  rw [y50] at C20
  have H := C20
  replace H : _ = some _ := H
  refine qd <| wr <| lp rfl (qc h48) <| lp rfl (xa (S x3_21) rfl) <| nx <| qr <| qv ?_
  obtain rfl := si H
  exact Vt rfl (Gr.trans (Gr.trans g6 g13) e26) h49
theorem ya.calls {w : World} {a0 : List Int} {a1 : DSrc} {r : List UInt8 × DSrc} {wc : World} {cv : Value} {bs : Nat} (kc : Ext wc w) (fc : Rd 1 (Go.UL.encI .u8) wc cv a0) (hz : wc.heap.size ≤ bs) (ks : Blk w bs (vt cv a1).toArray 128) (H : (ya.sh 4 a0 a1) = some r) :
  Calls Tryz.prog 130 #[.pointer (some ⟨bs, 0, none⟩)] w (Rt (RS 128 bs cv w (S r.1) r.2)) := by
 obtain ⟨k, h⟩ := ya.eq a0 a1 H
 exact ya.walk kc fc hz ks h
/-! (*spec.l00Src).body -/
theorem vZ.walk {w : World} {a0 : List Int} {a1 : DSrc} {wc : World} {cv : Value} {bs : Nat} (kc : Ext wc w) (fc : Rd 1 (Go.UL.encI .u8) wc cv a0) (hz : wc.heap.size ≤ bs) (ks : Blk w bs (vt cv a1).toArray 128) {r : List UInt8 × DSrc} (H : vZ.sh a0 a1 = some r) :
  Calls Tryz.prog 187 #[.pointer (some ⟨bs, 0, none⟩)] w (Rt (RS 128 bs cv w (S r.1) r.2)) := by
 unfold vZ.sh at H
 refine qh Tryz.func187 rfl (Nat.le_of_ble_eq_true rfl) Tryz.ntmps187 rfl ?_
 refine wr <| lp rfl (xa (S ([] : List UInt8)) rfl) <| nx <| wr <| lp rfl (xm (.pointer (some ⟨bs, 0, none⟩)) rfl) <| yw (.plain rfl) rfl (ltb rfl) rfl Tryz.underlying44 Tryz.sizeOf9 Tryz.zeroValue9 rfl rfl rfl (vs := [(S ([] : List UInt8)), (S ([111, 110, 101] : List UInt8)), (S ([116, 119, 111] : List UInt8)), (S ([120, 0, 121] : List UInt8)), (S ([108, 111, 110, 103, 32, 108, 111, 110, 103, 32, 98, 111, 100, 121, 32, 104, 101, 114, 101, 33] : List UInt8))]) rfl (vh rfl) <| fun b1 w2 z3 z4 e5 k6 => ?_
 obtain ⟨z7, x8, H⟩ := bind_some H
 refine yQ (.plain rfl) rfl (ltb rfl) rfl Tryz.call188 (yy.calls (w := w2) (a0 := a0) (a1 := a1) (a2 := vZ.lit1) (Ext.trans kc e5) fc hz (Blk.ext ks e5) (Ow.new (xs := vZ.lit1) (sz := 1) (enc := vr) (base := w.heap.size) k6 (Nat.le_of_eq z3) rfl (fun _ _ => rfl) (Nat.le_of_ble_eq_true rfl)) (Nat.le_trans (Blk.lt ks) (Nat.le_refl _)) x8) rfl <| fun w11 g12 k13 => lp rfl (xa (S z7.1) rfl) <| nx <| qr <| qv ?_
 obtain rfl := si H
 exact Vt rfl (Gr.trans (Gr.ext e5) g12) k13
theorem vZ.calls {w : World} {a0 : List Int} {a1 : DSrc} {r : List UInt8 × DSrc} {wc : World} {cv : Value} {bs : Nat} (kc : Ext wc w) (fc : Rd 1 (Go.UL.encI .u8) wc cv a0) (hz : wc.heap.size ≤ bs) (ks : Blk w bs (vt cv a1).toArray 128) (H : (vZ.sh a0 a1) = some r) :
  Calls Tryz.prog 187 #[.pointer (some ⟨bs, 0, none⟩)] w (Rt (RS 128 bs cv w (S r.1) r.2)) := vZ.walk kc fc hz ks (vZ.eq a0 a1 H)
/-! (*spec.l00Src).record -/
theorem yx.walk {w : World} {a0 : List Int} {a1 : DSrc} {a2 : List UInt8} {wc : World} {cv : Value} {bs : Nat} (kc : Ext wc w) (fc : Rd 1 (Go.UL.encI .u8) wc cv a0) (hz : wc.heap.size ≤ bs) (ks : Blk w bs (vt cv a1).toArray 128) {r : Rec × DSrc} (H : yx.sh a0 a1 a2 = some r) :
  Calls Tryz.prog 129 #[.pointer (some ⟨bs, 0, none⟩), S a2] w (Rt (RS 128 bs cv w (.agg (qg r.1).toArray) r.2)) := by
 unfold yx.sh at H
 refine Qf Tryz.func129 rfl (Nat.le_of_ble_eq_true rfl) Tryz.ntmps129 ?_
 refine wr <| y5 (.plain rfl) rfl (ltb rfl) rfl Tryz.zeroValue52 <| fun b1 w2 z3 z4 e5 k6 => nx <| qk <| wr <| lp rfl (xm (.pointer (some ⟨bs, 0, none⟩)) rfl) ?_
 obtain ⟨z7, x8, H⟩ := bind_some H
 refine yQ (.plain rfl) rfl (ltb rfl) rfl Tryz.call115 (vj.calls (w := w2) (a0 := a0) (a1 := a1) (a2 := 8) (Ext.trans kc e5) fc hz (Blk.ext ks e5) x8) rfl <| fun w11 g12 k13 => nx ?_
 obtain ⟨z14, L15, C16⟩ := bind_some H
 clear H
 refine vH (fun s0 sQ wQ => ∃ (y17 : DSrc), Kp [(7, 32)] s0 sQ ∧ Blk wQ bs ((vt cv) y17).toArray 128 ∧ Blk wQ b1 (qg (⟨0, ([] : List UInt8), ([] : List UInt8), 0, false⟩ : Rec)).toArray 52 ∧ Gr bs (bs + 1) w11 wQ ∧ Ext wc wQ ∧ z14 = .inr y17) ?_ ?_
 ·have H := L15
  refine qF <| qk <| wr <| lp rfl (yZ rfl rfl) <| lp rfl (xa (.bool (decide (z7.1 = 0))) rfl) <| nx ?_
  obtain ⟨z18, L19, C20⟩ := bind_some H
  clear H
  refine vH (fun s0 sQ wQ => ∃ (x7_21 : Bool), Kp [(7, 8), (9, 11)] s0 sQ ∧ sQ 7 = .bool x7_21 ∧ Blk wQ bs ((vt cv) z7.2).toArray 128 ∧ Blk wQ b1 (qg (⟨0, ([] : List UInt8), ([] : List UInt8), 0, false⟩ : Rec)).toArray 52 ∧ Gr bs (bs + 1) w11 wQ ∧ Ext wc wQ ∧ z18 = .inr x7_21) ?_ ?_
  ·have H := L19
   rcases qf H with ⟨q22, H⟩ | ⟨q22, H⟩
   ·refine qp (cb q22) <| qq <| qd ?_
    obtain rfl := si H
    exact ⟨(decide (z7.1 = 0)), kz, rfl, k13, (Gr.blk g12 k6 (Or.inl (Nat.le_trans (Nat.le_trans (Blk.lt ks) (Nat.le_refl _)) (Nat.le_of_eq z3)))), (Gr.refl _ _ _), (Ext.gr (Ext.trans kc e5) g12 hz), rfl⟩
   ·refine qi (cb q22) <| wr <| lp rfl (yZ rfl rfl) <| lp rfl (xa (.bool (decide (z7.1 = 1))) rfl) <| nx ?_
    rcases qf H with ⟨q23, H⟩ | ⟨q23, H⟩
    ·refine qp (cb q23) <| qq <| qd ?_
     obtain rfl := si H
     exact ⟨(decide (z7.1 = 1)), (ku2 kz rfl), rfl, k13, (Gr.blk g12 k6 (Or.inl (Nat.le_trans (Nat.le_trans (Blk.lt ks) (Nat.le_refl _)) (Nat.le_of_eq z3)))), (Gr.refl _ _ _), (Ext.gr (Ext.trans kc e5) g12 hz), rfl⟩
    ·refine qi (cb q23) <| qJ <| lp rfl (yZ rfl rfl) <| lp rfl (xa (.bool (decide (z7.1 = 2))) rfl) <| nx ?_
     obtain rfl := si H
     exact ⟨(decide (z7.1 = 2)), (ku4 kz rfl), rfl, k13, (Gr.blk g12 k6 (Or.inl (Nat.le_trans (Nat.le_trans (Blk.lt ks) (Nat.le_refl _)) (Nat.le_of_eq z3)))), (Gr.refl _ _ _), (Ext.gr (Ext.trans kc e5) g12 hz), rfl⟩
  ·rintro s25 w24 ⟨x7_21, K26, h29, h30, h31, e27, e27c, y28⟩
   rw [y28] at C20
   have H := C20
   refine qd ?_
   rcases qf H with ⟨q32, H⟩ | ⟨q32, H⟩
   ·refine qp (h29.trans (cb q32)) <| wr <| lp rfl (xm (S a2) (K26 1 rfl)) <| lp rfl (xm (.pointer (some ⟨bs, 0, none⟩)) (K26 0 rfl)) ?_
    obtain ⟨z33, x34, H⟩ := bind_some H
    refine yQ (.plain rfl) rfl (ltb rfl) rfl Tryz.call187 (vZ.calls (w := w24) (a0 := a0) (a1 := z7.2) e27c fc hz h30 x34) rfl <| fun w37 g38 k39 => yw (.plain rfl) rfl (ltb rfl) rfl Tryz.underlying179 Tryz.sizeOf3 Tryz.zeroValue3 rfl rfl rfl (vs := [(.int .i64 420), (.int .i64 0), (.int .i64 511)]) rfl (vh rfl) <| fun b40 w41 z42 z43 e44 k45 => lp rfl (xm (.pointer (some ⟨bs, 0, none⟩)) (K26 0 rfl)) ?_
    obtain ⟨z46, x47, H⟩ := bind_some H
    refine yQ (.plain rfl) rfl (ltb rfl) rfl Tryz.call115 (vj.calls (w := w41) (a0 := a0) (a1 := z33.2) (a2 := 3) (Ext.trans (Ext.gr e27c g38 hz) e44) fc hz (Blk.ext k39 e44) x47) rfl <| fun w50 g51 k52 => ?_
    obtain ⟨c53, H⟩ := qa H
    refine vw (.plain rfl) rfl (ltb rfl) rfl Tryz.underlying179 Tryz.sizeOf3 rfl (Ow.rd (Ow.later (Ow.new (xs := [420, 0, 511]) (sz := 1) (enc := (Go.UL.encI .i64)) (base := w37.heap.size) k45 (Nat.le_of_eq z42) rfl (fun _ _ => by rfl) (Nat.le_of_ble_eq_true rfl)) g51 (Nat.le_trans (Blk.lt ks) ((Gr.trans (Gr.trans (Gr.trans (Gr.ext e5) g12) e27) g38)).size))) rfl c53 <| fun p54 h55 => lp rfl (qQ Tryz.isAgg3 rfl h55 rfl) <| lp rfl (yR (vs := [(0, (.int .i64 1)), (1, (S a2)), (2, (S z33.1)), (3, (.int .i64 (gt ([420, 0, 511] : List Int) z46.1)))]) (pl := #[(0, 1), (1, 1), (2, 1), (3, 1), (4, 1)]) Tryz.underlying52 Tryz.zeroValue52 rfl (fun _ => by kernel_rfl) rfl rfl rfl) <| vk (.plain rfl) rfl rfl Tryz.sizeOf52 (K26 4 rfl) rfl rfl rfl rfl (Gr.blk g51 (Blk.ext (Gr.blk g38 h31 (Or.inl (Nat.le_trans (Nat.le_trans (Blk.lt ks) (Nat.le_refl _)) (Nat.le_of_eq z3)))) e44) (Or.inl (Nat.le_trans (Nat.le_trans (Blk.lt ks) (Nat.le_refl _)) (Nat.le_of_eq z3)))) <| fun w56 h57 k58 => nx <| qr <| vi <| qo <| qo <| jA ?_
    obtain rfl := si H
    have H := C16
    obtain rfl := si H
    exact JN rfl (K26 4 rfl) k58 Tryz.isAgg52 Tryz.sizeOf52 rfl (Gr.thn (Gr.trans (Gr.trans (Gr.trans (Gr.trans (Gr.trans (Gr.ext e5) g12) e27) g38) (Gr.ext e44)) g51) (Wr.below h57 (Nat.le_of_eq z3))) (Gr.blk (Gr.ofBelow (Wr.below h57 (Nat.le_of_eq z3))) k52 (Or.inr (Nat.le_trans (Blk.lt ks) (Nat.le_refl _))))
   ·refine qi (h29.trans (cb q32)) <| wr <| lp rfl (yZ (K26 6 rfl) rfl) <| lp rfl (xa (.bool (decide (z7.1 = 3))) rfl) <| nx ?_
    rcases qf H with ⟨q59, H⟩ | ⟨q59, H⟩
    ·refine qp (cb q59) <| wr <| lp rfl (xm (S a2) (K26 1 rfl)) <| lp rfl (xm (.pointer (some ⟨bs, 0, none⟩)) (K26 0 rfl)) <| yw (.plain rfl) rfl (ltb rfl) rfl Tryz.underlying44 Tryz.sizeOf9 Tryz.zeroValue9 rfl rfl rfl (vs := [(S ([97] : List UInt8)), (S ([46, 46, 47, 98] : List UInt8)), (S ([47] : List UInt8))]) rfl (vh rfl) <| fun b60 w61 z62 z63 e64 k65 => ?_
     obtain ⟨z66, x67, H⟩ := bind_some H
     refine yQ (.plain rfl) rfl (ltb rfl) rfl Tryz.call188 (yy.calls (w := w61) (a0 := a0) (a1 := z7.2) (a2 := ([([97] : List UInt8), ([46, 46, 47, 98] : List UInt8), ([47] : List UInt8)] : List (List UInt8))) (Ext.trans e27c e64) fc hz (Blk.ext h30 e64) (Ow.new (xs := [([97] : List UInt8), ([46, 46, 47, 98] : List UInt8), ([47] : List UInt8)]) (sz := 1) (enc := vr) (base := w24.heap.size) k65 (Nat.le_of_eq z62) rfl (fun _ _ => by rfl) (Nat.le_of_ble_eq_true rfl)) (Nat.le_trans (Blk.lt ks) ((Gr.trans (Gr.trans (Gr.ext e5) g12) e27)).size) x67) rfl <| fun w70 g71 k72 => lp rfl (yR (vs := [(0, (.int .i64 2)), (1, (S a2)), (2, (S z66.1))]) (pl := #[(0, 1), (1, 1), (2, 1), (3, 1), (4, 1)]) Tryz.underlying52 Tryz.zeroValue52 rfl (fun _ => by kernel_rfl) rfl rfl rfl) <| vk (.plain rfl) rfl rfl Tryz.sizeOf52 (K26 4 rfl) rfl rfl rfl rfl (Gr.blk g71 (Blk.ext h31 e64) (Or.inl (Nat.le_trans (Nat.le_trans (Blk.lt ks) (Nat.le_refl _)) (Nat.le_of_eq z3)))) <| fun w73 h74 k75 => nx <| qr <| vi <| qo <| qo <| jA ?_
     obtain rfl := si H
     have H := C16
     obtain rfl := si H
     exact JN rfl (K26 4 rfl) k75 Tryz.isAgg52 Tryz.sizeOf52 rfl (Gr.thn (Gr.trans (Gr.trans (Gr.trans (Gr.trans (Gr.ext e5) g12) e27) (Gr.ext e64)) g71) (Wr.below h74 (Nat.le_of_eq z3))) (Gr.blk (Gr.ofBelow (Wr.below h74 (Nat.le_of_eq z3))) k72 (Or.inr (Nat.le_trans (Blk.lt ks) (Nat.le_refl _))))
    ·refine qi (cb q59) <| qk <| wr <| lp rfl (yZ (K26 6 rfl) rfl) <| lp rfl (xa (.bool (decide (z7.1 = 4))) rfl) <| nx ?_
     rcases qf H with ⟨q76, H⟩ | ⟨q76, H⟩
     ·refine qp (cb q76) <| qq <| qd ?_
      rcases qf H with ⟨q77, H⟩ | ⟨q77, H⟩
      ·refine qp (cb q77) <| wr <| lp rfl (xm (S a2) (K26 1 rfl)) <| lp rfl (yR (vs := [(0, (.int .i64 4)), (1, (S a2))]) (pl := #[(0, 1), (1, 1), (2, 1), (3, 1), (4, 1)]) Tryz.underlying52 Tryz.zeroValue52 rfl (fun _ => by kernel_rfl) rfl rfl rfl) <| vk (.plain rfl) rfl rfl Tryz.sizeOf52 (K26 4 rfl) rfl rfl rfl rfl h31 <| fun w78 h79 k80 => nx <| qr <| vi <| qo <| qo <| jA ?_
       obtain rfl := si H
       have H := C16
       obtain rfl := si H
       exact JN rfl (K26 4 rfl) k80 Tryz.isAgg52 Tryz.sizeOf52 rfl (Gr.thn (Gr.trans (Gr.trans (Gr.ext e5) g12) e27) (Wr.below h79 (Nat.le_of_eq z3))) (Gr.blk (Gr.ofBelow (Wr.below h79 (Nat.le_of_eq z3))) h30 (Or.inr (Nat.le_trans (Blk.lt ks) (Nat.le_refl _))))
      ·refine qi (cb q77) <| qq <| ye <| qd ?_
       obtain rfl := si H
       exact ⟨z7.2, (ku4 (Kp.cut (ku2 kz rfl) K26 rfl) rfl), h30, h31, e27, e27c, rfl⟩
     ·refine qi (cb q76) <| qJ <| lp rfl (yZ (K26 6 rfl) rfl) <| lp rfl (xa (.bool (decide (z7.1 = 5))) rfl) <| nx ?_
      rcases qf H with ⟨q81, H⟩ | ⟨q81, H⟩
      ·refine qp (cb q81) <| wr <| lp rfl (xm (S a2) (K26 1 rfl)) <| lp rfl (yR (vs := [(0, (.int .i64 4)), (1, (S a2))]) (pl := #[(0, 1), (1, 1), (2, 1), (3, 1), (4, 1)]) Tryz.underlying52 Tryz.zeroValue52 rfl (fun _ => by kernel_rfl) rfl rfl rfl) <| vk (.plain rfl) rfl rfl Tryz.sizeOf52 (K26 4 rfl) rfl rfl rfl rfl h31 <| fun w82 h83 k84 => nx <| qr <| vi <| qo <| qo <| jA ?_
       obtain rfl := si H
       have H := C16
       obtain rfl := si H
       exact JN rfl (K26 4 rfl) k84 Tryz.isAgg52 Tryz.sizeOf52 rfl (Gr.thn (Gr.trans (Gr.trans (Gr.ext e5) g12) e27) (Wr.below h83 (Nat.le_of_eq z3))) (Gr.blk (Gr.ofBelow (Wr.below h83 (Nat.le_of_eq z3))) h30 (Or.inr (Nat.le_trans (Blk.lt ks) (Nat.le_refl _))))
      ·refine qi (cb q81) <| qq <| ye <| qd ?_
       obtain rfl := si H
       exact ⟨z7.2, (ku2 (ku4 (Kp.cut (ku2 kz rfl) K26 rfl) rfl) rfl), h30, h31, e27, e27c, rfl⟩
 ·rintro s86 w85 ⟨y17, K87, h90, h91, e88, e88c, y89⟩
  rw [y89] at C16
  have H := C16
  refine qd <| qk ?_
  obtain ⟨z98, x99, H⟩ := bind_some H
  obtain ⟨c105, H⟩ := qa H
  obtain ⟨z108, x109, H⟩ := bind_some H
  refine W_drawS 9 [LEq (S a2), LOw 3 1 (Go.UL.encI .i64) w85.heap.size ([493, 448] : List Int), LEq (.pointer (some ⟨bs, 0, none⟩)), LEq (.int .i64 z98.1), LOp 3 1 (Go.UL.encI .i64) w85.heap.size ([493, 448] : List Int) z98.1, LEq (.int .i64 (gt ([493, 448] : List Int) z98.1)), LEq (.pointer (some ⟨bs, 0, none⟩)), LEq (.bool z108.1), LEq (.agg #[(.int .i64 3), (S a2), (S ([] : List UInt8)), (.int .i64 (gt ([493, 448] : List Int) z98.1)), (.bool z108.1)])] [(7, z108.2), (3, z98.2)] y17 [(7, 3, [])] (by kernel_rfl) (by kernel_rfl) (by kernel_rfl) (by kernel_rfl) rfl h90 ⟨LEq.keep, (LOw.keep (Nat.le_trans (Blk.lt ks) ((Gr.trans (Gr.trans (Gr.ext e5) g12) e88)).size)), LEq.keep, LEq.keep, (LOp.keep (Nat.le_trans (Blk.lt ks) ((Gr.trans (Gr.trans (Gr.ext e5) g12) e88)).size)), LEq.keep, LEq.keep, LEq.keep, LEq.keep, trivial⟩ ⟨?_, ?_, ?_, ?_, ?_, ?_, ?_, ?_, ?_, trivial⟩ ?_
  ·intro s115 w116 dn117 hg118 hi119 hn120 hp121 hq122 hf123 hd124 hu125
   exact lp rfl (xm (S a2) ((hf123 1 rfl).trans (K87 1 rfl))) <| vb <| Yw rfl rfl rfl rfl er rfl
  ·intro s126 w127 dn128 hg129 hi130 hn131 hp132 hq133 hf134 hd135 hu136
   exact yw (.plain rfl) rfl (ltb rfl) rfl Tryz.underlying179 Tryz.sizeOf3 Tryz.zeroValue3 rfl rfl rfl (vs := [(.int .i64 493), (.int .i64 448)]) rfl (vh rfl) <| fun b137 w138 z139 z140 e141 k142 => vb <| Yw rfl rfl rfl rfl e141 (Ow.base (Ow.new (xs := [493, 448]) (sz := 1) (enc := (Go.UL.encI .i64)) (base := w127.heap.size) k142 (Nat.le_of_eq z139) rfl (fun _ _ => by rfl) (Nat.le_of_ble_eq_true rfl)) (hg129).size)
  ·intro s143 w144 dn145 hg146 hi147 hn148 hp149 hq150 hf151 hd152 hu153
   exact lp rfl (xm (.pointer (some ⟨bs, 0, none⟩)) ((hf151 0 rfl).trans (K87 0 rfl))) <| vb <| Yw rfl rfl rfl rfl er rfl
  ·intro s154 w155 dn156 hg157 hi158 hn159 hp160 hq161 hf162 hd163 hu164
   have a166 : dn156 7 = false := hq161 7 rfl
   have k165 : Blk w155 bs (vt cv y17).toArray 128 := by
    have h := hi158
    simp only [Xm, VI, hn159, a166, cond_true, cond_false] at h
    exact h
   have a167 : Qq dn156 3 3 = true := GM
   have a168 : Qq dn156 3 7 = false := (setD_ne rfl).trans a166
   have d169 : s154 34 = (.pointer (some ⟨bs, 0, none⟩)) := (hd163 2 rfl rfl)
   exact yQ (.plain rfl) rfl (ltb rfl) rfl Tryz.call115 (vj.calls (w := w155) (a0 := a0) (a1 := y17) (a2 := 2) (Ext.gr e88c hg157 hz) fc hz k165 x99) (vI d169 (vI rfl rfl)) <| fun w172 g173 k174 => vb <| stepQh rfl rfl rfl rfl g173 (by simp only [Xm, VI, a167, a168, cond_true, cond_false]; exact k174) rfl
  ·intro s175 w176 dn177 hg178 hi179 hn180 hp181 hq182 hf183 hd184 hu185
   have d186 : Ow 3 1 (Go.UL.encI .i64) w85.heap.size w176 (s175 33) ([493, 448] : List Int) := (hd184 1 rfl rfl)
   have d187 : s175 35 = (.int .i64 z98.1) := (hd184 3 rfl rfl)
   have c188 := c105
   exact L_idxO (.plain rfl) rfl (ltb rfl) rfl Tryz.underlying179 Tryz.sizeOf3 rfl d186 d187 c188 <| fun p189 h190 => vb <| Yw rfl rfl rfl rfl er ⟨_, _, rfl, h190⟩
  ·intro s191 w192 dn193 hg194 hi195 hn196 hp197 hq198 hf199 hd200 hu201
   obtain ⟨u202, p203, h204, o205⟩ := (hd200 4 rfl rfl)
   exact lp rfl (qQ Tryz.isAgg3 h204 (OP.at o205) rfl) <| vb <| Yw rfl rfl rfl rfl er rfl
  ·intro s206 w207 dn208 hg209 hi210 hn211 hp212 hq213 hf214 hd215 hu216
   exact lp rfl (xm (.pointer (some ⟨bs, 0, none⟩)) ((hf214 0 rfl).trans (K87 0 rfl))) <| vb <| Yw rfl rfl rfl rfl er rfl
  ·intro s217 w218 dn219 hg220 hi221 hn222 hp223 hq224 hf225 hd226 hu227
   have a229 : dn219 3 = true := hp223 3 rfl
   have k228 : Blk w218 bs (vt cv z98.2).toArray 128 := by
    have h := hi221
    simp only [Xm, VI, a229, hn222, cond_true, cond_false] at h
    exact h
   have a231 : Qq dn219 7 7 = true := GM
   have d232 : s217 38 = (.pointer (some ⟨bs, 0, none⟩)) := (hd226 6 rfl rfl)
   exact yQ (.plain rfl) rfl (ltb rfl) rfl Tryz.call189 (yk.calls (w := w218) (a0 := a0) (a1 := z98.2) (a2 := 3) (Ext.gr e88c hg220 hz) fc hz k228 x109) (vI d232 (vI rfl rfl)) <| fun w235 g236 k237 => vb <| stepQh rfl rfl rfl rfl g236 (by simp only [Xm, VI, a231, cond_true, cond_false]; exact k237) rfl
  ·intro s238 w239 dn240 hg241 hi242 hn243 hp244 hq245 hf246 hd247 hu248
   have d249 : s238 32 = (S a2) := (hd247 0 rfl rfl)
   have d250 : s238 37 = (.int .i64 (gt ([493, 448] : List Int) z98.1)) := (hd247 5 rfl rfl)
   have d251 : s238 39 = (.bool z108.1) := (hd247 7 rfl rfl)
   exact lp rfl (yR (vs := [(0, (.int .i64 3)), (1, (S a2)), (3, (.int .i64 (gt ([493, 448] : List Int) z98.1))), (4, (.bool z108.1))]) (pl := #[(0, 1), (1, 1), (2, 1), (3, 1), (4, 1)]) Tryz.underlying52 Tryz.zeroValue52 rfl (fun _ => by kernel_rfl) rfl (vI rfl (vI d249 (vI d250 (vI d251 rfl)))) rfl) <| vb <| Yw rfl rfl rfl rfl er rfl
  intro s252 w253 hg254 hb255 hf256 ha257
  have K258 := Kp.ofD (kp := [(32, 41)]) rfl hf256
  have k259 : Blk w253 bs (vt cv z108.2).toArray 128 := hb255
  have d260 : s252 40 = (.agg #[(.int .i64 3), (S a2), (S ([] : List UInt8)), (.int .i64 (gt ([493, 448] : List Int) z98.1)), (.bool z108.1)]) := ha257 8 rfl rfl
  clear ha257 hf256
  refine vk (.plain rfl) rfl rfl Tryz.sizeOf52 ((K258 4 rfl).trans (K87 4 rfl)) d260 rfl rfl rfl (Gr.blk hg254 h91 (Or.inl (Nat.le_trans (Nat.le_trans (Blk.lt ks) (Nat.le_refl _)) (Nat.le_of_eq z3)))) <| fun w261 h262 k263 => nx <| qr <| jA ?_
  obtain rfl := si H
  exact JN rfl ((K258 4 rfl).trans (K87 4 rfl)) k263 Tryz.isAgg52 Tryz.sizeOf52 rfl (Gr.thn (Gr.trans (Gr.trans (Gr.trans (Gr.ext e5) g12) e88) hg254) (Wr.below h262 (Nat.le_of_eq z3))) (Gr.blk (Gr.ofBelow (Wr.below h262 (Nat.le_of_eq z3))) k259 (Or.inr (Nat.le_trans (Blk.lt ks) (Nat.le_refl _))))
theorem yx.calls {w : World} {a0 : List Int} {a1 : DSrc} {a2 : List UInt8} {r : Rec × DSrc} {wc : World} {cv : Value} {bs : Nat} (kc : Ext wc w) (fc : Rd 1 (Go.UL.encI .u8) wc cv a0) (hz : wc.heap.size ≤ bs) (ks : Blk w bs (vt cv a1).toArray 128) (H : (yx.sh a0 a1 a2) = some r) :
  Calls Tryz.prog 129 #[.pointer (some ⟨bs, 0, none⟩), S a2] w (Rt (RS 128 bs cv w (.agg (qg r.1).toArray) r.2)) := yx.walk kc fc hz ks (yx.eq a0 a1 a2 H)
/-! laws.sameTexts -/
theorem vX.calls {w : World} {a0 : List (List UInt8)} {a1 : List (List UInt8)} {v_a0 : Value} (f_a0 : Rd 1 vr w v_a0 a0) {v_a1 : Value} (f_a1 : Rd 1 vr w v_a1 a1) (h0 : a0.length ≤ 4611686018427387904) :
  Calls Tryz.prog 32 #[v_a0, v_a1] w (Rt (RP w (.bool (decide (a0 = a1))))) := by
 obtain ⟨k, H⟩ := vX.eq a0 a1 h0
 generalize (decide (a0 = a1)) = r at H ⊢
 unfold vX.sh at H
 refine qh Tryz.func32 rfl (Nat.le_of_ble_eq_true rfl) Tryz.ntmps32 rfl ?_
 refine wr <| lp rfl (xa (.bool false) rfl) <| nx <| qk <| wr <| lp rfl (xm v_a0 rfl) <| lp rfl (vy Tryz.underlying44 rfl f_a0) <| lp rfl (xm v_a1 rfl) <| lp rfl (vy Tryz.underlying44 rfl f_a1) <| lp rfl (je rfl rfl) <| nx ?_
 rcases qf H with ⟨q1, H⟩ | ⟨q1, H⟩
 ·refine qp (cb q1) <| wr <| lp rfl (xa (.bool false) rfl) <| nx <| qr <| qo <| qv ?_
  obtain rfl := si H
  exact vo rfl er
 ·refine qi (cb q1) <| qq <| qd <| qk <| wr <| lp rfl (xa (.int .i64 0) rfl) <| nx ?_
  obtain ⟨z3, L4, C5⟩ := bind_some H
  clear H
  refine  vH (fun s0 sQ wQ => Kp [(4, 6), (11, 26)] s0 sQ ∧ Ext w wQ ∧ z3 = .inr ()) ?_ ?_
  ·refine qF <| vB (fun s0 kk sQ wQ => ∃ (x5_2 : Int), Kp [(4, 6), (11, 26)] s0 sQ ∧ sQ 5 = .int .i64 x5_2 ∧ Ext w wQ ∧ qn (vX.b1 a0 a1) kk x5_2 = some z3) k ⟨0, kz, rfl, er, L4⟩ ?_
   rintro k10 s11 w12 ⟨x5_2, K13, h16, e14, L15⟩
   cases k10 with
   | zero => exact absurd L15 (by simp [qn])
   | succ k10 =>
    obtain ⟨t17, H, S18⟩ := qN L15
    clear L15
    unfold vX.b1 at H
    refine qk <| wr <| lp rfl (qc h16) <| lp rfl (xm v_a0 (K13 0 rfl)) <| lp rfl (vy Tryz.underlying44 rfl (Rd.ext f_a0 e14)) <| lp rfl (yH rfl rfl) <| nx ?_
    rcases qf H with ⟨q19, H⟩ | ⟨q19, H⟩
    ·refine qp (cb q19) <| qq <| qd <| qk <| qF <| qk ?_
     obtain ⟨c20, H⟩ := qa H
     obtain ⟨c23, H⟩ := qa H
     refine YK [LEq v_a0, LEq (.int .i64 x5_2), yO (vr (gt a0 x5_2)), LEq (S (gt a0 x5_2)), LEq v_a1, LEq (.int .i64 x5_2), yO (vr (gt a1 x5_2)), LEq (S (gt a1 x5_2)), LEq (.bool (!decide ((gt a0 x5_2) = (gt a1 x5_2))))] (by kernel_rfl) (by kernel_rfl) ⟨qm, qm, yO.mono, qm, qm, qm, yO.mono, qm, qm, trivial⟩ ⟨?_, ?_, ?_, ?_, ?_, ?_, ?_, ?_, ?_, trivial⟩ ?_
     ·exact fun s x e f d u => lp rfl (xm v_a0 ((f 0 rfl).trans (K13 0 rfl))) <| se rfl rfl
     ·exact fun s x e f d u => lp rfl (xm (.int .i64 x5_2) ((f 5 rfl).trans h16)) <| se rfl rfl
     ·exact fun s x e f d u => vw (.plain rfl) rfl (ltb rfl) rfl Tryz.underlying44 Tryz.sizeOf9 (d 0 rfl) (Rd.ext f_a0 (e14.t e)) (d 1 rfl) c20 <| fun p27 h28 => se rfl ⟨_, rfl, h28⟩
     ·intro s x e f d u
      obtain ⟨p29, h30, h31⟩ := (d 2 rfl)
      exact lp rfl (qQ Tryz.isAgg9 h30 h31 rfl) <| se rfl rfl
     ·exact fun s x e f d u => lp rfl (xm v_a1 ((f 1 rfl).trans (K13 1 rfl))) <| se rfl rfl
     ·exact fun s x e f d u => lp rfl (xm (.int .i64 x5_2) ((f 5 rfl).trans h16)) <| se rfl rfl
     ·exact fun s x e f d u => vw (.plain rfl) rfl (ltb rfl) rfl Tryz.underlying44 Tryz.sizeOf9 (d 4 rfl) (Rd.ext f_a1 (e14.t e)) (d 5 rfl) c23 <| fun p33 h34 => se rfl ⟨_, rfl, h34⟩
     ·intro s x e f d u
      obtain ⟨p35, h36, h37⟩ := (d 6 rfl)
      exact lp rfl (qQ Tryz.isAgg9 h36 h37 rfl) <| se rfl rfl
     ·exact fun s x e f d u => lp rfl (Qv (d 3 rfl) (d 7 rfl)) <| se rfl rfl
     intro s38 w39 e40 hf41 ha42
     have K43 := Kp.ofD (kp := [(17, 26)]) rfl hf41
     have d44 : s38 25 = (.bool (!decide ((gt a0 x5_2) = (gt a1 x5_2)))) := ha42 8 rfl
     clear ha42 hf41
     refine qd ?_
     rcases qf H with ⟨q45, H⟩ | ⟨q45, H⟩
     ·refine qp (d44.trans (cb q45)) <| wr <| lp rfl (xa (.bool false) rfl) <| nx <| qr <| vi <| qo <| qo <| vi <| qo <| qo <| qv ?_
      obtain rfl := si H
      obtain rfl := si S18
      have H := C5
      obtain rfl := si H
      exact vo rfl (e14.t e40)
     ·refine qi (d44.trans (cb q45)) <| qq <| ye <| qd <| qJ <| lp rfl (xm (.int .i64 x5_2) ((K43 5 rfl).trans h16)) <| lp rfl (vW rfl rfl) <| lp rfl (xa (.int .i64 (IntKind.wrap .i64 (x5_2 + 1))) rfl) <| nx ?_
      obtain rfl := si H
      exact ⟨_, Nat.lt_succ_self _, IntKind.wrap .i64 (x5_2 + 1), (ku3 (Kp.cut (ku4 K13 rfl) K43 rfl) rfl), rfl, (e14.t e40), S18⟩
    ·refine qi (cb q19) <| vL <| vd <| vd <| yE <| qd ?_
     obtain rfl := si H
     obtain rfl := si S18
     exact ⟨(ku4 K13 rfl), e14, rfl⟩
  ·rintro s7 w6 ⟨K8, e9, y46⟩
   rw [y46] at C5
   have H := C5
   replace H : _ = some _ := H
   refine qd <| wr <| lp rfl (xa (.bool true) rfl) <| nx <| qr <| qv ?_
   obtain rfl := si H
   exact vo rfl e9
/-! spec.l03Put, by text -/

/-! spec.l03Put, at any depth -/
abbrev qx.e1 (a1 : Rec) (x0_13 : List Rec) (x9_50 : Int) := ((!decide (((gt x0_13 x9_50).path) = a1.path)) && (!(decide (a1.kind = 3))))
abbrev qx.e2 (a1 : Rec) (x0_13 : List Rec) (x9_50 : Int) := ((decide (a1.path = []) && !decide (((gt x0_13 x9_50).path) = [])) || yj ((gt x0_13 x9_50).path) a1.path)
theorem qx.walk {n : Nat} (ih : ∀ {w : World} {a0 : List Rec} {a1 : Rec} {v_a0 : Value} (f_a0 : Rd 5 qg w v_a0 a0) (h0 : putQ n a0 a1 = true), Calls Tryz.prog 128 #[v_a0, .agg (qg a1).toArray] w (Rt (RO 52 5 qg w (putG n a0 a1)))) {k : Nat} {w : World} {a0 : List Rec} {a1 : Rec} {v_a0 : Value} (f_a0 : Rd 5 qg w v_a0 a0) {r : List Rec} (H : qx.sh n k a0 a1 = some r) :
  Calls Tryz.prog 128 #[v_a0, .agg (qg a1).toArray] w (Rt (RO 52 5 qg w r)) := by
 unfold qx.sh at H
 refine qh Tryz.func128 rfl (Nat.le_of_ble_eq_true rfl) Tryz.ntmps128 rfl ?_
 refine wr <| Ve (.plain rfl) rfl (ltb rfl) rfl rfl <| fun b1 w2 z3 z4 e5 k6 => lp rfl (xa (.slice none 0 0) rfl) <| nx <| qk <| wr <| lp rfl (qe Tryz.underlying52 rfl Tryz.sizeOf9 rfl rfl) <| lp rfl (qH Tryz.isAgg9 k6 rfl rfl) ?_
 obtain ⟨c7, H⟩ := qa H
 refine lc rfl rfl Tryz.call154 (qZ.calls (w := w2) (a0 := a1.path) (od c7)) rfl <| fun w8 e9 => lp rfl (xa (S (qb a1.path)) rfl) <| nx <| wr <| lp rfl (xm (S (qb a1.path)) rfl) <| lp rfl (Qv rfl rfl) <| nx ?_
 obtain ⟨z10, L11, C12⟩ := bind_some H
 clear H
 refine vH (fun s0 sQ wQ => ∃ (x0_13 : List Rec) (v14 : Value), Kp [(0, 1), (6, 7), (15, 32)] s0 sQ ∧ sQ 0 = v14 ∧ Rd 5 qg wQ v14 x0_13 ∧ Ext w8 wQ ∧ z10 = .inr x0_13) ?_ ?_
 ·have H := L11
  rcases qf H with ⟨q15, H⟩ | ⟨q15, H⟩
  ·refine qp (cb q15) <| wr <| lp rfl (xm v_a0 rfl) <| lp rfl (xm (S (qb a1.path)) rfl) ?_
   obtain ⟨c16, H⟩ := qa H
   refine lc rfl rfl Tryz.call162 (yc.calls (w := w8) (a0 := a0) (a1 := (qb a1.path)) (Rd.ext f_a0 (e5.t e9)) (od c16)) rfl <| fun w17 e18 => lp rfl (xa (.int .i64 (qt a0 (qb a1.path))) rfl) <| nx <| wr <| lp rfl (xm (.int .i64 (qt a0 (qb a1.path))) rfl) <| lp rfl (yH rfl rfl) <| lp rfl (xm (.bool (decide ((qt a0 (qb a1.path)) < 0))) rfl) ?_
   obtain ⟨z20, x21, H⟩ := bind_some H
   refine jp 7 [(21, 28)] 27 (fun q => q = z20) ?_ ?_
   ·rcases qf x21 with ⟨b18_, H⟩ | ⟨b18_, H⟩
    ·refine ls rfl rfl rfl (cb b18_) rfl <| ls rfl rfl rfl (cb b18_) rfl <| ls rfl rfl rfl (cb b18_) rfl <| ls rfl rfl rfl (cb b18_) rfl <| ls rfl rfl rfl (cb b18_) rfl <| ls rfl rfl rfl (cb b18_) rfl <| lp rfl (qD (b := true) (v := (.bool true)) (cb b18_) rfl) ?_
     obtain rfl := si H
     exact nx ⟨(ku3 (ku4 kz rfl) rfl), ⟨_, rfl, rfl⟩, er⟩
    ·refine lg rfl rfl rfl rfl (cb b18_) (xm v_a0 rfl) <| lg rfl rfl rfl rfl (cb b18_) (xm (.int .i64 (qt a0 (qb a1.path))) rfl) ?_
     obtain ⟨c20, H⟩ := qa H
     refine vw (tg rfl rfl rfl (cb b18_)) rfl (ltb rfl) rfl Tryz.underlying35 Tryz.sizeOf52 rfl (Rd.ext f_a0 ((e5.t e9).t e18)) rfl c20 <| fun p21 h22 => lg rfl rfl rfl rfl (cb b18_) (qe Tryz.underlying52 rfl Tryz.sizeOf3 rfl rfl) <| lg rfl rfl rfl rfl (cb b18_) (jh Tryz.isAgg3 (j := 0) h22 rfl rfl) <| lg rfl rfl rfl rfl (cb b18_) (je rfl rfl) <| lp rfl (qD (b := false) (v := (.bool (!decide (((gt a0 (qt a0 (qb a1.path))).kind) = 3)))) (cb b18_) rfl) ?_
     obtain rfl := si H
     exact nx ⟨(ku3 (ku4 kz rfl) rfl), ⟨_, rfl, rfl⟩, er⟩
   intro s26 w22 z27 K23 hq h24 e25
   rw [hq] at h24; clear hq
   refine nx ?_
   rcases qf H with ⟨q28, H⟩ | ⟨q28, H⟩
   ·refine qp (h24.trans (cb q28)) <| qJ <| lp rfl (xm v_a0 (K23 0 rfl)) <| lp rfl (xm (S (qb a1.path)) (K23 5 rfl)) <| lp rfl (yR (vs := [(0, (.int .i64 3)), (1, (S (qb a1.path))), (3, (.int .i64 493))]) (pl := #[(0, 1), (1, 1), (2, 1), (3, 1), (4, 1)]) Tryz.underlying52 Tryz.zeroValue52 rfl (fun _ => by kernel_rfl) rfl rfl rfl) ?_
    obtain ⟨c29, H⟩ := qa H
    refine yX (.plain rfl) rfl (ltb rfl) rfl Tryz.call128 (ih (w := w22) (a0 := a0) (a1 := (⟨3, (qb a1.path), ([] : List UInt8), 493, false⟩ : Rec)) (Rd.ext f_a0 (((e5.t e9).t e18).t e25)) (od c29)) rfl <| fun v32 w30 e31 o33 => lp rfl (xa v32 rfl) <| nx ?_
    obtain rfl := si H
    exact ⟨(putG n a0 (⟨3, (qb a1.path), ([] : List UInt8), 493, false⟩ : Rec)), v32, (ku1 (ku4 (Kp.cut (ku3 (ku4 kz rfl) rfl) K23 rfl) rfl) rfl), rfl, (Ow.rd o33), ((e18.t e25).t e31), rfl⟩
   ·refine qi (h24.trans (cb q28)) <| qq <| qd ?_
    obtain rfl := si H
    exact ⟨a0, v_a0, (Kp.cut (ku3 (ku4 kz rfl) rfl) K23 rfl), (K23 0 rfl), (Rd.ext f_a0 (((e5.t e9).t e18).t e25)), (e18.t e25), rfl⟩
  ·refine qi (cb q15) <| qq <| qd ?_
   obtain rfl := si H
   exact ⟨a0, v_a0, kz, rfl, (Rd.ext f_a0 (e5.t e9)), er, rfl⟩
 ·rintro s35 w34 ⟨x0_13, v14, K36, h39, h40, e37, y38⟩
  rw [y38] at C12
  have H := C12
  refine qd <| wr <| yw (.plain rfl) rfl (ltb rfl) rfl Tryz.underlying35 Tryz.sizeOf52 Tryz.zeroValue52 rfl rfl rfl (vs := []) rfl (vh rfl) <| fun b41 w42 z43 z44 e45 k46 => lp rfl (xa (.slice (some ⟨b41, 0, none⟩) 0 0) rfl) <| nx <| wr <| lp rfl (xa (.bool false) rfl) <| nx <| qk <| wr <| lp rfl (xa (.int .i64 0) rfl) <| nx ?_
  obtain ⟨z51, L52, C53⟩ := bind_some H
  clear H
  refine  vH (fun s0 sQ wQ => ∃ (x7_54 : List Rec) (v55 : Value) (x8_56 : Bool), Kp [(7, 10), (33, 86)] s0 sQ ∧ sQ 7 = v55 ∧ Ow 52 5 qg w42.heap.size wQ v55 x7_54 ∧ sQ 8 = .bool x8_56 ∧ Ext w42 wQ ∧ z51 = .inr (x7_54, x8_56)) ?_ ?_
  ·refine qF <| vB (fun s0 kk sQ wQ => ∃ (x7_47 : List Rec) (v48 : Value) (x8_49 : Bool) (x9_50 : Int), Kp [(7, 10), (33, 86)] s0 sQ ∧ sQ 7 = v48 ∧ Ow 52 5 qg w42.heap.size wQ v48 x7_47 ∧ sQ 8 = .bool x8_49 ∧ sQ 9 = .int .i64 x9_50 ∧ Ext w42 wQ ∧ qn (qx.b1 a1 x0_13) kk (x7_47, x8_49, x9_50) = some z51) k ⟨([] : List Rec), (.slice (some ⟨b41, 0, none⟩) 0 0), false, 0, kz, rfl, (Ow.zero), rfl, rfl, er, L52⟩ ?_
   rintro k61 s62 w63 ⟨x7_47, v48, x8_49, x9_50, K64, h67, h68, h69, h70, e65, L66⟩
   cases k61 with
   | zero => exact absurd L66 (by simp [qn])
   | succ k61 =>
    obtain ⟨t71, H, S72⟩ := qN L66
    clear L66
    unfold qx.b1 at H
    refine qk <| wr <| lp rfl (qc h70) <| lp rfl (xm v14 ((K64 0 rfl).trans h39)) <| lp rfl (vy Tryz.underlying35 rfl (Rd.ext h40 (e45.t e65))) <| lp rfl (yH rfl rfl) <| nx ?_
    rcases qf H with ⟨q73, H⟩ | ⟨q73, H⟩
    ·refine qp (cb q73) <| qq <| qd <| qk <| qF <| qk <| qk ?_
     obtain ⟨c74, H⟩ := qa H
     obtain ⟨c77, H⟩ := qa H
     obtain ⟨c78, H⟩ := qa H
     refine YK [LEq (.bool x8_49), LEq (.bool (!x8_49)), LEq (.bool (!x8_49)), LIf (!x8_49) (LEq (.pointer (some ⟨b1, 1, none⟩))), LIf (!x8_49) (LEq (S a1.path)), LIf (!x8_49) (LEq v14), LIf (!x8_49) (LEq (.int .i64 x9_50)), LIf (!x8_49) (yO (qg (gt x0_13 x9_50))), LIf (!x8_49) (LAt 1 (qg (gt x0_13 x9_50))), LIf (!x8_49) (LEq (S ((gt x0_13 x9_50).path))), LIf (!x8_49) (LEq (.bool (vP (cut 47 a1.path) (cut 47 ((gt x0_13 x9_50).path))))), LEq (.bool ((!x8_49) && (vP (cut 47 a1.path) (cut 47 ((gt x0_13 x9_50).path)))))] (by kernel_rfl) (by kernel_rfl) ⟨qm, qm, qm, lm, lm, lm, lm, (LIf.mono yO.mono), (LIf.mono LAt.mono), lm, lm, qm, trivial⟩ ⟨?_, ?_, ?_, ?_, ?_, ?_, ?_, ?_, ?_, ?_, ?_, ?_, trivial⟩ ?_
     ·exact fun s x e f d u => lp rfl (xm (.bool x8_49) ((f 8 rfl).trans h69)) <| se rfl rfl
     ·exact fun s x e f d u => lp rfl (yS (d 0 rfl)) <| se rfl rfl
     ·exact fun s x e f d u => lp rfl (qc (d 1 rfl)) <| se rfl rfl
     ·exact fun s x e f d u => gT rfl rfl rfl rfl (d 2 rfl) rfl fun b t => lt t rfl rfl (qe Tryz.underlying52 rfl Tryz.sizeOf9 rfl ((f 3 rfl).trans ((K64 3 rfl).trans (K36 3 rfl)))) <| sg rfl rfl b rfl
     ·exact fun s x e f d u => gT rfl rfl rfl rfl (d 2 rfl) rfl fun b t => lt t rfl rfl (qH Tryz.isAgg9 (Blk.ext k6 ((((e9.t e37).t e45).t e65).t e)) ((d 3 rfl).1 b) rfl) <| sg rfl rfl b rfl
     ·exact fun s x e f d u => gT rfl rfl rfl rfl (d 2 rfl) rfl fun b t => lt t rfl rfl (xm v14 ((f 0 rfl).trans ((K64 0 rfl).trans h39))) <| sg rfl rfl b rfl
     ·exact fun s x e f d u => gT rfl rfl rfl rfl (d 2 rfl) rfl fun b t => lt t rfl rfl (xm (.int .i64 x9_50) ((f 9 rfl).trans h70)) <| sg rfl rfl b rfl
     ·exact fun s x e f d u => gT rfl rfl rfl rfl (d 2 rfl) rfl fun b t => vw t rfl (ltb rfl) rfl Tryz.underlying35 Tryz.sizeOf52 ((d 5 rfl).1 b) (Rd.ext h40 ((e45.t e65).t e)) ((d 6 rfl).1 b) (yB b c74) <| fun p82 h83 => sg rfl rfl b ⟨_, rfl, h83⟩
     ·intro s x e f d u
      refine gT rfl rfl rfl rfl (d 2 rfl) rfl fun b t => ?_
      obtain ⟨p84, h85, h86⟩ := ((d 7 rfl).1 b)
      exact lt t rfl rfl (qe Tryz.underlying52 rfl Tryz.sizeOf9 rfl h85) <| sg rfl rfl b ⟨_, rfl, h86⟩
     ·intro s x e f d u
      refine gT rfl rfl rfl rfl (d 2 rfl) rfl fun b t => ?_
      obtain ⟨p87, h88, h89⟩ := ((d 8 rfl).1 b)
      exact lt t rfl rfl (jh Tryz.isAgg9 (j := 1) h89 h88 rfl) <| sg rfl rfl b rfl
     ·exact fun s x e f d u => gT rfl rfl rfl rfl (d 2 rfl) rfl fun b t => y1 t rfl (ltb rfl) rfl Tryz.call153 (vD.calls (w := x) (a0 := a1.path) (a1 := (gt x0_13 x9_50).path) (od (yB b c77)) (od (yB b c78))) (vI ((d 4 rfl).1 b) (vI ((d 9 rfl).1 b) rfl)) <| fun w92 e93 => sgx rfl rfl b e93 rfl
     ·exact fun s x e f d u => lp rfl (jX (d 2 rfl) rfl fun h => ((d 10 rfl).1 h)) <| se rfl rfl
     intro s94 w95 e96 hf97 ha98
     have K99 := Kp.ofD (kp := [(39, 51)]) rfl hf97
     have d100 : s94 50 = (.bool ((!x8_49) && (vP (cut 47 a1.path) (cut 47 ((gt x0_13 x9_50).path))))) := ha98 11 rfl
     clear ha98 hf97
     refine qd ?_
     obtain ⟨z101, L102, C103⟩ := bind_some H
     clear H
     refine vH (fun s0 sQ wQ => ∃ (x7_104 : List Rec) (v105 : Value) (x8_106 : Bool), Kp [(7, 9), (51, 55)] s0 sQ ∧ sQ 7 = v105 ∧ Ow 52 5 qg w42.heap.size wQ v105 x7_104 ∧ sQ 8 = .bool x8_106 ∧ Ext w42 wQ ∧ z101 = .inr (x7_104, x8_106)) ?_ ?_
     ·have H := L102
      rcases qf H with ⟨q107, H⟩ | ⟨q107, H⟩
      ·refine qp (d100.trans (cb q107)) <| wr <| lp rfl (xm v48 ((K99 7 rfl).trans h67)) <| lp rfl (vC Tryz.isAgg52 Tryz.sizeOf52 rfl ((K99 3 rfl).trans ((K64 3 rfl).trans (K36 3 rfl))) (Blk.at0 (Blk.ext k6 ((((e9.t e37).t e45).t e65).t e96)))) <| yw (.plain rfl) rfl (ltb rfl) rfl Tryz.underlying35 Tryz.sizeOf52 Tryz.zeroValue52 rfl rfl rfl (vs := [(.agg #[(.int .i64 a1.kind), (S a1.path), (S a1.body), (.int .i64 a1.mode), (.bool a1.opq)])]) rfl (vh rfl) <| fun b108 w109 z110 z111 e112 k113 => ?_
       obtain ⟨c114, H⟩ := qa H
       refine jC (enc := qg) (.plain rfl) rfl (ltb rfl) rfl El.t35 rfl rfl (Ow.ext h68 (e96.t e112)) (Ow.rd (Ow.new (xs := [a1]) (sz := 5) (enc := qg) (base := w95.heap.size) k113 (Nat.le_of_eq z110) rfl (fun _ _ => by rfl) (Nat.le_of_ble_eq_true rfl))) (Vq _) (od c114) (((e65.t e96).t e112)).size <| fun v115 w116 o117 z118 g119 => lp rfl (xa v115 rfl) <| nx <| qJ <| lp rfl (xa (.bool true) rfl) <| nx ?_
       obtain rfl := si H
       exact ⟨x7_47 ++ ([a1] : List Rec), v115, true, (ku2 (ku4 kz rfl) rfl), rfl, o117, rfl, (g119 _ ((e65.t e96).t e112)), rfl⟩
      ·refine qi (d100.trans (cb q107)) <| qq <| qd ?_
       obtain rfl := si H
       exact ⟨x7_47, v48, x8_49, kz, ((K99 7 rfl).trans h67), (Ow.ext h68 e96), ((K99 8 rfl).trans h69), (e65.t e96), rfl⟩
     ·rintro s121 w120 ⟨x7_104, v105, x8_106, K122, h125, h126, h127, e123, y124⟩
      rw [y124] at C103
      have H := C103
      refine qd <| qk ?_
      obtain ⟨c128, H⟩ := qa H
      obtain ⟨c131, H⟩ := qa H
      refine YK [LEq v14, LEq (.int .i64 x9_50), yO (qg (gt x0_13 x9_50)), LAt 1 (qg (gt x0_13 x9_50)), LEq (S ((gt x0_13 x9_50).path)), LEq (.pointer (some ⟨b1, 1, none⟩)), LEq (S a1.path), LEq (.bool (!decide (((gt x0_13 x9_50).path) = a1.path))), LEq (.bool (!decide (((gt x0_13 x9_50).path) = a1.path))), LIf (!decide (((gt x0_13 x9_50).path) = a1.path)) (LEq (.pointer (some ⟨b1, 0, none⟩))), LIf (!decide (((gt x0_13 x9_50).path) = a1.path)) (LEq (.int .i64 a1.kind)), LIf (!decide (((gt x0_13 x9_50).path) = a1.path)) (LEq (.bool (decide (a1.kind = 3)))), LIf (!decide (((gt x0_13 x9_50).path) = a1.path)) (LEq (.bool (decide (a1.kind = 3)))), LIf (qx.e1 a1 x0_13 x9_50) (LEq v14), LIf (qx.e1 a1 x0_13 x9_50) (LEq (.int .i64 x9_50)), LIf (qx.e1 a1 x0_13 x9_50) (yO (qg (gt x0_13 x9_50))), LIf (qx.e1 a1 x0_13 x9_50) (LAt 1 (qg (gt x0_13 x9_50))), LIf (qx.e1 a1 x0_13 x9_50) (LEq (S ((gt x0_13 x9_50).path))), LIf (qx.e1 a1 x0_13 x9_50) (LEq (.pointer (some ⟨b1, 1, none⟩))), LIf (qx.e1 a1 x0_13 x9_50) (LEq (S a1.path)), LIf (qx.e1 a1 x0_13 x9_50) (LEq (.bool (qx.e2 a1 x0_13 x9_50))), LIf (qx.e1 a1 x0_13 x9_50) (LEq (.bool (!(qx.e2 a1 x0_13 x9_50)))), LIf (!decide (((gt x0_13 x9_50).path) = a1.path)) (LEq (.bool ((decide (a1.kind = 3)) || (!(qx.e2 a1 x0_13 x9_50))))), LEq (.bool ((!decide (((gt x0_13 x9_50).path) = a1.path)) && ((decide (a1.kind = 3)) || (!(qx.e2 a1 x0_13 x9_50)))))] (by kernel_rfl) (by kernel_rfl) ⟨qm, qm, yO.mono, LAt.mono, qm, qm, qm, qm, qm, lm, lm, lm, lm, lm, lm, (LIf.mono yO.mono), (LIf.mono LAt.mono), lm, lm, lm, lm, lm, lm, qm, trivial⟩ ⟨?_, ?_, ?_, ?_, ?_, ?_, ?_, ?_, ?_, ?_, ?_, ?_, ?_, ?_, ?_, ?_, ?_, ?_, ?_, ?_, ?_, ?_, ?_, ?_, trivial⟩ ?_
      ·exact fun s x e f d u => lp rfl (xm v14 ((f 0 rfl).trans ((K122 0 rfl).trans ((K99 0 rfl).trans ((K64 0 rfl).trans h39))))) <| se rfl rfl
      ·exact fun s x e f d u => lp rfl (xm (.int .i64 x9_50) ((f 9 rfl).trans ((K122 9 rfl).trans ((K99 9 rfl).trans h70)))) <| se rfl rfl
      ·exact fun s x e f d u => vw (.plain rfl) rfl (ltb rfl) rfl Tryz.underlying35 Tryz.sizeOf52 (d 0 rfl) (Rd.ext h40 ((e45.t e123).t e)) (d 1 rfl) c128 <| fun p137 h138 => se rfl ⟨_, rfl, h138⟩
      ·intro s x e f d u
       obtain ⟨p139, h140, h141⟩ := (d 2 rfl)
       exact lp rfl (qe Tryz.underlying52 rfl Tryz.sizeOf9 rfl h140) <| se rfl ⟨_, rfl, h141⟩
      ·intro s x e f d u
       obtain ⟨p142, h143, h144⟩ := (d 3 rfl)
       exact lp rfl (jh Tryz.isAgg9 (j := 1) h144 h143 rfl) <| se rfl rfl
      ·exact fun s x e f d u => lp rfl (qe Tryz.underlying52 rfl Tryz.sizeOf9 rfl ((f 3 rfl).trans ((K122 3 rfl).trans ((K99 3 rfl).trans ((K64 3 rfl).trans (K36 3 rfl)))))) <| se rfl rfl
      ·exact fun s x e f d u => lp rfl (qH Tryz.isAgg9 (Blk.ext k6 ((((e9.t e37).t e45).t e123).t e)) (d 5 rfl) rfl) <| se rfl rfl
      ·exact fun s x e f d u => lp rfl (Qv (d 4 rfl) (d 6 rfl)) <| se rfl rfl
      ·exact fun s x e f d u => lp rfl (qc (d 7 rfl)) <| se rfl rfl
      ·exact fun s x e f d u => gT rfl rfl rfl rfl (d 8 rfl) rfl fun b t => lt t rfl rfl (qe Tryz.underlying52 rfl Tryz.sizeOf3 rfl ((f 3 rfl).trans ((K122 3 rfl).trans ((K99 3 rfl).trans ((K64 3 rfl).trans (K36 3 rfl)))))) <| sg rfl rfl b rfl
      ·exact fun s x e f d u => gT rfl rfl rfl rfl (d 8 rfl) rfl fun b t => lt t rfl rfl (qH Tryz.isAgg3 (Blk.ext k6 ((((e9.t e37).t e45).t e123).t e)) ((d 9 rfl).1 b) rfl) <| sg rfl rfl b rfl
      ·exact fun s x e f d u => gT rfl rfl rfl rfl (d 8 rfl) rfl fun b t => lt t rfl rfl (yZ ((d 10 rfl).1 b) rfl) <| sg rfl rfl b rfl
      ·exact fun s x e f d u => gT rfl rfl rfl rfl (d 8 rfl) rfl fun b t => lt t rfl rfl (xm (.bool (decide (a1.kind = 3))) ((d 11 rfl).1 b)) <| sg rfl rfl b rfl
      ·exact fun s x e f d u => hF rfl rfl rfl rfl (d 12 rfl) rfl fun b t => lt t rfl rfl (xm v14 ((f 0 rfl).trans ((K122 0 rfl).trans ((K99 0 rfl).trans ((K64 0 rfl).trans h39))))) <| sg rfl rfl b rfl
      ·exact fun s x e f d u => hF rfl rfl rfl rfl (d 12 rfl) rfl fun b t => lt t rfl rfl (xm (.int .i64 x9_50) ((f 9 rfl).trans ((K122 9 rfl).trans ((K99 9 rfl).trans h70)))) <| sg rfl rfl b rfl
      ·exact fun s x e f d u => hF rfl rfl rfl rfl (d 12 rfl) rfl fun b t => vw t rfl (ltb rfl) rfl Tryz.underlying35 Tryz.sizeOf52 ((d 13 rfl).1 (qW (jM b) (qE (qX (jL b))))) (Rd.ext h40 ((e45.t e123).t e)) ((d 14 rfl).1 (qW (jM b) (qE (qX (jL b))))) (yB b c131) <| fun p146 h147 => sg rfl rfl b ⟨_, rfl, h147⟩
      ·intro s x e f d u
       refine hF rfl rfl rfl rfl (d 12 rfl) rfl fun b t => ?_
       obtain ⟨p148, h149, h150⟩ := ((d 15 rfl).1 (qW (jM b) (qE (qX (jL b)))))
       exact lt t rfl rfl (qe Tryz.underlying52 rfl Tryz.sizeOf9 rfl h149) <| sg rfl rfl b ⟨_, rfl, h150⟩
      ·intro s x e f d u
       refine hF rfl rfl rfl rfl (d 12 rfl) rfl fun b t => ?_
       obtain ⟨p151, h152, h153⟩ := ((d 16 rfl).1 (qW (jM b) (qE (qX (jL b)))))
       exact lt t rfl rfl (jh Tryz.isAgg9 (j := 1) h153 h152 rfl) <| sg rfl rfl b rfl
      ·exact fun s x e f d u => hF rfl rfl rfl rfl (d 12 rfl) rfl fun b t => lt t rfl rfl (qe Tryz.underlying52 rfl Tryz.sizeOf9 rfl ((f 3 rfl).trans ((K122 3 rfl).trans ((K99 3 rfl).trans ((K64 3 rfl).trans (K36 3 rfl)))))) <| sg rfl rfl b rfl
      ·exact fun s x e f d u => hF rfl rfl rfl rfl (d 12 rfl) rfl fun b t => lt t rfl rfl (qH Tryz.isAgg9 (Blk.ext k6 ((((e9.t e37).t e45).t e123).t e)) ((d 18 rfl).1 (qW (jM b) (qE (qX (jL b))))) rfl) <| sg rfl rfl b rfl
      ·exact fun s x e f d u => hF rfl rfl rfl rfl (d 12 rfl) rfl fun b t => y1 t rfl (ltb rfl) rfl Tryz.call186 (jv.calls (w := x) (a0 := (gt x0_13 x9_50).path) (a1 := a1.path)) (vI ((d 17 rfl).1 (qW (jM b) (qE (qX (jL b))))) (vI ((d 19 rfl).1 (qW (jM b) (qE (qX (jL b))))) rfl)) <| fun w154 e155 => sgx rfl rfl b e155 rfl
      ·exact fun s x e f d u => hF rfl rfl rfl rfl (d 12 rfl) rfl fun b t => lt t rfl rfl (yS ((d 20 rfl).1 (qW (jM b) (qE (qX (jL b)))))) <| sg rfl rfl b rfl
      ·exact fun s x e f d u => gT rfl rfl rfl rfl (d 8 rfl) rfl fun b t => lt t rfl rfl (jQ ((d 12 rfl).1 b) rfl fun h => ((d 21 rfl).1 (qW b (qE h)))) <| sg rfl rfl b rfl
      ·exact fun s x e f d u => lp rfl (jX (d 8 rfl) rfl fun h => ((d 22 rfl).1 h)) <| se rfl rfl
      intro s156 w157 e158 hf159 ha160
      have K161 := Kp.ofD (kp := [(55, 79)]) rfl hf159
      have d162 : s156 78 = (.bool ((!decide (((gt x0_13 x9_50).path) = a1.path)) && ((decide (a1.kind = 3)) || (!(qx.e2 a1 x0_13 x9_50))))) := ha160 23 rfl
      clear ha160 hf159
      refine qd ?_
      rcases qf H with ⟨q163, H⟩ | ⟨q163, H⟩
      ·refine qp (d162.trans (cb q163)) <| qJ <| lp rfl (xm v105 ((K161 7 rfl).trans h125)) <| lp rfl (xm v14 ((K161 0 rfl).trans ((K122 0 rfl).trans ((K99 0 rfl).trans ((K64 0 rfl).trans h39))))) <| lp rfl (xm (.int .i64 x9_50) ((K161 9 rfl).trans ((K122 9 rfl).trans ((K99 9 rfl).trans h70)))) ?_
       obtain ⟨c164, H⟩ := qa H
       refine vw (.plain rfl) rfl (ltb rfl) rfl Tryz.underlying35 Tryz.sizeOf52 rfl (Rd.ext h40 ((e45.t e123).t e158)) rfl c164 <| fun p165 h166 => lp rfl (vC Tryz.isAgg52 Tryz.sizeOf52 rfl rfl h166) <| yw (.plain rfl) rfl (ltb rfl) rfl Tryz.underlying35 Tryz.sizeOf52 Tryz.zeroValue52 rfl rfl rfl (vs := [(.agg (qg (gt x0_13 x9_50)).toArray)]) rfl (vh rfl) <| fun b167 w168 z169 z170 e171 k172 => ?_
       obtain ⟨c173, H⟩ := qa H
       refine jC (enc := qg) (.plain rfl) rfl (ltb rfl) rfl El.t35 rfl rfl (Ow.ext h126 (e158.t e171)) (Ow.rd (Ow.new (xs := [gt x0_13 x9_50]) (sz := 5) (enc := qg) (base := w157.heap.size) k172 (Nat.le_of_eq z169) rfl (fun _ _ => by rfl) (Nat.le_of_ble_eq_true rfl))) (Vq _) (od c173) (((e123.t e158).t e171)).size <| fun v174 w175 o176 z177 g178 => lp rfl (xa v174 rfl) <| vb <| ye <| qd <| qJ <| lp rfl (xm (.int .i64 x9_50) ((K161 9 rfl).trans ((K122 9 rfl).trans ((K99 9 rfl).trans h70)))) <| lp rfl (vW rfl rfl) <| lp rfl (xa (.int .i64 (IntKind.wrap .i64 (x9_50 + 1))) rfl) <| nx ?_
       obtain rfl := si H
       exact ⟨_, Nat.lt_succ_self _, x7_104 ++ ([gt x0_13 x9_50] : List Rec), v174, x8_106, IntKind.wrap .i64 (x9_50 + 1), (ku3 (ku8 (Kp.cut (Kp.cut (Kp.cut (ku4 K64 rfl) K99 rfl) K122 rfl) K161 rfl) rfl) rfl), rfl, o176, ((K161 8 rfl).trans h127), rfl, (g178 _ ((e123.t e158).t e171)), S72⟩
      ·refine qi (d162.trans (cb q163)) <| qq <| ye <| qd <| qJ <| lp rfl (xm (.int .i64 x9_50) ((K161 9 rfl).trans ((K122 9 rfl).trans ((K99 9 rfl).trans h70)))) <| lp rfl (vW rfl rfl) <| lp rfl (xa (.int .i64 (IntKind.wrap .i64 (x9_50 + 1))) rfl) <| nx ?_
       obtain rfl := si H
       exact ⟨_, Nat.lt_succ_self _, x7_104, v105, x8_106, IntKind.wrap .i64 (x9_50 + 1), (ku3 (Kp.cut (Kp.cut (Kp.cut (ku4 K64 rfl) K99 rfl) K122 rfl) K161 rfl) rfl), ((K161 7 rfl).trans h125), (Ow.ext h126 e158), ((K161 8 rfl).trans h127), rfl, (e123.t e158), S72⟩
    ·refine qi (cb q73) <| vL <| vd <| vd <| yE <| qd ?_
     obtain rfl := si H
     obtain rfl := si S72
     exact ⟨x7_47, v48, x8_49, (ku4 K64 rfl), h67, h68, h69, e65, rfl⟩
  ·rintro s58 w57 ⟨x7_54, v55, x8_56, K59, h179, h180, h181, e60, y182⟩
   rw [y182] at C53
   have H := C53
   replace H : _ = some _ := H
   refine qd <| qk <| wr <| lp rfl (qc h181) <| lp rfl (yS rfl) <| nx ?_
   rcases qf H with ⟨q183, H⟩ | ⟨q183, H⟩
   ·refine qp (cb q183) <| qJ <| lp rfl (qc h179) <| lp rfl (vC Tryz.isAgg52 Tryz.sizeOf52 rfl ((K59 3 rfl).trans (K36 3 rfl)) (Blk.at0 (Blk.ext k6 (((e9.t e37).t e45).t e60)))) <| yw (.plain rfl) rfl (ltb rfl) rfl Tryz.underlying35 Tryz.sizeOf52 Tryz.zeroValue52 rfl rfl rfl (vs := [(.agg #[(.int .i64 a1.kind), (S a1.path), (S a1.body), (.int .i64 a1.mode), (.bool a1.opq)])]) rfl (vh rfl) <| fun b184 w185 z186 z187 e188 k189 => ?_
    obtain ⟨c190, H⟩ := qa H
    refine jC (enc := qg) (.plain rfl) rfl (ltb rfl) rfl El.t35 rfl rfl (Ow.ext h180 e188) (Ow.rd (Ow.new (xs := [a1]) (sz := 5) (enc := qg) (base := w57.heap.size) k189 (Nat.le_of_eq z186) rfl (fun _ _ => by rfl) (Nat.le_of_ble_eq_true rfl))) (Vq _) (od c190) ((e60.t e188)).size <| fun v191 w192 o193 z194 g195 => lp rfl (xa v191 rfl) <| nx <| wr <| lp rfl (xm v191 rfl) <| lp rfl (xa v191 rfl) <| nx <| qr <| qv ?_
    obtain rfl := si H
    exact Yf rfl ((((e5.t e9).t e37).t e45).t (g195 _ (e60.t e188))) o193 ((((e5.t e9).t e37).t e45)).size
   ·refine qi (cb q183) <| qq <| qd <| wr <| lp rfl (qc h179) <| lp rfl (xa v55 rfl) <| nx <| qr <| qv ?_
    obtain rfl := si H
    exact Yf rfl ((((e5.t e9).t e37).t e45).t e60) h180 ((((e5.t e9).t e37).t e45)).size

/-! spec.l03Put, by text -/
theorem VQ.all : ∀ (n : Nat) (hn : n ≤ 50) {w : World} {a0 : List Rec} {a1 : Rec} {v_a0 : Value} (f_a0 : Rd 5 qg w v_a0 a0) (h0 : putQ n a0 a1 = true), Calls Tryz.prog 128 #[v_a0, .agg (qg a1).toArray] w (Rt (RO 52 5 qg w (putG n a0 a1))) := by
  intro n
  induction n with
  | zero => intro hn w a0 a1 v f h; exact Bool.noConfusion h
  | succ n ih => intro hn w a0 a1 v f h; obtain ⟨k, H⟩ := qx.eq n (by omega) a0 a1 h; exact qx.walk (n := n) (fun f h => ih (by omega) f h) f H
theorem VQ.calls {w : World} {a0 : List Rec} {a1 : Rec} {v_a0 : Value} (f_a0 : Rd 5 qg w v_a0 a0) (h0 : Vn 2 a0 a1 = true) : Calls Tryz.prog 128 #[v_a0, .agg (qg a1).toArray] w (Rt (RO 52 5 qg w (Qz 2 a0 a1))) := VQ.all 3 (by omega) f_a0 h0

/-! (*spec.l00Src).layer -/
theorem vE.walk {k : Nat} {w : World} {a0 : List Int} {a1 : DSrc} {wc : World} {cv : Value} {bs : Nat} (kc : Ext wc w) (fc : Rd 1 (Go.UL.encI .u8) wc cv a0) (hz : wc.heap.size ≤ bs) (ks : Blk w bs (vt cv a1).toArray 128) {r : List Rec × DSrc} (H : vE.sh k a0 a1 = some r) :
  Calls Tryz.prog 69 #[.pointer (some ⟨bs, 0, none⟩)] w (Rt (RSO 128 bs cv 52 5 qg w r.1 r.2)) := by
 unfold vE.sh at H
 refine qh Tryz.func69 rfl (Nat.le_of_ble_eq_true rfl) Tryz.ntmps69 rfl ?_
 refine wr <| lp rfl (xa (.slice none 0 0) rfl) <| nx <| wr <| yw (.plain rfl) rfl (ltb rfl) rfl Tryz.underlying35 Tryz.sizeOf52 Tryz.zeroValue52 rfl rfl rfl (vs := []) rfl (vh rfl) <| fun b1 w2 z3 z4 e5 k6 => lp rfl (xa (.slice (some ⟨b1, 0, none⟩) 0 0) rfl) <| nx <| qk <| wr <| lp rfl (xm (.pointer (some ⟨bs, 0, none⟩)) rfl) <| lp rfl (xm (.pointer (some ⟨bs, 0, none⟩)) rfl) ?_
 obtain ⟨z7, x8, H⟩ := bind_some H
 refine yQ (.plain rfl) rfl (ltb rfl) rfl Tryz.call127 (y0.calls (w := w2) (a0 := a0) (a1 := a1) (a2 := 6) (Ext.trans kc e5) fc hz (Blk.ext ks e5) x8) rfl <| fun w11 g12 k13 => lp rfl (vW rfl rfl) ?_
 obtain ⟨z14, x15, H⟩ := bind_some H
 refine yQ (.plain rfl) rfl (ltb rfl) rfl Tryz.call115 (vj.calls (w := w11) (a0 := a0) (a1 := z7.2) (a2 := IntKind.wrap .i64 (z7.1 + 3)) (Ext.gr (Ext.trans kc e5) g12 hz) fc hz k13 x15) rfl <| fun w18 g19 k20 => lp rfl (xa (.int .i64 z14.1) rfl) <| nx ?_
 obtain ⟨z25, L26, C27⟩ := bind_some H
 clear H
 refine  vH (fun s0 sQ wQ => ∃ (x3_28 : List Rec) (v29 : Value) (y30 : DSrc), Kp [(3, 6), (12, 26)] s0 sQ ∧ sQ 3 = v29 ∧ Ow 52 5 qg w18.heap.size wQ v29 x3_28 ∧ Blk wQ bs ((vt cv) y30).toArray 128 ∧ Gr bs (bs + 1) w18 wQ ∧ Ext wc wQ ∧ z25 = .inr (x3_28, y30)) ?_ ?_
 ·refine qF <| vB (fun s0 kk sQ wQ => ∃ (x3_21 : List Rec) (v22 : Value) (x4_23 : Int) (y24 : DSrc), Kp [(3, 6), (12, 26)] s0 sQ ∧ sQ 3 = v22 ∧ Ow 52 5 qg w18.heap.size wQ v22 x3_21 ∧ sQ 4 = .int .i64 x4_23 ∧ Blk wQ bs ((vt cv) y24).toArray 128 ∧ Gr bs (bs + 1) w18 wQ ∧ Ext wc wQ ∧ qn (vE.b1 a0) kk (x3_21, x4_23, y24) = some z25) k ⟨([] : List Rec), (.slice (some ⟨b1, 0, none⟩) 0 0), z14.1, z14.2, kz, rfl, (Ow.zero), rfl, k20, (Gr.refl _ _ _), (Ext.gr (Ext.gr (Ext.trans kc e5) g12 hz) g19 hz), L26⟩ ?_
  rintro k35 s36 w37 ⟨x3_21, v22, x4_23, y24, K38, h41, h42, h43, h44, e39, e39c, L40⟩
  cases k35 with
  | zero => exact absurd L40 (by simp [qn])
  | succ k35 =>
   obtain ⟨t45, H, S46⟩ := qN L40
   clear L40
   unfold vE.b1 at H
   refine qk <| wr <| lp rfl (qc h43) <| lp rfl (jj rfl rfl) <| nx ?_
   rcases qf H with ⟨q47, H⟩ | ⟨q47, H⟩
   ·refine qp (cb q47) <| qq <| qd <| qk <| qF <| wr <| lp rfl (qc h41) <| lp rfl (xm (.pointer (some ⟨bs, 0, none⟩)) (K38 0 rfl)) <| lp rfl (xm (.pointer (some ⟨bs, 0, none⟩)) (K38 0 rfl)) ?_
    obtain ⟨z48, x49, H⟩ := bind_some H
    refine yQ (.plain rfl) rfl (ltb rfl) rfl Tryz.call130 (ya.calls (w := w37) (a0 := a0) (a1 := y24) e39c fc hz h44 x49) rfl <| fun w52 g53 k54 => ?_
    obtain ⟨z55, x56, H⟩ := bind_some H
    refine yQ (.plain rfl) rfl (ltb rfl) rfl Tryz.call129 (yx.calls (w := w52) (a0 := a0) (a1 := z48.2) (a2 := z48.1) (Ext.gr e39c g53 hz) fc hz k54 x56) rfl <| fun w59 g60 k61 => ?_
    obtain ⟨c62, H⟩ := qa H
    refine yX (.plain rfl) rfl (ltb rfl) rfl Tryz.call128 (VQ.calls (w := w59) (a0 := x3_21) (a1 := z55.1) (Ow.rd (Ow.later (Ow.later h42 g53 (Nat.le_trans (Blk.lt ks) ((Gr.trans (Gr.trans (Gr.ext e5) g12) g19)).size)) g60 (Nat.le_trans (Blk.lt ks) ((Gr.trans (Gr.trans (Gr.ext e5) g12) g19)).size))) (od c62)) rfl <| fun v65 w63 e64 o66 => lp rfl (xa v65 rfl) <| nx <| wr <| lp rfl (xm v65 rfl) <| lp rfl (vy Tryz.underlying35 rfl (Ow.rd o66)) <| lp rfl (VX rfl rfl) <| nx ?_
    rcases qf H with ⟨q67, H⟩ | ⟨q67, H⟩
    ·refine qp (cb q67) <| qJ <| lp rfl (xm v65 rfl) <| lp rfl (xa v65 rfl) <| vb <| ye <| qd <| qJ <| lp rfl (qc h43) <| lp rfl (jl rfl rfl) <| lp rfl (xa (.int .i64 (IntKind.wrap .i64 (x4_23 - 1))) rfl) <| nx ?_
     obtain rfl := si H
     exact ⟨_, Nat.lt_succ_self _, (Qz 2 x3_21 z55.1), v65, IntKind.wrap .i64 (x4_23 - 1), z55.2, (ku1 (ku8 (ku8 K38 rfl) rfl) rfl), rfl, (Ow.base o66 ((Gr.trans (Gr.trans e39 g53) g60)).size), rfl, (Blk.ext k61 e64), (Gr.trans (Gr.trans (Gr.trans e39 g53) g60) (Gr.ext e64)), (Ext.trans (Ext.gr (Ext.gr e39c g53 hz) g60 hz) e64), S46⟩
    ·refine qi (cb q67) <| qq <| ye <| qd <| qJ <| lp rfl (qc h43) <| lp rfl (jl rfl rfl) <| lp rfl (xa (.int .i64 (IntKind.wrap .i64 (x4_23 - 1))) rfl) <| nx ?_
     obtain rfl := si H
     exact ⟨_, Nat.lt_succ_self _, x3_21, v22, IntKind.wrap .i64 (x4_23 - 1), z55.2, (ku3 (ku4 (ku8 K38 rfl) rfl) rfl), h41, (Ow.ext (Ow.later (Ow.later h42 g53 (Nat.le_trans (Blk.lt ks) ((Gr.trans (Gr.trans (Gr.ext e5) g12) g19)).size)) g60 (Nat.le_trans (Blk.lt ks) ((Gr.trans (Gr.trans (Gr.ext e5) g12) g19)).size)) e64), rfl, (Blk.ext k61 e64), (Gr.trans (Gr.trans (Gr.trans e39 g53) g60) (Gr.ext e64)), (Ext.trans (Ext.gr (Ext.gr e39c g53 hz) g60 hz) e64), S46⟩
   ·refine qi (cb q47) <| vL <| vd <| vd <| yE <| qd ?_
    obtain rfl := si H
    obtain rfl := si S46
    exact ⟨x3_21, v22, y24, (ku2 K38 rfl), h41, h42, h44, e39, e39c, rfl⟩
 ·rintro s32 w31 ⟨x3_28, v29, y30, K33, h68, h69, h70, e34, e34c, y71⟩
  rw [y71] at C27
  have H := C27
  replace H : _ = some _ := H
  refine qd <| wr <| lp rfl (qc h68) <| lp rfl (xa v29 rfl) <| nx <| qr <| qv ?_
  obtain rfl := si H
  exact fin1so rfl (Gr.trans (Gr.trans (Gr.trans (Gr.ext e5) g12) g19) e34) h70 h69 ((Gr.trans (Gr.trans (Gr.ext e5) g12) g19)).size
theorem vE.calls {w : World} {a0 : List Int} {a1 : DSrc} {r : List Rec × DSrc} {wc : World} {cv : Value} {bs : Nat} (kc : Ext wc w) (fc : Rd 1 (Go.UL.encI .u8) wc cv a0) (hz : wc.heap.size ≤ bs) (ks : Blk w bs (vt cv a1).toArray 128) (H : (vE.sh 12 a0 a1) = some r) :
  Calls Tryz.prog 69 #[.pointer (some ⟨bs, 0, none⟩)] w (Rt (RSO 128 bs cv 52 5 qg w r.1 r.2)) := by
 obtain ⟨k, h⟩ := vE.eq a0 a1 H
 exact vE.walk kc fc hz ks h
/-! (*spec.l00Src).stack -/
theorem vF.walk {k : Nat} {w : World} {a0 : List Int} {a1 : DSrc} {wc : World} {cv : Value} {bs : Nat} (kc : Ext wc w) (fc : Rd 1 (Go.UL.encI .u8) wc cv a0) (hz : wc.heap.size ≤ bs) (ks : Blk w bs (vt cv a1).toArray 128) {r : List (List Rec) × DSrc} (H : vF.sh k a0 a1 = some r) :
  Calls Tryz.prog 57 #[.pointer (some ⟨bs, 0, none⟩)] w (Rt (RSOS 128 bs cv 35 52 5 qg w r.1 r.2)) := by
 unfold vF.sh at H
 refine qh Tryz.func57 rfl (Nat.le_of_ble_eq_true rfl) Tryz.ntmps57 rfl ?_
 refine wr <| lp rfl (xa (.slice none 0 0) rfl) <| nx <| wr <| yw (.plain rfl) rfl (ltb rfl) rfl Tryz.underlying23 Tryz.sizeOf35 Tryz.zeroValue35 rfl rfl rfl (vs := []) rfl (vh rfl) <| fun b1 w2 z3 z4 e5 k6 => lp rfl (xa (.slice (some ⟨b1, 0, none⟩) 0 0) rfl) <| nx <| qk <| wr <| lp rfl (xm (.pointer (some ⟨bs, 0, none⟩)) rfl) ?_
 obtain ⟨z7, x8, H⟩ := bind_some H
 refine yQ (.plain rfl) rfl (ltb rfl) rfl Tryz.call115 (vj.calls (w := w2) (a0 := a0) (a1 := a1) (a2 := 4) (Ext.trans kc e5) fc hz (Blk.ext ks e5) x8) rfl <| fun w11 g12 k13 => lp rfl (xa (.int .i64 z7.1) rfl) <| nx ?_
 obtain ⟨z18, L19, C20⟩ := bind_some H
 clear H
 refine  vH (fun s0 sQ wQ => ∃ (x3_21 : List (List Rec)) (v22 : Value) (y23 : DSrc), Kp [(3, 5), (8, 17)] s0 sQ ∧ sQ 3 = v22 ∧ yo 35 52 5 qg w11.heap.size wQ v22 x3_21 ∧ Blk wQ bs ((vt cv) y23).toArray 128 ∧ Gr bs (bs + 1) w11 wQ ∧ Ext wc wQ ∧ z18 = .inr (x3_21, y23)) ?_ ?_
 ·refine qF <| vB (fun s0 kk sQ wQ => ∃ (x3_14 : List (List Rec)) (v15 : Value) (x4_16 : Int) (y17 : DSrc), Kp [(3, 5), (8, 17)] s0 sQ ∧ sQ 3 = v15 ∧ yo 35 52 5 qg w11.heap.size wQ v15 x3_14 ∧ sQ 4 = .int .i64 x4_16 ∧ Blk wQ bs ((vt cv) y17).toArray 128 ∧ Gr bs (bs + 1) w11 wQ ∧ Ext wc wQ ∧ qn (vF.b1 a0) kk (x3_14, x4_16, y17) = some z18) k ⟨([] : List (List Rec)), (.slice (some ⟨b1, 0, none⟩) 0 0), z7.1, z7.2, kz, rfl, (yo.zero), rfl, k13, (Gr.refl _ _ _), (Ext.gr (Ext.trans kc e5) g12 hz), L19⟩ ?_
  rintro k28 s29 w30 ⟨x3_14, v15, x4_16, y17, K31, h34, h35, h36, h37, e32, e32c, L33⟩
  cases k28 with
  | zero => exact absurd L33 (by simp [qn])
  | succ k28 =>
   obtain ⟨t38, H, S39⟩ := qN L33
   clear L33
   unfold vF.b1 at H
   refine qk <| wr <| lp rfl (qc h36) <| lp rfl (jj rfl rfl) <| nx ?_
   rcases qf H with ⟨q40, H⟩ | ⟨q40, H⟩
   ·refine qp (cb q40) <| qq <| qd <| qk <| qF <| qJ <| lp rfl (qc h34) <| lp rfl (xm (.pointer (some ⟨bs, 0, none⟩)) (K31 0 rfl)) ?_
    obtain ⟨z41, x42, H⟩ := bind_some H
    refine L_callSO (.plain rfl) rfl (ltb rfl) rfl Tryz.call69 (vE.calls (w := w30) (a0 := a0) (a1 := y17) e32c fc hz h37 x42) rfl <| fun v48 w45 g46 k47 o49 => yw (.plain rfl) rfl (ltb rfl) rfl Tryz.underlying23 Tryz.sizeOf35 Tryz.zeroValue35 rfl rfl rfl (vs := [v48]) rfl (by simp; exact (Rd.one (Ow.rd o49))) <| fun b50 w51 z52 z53 e54 k55 => ?_
    obtain ⟨c56, H⟩ := qa H
    refine L_appendS (e2 := 52) (enc := qg) (.plain rfl) rfl (ltb rfl) rfl El.t23 rfl rfl (yo.ext (yo.later h35 g46 (Nat.le_trans (Blk.lt ks) ((Gr.trans (Gr.ext e5) g12)).size)) e54) (yo.hbg h35 (Gr.trans g46 (Gr.ext e54)) (Nat.le_trans (Blk.lt ks) ((Gr.trans (Gr.ext e5) g12)).size)) (Ow.ext o49 e54) (Ow.rd (Ow.new (xs := [v48]) (sz := 1) (enc := VV) (base := w45.heap.size) k55 (Nat.le_of_eq z52) (by obtain ⟨A9, c9, e9⟩ := Rd.shape (Ow.rd (Ow.ext o49 e54)); rw [e9]; rfl) (fun _ _ => rfl) (Nat.le_of_ble_eq_true rfl))) (by obtain ⟨A9, c9, e9⟩ := Rd.shape (Ow.rd (Ow.ext o49 e54)); rw [e9]; rfl) (e32).size (od c56) ((Gr.trans (Gr.trans e32 g46) (Gr.ext e54))).size <| fun v57 w58 o59 z60 g61 => lp rfl (xa v57 rfl) <| vb <| ye <| qd <| qJ <| lp rfl (qc h36) <| lp rfl (jl rfl rfl) <| lp rfl (xa (.int .i64 (IntKind.wrap .i64 (x4_16 - 1))) rfl) <| nx ?_
    obtain rfl := si H
    exact ⟨_, Nat.lt_succ_self _, x3_14 ++ [z41.1], v57, IntKind.wrap .i64 (x4_16 - 1), z41.2, (ku3 (ku8 K31 rfl) rfl), rfl, o59, rfl, (Gr.blk (Gr.ofBelow (g61 _ (Below.refl _ _))) (Blk.ext k47 e54) (Or.inr (Nat.le_trans (Blk.lt ks) ((Gr.trans (Gr.ext e5) g12)).size))), (Gr.thn (Gr.trans (Gr.trans e32 g46) (Gr.ext e54)) (g61 _ (Below.refl _ _))), (Below.trans (Ext.trans (Ext.gr e32c g46 hz) e54) (Below.mono (g61 _ (Below.refl _ _)) ((Ext.gr (Ext.trans kc e5) g12 hz)).size)), S39⟩
   ·refine qi (cb q40) <| vL <| vd <| vd <| yE <| qd ?_
    obtain rfl := si H
    obtain rfl := si S39
    exact ⟨x3_14, v15, y17, (ku2 K31 rfl), h34, h35, h37, e32, e32c, rfl⟩
 ·rintro s25 w24 ⟨x3_21, v22, y23, K26, h62, h63, h64, e27, e27c, y65⟩
  rw [y65] at C20
  have H := C20
  replace H : _ = some _ := H
  refine qd <| wr <| lp rfl (qc h62) <| lp rfl (xa v22 rfl) <| nx <| qr <| qv ?_
  obtain rfl := si H
  exact fin1sos rfl (Gr.trans (Gr.trans (Gr.ext e5) g12) e27) h64 h63 ((Gr.trans (Gr.ext e5) g12)).size
theorem vF.calls {w : World} {a0 : List Int} {a1 : DSrc} {r : List (List Rec) × DSrc} {wc : World} {cv : Value} {bs : Nat} (kc : Ext wc w) (fc : Rd 1 (Go.UL.encI .u8) wc cv a0) (hz : wc.heap.size ≤ bs) (ks : Blk w bs (vt cv a1).toArray 128) (H : (vF.sh 8 a0 a1) = some r) :
  Calls Tryz.prog 57 #[.pointer (some ⟨bs, 0, none⟩)] w (Rt (RSOS 128 bs cv 35 52 5 qg w r.1 r.2)) := by
 obtain ⟨k, h⟩ := vF.eq a0 a1 H
 exact vF.walk kc fc hz ks h
/-! spec.StackDrawn -/
theorem vz.walk {w : World} {a0 : List Int} {v_a0 : Value} (f_a0 : Rd 1 (Go.UL.encI .u8) w v_a0 a0) {r : List (List Rec)} (H : vz.sh a0 = some r) :
  Calls Tryz.prog 9 #[v_a0] w (Rt (ROS 35 52 5 qg w r)) := by
 unfold vz.sh at H
 refine qh Tryz.func9 rfl (Nat.le_of_ble_eq_true rfl) Tryz.ntmps9 rfl ?_
 refine wr <| lp rfl (xa (.slice none 0 0) rfl) <| nx <| wr <| lp rfl (xm v_a0 rfl) ?_
 obtain ⟨z1, x2, H⟩ := bind_some H
 refine L_callSN (.plain rfl) rfl (ltb rfl) rfl Tryz.call56 (vM.calls (w := w) (a0 := a0) f_a0 x2) rfl <| fun b5 w3 z6 e4 k7 => ?_
 obtain ⟨z8, x9, H⟩ := bind_some H
 refine L_callSOS (.plain rfl) rfl (ltb rfl) rfl Tryz.call57 (vF.calls (w := w3) (a0 := a0) (a1 := z1) e4 f_a0 z6 k7 x9) rfl <| fun v15 w12 g13 k14 o16 => lp rfl (xa v15 rfl) <| nx <| qr <| qv ?_
 obtain rfl := si H
 exact fin1os rfl (Ext.gr e4 g13 z6) o16 (e4).size
theorem vz.calls {w : World} {a0 : List Int} {r : List (List Rec)} {v_a0 : Value} (f_a0 : Rd 1 (Go.UL.encI .u8) w v_a0 a0) (H : (vz.sh a0) = some r) :
  Calls Tryz.prog 9 #[v_a0] w (Rt (ROS 35 52 5 qg w r)) := vz.walk f_a0 (vz.eq a0 H)
/-! laws.FnMerge -/
abbrev law_FnMerge.e1 (x14_73 : Int) (z11 : List (List Rec)) := ((decide ((((qI z11).1).length : Int) ≤ x14_73)) || (!decide ((gt ((qI z11).1) x14_73) = (gt ((qI z11).1) x14_73))))
abbrev law_FnMerge.e2 (z102 : Rec) (z104 : Int) (z106 : Int) (z125 : Rec) (z127 : Int) (z129 : Int) (z148 : Int) (z150 : Int) (z160 : Int) := (((((!decide (z106 = z129)) || (!decide (z102 = z125))) || (!decide (z104 = z127))) || (!decide (z150 = 0))) || (!decide (z148 = z160)))
abbrev law_FnMerge.e3 (x14_73 : Int) (x15_74 : Int) (z11 : List (List Rec)) := ((law_FnMerge.e1 x14_73 z11) || (!decide (((gt ((qI z11).1) x14_73).path) = (gt ((qA z11).1) x15_74))))
abbrev law_FnMerge.e4 (x15_74 : Int) (z11 : List (List Rec)) (z127 : Int) := (jZ (gt z11 (IntKind.wrap .i64 (z127 - 1))) (gt ((qA z11).1) x15_74))
abbrev law_FnMerge.e5 (x14_73 : Int) (x15_74 : Int) (z11 : List (List Rec)) (z127 : Int) := ((law_FnMerge.e3 x14_73 x15_74 z11) || (!decide (((gt ((qI z11).1) x14_73).layer) = z127)))
abbrev law_FnMerge.e6 (x15_74 : Int) (z11 : List (List Rec)) := (vQ (gt ((qA z11).1) (IntKind.wrap .i64 (x15_74 - 1))) (gt ((qA z11).1) x15_74))
abbrev law_FnMerge.e7 (x14_73 : Int) (z11 : List (List Rec)) := (decide ((((qI z11).1).length : Int) ≤ x14_73))
abbrev law_FnMerge.e8 (z102 : Rec) (z104 : Int) (z106 : Int) (z125 : Rec) (z127 : Int) (z129 : Int) := (((!decide (z106 = z129)) || (!decide (z102 = z125))) || (!decide (z104 = z127)))
theorem law_FnMerge.walk {k : Nat} {w : World} {a0 : List Int} {a1 : List Int} (gv : GV 0 w) {v_a0 : Value} (f_a0 : Rd 1 (Go.UL.encI .u8) w v_a0 a0) {v_a1 : Value} (f_a1 : Rd 1 (Go.UL.encI .u8) w v_a1 a1) {r : Bool} (H : law_FnMerge.sh k a0 a1 = some r) :
  Calls Tryz.prog 5 #[v_a0, v_a1] w (Rt (RP w (.bool r))) := by
 unfold law_FnMerge.sh at H
 refine qh Tryz.func5 rfl (Nat.le_of_ble_eq_true rfl) Tryz.ntmps5 rfl ?_
 refine wr <| lp rfl (xa (.bool false) rfl) <| nx <| qk <| wr <| lp rfl (xm v_a0 rfl) <| lp rfl (vy Tryz.underlying22 rfl f_a0) <| lp rfl (jj rfl rfl) <| lp rfl (xm (.bool (decide (1048576 < (a0.length : Int)))) rfl) ?_
 obtain ⟨z2, x3, H⟩ := bind_some H
 refine jp 4 [(32, 36)] 35 (fun q => q = z2) ?_ ?_
 ·rcases qf x3 with ⟨b0_, H⟩ | ⟨b0_, H⟩
  ·refine ls rfl rfl rfl (cb b0_) rfl <| ls rfl rfl rfl (cb b0_) rfl <| ls rfl rfl rfl (cb b0_) rfl <| lp rfl (qD (b := true) (v := (.bool true)) (cb b0_) rfl) ?_
   obtain rfl := si H
   exact nx ⟨(ku4 kz rfl), ⟨_, rfl, rfl⟩, er⟩
  ·refine lg rfl rfl rfl rfl (cb b0_) (xm v_a1 rfl) <| lg rfl rfl rfl rfl (cb b0_) (vy Tryz.underlying22 rfl f_a1) <| lg rfl rfl rfl rfl (cb b0_) (jj rfl rfl) <| lp rfl (qD (b := false) (v := (.bool (decide (1048576 < (a1.length : Int))))) (cb b0_) rfl) ?_
   obtain rfl := si H
   exact nx ⟨(ku4 kz rfl), ⟨_, rfl, rfl⟩, er⟩
 intro s8 w4 z9 K5 hq h6 e7
 rw [hq] at h6; clear hq
 refine nx ?_
 rcases qf H with ⟨q10, H⟩ | ⟨q10, H⟩
 ·refine qp (h6.trans (cb q10)) <| wr <| lp rfl (xa (.bool true) rfl) <| nx <| qr <| qo <| qv ?_
  obtain rfl := si H
  exact vo rfl e7
 ·refine qi (h6.trans (cb q10)) <| qq <| qd <| wr <| lp rfl (xm v_a0 (K5 0 rfl)) ?_
  obtain ⟨z11, x12, H⟩ := bind_some H
  refine L_callOS (.plain rfl) rfl (ltb rfl) rfl Tryz.call9 (vz.calls (w := w4) (a0 := a0) (Rd.ext f_a0 e7) x12) rfl <| fun v15 w13 e14 o16 => lp rfl (xa v15 rfl) <| nx <| wr <| lp rfl (xm v15 rfl) ?_
  obtain ⟨c17, H⟩ := qa H
  obtain ⟨c18, H⟩ := qa H
  obtain ⟨c19, H⟩ := qa H
  refine JG (.plain rfl) rfl (ltb rfl) rfl Tryz.call28 (yV.calls (w := w13) (a0 := z11) (GV.ext gv (e7.t e14)) (yo.rd o16) (od c17) (od c18) (od c19)) rfl <| fun v22 w20 e21 o23 => lp rfl (xm (.tuple #[v22, (.int .i64 ((qA z11).2))]) rfl) <| lp rfl (qM (v := v22) rfl rfl) <| lp rfl (qM (v := (.int .i64 ((qA z11).2))) rfl rfl) <| lp rfl (xa v22 rfl) <| lp rfl (xa (.int .i64 ((qA z11).2)) rfl) <| nx <| wr <| lp rfl (xm v15 rfl) ?_
  obtain ⟨c24, H⟩ := qa H
  obtain ⟨c25, H⟩ := qa H
  obtain ⟨c26, H⟩ := qa H
  refine JG (.plain rfl) rfl (ltb rfl) rfl Tryz.call29 (yU.calls (w := w20) (a0 := z11) (yo.rd (yo.ext o16 e21)) (od c24) (od c25) (od c26)) rfl <| fun v29 w27 e28 o30 => lp rfl (xm (.tuple #[v29, (.int .i64 ((qA z11).2))]) rfl) <| lp rfl (qM (v := v29) rfl rfl) <| lp rfl (qM (v := (.int .i64 ((qA z11).2))) rfl rfl) <| lp rfl (xa v29 rfl) <| lp rfl (xa (.int .i64 ((qA z11).2)) rfl) <| nx <| wr <| lp rfl (xm v15 rfl) ?_
  obtain ⟨c31, H⟩ := qa H
  obtain ⟨c32, H⟩ := qa H
  obtain ⟨c33, H⟩ := qa H
  refine JG (.plain rfl) rfl (ltb rfl) rfl Tryz.call30 (vc.calls (w := w27) (a0 := z11) (GV.ext gv (((e7.t e14).t e21).t e28)) (yo.rd (yo.ext o16 (e21.t e28))) (od c31) (od c32) (od c33)) rfl <| fun v36 w34 e35 o37 => lp rfl (xm (.tuple #[v36, (.int .i64 ((qI z11).2))]) rfl) <| lp rfl (qM (v := v36) rfl rfl) <| lp rfl (qM (v := (.int .i64 ((qI z11).2))) rfl rfl) <| lp rfl (xa v36 rfl) <| lp rfl (xa (.int .i64 ((qI z11).2)) rfl) <| nx <| wr <| lp rfl (xm v15 rfl) ?_
  obtain ⟨c38, H⟩ := qa H
  obtain ⟨c39, H⟩ := qa H
  obtain ⟨c40, H⟩ := qa H
  refine JG (.plain rfl) rfl (ltb rfl) rfl Tryz.call31 (yp.calls (w := w34) (a0 := z11) (yo.rd (yo.ext o16 ((e21.t e28).t e35))) (od c38) (od c39) (od c40)) rfl <| fun v43 w41 e42 o44 => lp rfl (xm (.tuple #[v43, (.int .i64 ((qI z11).2))]) rfl) <| lp rfl (qM (v := v43) rfl rfl) <| lp rfl (qM (v := (.int .i64 ((qI z11).2))) rfl rfl) <| lp rfl (xa v43 rfl) <| lp rfl (xa (.int .i64 ((qI z11).2)) rfl) <| nx <| qk <| wr <| lp rfl (xm (.int .i64 ((qA z11).2)) rfl) <| lp rfl (je rfl rfl) <| lp rfl (xm (.bool (!decide (((qA z11).2) = 0))) rfl) ?_
  obtain ⟨z46, x47, H⟩ := bind_some H
  refine jp 5 [(61, 66)] 65 (fun q => q = z46) ?_ ?_
  ·rcases qf x47 with ⟨b44_, H⟩ | ⟨b44_, H⟩
   ·refine ls rfl rfl rfl (cb b44_) rfl <| ls rfl rfl rfl (cb b44_) rfl <| ls rfl rfl rfl (cb b44_) rfl <| ls rfl rfl rfl (cb b44_) rfl <| lp rfl (qD (b := true) (v := (.bool true)) (cb b44_) rfl) ?_
    obtain rfl := si H
    exact nx ⟨(ku1 (ku4 kz rfl) rfl), ⟨_, rfl, rfl⟩, er⟩
   ·refine lg rfl rfl rfl rfl (cb b44_) (xm v22 rfl) <| lg rfl rfl rfl rfl (cb b44_) (xm v29 rfl) ?_
    obtain ⟨c46, H⟩ := qa H
    refine y1 (tg rfl rfl rfl (cb b44_)) rfl (ltb rfl) rfl Tryz.call32 (vX.calls (w := w41) (a0 := (qA z11).1) (a1 := (qA z11).1) (Ow.rd (Ow.ext o23 ((e28.t e35).t e42))) (Ow.rd (Ow.ext o30 (e35.t e42))) (od c46)) rfl <| fun w47 e48 => lg rfl rfl rfl rfl (cb b44_) (yS rfl) <| lp rfl (qD (b := false) (v := (.bool (!(decide (((qA z11).1) = ((qA z11).1)))))) (cb b44_) rfl) ?_
    obtain rfl := si H
    exact nx ⟨(ku1 (ku4 kz rfl) rfl), ⟨_, rfl, rfl⟩, e48⟩
  intro s52 w48 z53 K49 hq h50 e51
  rw [hq] at h50; clear hq
  refine lp rfl (qc h50) ?_
  obtain ⟨z55, x56, H⟩ := bind_some H
  refine jp 3 [(67, 70)] 69 (fun q => q = z55) ?_ ?_
  ·rcases qf x56 with ⟨b53_, H⟩ | ⟨b53_, H⟩
   ·refine ls rfl rfl rfl (cb b53_) rfl <| ls rfl rfl rfl (cb b53_) rfl <| lp rfl (qD (b := true) (v := (.bool true)) (cb b53_) rfl) ?_
    obtain rfl := si H
    exact nx ⟨(ku3 kz rfl), ⟨_, rfl, rfl⟩, er⟩
   ·refine lg rfl rfl rfl rfl (cb b53_) (xm (.int .i64 ((qI z11).2)) (K49 11 rfl)) <| lg rfl rfl rfl rfl (cb b53_) (je rfl rfl) <| lp rfl (qD (b := false) (v := (.bool (!decide (((qI z11).2) = 0)))) (cb b53_) rfl) ?_
    obtain rfl := si H
    exact nx ⟨(ku3 kz rfl), ⟨_, rfl, rfl⟩, er⟩
  intro s61 w57 z62 K58 hq h59 e60
  rw [hq] at h59; clear hq
  refine lp rfl (qc h59) ?_
  obtain ⟨z64, x65, H⟩ := bind_some H
  refine jp 6 [(71, 77)] 76 (fun q => q = z64) ?_ ?_
  ·rcases qf x65 with ⟨b62_, H⟩ | ⟨b62_, H⟩
   ·refine ls rfl rfl rfl (cb b62_) rfl <| ls rfl rfl rfl (cb b62_) rfl <| ls rfl rfl rfl (cb b62_) rfl <| ls rfl rfl rfl (cb b62_) rfl <| ls rfl rfl rfl (cb b62_) rfl <| lp rfl (qD (b := true) (v := (.bool true)) (cb b62_) rfl) ?_
    obtain rfl := si H
    exact nx ⟨(ku2 (ku4 kz rfl) rfl), ⟨_, rfl, rfl⟩, er⟩
   ·refine lg rfl rfl rfl rfl (cb b62_) (xm v36 ((K58 10 rfl).trans (K49 10 rfl))) <| lg rfl rfl rfl rfl (cb b62_) (vy Tryz.underlying47 rfl (Ow.rd (Ow.ext o37 ((e42.t e51).t e60)))) <| lg rfl rfl rfl rfl (cb b62_) (xm v43 ((K58 12 rfl).trans (K49 12 rfl))) <| lg rfl rfl rfl rfl (cb b62_) (vy Tryz.underlying47 rfl (Ow.rd (Ow.ext o44 (e51.t e60)))) <| lg rfl rfl rfl rfl (cb b62_) (je rfl rfl) <| lp rfl (qD (b := false) (v := (.bool (!decide ((((qI z11).1).length : Int) = (((qI z11).1).length : Int))))) (cb b62_) rfl) ?_
    obtain rfl := si H
    exact nx ⟨(ku2 (ku4 kz rfl) rfl), ⟨_, rfl, rfl⟩, er⟩
  intro s70 w66 z71 K67 hq h68 e69
  rw [hq] at h68; clear hq
  refine nx ?_
  rcases qf H with ⟨q72, H⟩ | ⟨q72, H⟩
  ·refine qp (h68.trans (cb q72)) <| wr <| lp rfl (xa (.bool false) rfl) <| nx <| qr <| qo <| qv ?_
   obtain rfl := si H
   exact vo rfl ((((((((e7.t e14).t e21).t e28).t e35).t e42).t e51).t e60).t e69)
  ·refine qi (h68.trans (cb q72)) <| qq <| qd <| wr <| lp rfl (xa (.int .i64 0) rfl) <| nx <| qk <| wr <| lp rfl (xa (.int .i64 0) rfl) <| nx ?_
   obtain ⟨z75, L76, C77⟩ := bind_some H
   clear H
   refine  vH (fun s0 sQ wQ => ∃ (x14_78 : Int), Kp [(4, 5), (14, 28), (77, 228)] s0 sQ ∧ sQ 14 = .int .i64 x14_78 ∧ Ext w66 wQ ∧ z75 = .inr x14_78) ?_ ?_
   ·refine qF <| vB (fun s0 kk sQ wQ => ∃ (x14_73 : Int) (x15_74 : Int), Kp [(4, 5), (14, 28), (77, 228)] s0 sQ ∧ sQ 14 = .int .i64 x14_73 ∧ sQ 15 = .int .i64 x15_74 ∧ Ext w66 wQ ∧ qn (law_FnMerge.b1 z11) kk (x14_73, x15_74) = some z75) k ⟨0, 0, kz, rfl, rfl, er, L76⟩ ?_
    rintro k83 s84 w85 ⟨x14_73, x15_74, K86, h89, h90, e87, L88⟩
    cases k83 with
    | zero => exact absurd L88 (by simp [qn])
    | succ k83 =>
     obtain ⟨t91, H, S92⟩ := qN L88
     clear L88
     unfold law_FnMerge.b1 at H
     refine qk <| wr <| lp rfl (qc h90) <| lp rfl (xm v29 ((K86 8 rfl).trans ((K67 8 rfl).trans ((K58 8 rfl).trans (K49 8 rfl))))) <| lp rfl (vy Tryz.underlying44 rfl (Ow.rd (Ow.ext o30 (((((e35.t e42).t e51).t e60).t e69).t e87)))) <| lp rfl (yH rfl rfl) <| nx ?_
     rcases qf H with ⟨q93, H⟩ | ⟨q93, H⟩
     ·refine qp (cb q93) <| qq <| qd <| qk <| qF <| wr <| lp rfl (xm v15 ((K86 5 rfl).trans ((K67 5 rfl).trans ((K58 5 rfl).trans (K49 5 rfl))))) <| lp rfl (xm v29 ((K86 8 rfl).trans ((K67 8 rfl).trans ((K58 8 rfl).trans (K49 8 rfl))))) <| lp rfl (qc h90) ?_
      obtain ⟨c94, H⟩ := qa H
      refine vw (.plain rfl) rfl (ltb rfl) rfl Tryz.underlying44 Tryz.sizeOf9 rfl (Ow.rd (Ow.ext o30 (((((e35.t e42).t e51).t e60).t e69).t e87))) rfl c94 <| fun p95 h96 => lp rfl (qQ Tryz.isAgg9 rfl h96 rfl) ?_
      obtain ⟨c97, H⟩ := qa H
      obtain ⟨c98, H⟩ := qa H
      obtain ⟨c99, H⟩ := qa H
      obtain ⟨z102, x103, H⟩ := bind_some H
      replace x103 := si x103
      obtain ⟨z104, x105, H⟩ := bind_some H
      replace x105 := si x105
      obtain ⟨z106, x107, H⟩ := bind_some H
      replace x107 := si x107
      refine lc rfl rfl Tryz.call33 (yK.calls (w := w85) (a0 := z11) (a1 := gt ((qA z11).1) x15_74) (GV.ext gv (((((((((e7.t e14).t e21).t e28).t e35).t e42).t e51).t e60).t e69).t e87)) (yo.rd (yo.ext o16 (((((((e21.t e28).t e35).t e42).t e51).t e60).t e69).t e87))) (od c97) (od c98) (od c99)) rfl <| fun w100 e101 => lp rfl (qc rfl) <| lp rfl (qM rfl rfl) <| lp rfl (qM (v := (.int .i64 ((vG z11 (gt ((qA z11).1) x15_74)).2.1))) rfl rfl) <| lp rfl (qM (v := (.int .i64 ((vG z11 (gt ((qA z11).1) x15_74)).2.2))) rfl rfl) <| y5 (.plain rfl) rfl (ltb rfl) rfl Tryz.zeroValue52 <| fun b108 w109 z110 z111 e112 k113 => vk (.plain rfl) rfl rfl Tryz.sizeOf52 rfl (congrArg (fun q9 => Value.agg (qg q9).toArray) x103) rfl rfl rfl k113 <| fun w114 h115 k116 => lp rfl (xa (.int .i64 z104) (congrArg (Value.int .i64) x105)) <| lp rfl (xa (.int .i64 z106) (congrArg (Value.int .i64) x107)) <| nx <| wr <| lp rfl (xm v15 ((K86 5 rfl).trans ((K67 5 rfl).trans ((K58 5 rfl).trans (K49 5 rfl))))) <| lp rfl (xm v29 ((K86 8 rfl).trans ((K67 8 rfl).trans ((K58 8 rfl).trans (K49 8 rfl))))) <| lp rfl (qc h90) ?_
      obtain ⟨c117, H⟩ := qa H
      refine vw (.plain rfl) rfl (ltb rfl) rfl Tryz.underlying44 Tryz.sizeOf9 rfl (Ow.rd (Ow.ext o30 (((((((e35.t e42).t e51).t e60).t e69).t e87).t e101).t (Below.trans e112 (Wr.below h115 (Nat.le_of_eq z110)))))) rfl c117 <| fun p118 h119 => lp rfl (qQ Tryz.isAgg9 rfl h119 rfl) ?_
      obtain ⟨c120, H⟩ := qa H
      obtain ⟨c121, H⟩ := qa H
      obtain ⟨c122, H⟩ := qa H
      obtain ⟨z125, x126, H⟩ := bind_some H
      replace x126 := si x126
      obtain ⟨z127, x128, H⟩ := bind_some H
      replace x128 := si x128
      obtain ⟨z129, x130, H⟩ := bind_some H
      replace x130 := si x130
      refine lc rfl rfl Tryz.call34 (yI.calls (w := w114) (a0 := z11) (a1 := gt ((qA z11).1) x15_74) (yo.rd (yo.ext o16 (((((((((e21.t e28).t e35).t e42).t e51).t e60).t e69).t e87).t e101).t (Below.trans e112 (Wr.below h115 (Nat.le_of_eq z110)))))) (od c120) (od c121) (od c122)) rfl <| fun w123 e124 => lp rfl (qc rfl) <| lp rfl (qM rfl rfl) <| lp rfl (qM (v := (.int .i64 ((vG z11 (gt ((qA z11).1) x15_74)).2.1))) rfl rfl) <| lp rfl (qM (v := (.int .i64 ((vG z11 (gt ((qA z11).1) x15_74)).2.2))) rfl rfl) <| y5 (.plain rfl) rfl (ltb rfl) rfl Tryz.zeroValue52 <| fun b131 w132 z133 z134 e135 k136 => vk (.plain rfl) rfl rfl Tryz.sizeOf52 rfl (congrArg (fun q9 => Value.agg (qg q9).toArray) x126) rfl rfl rfl k136 <| fun w137 h138 k139 => lp rfl (xa (.int .i64 z127) (congrArg (Value.int .i64) x128)) <| lp rfl (xa (.int .i64 z129) (congrArg (Value.int .i64) x130)) <| nx <| wr <| lp rfl (xm v15 ((K86 5 rfl).trans ((K67 5 rfl).trans ((K58 5 rfl).trans (K49 5 rfl))))) <| lp rfl (xm v29 ((K86 8 rfl).trans ((K67 8 rfl).trans ((K58 8 rfl).trans (K49 8 rfl))))) <| lp rfl (qc h90) ?_
      obtain ⟨c140, H⟩ := qa H
      refine vw (.plain rfl) rfl (ltb rfl) rfl Tryz.underlying44 Tryz.sizeOf9 rfl (Ow.rd (Ow.ext o30 (((((((((e35.t e42).t e51).t e60).t e69).t e87).t e101).t (Below.trans e112 (Wr.below h115 (Nat.le_of_eq z110)))).t e124).t (Below.trans e135 (Wr.below h138 (Nat.le_of_eq z133)))))) rfl c140 <| fun p141 h142 => lp rfl (qQ Tryz.isAgg9 rfl h142 rfl) ?_
      obtain ⟨c143, H⟩ := qa H
      obtain ⟨c144, H⟩ := qa H
      obtain ⟨c145, H⟩ := qa H
      obtain ⟨z148, x149, H⟩ := bind_some H
      replace x149 := si x149
      obtain ⟨z150, x151, H⟩ := bind_some H
      replace x151 := si x151
      refine lc rfl rfl Tryz.call35 (yJ.calls (w := w137) (a0 := z11) (a1 := gt ((qA z11).1) x15_74) (GV.ext gv (((((((((((((e7.t e14).t e21).t e28).t e35).t e42).t e51).t e60).t e69).t e87).t e101).t (Below.trans e112 (Wr.below h115 (Nat.le_of_eq z110)))).t e124).t (Below.trans e135 (Wr.below h138 (Nat.le_of_eq z133))))) (yo.rd (yo.ext o16 (((((((((((e21.t e28).t e35).t e42).t e51).t e60).t e69).t e87).t e101).t (Below.trans e112 (Wr.below h115 (Nat.le_of_eq z110)))).t e124).t (Below.trans e135 (Wr.below h138 (Nat.le_of_eq z133)))))) (od c143) (od c144) (od c145)) rfl <| fun w146 e147 => lp rfl (qc rfl) <| lp rfl (qM (v := (.int .i64 ((cutDepth z11 (gt ((qA z11).1) x15_74)).1))) rfl rfl) <| lp rfl (qM (v := (.int .i64 ((cutDepth z11 (gt ((qA z11).1) x15_74)).2))) rfl rfl) <| lp rfl (xa (.int .i64 z148) (congrArg (Value.int .i64) x149)) <| lp rfl (xa (.int .i64 z150) (congrArg (Value.int .i64) x151)) <| nx <| wr <| lp rfl (xm v15 ((K86 5 rfl).trans ((K67 5 rfl).trans ((K58 5 rfl).trans (K49 5 rfl))))) <| lp rfl (xm v29 ((K86 8 rfl).trans ((K67 8 rfl).trans ((K58 8 rfl).trans (K49 8 rfl))))) <| lp rfl (qc h90) ?_
      obtain ⟨c152, H⟩ := qa H
      refine vw (.plain rfl) rfl (ltb rfl) rfl Tryz.underlying44 Tryz.sizeOf9 rfl (Ow.rd (Ow.ext o30 ((((((((((e35.t e42).t e51).t e60).t e69).t e87).t e101).t (Below.trans e112 (Wr.below h115 (Nat.le_of_eq z110)))).t e124).t (Below.trans e135 (Wr.below h138 (Nat.le_of_eq z133)))).t e147))) rfl c152 <| fun p153 h154 => lp rfl (qQ Tryz.isAgg9 rfl h154 rfl) ?_
      obtain ⟨c155, H⟩ := qa H
      obtain ⟨c156, H⟩ := qa H
      obtain ⟨c157, H⟩ := qa H
      obtain ⟨z160, x161, H⟩ := bind_some H
      replace x161 := si x161
      obtain ⟨z162, x163, H⟩ := bind_some H
      replace x163 := si x163
      refine lc rfl rfl Tryz.call36 (yL.calls (w := w146) (a0 := z11) (a1 := gt ((qA z11).1) x15_74) (yo.rd (yo.ext o16 ((((((((((((e21.t e28).t e35).t e42).t e51).t e60).t e69).t e87).t e101).t (Below.trans e112 (Wr.below h115 (Nat.le_of_eq z110)))).t e124).t (Below.trans e135 (Wr.below h138 (Nat.le_of_eq z133)))).t e147))) (od c155) (od c156) (od c157)) rfl <| fun w158 e159 => lp rfl (qc rfl) <| lp rfl (qM (v := (.int .i64 ((cutDepth z11 (gt ((qA z11).1) x15_74)).1))) rfl rfl) <| lp rfl (qM (v := (.int .i64 ((cutDepth z11 (gt ((qA z11).1) x15_74)).2))) rfl rfl) <| lp rfl (xa (.int .i64 z160) (congrArg (Value.int .i64) x161)) <| lp rfl (xa (.int .i64 z162) (congrArg (Value.int .i64) x163)) <| nx <| qk <| qk ?_
      obtain ⟨c164, H⟩ := qa H
      obtain ⟨c167, H⟩ := qa H
      refine YK [LEq (.int .i64 z106), LEq (.int .i64 z129), LEq (.bool (!decide (z106 = z129))), LEq (.bool (!decide (z106 = z129))), LIf (!(!decide (z106 = z129))) (LEq (.agg #[(.int .i64 z102.kind), (S z102.path), (S z102.body), (.int .i64 z102.mode), (.bool z102.opq)])), LIf (!(!decide (z106 = z129))) (LEq (.agg #[(.int .i64 z125.kind), (S z125.path), (S z125.body), (.int .i64 z125.mode), (.bool z125.opq)])), LIf (!(!decide (z106 = z129))) (LEq (.bool (!decide (z102 = z125)))), LEq (.bool ((!decide (z106 = z129)) || (!decide (z102 = z125)))), LEq (.bool ((!decide (z106 = z129)) || (!decide (z102 = z125)))), LIf (!((!decide (z106 = z129)) || (!decide (z102 = z125)))) (LEq (.int .i64 z104)), LIf (!((!decide (z106 = z129)) || (!decide (z102 = z125)))) (LEq (.int .i64 z127)), LIf (!((!decide (z106 = z129)) || (!decide (z102 = z125)))) (LEq (.bool (!decide (z104 = z127)))), LEq (.bool (law_FnMerge.e8 z102 z104 z106 z125 z127 z129)), LEq (.bool (law_FnMerge.e8 z102 z104 z106 z125 z127 z129)), LIf (!(law_FnMerge.e8 z102 z104 z106 z125 z127 z129)) (LEq (.int .i64 z150)), LIf (!(law_FnMerge.e8 z102 z104 z106 z125 z127 z129)) (LEq (.bool (!decide (z150 = 0)))), LEq (.bool ((law_FnMerge.e8 z102 z104 z106 z125 z127 z129) || (!decide (z150 = 0)))), LEq (.bool ((law_FnMerge.e8 z102 z104 z106 z125 z127 z129) || (!decide (z150 = 0)))), LIf (!((law_FnMerge.e8 z102 z104 z106 z125 z127 z129) || (!decide (z150 = 0)))) (LEq (.int .i64 z148)), LIf (!((law_FnMerge.e8 z102 z104 z106 z125 z127 z129) || (!decide (z150 = 0)))) (LEq (.int .i64 z160)), LIf (!((law_FnMerge.e8 z102 z104 z106 z125 z127 z129) || (!decide (z150 = 0)))) (LEq (.bool (!decide (z148 = z160)))), LEq (.bool (law_FnMerge.e2 z102 z104 z106 z125 z127 z129 z148 z150 z160)), LEq (.bool (law_FnMerge.e2 z102 z104 z106 z125 z127 z129 z148 z150 z160)), LIf (!(law_FnMerge.e2 z102 z104 z106 z125 z127 z129 z148 z150 z160)) (LEq (.int .i64 x15_74)), LIf (!(law_FnMerge.e2 z102 z104 z106 z125 z127 z129 z148 z150 z160)) (LEq (.bool (decide (0 < x15_74)))), LIf (!(law_FnMerge.e2 z102 z104 z106 z125 z127 z129 z148 z150 z160)) (LEq (.bool (decide (0 < x15_74)))), LIf ((!(law_FnMerge.e2 z102 z104 z106 z125 z127 z129 z148 z150 z160)) && (decide (0 < x15_74))) (LEq v29), LIf ((!(law_FnMerge.e2 z102 z104 z106 z125 z127 z129 z148 z150 z160)) && (decide (0 < x15_74))) (LEq (.int .i64 x15_74)), LIf ((!(law_FnMerge.e2 z102 z104 z106 z125 z127 z129 z148 z150 z160)) && (decide (0 < x15_74))) (LEq (.int .i64 (IntKind.wrap .i64 (x15_74 - 1)))), LIf ((!(law_FnMerge.e2 z102 z104 z106 z125 z127 z129 z148 z150 z160)) && (decide (0 < x15_74))) (yO (vr (gt ((qA z11).1) (IntKind.wrap .i64 (x15_74 - 1))))), LIf ((!(law_FnMerge.e2 z102 z104 z106 z125 z127 z129 z148 z150 z160)) && (decide (0 < x15_74))) (LEq (S (gt ((qA z11).1) (IntKind.wrap .i64 (x15_74 - 1))))), LIf ((!(law_FnMerge.e2 z102 z104 z106 z125 z127 z129 z148 z150 z160)) && (decide (0 < x15_74))) (LEq v29), LIf ((!(law_FnMerge.e2 z102 z104 z106 z125 z127 z129 z148 z150 z160)) && (decide (0 < x15_74))) (LEq (.int .i64 x15_74)), LIf ((!(law_FnMerge.e2 z102 z104 z106 z125 z127 z129 z148 z150 z160)) && (decide (0 < x15_74))) (yO (vr (gt ((qA z11).1) x15_74))), LIf ((!(law_FnMerge.e2 z102 z104 z106 z125 z127 z129 z148 z150 z160)) && (decide (0 < x15_74))) (LEq (S (gt ((qA z11).1) x15_74))), LIf ((!(law_FnMerge.e2 z102 z104 z106 z125 z127 z129 z148 z150 z160)) && (decide (0 < x15_74))) (LEq (.bool (law_FnMerge.e6 x15_74 z11))), LIf ((!(law_FnMerge.e2 z102 z104 z106 z125 z127 z129 z148 z150 z160)) && (decide (0 < x15_74))) (LEq (.bool (!(law_FnMerge.e6 x15_74 z11)))), LIf (!(law_FnMerge.e2 z102 z104 z106 z125 z127 z129 z148 z150 z160)) (LEq (.bool ((decide (0 < x15_74)) && (!(law_FnMerge.e6 x15_74 z11))))), LEq (.bool ((law_FnMerge.e2 z102 z104 z106 z125 z127 z129 z148 z150 z160) || ((decide (0 < x15_74)) && (!(law_FnMerge.e6 x15_74 z11)))))] (by kernel_rfl) (by kernel_rfl) ⟨qm, qm, qm, qm, lm, lm, lm, qm, qm, lm, lm, lm, qm, qm, lm, lm, qm, qm, lm, lm, lm, qm, qm, lm, lm, lm, lm, lm, lm, (LIf.mono yO.mono), lm, lm, lm, (LIf.mono yO.mono), lm, lm, lm, lm, qm, trivial⟩ ⟨?_, ?_, ?_, ?_, ?_, ?_, ?_, ?_, ?_, ?_, ?_, ?_, ?_, ?_, ?_, ?_, ?_, ?_, ?_, ?_, ?_, ?_, ?_, ?_, ?_, ?_, ?_, ?_, ?_, ?_, ?_, ?_, ?_, ?_, ?_, ?_, ?_, ?_, ?_, trivial⟩ ?_
      ·exact fun s x e f d u => lp rfl (xm (.int .i64 z106) (f 18 rfl)) <| se rfl rfl
      ·exact fun s x e f d u => lp rfl (xm (.int .i64 z129) (f 21 rfl)) <| se rfl rfl
      ·exact fun s x e f d u => lp rfl (je (d 0 rfl) (d 1 rfl)) <| se rfl rfl
      ·exact fun s x e f d u => lp rfl (qc (d 2 rfl)) <| se rfl rfl
      ·exact fun s x e f d u => gF rfl rfl rfl rfl (d 3 rfl) rfl fun b t => lt t rfl rfl (vC Tryz.isAgg52 Tryz.sizeOf52 rfl (f 16 rfl) (Blk.at0 (Blk.ext k116 ((((e124.t (Below.trans e135 (Wr.below h138 (Nat.le_of_eq z133)))).t e147).t e159).t e)))) <| sg rfl rfl b rfl
      ·exact fun s x e f d u => gF rfl rfl rfl rfl (d 3 rfl) rfl fun b t => lt t rfl rfl (vC Tryz.isAgg52 Tryz.sizeOf52 rfl (f 19 rfl) (Blk.at0 (Blk.ext k139 ((e147.t e159).t e)))) <| sg rfl rfl b rfl
      ·exact fun s x e f d u => gF rfl rfl rfl rfl (d 3 rfl) rfl fun b t => lt t rfl rfl (X_neA Eqg.t52 (Eqs.t52 z102 z125) ((d 4 rfl).1 (qE (qX b))) ((d 5 rfl).1 (qE (qX b)))) <| sg rfl rfl b rfl
      ·exact fun s x e f d u => lp rfl (jQ (d 3 rfl) rfl fun h => ((d 6 rfl).1 (qE h))) <| se rfl rfl
      ·exact fun s x e f d u => lp rfl (qc (d 7 rfl)) <| se rfl rfl
      ·exact fun s x e f d u => gF rfl rfl rfl rfl (d 8 rfl) rfl fun b t => lt t rfl rfl (xm (.int .i64 z104) (f 17 rfl)) <| sg rfl rfl b rfl
      ·exact fun s x e f d u => gF rfl rfl rfl rfl (d 8 rfl) rfl fun b t => lt t rfl rfl (xm (.int .i64 z127) (f 20 rfl)) <| sg rfl rfl b rfl
      ·exact fun s x e f d u => gF rfl rfl rfl rfl (d 8 rfl) rfl fun b t => lt t rfl rfl (je ((d 9 rfl).1 (qE (qX b))) ((d 10 rfl).1 (qE (qX b)))) <| sg rfl rfl b rfl
      ·exact fun s x e f d u => lp rfl (jQ (d 8 rfl) rfl fun h => ((d 11 rfl).1 (qE h))) <| se rfl rfl
      ·exact fun s x e f d u => lp rfl (qc (d 12 rfl)) <| se rfl rfl
      ·exact fun s x e f d u => gF rfl rfl rfl rfl (d 13 rfl) rfl fun b t => lt t rfl rfl (xm (.int .i64 z150) (f 23 rfl)) <| sg rfl rfl b rfl
      ·exact fun s x e f d u => gF rfl rfl rfl rfl (d 13 rfl) rfl fun b t => lt t rfl rfl (je ((d 14 rfl).1 (qE (qX b))) rfl) <| sg rfl rfl b rfl
      ·exact fun s x e f d u => lp rfl (jQ (d 13 rfl) rfl fun h => ((d 15 rfl).1 (qE h))) <| se rfl rfl
      ·exact fun s x e f d u => lp rfl (qc (d 16 rfl)) <| se rfl rfl
      ·exact fun s x e f d u => gF rfl rfl rfl rfl (d 17 rfl) rfl fun b t => lt t rfl rfl (xm (.int .i64 z148) (f 22 rfl)) <| sg rfl rfl b rfl
      ·exact fun s x e f d u => gF rfl rfl rfl rfl (d 17 rfl) rfl fun b t => lt t rfl rfl (xm (.int .i64 z160) (f 24 rfl)) <| sg rfl rfl b rfl
      ·exact fun s x e f d u => gF rfl rfl rfl rfl (d 17 rfl) rfl fun b t => lt t rfl rfl (je ((d 18 rfl).1 (qE (qX b))) ((d 19 rfl).1 (qE (qX b)))) <| sg rfl rfl b rfl
      ·exact fun s x e f d u => lp rfl (jQ (d 17 rfl) rfl fun h => ((d 20 rfl).1 (qE h))) <| se rfl rfl
      ·exact fun s x e f d u => lp rfl (qc (d 21 rfl)) <| se rfl rfl
      ·exact fun s x e f d u => gF rfl rfl rfl rfl (d 22 rfl) rfl fun b t => lt t rfl rfl (xm (.int .i64 x15_74) ((f 15 rfl).trans h90)) <| sg rfl rfl b rfl
      ·exact fun s x e f d u => gF rfl rfl rfl rfl (d 22 rfl) rfl fun b t => lt t rfl rfl (jj ((d 23 rfl).1 (qE (qX b))) rfl) <| sg rfl rfl b rfl
      ·exact fun s x e f d u => gF rfl rfl rfl rfl (d 22 rfl) rfl fun b t => lt t rfl rfl (xm (.bool (decide (0 < x15_74))) ((d 24 rfl).1 (qE (qX b)))) <| sg rfl rfl b rfl
      ·exact fun s x e f d u => hT rfl rfl rfl rfl (d 25 rfl) rfl fun b t => lt t rfl rfl (xm v29 ((f 8 rfl).trans ((K86 8 rfl).trans ((K67 8 rfl).trans ((K58 8 rfl).trans (K49 8 rfl)))))) <| sg rfl rfl b rfl
      ·exact fun s x e f d u => hT rfl rfl rfl rfl (d 25 rfl) rfl fun b t => lt t rfl rfl (xm (.int .i64 x15_74) ((f 15 rfl).trans h90)) <| sg rfl rfl b rfl
      ·exact fun s x e f d u => hT rfl rfl rfl rfl (d 25 rfl) rfl fun b t => lt t rfl rfl (jl ((d 27 rfl).1 (qW (qE (qX (jM b))) (jL b))) rfl) <| sg rfl rfl b rfl
      ·exact fun s x e f d u => hT rfl rfl rfl rfl (d 25 rfl) rfl fun b t => vw t rfl (ltb rfl) rfl Tryz.underlying44 Tryz.sizeOf9 ((d 26 rfl).1 (qW (qE (qX (jM b))) (jL b))) (Ow.rd (Ow.ext o30 ((((((((((((e35.t e42).t e51).t e60).t e69).t e87).t e101).t (Below.trans e112 (Wr.below h115 (Nat.le_of_eq z110)))).t e124).t (Below.trans e135 (Wr.below h138 (Nat.le_of_eq z133)))).t e147).t e159).t e))) ((d 28 rfl).1 (qW (qE (qX (jM b))) (jL b))) (yB b c164) <| fun p173 h174 => sg rfl rfl b ⟨_, rfl, h174⟩
      ·intro s x e f d u
       refine hT rfl rfl rfl rfl (d 25 rfl) rfl fun b t => ?_
       obtain ⟨p175, h176, h177⟩ := ((d 29 rfl).1 (qW (qE (qX (jM b))) (jL b)))
       exact lt t rfl rfl (qQ Tryz.isAgg9 h176 h177 rfl) <| sg rfl rfl b rfl
      ·exact fun s x e f d u => hT rfl rfl rfl rfl (d 25 rfl) rfl fun b t => lt t rfl rfl (xm v29 ((f 8 rfl).trans ((K86 8 rfl).trans ((K67 8 rfl).trans ((K58 8 rfl).trans (K49 8 rfl)))))) <| sg rfl rfl b rfl
      ·exact fun s x e f d u => hT rfl rfl rfl rfl (d 25 rfl) rfl fun b t => lt t rfl rfl (xm (.int .i64 x15_74) ((f 15 rfl).trans h90)) <| sg rfl rfl b rfl
      ·exact fun s x e f d u => hT rfl rfl rfl rfl (d 25 rfl) rfl fun b t => vw t rfl (ltb rfl) rfl Tryz.underlying44 Tryz.sizeOf9 ((d 31 rfl).1 (qW (qE (qX (jM b))) (jL b))) (Ow.rd (Ow.ext o30 ((((((((((((e35.t e42).t e51).t e60).t e69).t e87).t e101).t (Below.trans e112 (Wr.below h115 (Nat.le_of_eq z110)))).t e124).t (Below.trans e135 (Wr.below h138 (Nat.le_of_eq z133)))).t e147).t e159).t e))) ((d 32 rfl).1 (qW (qE (qX (jM b))) (jL b))) (yB b c167) <| fun p179 h180 => sg rfl rfl b ⟨_, rfl, h180⟩
      ·intro s x e f d u
       refine hT rfl rfl rfl rfl (d 25 rfl) rfl fun b t => ?_
       obtain ⟨p181, h182, h183⟩ := ((d 33 rfl).1 (qW (qE (qX (jM b))) (jL b)))
       exact lt t rfl rfl (qQ Tryz.isAgg9 h182 h183 rfl) <| sg rfl rfl b rfl
      ·exact fun s x e f d u => hT rfl rfl rfl rfl (d 25 rfl) rfl fun b t => y1 t rfl (ltb rfl) rfl Tryz.call37 (jc.calls (w := x) (a0 := gt ((qA z11).1) (IntKind.wrap .i64 (x15_74 - 1))) (a1 := gt ((qA z11).1) x15_74) (GV.ext gv ((((((((((((((((e7.t e14).t e21).t e28).t e35).t e42).t e51).t e60).t e69).t e87).t e101).t (Below.trans e112 (Wr.below h115 (Nat.le_of_eq z110)))).t e124).t (Below.trans e135 (Wr.below h138 (Nat.le_of_eq z133)))).t e147).t e159).t e))) (vI ((d 30 rfl).1 (qW (qE (qX (jM b))) (jL b))) (vI ((d 34 rfl).1 (qW (qE (qX (jM b))) (jL b))) rfl)) <| fun w184 e185 => sgx rfl rfl b e185 rfl
      ·exact fun s x e f d u => hT rfl rfl rfl rfl (d 25 rfl) rfl fun b t => lt t rfl rfl (yS ((d 35 rfl).1 (qW (qE (qX (jM b))) (jL b)))) <| sg rfl rfl b rfl
      ·exact fun s x e f d u => gF rfl rfl rfl rfl (d 22 rfl) rfl fun b t => lt t rfl rfl (jX ((d 25 rfl).1 (qE (qX b))) rfl fun h => ((d 36 rfl).1 (qW (qE (qX b)) h))) <| sg rfl rfl b rfl
      ·exact fun s x e f d u => lp rfl (jQ (d 22 rfl) rfl fun h => ((d 37 rfl).1 (qE h))) <| se rfl rfl
      intro s186 w187 e188 hf189 ha190
      have K191 := Kp.ofD (kp := [(121, 160)]) rfl hf189
      have d192 : s186 159 = (.bool ((law_FnMerge.e2 z102 z104 z106 z125 z127 z129 z148 z150 z160) || ((decide (0 < x15_74)) && (!(law_FnMerge.e6 x15_74 z11))))) := ha190 38 rfl
      clear ha190 hf189
      refine qd ?_
      rcases qf H with ⟨q193, H⟩ | ⟨q193, H⟩
      ·refine qp (d192.trans (cb q193)) <| wr <| lp rfl (xa (.bool false) rfl) <| nx <| qr <| qo <| vi <| qo <| qo <| vi <| qo <| qo <| qv ?_
       obtain rfl := si H
       obtain rfl := si S92
       have H := C77
       obtain rfl := si H
       exact vo rfl ((((((((((((((((e7.t e14).t e21).t e28).t e35).t e42).t e51).t e60).t e69).t e87).t e101).t (Below.trans e112 (Wr.below h115 (Nat.le_of_eq z110)))).t e124).t (Below.trans e135 (Wr.below h138 (Nat.le_of_eq z133)))).t e147).t e159).t e188)
      ·refine qi (d192.trans (cb q193)) <| qq <| qd <| qk <| wr <| lp rfl (xm (.int .i64 z129) (K191 21 rfl)) <| lp rfl (je rfl rfl) <| nx ?_
       rcases qf H with ⟨q194, H⟩ | ⟨q194, H⟩
       ·refine qp (cb q194) <| vL <| vd <| yE <| qd <| qJ <| lp rfl (xm (.int .i64 x15_74) ((K191 15 rfl).trans h90)) <| lp rfl (vW rfl rfl) <| lp rfl (xa (.int .i64 (IntKind.wrap .i64 (x15_74 + 1))) rfl) <| nx ?_
        obtain rfl := si H
        exact ⟨_, Nat.lt_succ_self _, x14_73, IntKind.wrap .i64 (x15_74 + 1), (ku1 (ku4 (Kp.cut (ku4 (ku8 (ku8 (ku8 (ku8 (ku8 (ku8 K86 rfl) rfl) rfl) rfl) rfl) rfl) rfl) K191 rfl) rfl) rfl), ((K191 14 rfl).trans h89), rfl, (((((((e87.t e101).t (Below.trans e112 (Wr.below h115 (Nat.le_of_eq z110)))).t e124).t (Below.trans e135 (Wr.below h138 (Nat.le_of_eq z133)))).t e147).t e159).t e188), S92⟩
       ·refine qi (cb q194) <| qq <| qd <| qk <| qk ?_
        obtain ⟨c195, H⟩ := qa H
        obtain ⟨c198, H⟩ := qa H
        obtain ⟨c201, H⟩ := qa H
        obtain ⟨c204, H⟩ := qa H
        obtain ⟨c207, H⟩ := qa H
        refine YK [LEq (.int .i64 x14_73), LEq v43, LEq (.int .i64 (((qI z11).1).length : Int)), LEq (.bool (law_FnMerge.e7 x14_73 z11)), LEq (.bool (law_FnMerge.e7 x14_73 z11)), LIf (!(law_FnMerge.e7 x14_73 z11)) (LEq v36), LIf (!(law_FnMerge.e7 x14_73 z11)) (LEq (.int .i64 x14_73)), LIf (!(law_FnMerge.e7 x14_73 z11)) (yO (yt (gt ((qI z11).1) x14_73))), LIf (!(law_FnMerge.e7 x14_73 z11)) (LEq (.agg (yt (gt ((qI z11).1) x14_73)).toArray)), LIf (!(law_FnMerge.e7 x14_73 z11)) (LEq v43), LIf (!(law_FnMerge.e7 x14_73 z11)) (LEq (.int .i64 x14_73)), LIf (!(law_FnMerge.e7 x14_73 z11)) (yO (yt (gt ((qI z11).1) x14_73))), LIf (!(law_FnMerge.e7 x14_73 z11)) (LEq (.agg (yt (gt ((qI z11).1) x14_73)).toArray)), LIf (!(law_FnMerge.e7 x14_73 z11)) (LEq (.bool (!decide ((gt ((qI z11).1) x14_73) = (gt ((qI z11).1) x14_73))))), LEq (.bool (law_FnMerge.e1 x14_73 z11)), LEq (.bool (law_FnMerge.e1 x14_73 z11)), LIf (!(law_FnMerge.e1 x14_73 z11)) (LEq v36), LIf (!(law_FnMerge.e1 x14_73 z11)) (LEq (.int .i64 x14_73)), LIf (!(law_FnMerge.e1 x14_73 z11)) (yO (yt (gt ((qI z11).1) x14_73))), LIf (!(law_FnMerge.e1 x14_73 z11)) (LAt 0 (yt (gt ((qI z11).1) x14_73))), LIf (!(law_FnMerge.e1 x14_73 z11)) (LEq (S ((gt ((qI z11).1) x14_73).path))), LIf (!(law_FnMerge.e1 x14_73 z11)) (LEq v29), LIf (!(law_FnMerge.e1 x14_73 z11)) (LEq (.int .i64 x15_74)), LIf (!(law_FnMerge.e1 x14_73 z11)) (yO (vr (gt ((qA z11).1) x15_74))), LIf (!(law_FnMerge.e1 x14_73 z11)) (LEq (S (gt ((qA z11).1) x15_74))), LIf (!(law_FnMerge.e1 x14_73 z11)) (LEq (.bool (!decide (((gt ((qI z11).1) x14_73).path) = (gt ((qA z11).1) x15_74))))), LEq (.bool (law_FnMerge.e3 x14_73 x15_74 z11)), LEq (.bool (law_FnMerge.e3 x14_73 x15_74 z11)), LIf (!(law_FnMerge.e3 x14_73 x15_74 z11)) (LEq v36), LIf (!(law_FnMerge.e3 x14_73 x15_74 z11)) (LEq (.int .i64 x14_73)), LIf (!(law_FnMerge.e3 x14_73 x15_74 z11)) (yO (yt (gt ((qI z11).1) x14_73))), LIf (!(law_FnMerge.e3 x14_73 x15_74 z11)) (LAt 1 (yt (gt ((qI z11).1) x14_73))), LIf (!(law_FnMerge.e3 x14_73 x15_74 z11)) (LEq (.int .i64 ((gt ((qI z11).1) x14_73).layer))), LIf (!(law_FnMerge.e3 x14_73 x15_74 z11)) (LEq (.int .i64 z127)), LIf (!(law_FnMerge.e3 x14_73 x15_74 z11)) (LEq (.bool (!decide (((gt ((qI z11).1) x14_73).layer) = z127)))), LEq (.bool (law_FnMerge.e5 x14_73 x15_74 z11 z127)), LEq (.bool (law_FnMerge.e5 x14_73 x15_74 z11 z127)), LIf (!(law_FnMerge.e5 x14_73 x15_74 z11 z127)) (LEq (.int .i64 z127)), LIf (!(law_FnMerge.e5 x14_73 x15_74 z11 z127)) (LEq (.int .i64 z160)), LIf (!(law_FnMerge.e5 x14_73 x15_74 z11 z127)) (LEq (.bool (decide (z127 < z160)))), LEq (.bool ((law_FnMerge.e5 x14_73 x15_74 z11 z127) || (decide (z127 < z160))))] (by kernel_rfl) (by kernel_rfl) ⟨qm, qm, qm, qm, qm, lm, lm, (LIf.mono yO.mono), lm, lm, lm, (LIf.mono yO.mono), lm, lm, qm, qm, lm, lm, (LIf.mono yO.mono), (LIf.mono LAt.mono), lm, lm, lm, (LIf.mono yO.mono), lm, lm, qm, qm, lm, lm, (LIf.mono yO.mono), (LIf.mono LAt.mono), lm, lm, lm, qm, qm, lm, lm, lm, qm, trivial⟩ ⟨?_, ?_, ?_, ?_, ?_, ?_, ?_, ?_, ?_, ?_, ?_, ?_, ?_, ?_, ?_, ?_, ?_, ?_, ?_, ?_, ?_, ?_, ?_, ?_, ?_, ?_, ?_, ?_, ?_, ?_, ?_, ?_, ?_, ?_, ?_, ?_, ?_, ?_, ?_, ?_, ?_, trivial⟩ ?_
        ·exact fun s x e f d u => lp rfl (xm (.int .i64 x14_73) ((f 14 rfl).trans ((K191 14 rfl).trans h89))) <| se rfl rfl
        ·exact fun s x e f d u => lp rfl (xm v43 ((f 12 rfl).trans ((K191 12 rfl).trans ((K86 12 rfl).trans ((K67 12 rfl).trans ((K58 12 rfl).trans (K49 12 rfl))))))) <| se rfl rfl
        ·exact fun s x e f d u => lp rfl (vy Tryz.underlying47 (d 1 rfl) (Ow.rd (Ow.ext o44 (((((((((((e51.t e60).t e69).t e87).t e101).t (Below.trans e112 (Wr.below h115 (Nat.le_of_eq z110)))).t e124).t (Below.trans e135 (Wr.below h138 (Nat.le_of_eq z133)))).t e147).t e159).t e188).t e)))) <| se rfl rfl
        ·exact fun s x e f d u => lp rfl (QY (d 0 rfl) (d 2 rfl)) <| se rfl rfl
        ·exact fun s x e f d u => lp rfl (qc (d 3 rfl)) <| se rfl rfl
        ·exact fun s x e f d u => gF rfl rfl rfl rfl (d 4 rfl) rfl fun b t => lt t rfl rfl (xm v36 ((f 10 rfl).trans ((K191 10 rfl).trans ((K86 10 rfl).trans ((K67 10 rfl).trans ((K58 10 rfl).trans (K49 10 rfl))))))) <| sg rfl rfl b rfl
        ·exact fun s x e f d u => gF rfl rfl rfl rfl (d 4 rfl) rfl fun b t => lt t rfl rfl (xm (.int .i64 x14_73) ((f 14 rfl).trans ((K191 14 rfl).trans h89))) <| sg rfl rfl b rfl
        ·exact fun s x e f d u => gF rfl rfl rfl rfl (d 4 rfl) rfl fun b t => vw t rfl (ltb rfl) rfl Tryz.underlying47 Tryz.sizeOf59 ((d 5 rfl).1 (qE (qX b))) (Ow.rd (Ow.ext o37 ((((((((((((e42.t e51).t e60).t e69).t e87).t e101).t (Below.trans e112 (Wr.below h115 (Nat.le_of_eq z110)))).t e124).t (Below.trans e135 (Wr.below h138 (Nat.le_of_eq z133)))).t e147).t e159).t e188).t e))) ((d 6 rfl).1 (qE (qX b))) (yB b c198) <| fun p211 h212 => sg rfl rfl b ⟨_, rfl, h212⟩
        ·intro s x e f d u
         refine gF rfl rfl rfl rfl (d 4 rfl) rfl fun b t => ?_
         obtain ⟨p213, h214, h215⟩ := ((d 7 rfl).1 (qE (qX b)))
         exact lt t rfl rfl (vC Tryz.isAgg59 Tryz.sizeOf59 rfl h214 h215) <| sg rfl rfl b rfl
        ·exact fun s x e f d u => gF rfl rfl rfl rfl (d 4 rfl) rfl fun b t => lt t rfl rfl (xm v43 ((f 12 rfl).trans ((K191 12 rfl).trans ((K86 12 rfl).trans ((K67 12 rfl).trans ((K58 12 rfl).trans (K49 12 rfl))))))) <| sg rfl rfl b rfl
        ·exact fun s x e f d u => gF rfl rfl rfl rfl (d 4 rfl) rfl fun b t => lt t rfl rfl (xm (.int .i64 x14_73) ((f 14 rfl).trans ((K191 14 rfl).trans h89))) <| sg rfl rfl b rfl
        ·exact fun s x e f d u => gF rfl rfl rfl rfl (d 4 rfl) rfl fun b t => vw t rfl (ltb rfl) rfl Tryz.underlying47 Tryz.sizeOf59 ((d 9 rfl).1 (qE (qX b))) (Ow.rd (Ow.ext o44 (((((((((((e51.t e60).t e69).t e87).t e101).t (Below.trans e112 (Wr.below h115 (Nat.le_of_eq z110)))).t e124).t (Below.trans e135 (Wr.below h138 (Nat.le_of_eq z133)))).t e147).t e159).t e188).t e))) ((d 10 rfl).1 (qE (qX b))) (yB b c198) <| fun p217 h218 => sg rfl rfl b ⟨_, rfl, h218⟩
        ·intro s x e f d u
         refine gF rfl rfl rfl rfl (d 4 rfl) rfl fun b t => ?_
         obtain ⟨p219, h220, h221⟩ := ((d 11 rfl).1 (qE (qX b)))
         exact lt t rfl rfl (vC Tryz.isAgg59 Tryz.sizeOf59 rfl h220 h221) <| sg rfl rfl b rfl
        ·exact fun s x e f d u => gF rfl rfl rfl rfl (d 4 rfl) rfl fun b t => lt t rfl rfl (X_neA Eqg.t59 (Eqs.t59 (gt ((qI z11).1) x14_73) (gt ((qI z11).1) x14_73)) ((d 8 rfl).1 (qE (qX b))) ((d 12 rfl).1 (qE (qX b)))) <| sg rfl rfl b rfl
        ·exact fun s x e f d u => lp rfl (jQ (d 4 rfl) rfl fun h => ((d 13 rfl).1 (qE h))) <| se rfl rfl
        ·exact fun s x e f d u => lp rfl (qc (d 14 rfl)) <| se rfl rfl
        ·exact fun s x e f d u => gF rfl rfl rfl rfl (d 15 rfl) rfl fun b t => lt t rfl rfl (xm v36 ((f 10 rfl).trans ((K191 10 rfl).trans ((K86 10 rfl).trans ((K67 10 rfl).trans ((K58 10 rfl).trans (K49 10 rfl))))))) <| sg rfl rfl b rfl
        ·exact fun s x e f d u => gF rfl rfl rfl rfl (d 15 rfl) rfl fun b t => lt t rfl rfl (xm (.int .i64 x14_73) ((f 14 rfl).trans ((K191 14 rfl).trans h89))) <| sg rfl rfl b rfl
        ·exact fun s x e f d u => gF rfl rfl rfl rfl (d 15 rfl) rfl fun b t => vw t rfl (ltb rfl) rfl Tryz.underlying47 Tryz.sizeOf59 ((d 16 rfl).1 (qE (qX b))) (Ow.rd (Ow.ext o37 ((((((((((((e42.t e51).t e60).t e69).t e87).t e101).t (Below.trans e112 (Wr.below h115 (Nat.le_of_eq z110)))).t e124).t (Below.trans e135 (Wr.below h138 (Nat.le_of_eq z133)))).t e147).t e159).t e188).t e))) ((d 17 rfl).1 (qE (qX b))) (yB b c201) <| fun p223 h224 => sg rfl rfl b ⟨_, rfl, h224⟩
        ·intro s x e f d u
         refine gF rfl rfl rfl rfl (d 15 rfl) rfl fun b t => ?_
         obtain ⟨p225, h226, h227⟩ := ((d 18 rfl).1 (qE (qX b)))
         exact lt t rfl rfl (qe Tryz.underlying59 rfl Tryz.sizeOf9 rfl h226) <| sg rfl rfl b ⟨_, rfl, h227⟩
        ·intro s x e f d u
         refine gF rfl rfl rfl rfl (d 15 rfl) rfl fun b t => ?_
         obtain ⟨p228, h229, h230⟩ := ((d 19 rfl).1 (qE (qX b)))
         exact lt t rfl rfl (jh Tryz.isAgg9 (j := 0) h230 h229 rfl) <| sg rfl rfl b rfl
        ·exact fun s x e f d u => gF rfl rfl rfl rfl (d 15 rfl) rfl fun b t => lt t rfl rfl (xm v29 ((f 8 rfl).trans ((K191 8 rfl).trans ((K86 8 rfl).trans ((K67 8 rfl).trans ((K58 8 rfl).trans (K49 8 rfl))))))) <| sg rfl rfl b rfl
        ·exact fun s x e f d u => gF rfl rfl rfl rfl (d 15 rfl) rfl fun b t => lt t rfl rfl (xm (.int .i64 x15_74) ((f 15 rfl).trans ((K191 15 rfl).trans h90))) <| sg rfl rfl b rfl
        ·exact fun s x e f d u => gF rfl rfl rfl rfl (d 15 rfl) rfl fun b t => vw t rfl (ltb rfl) rfl Tryz.underlying44 Tryz.sizeOf9 ((d 21 rfl).1 (qE (qX b))) (Ow.rd (Ow.ext o30 (((((((((((((e35.t e42).t e51).t e60).t e69).t e87).t e101).t (Below.trans e112 (Wr.below h115 (Nat.le_of_eq z110)))).t e124).t (Below.trans e135 (Wr.below h138 (Nat.le_of_eq z133)))).t e147).t e159).t e188).t e))) ((d 22 rfl).1 (qE (qX b))) (yB b c204) <| fun p232 h233 => sg rfl rfl b ⟨_, rfl, h233⟩
        ·intro s x e f d u
         refine gF rfl rfl rfl rfl (d 15 rfl) rfl fun b t => ?_
         obtain ⟨p234, h235, h236⟩ := ((d 23 rfl).1 (qE (qX b)))
         exact lt t rfl rfl (qQ Tryz.isAgg9 h235 h236 rfl) <| sg rfl rfl b rfl
        ·exact fun s x e f d u => gF rfl rfl rfl rfl (d 15 rfl) rfl fun b t => lt t rfl rfl (Qv ((d 20 rfl).1 (qE (qX b))) ((d 24 rfl).1 (qE (qX b)))) <| sg rfl rfl b rfl
        ·exact fun s x e f d u => lp rfl (jQ (d 15 rfl) rfl fun h => ((d 25 rfl).1 (qE h))) <| se rfl rfl
        ·exact fun s x e f d u => lp rfl (qc (d 26 rfl)) <| se rfl rfl
        ·exact fun s x e f d u => gF rfl rfl rfl rfl (d 27 rfl) rfl fun b t => lt t rfl rfl (xm v36 ((f 10 rfl).trans ((K191 10 rfl).trans ((K86 10 rfl).trans ((K67 10 rfl).trans ((K58 10 rfl).trans (K49 10 rfl))))))) <| sg rfl rfl b rfl
        ·exact fun s x e f d u => gF rfl rfl rfl rfl (d 27 rfl) rfl fun b t => lt t rfl rfl (xm (.int .i64 x14_73) ((f 14 rfl).trans ((K191 14 rfl).trans h89))) <| sg rfl rfl b rfl
        ·exact fun s x e f d u => gF rfl rfl rfl rfl (d 27 rfl) rfl fun b t => vw t rfl (ltb rfl) rfl Tryz.underlying47 Tryz.sizeOf59 ((d 28 rfl).1 (qE (qX b))) (Ow.rd (Ow.ext o37 ((((((((((((e42.t e51).t e60).t e69).t e87).t e101).t (Below.trans e112 (Wr.below h115 (Nat.le_of_eq z110)))).t e124).t (Below.trans e135 (Wr.below h138 (Nat.le_of_eq z133)))).t e147).t e159).t e188).t e))) ((d 29 rfl).1 (qE (qX b))) (yB b c207) <| fun p238 h239 => sg rfl rfl b ⟨_, rfl, h239⟩
        ·intro s x e f d u
         refine gF rfl rfl rfl rfl (d 27 rfl) rfl fun b t => ?_
         obtain ⟨p240, h241, h242⟩ := ((d 30 rfl).1 (qE (qX b)))
         exact lt t rfl rfl (qe Tryz.underlying59 rfl Tryz.sizeOf3 rfl h241) <| sg rfl rfl b ⟨_, rfl, h242⟩
        ·intro s x e f d u
         refine gF rfl rfl rfl rfl (d 27 rfl) rfl fun b t => ?_
         obtain ⟨p243, h244, h245⟩ := ((d 31 rfl).1 (qE (qX b)))
         exact lt t rfl rfl (jh Tryz.isAgg3 (j := 1) h245 h244 rfl) <| sg rfl rfl b rfl
        ·exact fun s x e f d u => gF rfl rfl rfl rfl (d 27 rfl) rfl fun b t => lt t rfl rfl (xm (.int .i64 z127) ((f 20 rfl).trans (K191 20 rfl))) <| sg rfl rfl b rfl
        ·exact fun s x e f d u => gF rfl rfl rfl rfl (d 27 rfl) rfl fun b t => lt t rfl rfl (je ((d 32 rfl).1 (qE (qX b))) ((d 33 rfl).1 (qE (qX b)))) <| sg rfl rfl b rfl
        ·exact fun s x e f d u => lp rfl (jQ (d 27 rfl) rfl fun h => ((d 34 rfl).1 (qE h))) <| se rfl rfl
        ·exact fun s x e f d u => lp rfl (qc (d 35 rfl)) <| se rfl rfl
        ·exact fun s x e f d u => gF rfl rfl rfl rfl (d 36 rfl) rfl fun b t => lt t rfl rfl (xm (.int .i64 z127) ((f 20 rfl).trans (K191 20 rfl))) <| sg rfl rfl b rfl
        ·exact fun s x e f d u => gF rfl rfl rfl rfl (d 36 rfl) rfl fun b t => lt t rfl rfl (xm (.int .i64 z160) ((f 24 rfl).trans (K191 24 rfl))) <| sg rfl rfl b rfl
        ·exact fun s x e f d u => gF rfl rfl rfl rfl (d 36 rfl) rfl fun b t => lt t rfl rfl (yH ((d 37 rfl).1 (qE (qX b))) ((d 38 rfl).1 (qE (qX b)))) <| sg rfl rfl b rfl
        ·exact fun s x e f d u => lp rfl (jQ (d 36 rfl) rfl fun h => ((d 39 rfl).1 (qE h))) <| se rfl rfl
        intro s246 w247 e248 hf249 ha250
        have K251 := Kp.ofD (kp := [(162, 203)]) rfl hf249
        have d252 : s246 202 = (.bool ((law_FnMerge.e5 x14_73 x15_74 z11 z127) || (decide (z127 < z160)))) := ha250 40 rfl
        clear ha250 hf249
        refine qd ?_
        rcases qf H with ⟨q253, H⟩ | ⟨q253, H⟩
        ·refine qp (d252.trans (cb q253)) <| wr <| lp rfl (xa (.bool false) rfl) <| nx <| qr <| qo <| vi <| qo <| qo <| vi <| qo <| qo <| qv ?_
         obtain rfl := si H
         obtain rfl := si S92
         have H := C77
         obtain rfl := si H
         exact vo rfl (((((((((((((((((e7.t e14).t e21).t e28).t e35).t e42).t e51).t e60).t e69).t e87).t e101).t (Below.trans e112 (Wr.below h115 (Nat.le_of_eq z110)))).t e124).t (Below.trans e135 (Wr.below h138 (Nat.le_of_eq z133)))).t e147).t e159).t e188).t e248)
        ·refine qi (d252.trans (cb q253)) <| qq <| qd <| wr <| lp rfl (xm (.int .i64 x14_73) ((K251 14 rfl).trans ((K191 14 rfl).trans h89))) <| lp rfl (vW rfl rfl) <| lp rfl (xa (.int .i64 (IntKind.wrap .i64 (x14_73 + 1))) rfl) <| nx <| qk ?_
         obtain ⟨c254, H⟩ := qa H
         obtain ⟨c259, H⟩ := qa H
         obtain ⟨c262, H⟩ := qa H
         obtain ⟨c263, H⟩ := qa H
         refine W_drawA0 [(fun v => LEq v15 v w247), (fun v => LEq (.int .i64 z127) v w247), (fun v => LEq (.int .i64 (IntKind.wrap .i64 (z127 - 1))) v w247), (fun v => LAt2 5 qg (gt z11 (IntKind.wrap .i64 (z127 - 1))) v w247), (fun v => LRd 5 qg (gt z11 (IntKind.wrap .i64 (z127 - 1))) v w247), (fun v => LEq v29 v w247), (fun v => LEq (.int .i64 x15_74) v w247), (fun v => yO (vr (gt ((qA z11).1) x15_74)) v w247), (fun v => LEq (S (gt ((qA z11).1) x15_74)) v w247), (fun v => LEq (.tuple #[(.agg (qg ((law_FnMerge.e4 x15_74 z11 z127).1)).toArray), (.int .i64 ((law_FnMerge.e4 x15_74 z11 z127).2))]) v w247), (fun v => LEq (.tuple #[(.agg (qg ((law_FnMerge.e4 x15_74 z11 z127).1)).toArray), (.int .i64 ((law_FnMerge.e4 x15_74 z11 z127).2))]) v w247), (fun v => LEq (.agg (qg ((law_FnMerge.e4 x15_74 z11 z127).1)).toArray) v w247), (fun v => LEq (.int .i64 ((law_FnMerge.e4 x15_74 z11 z127).2)) v w247), (fun _ => True), (fun _ => True), (fun v => LEq (.int .i64 ((law_FnMerge.e4 x15_74 z11 z127).2)) v w247)] 13 14 (qg ((law_FnMerge.e4 x15_74 z11 z127).1)).toArray (Value.agg #[(.int .i64 0), (S ([] : List UInt8)), (S ([] : List UInt8)), (.int .i64 0), (.bool false)]).cells 52 (by kernel_rfl) (by kernel_rfl) (by kernel_rfl) ⟨?_, ?_, ?_, ?_, ?_, ?_, ?_, ?_, ?_, ?_, ?_, ?_, ?_, ?_, ?_, ?_, trivial⟩ ?_
         ·intro s x b e f d u h
          exact lp rfl (xm v15 ((f 5 rfl).trans ((K251 5 rfl).trans ((K191 5 rfl).trans ((K86 5 rfl).trans ((K67 5 rfl).trans ((K58 5 rfl).trans (K49 5 rfl)))))))) <| asV rfl rfl er rfl
         ·intro s x b e f d u h
          exact lp rfl (xm (.int .i64 z127) ((f 20 rfl).trans ((K251 20 rfl).trans (K191 20 rfl)))) <| asV rfl rfl er rfl
         ·intro s x b e f d u h
          exact lp rfl (jl (d 1 rfl rfl rfl) rfl) <| asV rfl rfl er rfl
         ·intro s x b e f d u h
          exact Vk (.plain rfl) rfl (ltb rfl) rfl Tryz.underlying23 Tryz.sizeOf35 (d 0 rfl rfl rfl) (yo.rd (yo.ext o16 (((((((((((((((e21.t e28).t e35).t e42).t e51).t e60).t e69).t e87).t e101).t (Below.trans e112 (Wr.below h115 (Nat.le_of_eq z110)))).t e124).t (Below.trans e135 (Wr.below h138 (Nat.le_of_eq z133)))).t e147).t e159).t e188).t e248))) (d 2 rfl rfl rfl) c254 <| fun p267 v269 h268 h270 => asV rfl rfl er ⟨_, _, rfl, h268, h270⟩
         ·intro s x b e f d u h
          obtain ⟨p271, v272, h273, h274, h275⟩ := (d 3 rfl rfl rfl)
          exact lp rfl (qQ Tryz.isAgg35 h273 (At.ext h274 e) rfl) <| asV rfl rfl er h275
         ·intro s x b e f d u h
          exact lp rfl (xm v29 ((f 8 rfl).trans ((K251 8 rfl).trans ((K191 8 rfl).trans ((K86 8 rfl).trans ((K67 8 rfl).trans ((K58 8 rfl).trans (K49 8 rfl)))))))) <| asV rfl rfl er rfl
         ·intro s x b e f d u h
          exact lp rfl (xm (.int .i64 x15_74) ((f 15 rfl).trans ((K251 15 rfl).trans ((K191 15 rfl).trans h90)))) <| asV rfl rfl er rfl
         ·intro s x b e f d u h
          exact vw (.plain rfl) rfl (ltb rfl) rfl Tryz.underlying44 Tryz.sizeOf9 (d 5 rfl rfl rfl) (Ow.rd (Ow.ext o30 (((((((((((((e35.t e42).t e51).t e60).t e69).t e87).t e101).t (Below.trans e112 (Wr.below h115 (Nat.le_of_eq z110)))).t e124).t (Below.trans e135 (Wr.below h138 (Nat.le_of_eq z133)))).t e147).t e159).t e188).t e248))) (d 6 rfl rfl rfl) c259 <| fun p277 h278 => asV rfl rfl er ⟨_, rfl, h278⟩
         ·intro s x b e f d u h
          obtain ⟨p279, h280, h281⟩ := (d 7 rfl rfl rfl)
          exact lp rfl (qQ Tryz.isAgg9 h280 (At.ext h281 e) rfl) <| asV rfl rfl er rfl
         ·intro s x b e f d u h
          have d282 : Rd 5 qg w247 (s 210) (gt z11 (IntKind.wrap .i64 (z127 - 1))) := (d 4 rfl rfl rfl)
          exact lc rfl rfl Tryz.call38 (yr.calls (w := x) (a0 := gt z11 (IntKind.wrap .i64 (z127 - 1))) (a1 := gt ((qA z11).1) x15_74) (GV.ext gv ((((((((((((((((((e7.t e14).t e21).t e28).t e35).t e42).t e51).t e60).t e69).t e87).t e101).t (Below.trans e112 (Wr.below h115 (Nat.le_of_eq z110)))).t e124).t (Below.trans e135 (Wr.below h138 (Nat.le_of_eq z133)))).t e147).t e159).t e188).t e248).t e)) (Rd.ext d282 e) (od c262) (od c263)) (vI rfl (vI (d 8 rfl rfl rfl) rfl)) <| fun w285 e286 => asV rfl rfl e286 rfl
         ·intro s x b e f d u h
          exact lp rfl (qc (d 9 rfl rfl rfl)) <| asV rfl rfl er rfl
         ·intro s x b e f d u h
          exact lp rfl (qM (d 10 rfl rfl rfl) rfl) <| asV rfl rfl er rfl
         ·intro s x b e f d u h
          exact lp rfl (qM (d 10 rfl rfl rfl) rfl) <| asV rfl rfl er rfl
         ·intro s x b e f d u h
          exact y5 (.plain rfl) rfl (ltb rfl) rfl Tryz.zeroValue52 <| fun b287 w288 z289 z290 e291 k292 => asA rfl rfl rfl (Nat.le_of_eq z289) e291 k292
         ·intro s x b e f d u h
          exact vk (.plain rfl) rfl rfl Tryz.sizeOf52 (h rfl).1 (d 11 rfl rfl rfl) rfl rfl rfl (h rfl).2.2 <| fun w293 h294 k295 => asS rfl h294 k295
         ·intro s x b e f d u h
          exact lp rfl (qG (d 12 rfl rfl rfl)) <| asV rfl rfl er rfl
         intro s296 w297 b298 e299 hf300 ha301 h302 z303 k304
         have K305 := Kp.ofD (kp := [(26, 28), (205, 218)]) rfl hf300
         have d306 : s296 27 = (.int .i64 ((law_FnMerge.e4 x15_74 z11 z127).2)) := ha301 15 rfl rfl rfl
         clear ha301 hf300
         refine qd <| wr <| lp rfl (qe Tryz.underlying52 rfl Tryz.sizeOf4 rfl ((K305 19 rfl).trans ((K251 19 rfl).trans (K191 19 rfl)))) <| lp rfl (qH Tryz.isAgg4 (Blk.ext k139 ((((e147.t e159).t e188).t e248).t e299)) rfl rfl) <| lp rfl (qe Tryz.underlying52 rfl Tryz.sizeOf4 rfl h302) <| Qw (.plain rfl) rfl rfl Tryz.sizeOf4 rfl rfl rfl k304 (ltb rfl) <| fun w307 h308 k309 => nx <| wr <| lp rfl (qc d306) <| lp rfl (je rfl rfl) <| lp rfl (qc rfl) ?_
         obtain ⟨z311, x312, H⟩ := bind_some H
         refine jp 4 [(224, 228)] 227 (fun q => q = z311) ?_ ?_
         ·rcases qf x312 with ⟨b309_, H⟩ | ⟨b309_, H⟩
          ·refine ls rfl rfl rfl (cb b309_) rfl <| ls rfl rfl rfl (cb b309_) rfl <| ls rfl rfl rfl (cb b309_) rfl <| lp rfl (qD (b := true) (v := (.bool true)) (cb b309_) rfl) ?_
           obtain rfl := si H
           exact nx ⟨(ku4 kz rfl), ⟨_, rfl, rfl⟩, er⟩
          ·refine lg rfl rfl rfl rfl (cb b309_) (vC Tryz.isAgg52 Tryz.sizeOf52 rfl h302 (Blk.at0 k309)) <| lg rfl rfl rfl rfl (cb b309_) (vC Tryz.isAgg52 Tryz.sizeOf52 rfl ((K305 19 rfl).trans ((K251 19 rfl).trans (K191 19 rfl))) (Blk.at0 (Blk.ext k139 ((((e147.t e159).t e188).t e248).t (Below.trans e299 (Wr.below h308 z303)))))) <| lg rfl rfl rfl rfl (cb b309_) (X_neA Eqg.t52 (Eqs.t52 (⟨((law_FnMerge.e4 x15_74 z11 z127).1).kind, ((law_FnMerge.e4 x15_74 z11 z127).1).path, ((law_FnMerge.e4 x15_74 z11 z127).1).body, ((law_FnMerge.e4 x15_74 z11 z127).1).mode, z125.opq⟩ : Rec) z125) rfl rfl) <| lp rfl (qD (b := false) (v := (.bool (!decide ((⟨((law_FnMerge.e4 x15_74 z11 z127).1).kind, ((law_FnMerge.e4 x15_74 z11 z127).1).path, ((law_FnMerge.e4 x15_74 z11 z127).1).body, ((law_FnMerge.e4 x15_74 z11 z127).1).mode, z125.opq⟩ : Rec) = z125)))) (cb b309_) rfl) ?_
           obtain rfl := si H
           exact nx ⟨(ku4 kz rfl), ⟨_, rfl, rfl⟩, er⟩
         intro s317 w313 z318 K314 hq h315 e316
         rw [hq] at h315; clear hq
         refine nx ?_
         rcases qf H with ⟨q319, H⟩ | ⟨q319, H⟩
         ·refine qp (h315.trans (cb q319)) <| wr <| lp rfl (xa (.bool false) rfl) <| nx <| qr <| vi <| qo <| qo <| vi <| qo <| qo <| qv ?_
          obtain rfl := si H
          obtain rfl := si S92
          have H := C77
          obtain rfl := si H
          exact vo rfl (((((((((((((((((((e7.t e14).t e21).t e28).t e35).t e42).t e51).t e60).t e69).t e87).t e101).t (Below.trans e112 (Wr.below h115 (Nat.le_of_eq z110)))).t e124).t (Below.trans e135 (Wr.below h138 (Nat.le_of_eq z133)))).t e147).t e159).t e188).t e248).t (Below.trans e299 (Wr.below h308 z303))).t e316)
         ·refine qi (h315.trans (cb q319)) <| qq <| ye <| qd <| qJ <| lp rfl (xm (.int .i64 x15_74) ((K314 15 rfl).trans ((K305 15 rfl).trans ((K251 15 rfl).trans ((K191 15 rfl).trans h90))))) <| lp rfl (vW rfl rfl) <| lp rfl (xa (.int .i64 (IntKind.wrap .i64 (x15_74 + 1))) rfl) <| nx ?_
          obtain rfl := si H
          exact ⟨_, Nat.lt_succ_self _, IntKind.wrap .i64 (x14_73 + 1), IntKind.wrap .i64 (x15_74 + 1), (ku3 (Kp.cut (ku2 (ku4 (Kp.cut (ku3 (Kp.cut (ku2 (Kp.cut (ku4 (ku8 (ku8 (ku8 (ku8 (ku8 (ku8 K86 rfl) rfl) rfl) rfl) rfl) rfl) rfl) K191 rfl) rfl) K251 rfl) rfl) K305 rfl) rfl) rfl) K314 rfl) rfl), ((K314 14 rfl).trans (K305 14 rfl)), rfl, ((((((((((e87.t e101).t (Below.trans e112 (Wr.below h115 (Nat.le_of_eq z110)))).t e124).t (Below.trans e135 (Wr.below h138 (Nat.le_of_eq z133)))).t e147).t e159).t e188).t e248).t (Below.trans e299 (Wr.below h308 z303))).t e316), S92⟩
     ·refine qi (cb q93) <| vL <| vd <| vd <| yE <| qd ?_
      obtain rfl := si H
      obtain rfl := si S92
      exact ⟨x14_73, (ku4 K86 rfl), h89, e87, rfl⟩
   ·rintro s80 w79 ⟨x14_78, K81, h320, e82, y321⟩
    rw [y321] at C77
    have H := C77
    replace H : _ = some _ := H
    refine qd <| wr <| lp rfl (qc h320) <| lp rfl (xm v43 ((K81 12 rfl).trans ((K67 12 rfl).trans ((K58 12 rfl).trans (K49 12 rfl))))) <| lp rfl (vy Tryz.underlying47 rfl (Ow.rd (Ow.ext o44 (((e51.t e60).t e69).t e82)))) <| lp rfl (yZ rfl rfl) ?_
    obtain ⟨z322, x323, H⟩ := bind_some H
    replace x323 := si x323
    refine lp rfl (xa (.bool z322) (cb x323)) <| nx <| qr <| qv ?_
    obtain rfl := si H
    exact vo rfl (((((((((e7.t e14).t e21).t e28).t e35).t e42).t e51).t e60).t e69).t e82)
theorem law_FnMerge.calls {w : World} {a0 : List Int} {a1 : List Int} (gv : GV 0 w) {v_a0 : Value} (f_a0 : Rd 1 (Go.UL.encI .u8) w v_a0 a0) {v_a1 : Value} (f_a1 : Rd 1 (Go.UL.encI .u8) w v_a1 a1) (h0 : ∀ x ∈ a0, okB x) (h1 : a0.length ≤ 9223372036854775807) (h2 : ∀ x ∈ a1, okB x) (h3 : a1.length ≤ 9223372036854775807) :
  Calls Tryz.prog 5 #[v_a0, v_a1] w (Rt (RP w (.bool true))) := by
 obtain ⟨k, h⟩ := law_FnMerge.eq a0 a1 h0 h1 h2 h3
 exact law_FnMerge.walk gv f_a0 f_a1 h
end Go.Proofs.YtdhmlillkbjjjaaGreatDoor
