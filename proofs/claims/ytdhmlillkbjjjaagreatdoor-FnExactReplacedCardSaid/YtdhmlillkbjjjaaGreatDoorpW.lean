/- The walks, by program (wip/tools). -/
import Derived.Test.YtdhmlillkbjjjaaGreatDoorProg
import Derived.Test.YtdhmlillkbjjjaaGreatDoorKJ
import Derived.Test.YtdhmlillkbjjjaaGreatDoorKL
import Derived.Test.YtdhmlillkbjjjaaGreatDoorpWA
set_option linter.unusedVariables false
set_option linter.unusedSimpArgs false
set_option maxRecDepth 10000
namespace Go.Proofs.YtdhmlillkbjjjaaGreatDoor
open Go.UL Go.RowKit
/-! laws.markRecordS -/
abbrev qw.e1 (x1_1 : Int) := (IntKind.wrap .i64 ((IntKind.wrap .i64 (x1_1 + 1)) + 1))
theorem qw.walk {k : Nat} {w : World} {a0 : List Rec} {a1 : Int} {v_a0 : Value} {B_a0 : Nat} {T_a0 : Nat} (o_a0 : Ow 52 5 qb B_a0 w v_a0 a0) (l_a0 : HB v_a0 T_a0) {r : Int × List Rec} (H : qw.sh k a0 a1 = some r) :
  Calls Tryz.prog 46 #[v_a0, .int .i64 a1] w (Rt (RM 52 5 qb B_a0 T_a0 w (.int .i64 r.1) v_a0 r.2)) := by
 unfold qw.sh at H
 refine qj Tryz.func46 rfl (Nat.le_of_ble_eq_true rfl) Tryz.ntmps46 rfl ?_
 refine wr <| lp rfl (xa (.int .i64 0) rfl) <| nx <| qh <| wr <| lp rfl (xa (.int .i64 0) rfl) <| nx ?_
 obtain ⟨z4, L5, C6⟩ := bind_some H
 clear H
 refine  vB (fun s0 sQ wQ => ∃ (x1_7 : Int) (y8 : List Rec), Kp [(1, 2), (5, 51)] s0 sQ ∧ sQ 1 = .int .i64 x1_7 ∧ Ow 52 5 qb B_a0 wQ v_a0 y8 ∧ Gr B_a0 T_a0 w wQ ∧ z4 = .inr (x1_7, y8)) ?_ ?_
 ·refine qx <| vc (fun s0 kk sQ wQ => ∃ (x1_1 : Int) (x5_2 : Int) (y3 : List Rec), Kp [(1, 2), (5, 51)] s0 sQ ∧ sQ 1 = .int .i64 x1_1 ∧ sQ 5 = .int .i64 x5_2 ∧ Ow 52 5 qb B_a0 wQ v_a0 y3 ∧ Gr B_a0 T_a0 w wQ ∧ qp (qw.b1) kk (x1_1, x5_2, y3) = some z4) k ⟨a1, 0, a0, kz, rfl, rfl, o_a0, (Gr.refl _ _ _), L5⟩ ?_
  rintro k13 s14 w15 ⟨x1_1, x5_2, y3, K16, h19, h20, h21, e17, L18⟩
  cases k13 with
  | zero => exact absurd L18 (by simp [qp])
  | succ k13 =>
   obtain ⟨t22, H, S23⟩ := qJ L18
   clear L18
   unfold qw.b1 at H
   refine qh <| wr <| lp rfl (qc h20) <| lp rfl (xm v_a0 (K16 0 rfl)) <| lp rfl (vz Tryz.underlying35 rfl (Ow.rd h21)) <| lp rfl (vt rfl rfl) <| nx ?_
   rcases qg H with ⟨q24, H⟩ | ⟨q24, H⟩
   ·refine qq (cb q24) <| qr <| qe <| qh <| qx <| wr <| lp rfl (xm v_a0 (K16 0 rfl)) <| lp rfl (qc h20) <| lp rfl (qc h19) ?_
    obtain ⟨c27, H⟩ := qa H
    refine YR (.plain rfl) rfl (ltb rfl) rfl Tryz.underlying35 Tryz.sizeOf52 rfl h21 rfl c27 <| fun p25 h26 => lp rfl (qd Tryz.underlying52 rfl Tryz.sizeOf3 rfl rfl) <| Yn (a := (⟨x1_1, (gt y3 x5_2).path, (gt y3 x5_2).body, (gt y3 x5_2).mode, (gt y3 x5_2).opq⟩ : Rec)) (vs := [(.int .i64 x1_1)]) (off := 0) (.plain rfl) rfl rfl Tryz.sizeOf3 rfl h26 rfl rfl rfl rfl rfl rfl <| fun b28 w29 h30 h31 h32 o33 => nx <| wr <| lp rfl (qc h19) <| lp rfl (vn rfl rfl) <| lp rfl (xa (.int .i64 (IntKind.wrap .i64 (x1_1 + 1))) rfl) <| nx <| wr <| lp rfl (xm v_a0 (K16 0 rfl)) <| lp rfl (qc h20) <| lp rfl (xm (.int .i64 (IntKind.wrap .i64 (x1_1 + 1))) rfl) ?_
    obtain ⟨c34, H⟩ := qa H
    refine lc rfl rfl Tryz.call112 (qZ.calls (w := w29) (a0 := IntKind.wrap .i64 (x1_1 + 1)) (od c34)) rfl <| fun w35 e36 => YR (.plain rfl) rfl (ltb rfl) rfl Tryz.underlying35 Tryz.sizeOf52 rfl (Ow.ext o33 e36) rfl (Qv c27) <| fun p37 h38 => lp rfl (qd Tryz.underlying52 rfl Tryz.sizeOf9 rfl rfl) <| VV (a := (⟨x1_1, (jb (IntKind.wrap .i64 (x1_1 + 1))), (gt y3 x5_2).body, (gt y3 x5_2).mode, (gt y3 x5_2).opq⟩ : Rec)) (vs := [(S (jb (IntKind.wrap .i64 (x1_1 + 1))))]) (off := 1) (.plain rfl) rfl rfl Tryz.sizeOf9 rfl c27 h38 rfl rfl rfl rfl rfl rfl <| fun b39 w40 h41 h42 h43 o44 => nx <| wr <| lp rfl (xm (.int .i64 (IntKind.wrap .i64 (x1_1 + 1))) rfl) <| lp rfl (vn rfl rfl) <| lp rfl (xa (.int .i64 (qw.e1 x1_1)) rfl) <| nx <| wr <| lp rfl (xm v_a0 (K16 0 rfl)) <| lp rfl (qc h20) <| lp rfl (xm (.int .i64 (qw.e1 x1_1)) rfl) ?_
    obtain ⟨c45, H⟩ := qa H
    refine lc rfl rfl Tryz.call112 (qZ.calls (w := w40) (a0 := IntKind.wrap .i64 ((IntKind.wrap .i64 (x1_1 + 1)) + 1)) (od c45)) rfl <| fun w46 e47 => YR (.plain rfl) rfl (ltb rfl) rfl Tryz.underlying35 Tryz.sizeOf52 rfl (Ow.ext o44 e47) rfl (Qv c27) <| fun p48 h49 => lp rfl (qd Tryz.underlying52 rfl Tryz.sizeOf9 rfl rfl) <| VV (a := (⟨x1_1, (jb (IntKind.wrap .i64 (x1_1 + 1))), (jb (qw.e1 x1_1)), (gt y3 x5_2).mode, (gt y3 x5_2).opq⟩ : Rec)) (vs := [(S (jb (qw.e1 x1_1)))]) (off := 2) (.plain rfl) rfl rfl Tryz.sizeOf9 rfl c27 h49 rfl rfl rfl rfl rfl rfl <| fun b50 w51 h52 h53 h54 o55 => nx <| wr <| lp rfl (xm (.int .i64 (qw.e1 x1_1)) rfl) <| lp rfl (vn rfl rfl) <| lp rfl (qv rfl) <| nx <| wr <| lp rfl (xm v_a0 (K16 0 rfl)) <| lp rfl (qc h20) <| lp rfl (qc rfl) <| YR (.plain rfl) rfl (ltb rfl) rfl Tryz.underlying35 Tryz.sizeOf52 rfl o55 rfl (Qv c27) <| fun p56 h57 => lp rfl (qd Tryz.underlying52 rfl Tryz.sizeOf3 rfl rfl) <| VV (a := (⟨x1_1, (jb (IntKind.wrap .i64 (x1_1 + 1))), (jb (qw.e1 x1_1)), IntKind.wrap .i64 ((qw.e1 x1_1) + 1), (gt y3 x5_2).opq⟩ : Rec)) (vs := [(.int .i64 (IntKind.wrap .i64 ((qw.e1 x1_1) + 1)))]) (off := 3) (.plain rfl) rfl rfl Tryz.sizeOf3 rfl c27 h57 rfl rfl rfl rfl rfl rfl <| fun b58 w59 h60 h61 h62 o63 => nx <| wr <| lp rfl (qc rfl) <| lp rfl (vn rfl rfl) <| lp rfl (qv rfl) <| nx <| wr <| lp rfl (xm v_a0 (K16 0 rfl)) <| lp rfl (qc h20) <| lp rfl (qc rfl) <| lp rfl (X_rem rfl rfl (by decide)) <| lp rfl (jo rfl rfl) <| YR (.plain rfl) rfl (ltb rfl) rfl Tryz.underlying35 Tryz.sizeOf52 rfl o63 rfl (Qv c27) <| fun p64 h65 => lp rfl (qd Tryz.underlying52 rfl Tryz.sizeOf4 rfl rfl) <| VV (a := (⟨x1_1, (jb (IntKind.wrap .i64 (x1_1 + 1))), (jb (qw.e1 x1_1)), IntKind.wrap .i64 ((qw.e1 x1_1) + 1), (decide (((IntKind.wrap .i64 ((IntKind.wrap .i64 ((qw.e1 x1_1) + 1)) + 1)).tmod 3) = 0))⟩ : Rec)) (vs := [(.bool (decide (((IntKind.wrap .i64 ((IntKind.wrap .i64 ((qw.e1 x1_1) + 1)) + 1)).tmod 3) = 0)))]) (off := 4) (.plain rfl) rfl rfl Tryz.sizeOf4 rfl c27 h65 rfl rfl rfl rfl rfl rfl <| fun b66 w67 h68 h69 h70 o71 => nx <| qG <| lp rfl (qc rfl) <| lp rfl (vn rfl rfl) <| lp rfl (qv rfl) <| qW <| vy <| qe <| qG <| lp rfl (qc h20) <| lp rfl (vn rfl rfl) <| lp rfl (xa (.int .i64 (IntKind.wrap .i64 (x5_2 + 1))) rfl) <| nx ?_
    obtain rfl := si H
    exact ⟨_, Nat.lt_succ_self _, IntKind.wrap .i64 ((IntKind.wrap .i64 ((IntKind.wrap .i64 ((qw.e1 x1_1) + 1)) + 1)) + 1), IntKind.wrap .i64 (x5_2 + 1), jA y3 x5_2 (⟨x1_1, (jb (IntKind.wrap .i64 (x1_1 + 1))), (jb (qw.e1 x1_1)), IntKind.wrap .i64 ((qw.e1 x1_1) + 1), (decide (((IntKind.wrap .i64 ((IntKind.wrap .i64 ((qw.e1 x1_1) + 1)) + 1)).tmod 3) = 0))⟩ : Rec), (ku3 (ku8 (ku8 (ku8 (ku8 (ku8 (ku8 K16 rfl) rfl) rfl) rfl) rfl) rfl) rfl), rfl, rfl, o71, (Gr.trans (Gr.trans (Gr.trans (Gr.trans (Gr.trans (Gr.trans (Gr.trans e17 (Gr.wr h32 h31 (HB.own l_a0 h30 (OP.own0 h26) (Ym c27)))) (Gr.ext e36)) (Gr.wr h43 h42 (HB.own l_a0 h41 (OP.own0 h38) (Ym (Qv c27))))) (Gr.ext e47)) (Gr.wr h54 h53 (HB.own l_a0 h52 (OP.own0 h49) (Ym (Qv c27))))) (Gr.wr h62 h61 (HB.own l_a0 h60 (OP.own0 h57) (Ym (Qv c27))))) (Gr.wr h70 h69 (HB.own l_a0 h68 (OP.own0 h65) (Ym (Qv c27))))), S23⟩
   ·refine qi (cb q24) <| vv <| qM <| qM <| yf <| qe ?_
    obtain rfl := si H
    obtain rfl := si S23
    exact ⟨x1_1, y3, (ku4 K16 rfl), h19, h21, e17, rfl⟩
 ·rintro s10 w9 ⟨x1_7, y8, K11, h72, h73, e12, y74⟩
  rw [y74] at C6
  have H := C6
  replace H : _ = some _ := H
  refine qe <| wr <| lp rfl (qc h72) <| lp rfl (xa (.int .i64 x1_7) rfl) <| nx <| qt <| qu ?_
  obtain rfl := si H
  exact fin1m rfl e12 h73
theorem qw.calls {w : World} {a0 : List Rec} {a1 : Int} {v_a0 : Value} {B_a0 : Nat} {T_a0 : Nat} (o_a0 : Ow 52 5 qb B_a0 w v_a0 a0) (l_a0 : HB v_a0 T_a0) (h0 : a0.length ≤ 576460752303423488) (h1 : (0 : Int) ≤ a1) (h2 : (a1 : Int) ≤ 4611686018427387904 - 5 * (a0.length : Int)) :
  Calls Tryz.prog 46 #[v_a0, .int .i64 a1] w (Rt (RM 52 5 qb B_a0 T_a0 w (.int .i64 (a1 + 5 * (a0.length : Int))) v_a0 (Qm a0.length a1))) := by
 obtain ⟨k, h⟩ := qw.eq a0 a1 h0 h1 h2
 exact qw.walk o_a0 l_a0 h
/-! laws.heldRecordS -/
theorem vk.calls {w : World} {a0 : List Rec} {a1 : Int} {v_a0 : Value} (f_a0 : Rd 5 qb w v_a0 a0) (h0 : a0.length ≤ 576460752303423488) (h1 : (0 : Int) ≤ a1) (h2 : (a1 : Int) ≤ 4611686018427387904 - 5 * (a0.length : Int)) :
  Calls Tryz.prog 47 #[v_a0, .int .i64 a1] w (Rt (RP w (.int .i64 (Qy a0 a1)))) := by
 obtain ⟨k, H⟩ := vk.eq a0 a1 h0 h1 h2
 generalize (Qy a0 a1) = r at H ⊢
 unfold vk.sh at H
 refine qj Tryz.func47 rfl (Nat.le_of_ble_eq_true rfl) Tryz.ntmps47 rfl ?_
 refine wr <| lp rfl (xa (.int .i64 0) rfl) <| nx <| qh <| wr <| lp rfl (xa (.int .i64 0) rfl) <| nx ?_
 obtain ⟨z3, L4, C5⟩ := bind_some H
 clear H
 refine  vB (fun s0 sQ wQ => ∃ (x1_6 : Int), Kp [(1, 2), (4, 61)] s0 sQ ∧ sQ 1 = .int .i64 x1_6 ∧ Ext w wQ ∧ z3 = .inr x1_6) ?_ ?_
 ·refine qx <| vc (fun s0 kk sQ wQ => ∃ (x1_1 : Int) (x5_2 : Int), Kp [(1, 2), (4, 61)] s0 sQ ∧ sQ 1 = .int .i64 x1_1 ∧ sQ 5 = .int .i64 x5_2 ∧ Ext w wQ ∧ qp (vk.b1 a0) kk (x1_1, x5_2) = some z3) k ⟨a1, 0, kz, rfl, rfl, er, L4⟩ ?_
  rintro k11 s12 w13 ⟨x1_1, x5_2, K14, h17, h18, e15, L16⟩
  cases k11 with
  | zero => exact absurd L16 (by simp [qp])
  | succ k11 =>
   obtain ⟨t19, H, S20⟩ := qJ L16
   clear L16
   unfold vk.b1 at H
   refine qh <| wr <| lp rfl (qc h18) <| lp rfl (xm v_a0 (K14 0 rfl)) <| lp rfl (vz Tryz.underlying35 rfl (Rd.ext f_a0 e15)) <| lp rfl (vt rfl rfl) <| nx ?_
   rcases qg H with ⟨q21, H⟩ | ⟨q21, H⟩
   ·refine qq (cb q21) <| qr <| qe <| qh <| qx <| qh <| wr <| lp rfl (xm v_a0 (K14 0 rfl)) <| lp rfl (qc h18) ?_
    obtain ⟨c22, H⟩ := qa H
    refine vJ (.plain rfl) rfl (ltb rfl) rfl Tryz.underlying35 Tryz.sizeOf52 rfl (Rd.ext f_a0 e15) rfl c22 <| fun p23 h24 => lp rfl (qd Tryz.underlying52 rfl Tryz.sizeOf3 rfl rfl) <| lp rfl (yI Tryz.isAgg3 (j := 0) h24 rfl rfl) <| lp rfl (qc h17) <| lp rfl (js rfl rfl) <| nx ?_
    rcases qg H with ⟨q25, H⟩ | ⟨q25, H⟩
    ·refine qq (cb q25) <| wr <| lp rfl (xa (.int .i64 (-1)) rfl) <| nx <| qt <| qo <| vb <| qo <| qo <| vb <| qo <| qo <| qu ?_
     obtain rfl := si H
     obtain rfl := si S20
     have H := C5
     obtain rfl := si H
     exact qQ rfl e15
    ·refine qi (cb q25) <| qr <| qe <| wr <| lp rfl (qc h17) <| lp rfl (vn rfl rfl) <| lp rfl (xa (.int .i64 (IntKind.wrap .i64 (x1_1 + 1))) rfl) <| nx <| qh <| qh ?_
     obtain ⟨c26, H⟩ := qa H
     obtain ⟨c29, H⟩ := qa H
     refine YD [LEq v_a0, LEq (.int .i64 x5_2), ja (qb (gt a0 x5_2)), LAt 1 (qb (gt a0 x5_2)), LEq (S ((gt a0 x5_2).path)), LEq (.int .i64 (IntKind.wrap .i64 (x1_1 + 1))), LEq (S (jb (IntKind.wrap .i64 (x1_1 + 1)))), LEq (.bool (!decide (((gt a0 x5_2).path) = (jb (IntKind.wrap .i64 (x1_1 + 1))))))] (by kernel_rfl) (by kernel_rfl) ⟨qm, qm, ja.mono, LAt.mono, qm, qm, qm, qm, trivial⟩ ⟨?_, ?_, ?_, ?_, ?_, ?_, ?_, ?_, trivial⟩ ?_
     ·exact fun s x e f d u => lp rfl (xm v_a0 ((f 0 rfl).trans (K14 0 rfl))) <| se rfl rfl
     ·exact fun s x e f d u => lp rfl (xm (.int .i64 x5_2) ((f 5 rfl).trans h18)) <| se rfl rfl
     ·exact fun s x e f d u => vJ (.plain rfl) rfl (ltb rfl) rfl Tryz.underlying35 Tryz.sizeOf52 (d 0 rfl) (Rd.ext f_a0 (e15.t e)) (d 1 rfl) c26 <| fun p33 h34 => se rfl ⟨_, rfl, h34⟩
     ·intro s x e f d u
      obtain ⟨p35, h36, h37⟩ := (d 2 rfl)
      exact lp rfl (qd Tryz.underlying52 rfl Tryz.sizeOf9 rfl h36) <| se rfl ⟨_, rfl, h37⟩
     ·intro s x e f d u
      obtain ⟨p38, h39, h40⟩ := (d 3 rfl)
      exact lp rfl (yI Tryz.isAgg9 (j := 1) h40 h39 rfl) <| se rfl rfl
     ·exact fun s x e f d u => lp rfl (xm (.int .i64 (IntKind.wrap .i64 (x1_1 + 1))) (f 1 rfl)) <| se rfl rfl
     ·exact fun s x e f d u => lc rfl rfl Tryz.call112 (qZ.calls (w := x) (a0 := IntKind.wrap .i64 (x1_1 + 1)) (od c29)) (vW (d 5 rfl) rfl) <| fun w42 e43 => sx rfl e43 rfl
     ·exact fun s x e f d u => lp rfl (Qr (d 4 rfl) (d 6 rfl)) <| se rfl rfl
     intro s44 w45 e46 hf47 ha48
     have K49 := Kp.ofD (kp := [(21, 29)]) rfl hf47
     have d50 : s44 28 = (.bool (!decide (((gt a0 x5_2).path) = (jb (IntKind.wrap .i64 (x1_1 + 1)))))) := ha48 7 rfl
     clear ha48 hf47
     refine qe ?_
     rcases qg H with ⟨q51, H⟩ | ⟨q51, H⟩
     ·refine qq (d50.trans (cb q51)) <| wr <| lp rfl (xa (.int .i64 (-1)) rfl) <| nx <| qt <| qo <| vb <| qo <| qo <| vb <| qo <| qo <| qu ?_
      obtain rfl := si H
      obtain rfl := si S20
      have H := C5
      obtain rfl := si H
      exact qQ rfl (e15.t e46)
     ·refine qi (d50.trans (cb q51)) <| qr <| qe <| wr <| lp rfl (xm (.int .i64 (IntKind.wrap .i64 (x1_1 + 1))) (K49 1 rfl)) <| lp rfl (vn rfl rfl) <| lp rfl (xa (.int .i64 (IntKind.wrap .i64 ((IntKind.wrap .i64 (x1_1 + 1)) + 1))) rfl) <| nx <| qh <| qh ?_
      obtain ⟨c52, H⟩ := qa H
      obtain ⟨c55, H⟩ := qa H
      refine YD [LEq v_a0, LEq (.int .i64 x5_2), ja (qb (gt a0 x5_2)), LAt 2 (qb (gt a0 x5_2)), LEq (S ((gt a0 x5_2).body)), LEq (.int .i64 (IntKind.wrap .i64 ((IntKind.wrap .i64 (x1_1 + 1)) + 1))), LEq (S (jb (IntKind.wrap .i64 ((IntKind.wrap .i64 (x1_1 + 1)) + 1)))), LEq (.bool (!decide (((gt a0 x5_2).body) = (jb (IntKind.wrap .i64 ((IntKind.wrap .i64 (x1_1 + 1)) + 1))))))] (by kernel_rfl) (by kernel_rfl) ⟨qm, qm, ja.mono, LAt.mono, qm, qm, qm, qm, trivial⟩ ⟨?_, ?_, ?_, ?_, ?_, ?_, ?_, ?_, trivial⟩ ?_
      ·exact fun s x e f d u => lp rfl (xm v_a0 ((f 0 rfl).trans ((K49 0 rfl).trans (K14 0 rfl)))) <| se rfl rfl
      ·exact fun s x e f d u => lp rfl (xm (.int .i64 x5_2) ((f 5 rfl).trans ((K49 5 rfl).trans h18))) <| se rfl rfl
      ·exact fun s x e f d u => vJ (.plain rfl) rfl (ltb rfl) rfl Tryz.underlying35 Tryz.sizeOf52 (d 0 rfl) (Rd.ext f_a0 ((e15.t e46).t e)) (d 1 rfl) c52 <| fun p59 h60 => se rfl ⟨_, rfl, h60⟩
      ·intro s x e f d u
       obtain ⟨p61, h62, h63⟩ := (d 2 rfl)
       exact lp rfl (qd Tryz.underlying52 rfl Tryz.sizeOf9 rfl h62) <| se rfl ⟨_, rfl, h63⟩
      ·intro s x e f d u
       obtain ⟨p64, h65, h66⟩ := (d 3 rfl)
       exact lp rfl (yI Tryz.isAgg9 (j := 2) h66 h65 rfl) <| se rfl rfl
      ·exact fun s x e f d u => lp rfl (xm (.int .i64 (IntKind.wrap .i64 ((IntKind.wrap .i64 (x1_1 + 1)) + 1))) (f 1 rfl)) <| se rfl rfl
      ·exact fun s x e f d u => lc rfl rfl Tryz.call112 (qZ.calls (w := x) (a0 := IntKind.wrap .i64 ((IntKind.wrap .i64 (x1_1 + 1)) + 1)) (od c55)) (vW (d 5 rfl) rfl) <| fun w68 e69 => sx rfl e69 rfl
      ·exact fun s x e f d u => lp rfl (Qr (d 4 rfl) (d 6 rfl)) <| se rfl rfl
      intro s70 w71 e72 hf73 ha74
      have K75 := Kp.ofD (kp := [(31, 39)]) rfl hf73
      have d76 : s70 38 = (.bool (!decide (((gt a0 x5_2).body) = (jb (IntKind.wrap .i64 ((IntKind.wrap .i64 (x1_1 + 1)) + 1)))))) := ha74 7 rfl
      clear ha74 hf73
      refine qe ?_
      rcases qg H with ⟨q77, H⟩ | ⟨q77, H⟩
      ·refine qq (d76.trans (cb q77)) <| wr <| lp rfl (xa (.int .i64 (-1)) rfl) <| nx <| qt <| qo <| vb <| qo <| qo <| vb <| qo <| qo <| qu ?_
       obtain rfl := si H
       obtain rfl := si S20
       have H := C5
       obtain rfl := si H
       exact qQ rfl ((e15.t e46).t e72)
      ·refine qi (d76.trans (cb q77)) <| qr <| qe <| wr <| lp rfl (xm (.int .i64 (IntKind.wrap .i64 ((IntKind.wrap .i64 (x1_1 + 1)) + 1))) (K75 1 rfl)) <| lp rfl (vn rfl rfl) <| lp rfl (qv rfl) <| nx <| qh <| wr <| lp rfl (xm v_a0 ((K75 0 rfl).trans ((K49 0 rfl).trans (K14 0 rfl)))) <| lp rfl (xm (.int .i64 x5_2) ((K75 5 rfl).trans ((K49 5 rfl).trans h18))) ?_
       obtain ⟨c78, H⟩ := qa H
       refine vJ (.plain rfl) rfl (ltb rfl) rfl Tryz.underlying35 Tryz.sizeOf52 rfl (Rd.ext f_a0 ((e15.t e46).t e72)) rfl c78 <| fun p79 h80 => lp rfl (qd Tryz.underlying52 rfl Tryz.sizeOf3 rfl rfl) <| lp rfl (yI Tryz.isAgg3 (j := 3) h80 rfl rfl) <| lp rfl (qc rfl) <| lp rfl (js rfl rfl) <| nx ?_
       rcases qg H with ⟨q81, H⟩ | ⟨q81, H⟩
       ·refine qq (cb q81) <| wr <| lp rfl (xa (.int .i64 (-1)) rfl) <| nx <| qt <| qo <| vb <| qo <| qo <| vb <| qo <| qo <| qu ?_
        obtain rfl := si H
        obtain rfl := si S20
        have H := C5
        obtain rfl := si H
        exact qQ rfl ((e15.t e46).t e72)
       ·refine qi (cb q81) <| qr <| qe <| wr <| lp rfl (qc rfl) <| lp rfl (vn rfl rfl) <| lp rfl (qv rfl) <| nx <| qh <| wr <| lp rfl (xm v_a0 ((K75 0 rfl).trans ((K49 0 rfl).trans (K14 0 rfl)))) <| lp rfl (xm (.int .i64 x5_2) ((K75 5 rfl).trans ((K49 5 rfl).trans h18))) ?_
        obtain ⟨c82, H⟩ := qa H
        refine vJ (.plain rfl) rfl (ltb rfl) rfl Tryz.underlying35 Tryz.sizeOf52 rfl (Rd.ext f_a0 ((e15.t e46).t e72)) rfl c82 <| fun p83 h84 => lp rfl (qd Tryz.underlying52 rfl Tryz.sizeOf4 rfl rfl) <| lp rfl (yI Tryz.isAgg4 (j := 4) h84 rfl rfl) <| lp rfl (qc rfl) <| lp rfl (X_rem rfl rfl (by decide)) <| lp rfl (jo rfl rfl) <| lp rfl (X_bne Tryz.underlying4 rfl rfl) <| nx ?_
        rcases qg H with ⟨q85, H⟩ | ⟨q85, H⟩
        ·refine qq (cb q85) <| wr <| lp rfl (xa (.int .i64 (-1)) rfl) <| nx <| qt <| qo <| vb <| qo <| qo <| vb <| qo <| qo <| qu ?_
         obtain rfl := si H
         obtain rfl := si S20
         have H := C5
         obtain rfl := si H
         exact qQ rfl ((e15.t e46).t e72)
        ·refine qi (cb q85) <| qr <| qe <| qG <| lp rfl (qc rfl) <| lp rfl (vn rfl rfl) <| lp rfl (qv rfl) <| qW <| vy <| qe <| qG <| lp rfl (xm (.int .i64 x5_2) ((K75 5 rfl).trans ((K49 5 rfl).trans h18))) <| lp rfl (vn rfl rfl) <| lp rfl (xa (.int .i64 (IntKind.wrap .i64 (x5_2 + 1))) rfl) <| nx ?_
         obtain rfl := si H
         exact ⟨_, Nat.lt_succ_self _, IntKind.wrap .i64 ((IntKind.wrap .i64 ((IntKind.wrap .i64 ((IntKind.wrap .i64 ((IntKind.wrap .i64 (x1_1 + 1)) + 1)) + 1)) + 1)) + 1), IntKind.wrap .i64 (x5_2 + 1), (ku4 (ku8 (ku8 (ku8 (Kp.cut (ku3 (Kp.cut (ku2 (ku4 (ku8 K14 rfl) rfl) rfl) K49 rfl) rfl) K75 rfl) rfl) rfl) rfl) rfl), rfl, rfl, ((e15.t e46).t e72), S20⟩
   ·refine qi (cb q21) <| vv <| qM <| qM <| yf <| qe ?_
    obtain rfl := si H
    obtain rfl := si S20
    exact ⟨x1_1, (ku4 K14 rfl), h17, e15, rfl⟩
 ·rintro s8 w7 ⟨x1_6, K9, h86, e10, y87⟩
  rw [y87] at C5
  have H := C5
  replace H : _ = some _ := H
  refine qe <| wr <| lp rfl (qc h86) <| lp rfl (xa (.int .i64 x1_6) rfl) <| nx <| qt <| qu ?_
  obtain rfl := si H
  exact qQ rfl e10
/-! impl.isLongList(()impl.Record) -/
theorem yw.calls {w : World} {a0 : List (List Rec)} {v_a0 : Value} (f_a0 : Rd2 5 qb w v_a0 a0) :
  Calls Tryz.prog 116 #[v_a0] w (Rt (RP w (.bool (decide (4096 < a0.length))))) := by
 have H := yw.eq a0
 generalize (decide (4096 < a0.length)) = r at H ⊢
 unfold yw.sh at H
 refine qj Tryz.func116 rfl (Nat.le_of_ble_eq_true rfl) Tryz.ntmps116 rfl ?_
 refine wr <| lp rfl (xa (.bool false) rfl) <| nx <| wr <| lp rfl (xm v_a0 rfl) <| lp rfl (ye Tryz.underlying23 rfl f_a0) <| lp rfl (Qe rfl rfl) <| lp rfl (xa (.bool (decide (4096 < (a0.length : Int)))) rfl) <| nx <| qt <| qu ?_
 obtain rfl := si H
 exact qQ rfl er
/-! impl.stackCode -/
theorem yZ.calls {w : World} {a0 : List (List Rec)} (gv : GV 0 w) {v_a0 : Value} (f_a0 : Rd2 5 qb w v_a0 a0) (h0 : a0.length ≤ 1048576) (h1 : ∀ l ∈ a0, l.length ≤ 1048576) (h2 : ∀ l ∈ a0, ∀ x ∈ l, x.path.length ≤ 1048576) :
  Calls Tryz.prog 58 #[v_a0] w (Rt (RP w (.int .i64 (stackCode a0)))) := by
 have H := yZ.eq a0 h0 h1 h2
 generalize (stackCode a0) = r at H ⊢
 unfold yZ.sh at H
 refine qj Tryz.func58 rfl (Nat.le_of_ble_eq_true rfl) Tryz.ntmps58 rfl ?_
 refine wr <| lp rfl (xa (.int .i64 0) rfl) <| nx <| wr <| lp rfl (xm v_a0 rfl) <| lc rfl rfl Tryz.call116 (yw.calls (w := w) (a0 := a0) f_a0) rfl <| fun w1 e2 => lp rfl (qY Tryz.underlying4 rfl rfl) <| lp rfl (qY Tryz.underlying3 rfl rfl) <| lp rfl (xm v_a0 rfl) ?_
 obtain ⟨c3, H⟩ := qa H
 obtain ⟨c4, H⟩ := qa H
 obtain ⟨c5, H⟩ := qa H
 refine lc rfl rfl Tryz.call16 (jy.calls (w := w1) (a0 := a0) (GV.ext gv e2) (Rd2.ext f_a0 e2) (od c3) (od c4) (od c5)) rfl <| fun w6 e7 => lp rfl (yQ rfl) <| lp rfl (qY Tryz.underlying4 rfl rfl) <| lp rfl (qY Tryz.underlying3 rfl rfl) <| yi (.plain rfl) rfl (ltb rfl) rfl Tryz.underlying142 Tryz.sizeOf20 Tryz.zeroValue20 rfl rfl rfl (vs := [(.iface 4 (.bool (decide (4096 < a0.length)))), (.iface 3 (.int .i64 2)), (.iface 4 (.bool (!(vr a0)))), (.iface 3 (.int .i64 1))]) rfl (vq rfl) <| fun b8 w9 z10 z11 e12 k13 => ?_
 obtain ⟨c14, H⟩ := qa H
 obtain ⟨z17, x18, H⟩ := bind_some H
 replace x18 := si x18
 refine lc rfl rfl Tryz.call77 (yg.calls (w := w9) (a0 := ([.inl (decide (4096 < a0.length)), .inr 2, .inl (!(vr a0)), .inr 1] : List (Bool ⊕ Int))) (Ow.rd (Ow.new (xs := [.inl (decide (4096 < a0.length)), .inr 2, .inl (!(vr a0)), .inr 1]) (sz := 1) (enc := (j8 4 3)) (base := w6.heap.size) k13 (Nat.le_of_eq z10) rfl (fun _ _ => by first | rfl | exact QQ _ _ _) (Nat.le_of_ble_eq_true rfl))) (od c14)) rfl <| fun w15 e16 => lp rfl (xa (.int .i64 z17) (congrArg (Value.int .i64) x18)) <| nx <| qt <| qu ?_
 obtain rfl := si H
 exact qQ rfl (((e2.t e7).t e12).t e16)
/-! impl.paths -/
theorem ve.calls {w : World} {a0 : List (List Rec)} (gv : GV 0 w) {v_a0 : Value} (f_a0 : Rd2 5 qb w v_a0 a0) (h0 : a0.length ≤ 5) (h1 : ∀ l ∈ a0, l.length ≤ 1048576) (h2 : ∀ l ∈ a0, ∀ x ∈ l, x.path.length ≤ 1048576) :
  Calls Tryz.prog 79 #[v_a0] w (Rt (RO 9 1 yE w (qT a0))) := by
 obtain ⟨k, H⟩ := ve.eq a0 h0 h1 h2
 generalize (qT a0) = r at H ⊢
 unfold ve.sh at H
 refine qj Tryz.func79 rfl (Nat.le_of_ble_eq_true rfl) Tryz.ntmps79 rfl ?_
 refine wr <| lp rfl (xa (.slice none 0 0) rfl) <| nx <| wr <| yi (.plain rfl) rfl (ltb rfl) rfl Tryz.underlying44 Tryz.sizeOf9 Tryz.zeroValue9 rfl rfl rfl (vs := []) rfl (vq rfl) <| fun b1 w2 z3 z4 e5 k6 => lp rfl (xa (.slice (some ⟨b1, 0, none⟩) 0 0) rfl) <| nx <| qh <| wr <| lp rfl (xm v_a0 rfl) <| lp rfl (ye Tryz.underlying23 rfl (Rd2.ext f_a0 e5)) <| lp rfl (xm (.int .i64 0) rfl) <| nx ?_
 obtain ⟨z10, L11, C12⟩ := bind_some H
 clear H
 refine  vB (fun s0 sQ wQ => ∃ (x3_13 : List (List UInt8)) (v14 : Value), Kp [(3, 4), (5, 6), (7, 8), (11, 28)] s0 sQ ∧ sQ 3 = v14 ∧ Ow 9 1 yE w2.heap.size wQ v14 x3_13 ∧ Ext w2 wQ ∧ z10 = .inr x3_13) ?_ ?_
 ·refine qx <| vc (fun s0 kk sQ wQ => ∃ (x3_7 : List (List UInt8)) (v8 : Value) (x11_9 : Int), Kp [(3, 4), (5, 6), (7, 8), (11, 28)] s0 sQ ∧ sQ 3 = v8 ∧ Ow 9 1 yE w2.heap.size wQ v8 x3_7 ∧ sQ 11 = .int .i64 x11_9 ∧ Ext w2 wQ ∧ qp (ve.b1 k a0) kk (x3_7, x11_9) = some z10) k ⟨([] : List (List UInt8)), (.slice (some ⟨b1, 0, none⟩) 0 0), 0, kz, rfl, (Ow.zero), rfl, er, L11⟩ ?_
  rintro k19 s20 w21 ⟨x3_7, v8, x11_9, K22, h25, h26, h27, e23, L24⟩
  cases k19 with
  | zero => exact absurd L24 (by simp [qp])
  | succ k19 =>
   obtain ⟨t28, H, S29⟩ := qJ L24
   clear L24
   unfold ve.b1 at H
   refine wr <| lp rfl (vt h27 (K22 10 rfl)) <| nx <| qh ?_
   rcases qg H with ⟨q30, H⟩ | ⟨q30, H⟩
   ·refine qq (cb q30) <| qr <| qe <| qh <| qx <| wr ?_
    obtain ⟨c31, H⟩ := qa H
    refine L_idx2o (.plain rfl) rfl (ltb rfl) rfl Tryz.underlying23 Tryz.sizeOf35 (K22 9 rfl) f_a0 (e5.t e23) h27 c31 <| fun p32 v34 h33 h35 => lp rfl (vA Tryz.isAgg35 rfl h33 rfl) <| lp rfl (xa v34 rfl) <| nx <| wr <| lp rfl (xm v34 rfl) <| lp rfl (vz Tryz.underlying35 rfl (Rd.ext h35 (e5.t e23))) <| lp rfl (xm (.int .i64 0) rfl) <| nx ?_
    obtain ⟨z39, L40, C41⟩ := bind_some H
    clear H
    refine  vB (fun s0 sQ wQ => ∃ (x3_42 : List (List UInt8)) (v43 : Value), Kp [(3, 4), (7, 8), (17, 27)] s0 sQ ∧ sQ 3 = v43 ∧ Ow 9 1 yE w2.heap.size wQ v43 x3_42 ∧ Ext w2 wQ ∧ z39 = .inr x3_42) ?_ ?_
    ·refine qx <| vc (fun s0 kk sQ wQ => ∃ (x3_36 : List (List UInt8)) (v37 : Value) (x17_38 : Int), Kp [(3, 4), (7, 8), (17, 27)] s0 sQ ∧ sQ 3 = v37 ∧ Ow 9 1 yE w2.heap.size wQ v37 x3_36 ∧ sQ 17 = .int .i64 x17_38 ∧ Ext w2 wQ ∧ qp (ve.b2 a0 x11_9) kk (x3_36, x17_38) = some z39) k ⟨x3_7, v8, 0, kz, h25, h26, rfl, e23, L40⟩ ?_
     rintro k48 s49 w50 ⟨x3_36, v37, x17_38, K51, h54, h55, h56, e52, L53⟩
     cases k48 with
     | zero => exact absurd L53 (by simp [qp])
     | succ k48 =>
      obtain ⟨t57, H, S58⟩ := qJ L53
      clear L53
      unfold ve.b2 at H
      refine wr <| lp rfl (vt h56 (K51 16 rfl)) <| nx <| qh ?_
      rcases qg H with ⟨q59, H⟩ | ⟨q59, H⟩
      ·refine qq (cb q59) <| qr <| qe <| qh <| qx <| wr ?_
       obtain ⟨c60, H⟩ := qa H
       refine vJ (.plain rfl) rfl (ltb rfl) rfl Tryz.underlying35 Tryz.sizeOf52 (K51 15 rfl) (Rd.ext h35 (e5.t e52)) h56 c60 <| fun p61 h62 => lp rfl (vR Tryz.isAgg52 Tryz.sizeOf52 rfl rfl h62) <| QW (.plain rfl) rfl (ltb rfl) rfl Tryz.zeroValue52 <| fun b63 w64 z65 z66 e67 k68 => QB (.plain rfl) rfl rfl Tryz.sizeOf52 rfl rfl rfl rfl rfl k68 <| fun w69 h70 k71 => nx <| qG <| lp rfl (qc h54) <| lp rfl (qd Tryz.underlying52 rfl Tryz.sizeOf9 rfl rfl) <| lp rfl (qE Tryz.isAgg9 k71 rfl rfl) <| yi (.plain rfl) rfl (ltb rfl) rfl Tryz.underlying44 Tryz.sizeOf9 Tryz.zeroValue9 rfl rfl rfl (vs := [(S ((gt (gt a0 x11_9) x17_38).path))]) rfl (vq rfl) <| fun b72 w73 z74 z75 e76 k77 => ?_
       obtain ⟨c78, H⟩ := qa H
       refine yz (enc := yE) (.plain rfl) rfl (ltb rfl) rfl El.t44 rfl rfl (Ow.ext h55 (Ext.trans (Below.trans e67 (Wr.below h70 (Nat.le_of_eq z65))) e76)) (Ow.rd (Ow.new (xs := [(gt (gt a0 x11_9) x17_38).path]) (sz := 1) (enc := yE) (base := w69.heap.size) k77 (Nat.le_of_eq z74) rfl (fun _ _ => by rfl) (Nat.le_of_ble_eq_true rfl))) (GG _) (od c78) (((e52.t (Below.trans e67 (Wr.below h70 (Nat.le_of_eq z65)))).t e76)).size <| fun v79 w80 o81 z82 g83 => lp rfl (xa v79 rfl) <| qW <| vy <| qe <| qG <| lp rfl (vn h56 rfl) <| lp rfl (xm (.int .i64 (IntKind.wrap .i64 (x17_38 + 1))) rfl) <| nx ?_
       obtain rfl := si H
       exact ⟨_, Nat.lt_succ_self _, x3_36 ++ ([(gt (gt a0 x11_9) x17_38).path] : List (List UInt8)), v79, IntKind.wrap .i64 (x17_38 + 1), (ku4 (ku8 K51 rfl) rfl), rfl, o81, rfl, (g83 _ ((e52.t (Below.trans e67 (Wr.below h70 (Nat.le_of_eq z65)))).t e76)), S58⟩
      ·refine qi (cb q59) <| vv <| qM <| qM <| yf <| qe ?_
       obtain rfl := si H
       obtain rfl := si S58
       exact ⟨x3_36, v37, (ku1 K51 rfl), h54, h55, e52, rfl⟩
    ·rintro s45 w44 ⟨x3_42, v43, K46, h84, h85, e47, y86⟩
     rw [y86] at C41
     have H := C41
     replace H : _ = some _ := H
     refine vy <| qe <| qG <| lp rfl (vn ((K46 11 rfl).trans h27) rfl) <| lp rfl (xm (.int .i64 (IntKind.wrap .i64 (x11_9 + 1))) rfl) <| nx ?_
     obtain rfl := si H
     exact ⟨_, Nat.lt_succ_self _, x3_42, v43, IntKind.wrap .i64 (x11_9 + 1), (ku2 (Kp.cut (ku3 (ku4 K22 rfl) rfl) K46 rfl) rfl), h84, h85, rfl, e47, S29⟩
   ·refine qi (cb q30) <| vv <| qM <| qM <| yf <| qe ?_
    obtain rfl := si H
    obtain rfl := si S29
    exact ⟨x3_7, v8, (ku1 K22 rfl), h25, h26, e23, rfl⟩
 ·rintro s16 w15 ⟨x3_13, v14, K17, h87, h88, e18, y89⟩
  rw [y89] at C12
  have H := C12
  replace H : _ = some _ := H
  refine qe <| wr <| lp rfl (qc h87) ?_
  obtain ⟨c90, H⟩ := qa H
  obtain ⟨c91, H⟩ := qa H
  refine jG (.plain rfl) rfl (ltb rfl) rfl Tryz.call136 (YV.calls (w := w15) h88 (GV.ext gv (e5.t e18)) (GV.pos (GV.ext gv e5)) (od c90) (od c91)) rfl <| fun _ w92 A93 => ?_
  obtain ⟨rfl, B94, ys95, p96, q97, o98⟩ := A93
  refine nx <| wr <| lp rfl (qc h87) <| jG (.plain rfl) rfl (ltb rfl) rfl Tryz.call137 (Y9.calls (w := w92) o98 p96 q97) rfl <| fun v103 w99 A100 => ?_
  obtain ⟨B101, o102⟩ := A100
  refine lp rfl (xa v103 rfl) <| nx <| qt <| qu ?_
  obtain rfl := si H
  exact Qd rfl (e5.t (B101 _ (B94 _ e18))) o102 (e5).size
/-! spec.l06Over -/
theorem jz.calls {w : World} {a0 : Rec} {a1 : Rec} :
  Calls Tryz.prog 183 #[.agg (qb a0).toArray, .agg (qb a1).toArray] w (Rt (RP w (.agg (qb (y5 a0 a1)).toArray))) := by
 have H := jz.eq a0 a1
 generalize (y5 a0 a1) = r at H ⊢
 unfold jz.sh at H
 refine YX Tryz.func183 rfl (Nat.le_of_ble_eq_true rfl) Tryz.ntmps183 ?_
 refine wr <| Qc (.plain rfl) rfl (ltb rfl) rfl rfl <| fun b1 w2 z3 z4 e5 k6 => Qc (.plain rfl) rfl (ltb rfl) rfl rfl <| fun b7 w8 z9 z10 e11 k12 => QW (.plain rfl) rfl (ltb rfl) rfl Tryz.zeroValue52 <| fun b13 w14 z15 z16 e17 k18 => nx <| qh <| wr <| lp rfl (qd Tryz.underlying52 rfl Tryz.sizeOf3 rfl rfl) <| lp rfl (qE Tryz.isAgg3 (Blk.ext k12 e17) rfl rfl) <| lp rfl (jo rfl rfl) <| lp rfl (xm (.bool (decide (a1.kind = 3))) rfl) <| y7 3 [(9, 12)] 11 (.bool ((decide (a1.kind = 3)) && (yX a0))) ?_ ?_
 ·rcases qF (decide (a1.kind = 3)) with b18_ | b18_
  ·exact lg rfl rfl rfl rfl (cb b18_) (vR Tryz.isAgg52 Tryz.sizeOf52 rfl rfl (Blk.at0 (Blk.ext k6 (e11.t e17)))) <| yM (tg rfl rfl rfl (cb b18_)) rfl (ltb rfl) rfl Tryz.call163 (ji.calls (w := w14) (a0 := a0)) rfl <| fun w20 e21 => lp rfl (qC (b := true) (v := (.bool (yX a0))) (cb b18_) rfl) <| nx ⟨(ku3 kz rfl), (Q1 b18_), e21⟩
  ·exact ls rfl rfl rfl (cb b18_) rfl <| ls rfl rfl rfl (cb b18_) rfl <| lp rfl (qC (b := false) (v := (.bool false)) (cb b18_) rfl) <| nx ⟨(ku3 kz rfl), (QX b18_), er⟩
 intro s24 w20 K21 h22 e23
 refine nx ?_
 rcases qg H with ⟨q25, H⟩ | ⟨q25, H⟩
 ·refine qq (h22.trans (cb q25)) <| qG <| lp rfl (qd Tryz.underlying52 rfl Tryz.sizeOf4 rfl (K21 3 rfl)) <| jO (.plain rfl) rfl rfl Tryz.sizeOf4 rfl rfl rfl (Blk.ext k12 (e17.t e23)) (ltb rfl) <| fun w26 h27 k28 => nx <| wr <| lp rfl (vR Tryz.isAgg52 Tryz.sizeOf52 rfl (K21 3 rfl) (Blk.at0 k28)) <| QB (.plain rfl) rfl rfl Tryz.sizeOf52 (K21 4 rfl) rfl rfl rfl rfl (Wr.blk h27 (Blk.ext k18 e23) (fun e9 => by have e8 : b13 = b7 := e9; clear e9; have h9 := Blk.lt k12; have h8 := z15; omega)) <| fun w29 h30 k31 => nx <| qt <| XL ?_
  obtain rfl := si H
  exact finC1 rfl (K21 4 rfl) k31 Tryz.isAgg52 Tryz.sizeOf52 rfl (e5.t (Below.trans (Below.trans ((e11.t e17).t e23) (Wr.below h27 (Nat.le_of_eq z9))) (Wr.below h30 (Nat.le_trans e11.size (Nat.le_of_eq z15)))))
 ·refine qi (h22.trans (cb q25)) <| qr <| qe <| wr <| lp rfl (vR Tryz.isAgg52 Tryz.sizeOf52 rfl (K21 3 rfl) (Blk.at0 (Blk.ext k12 (e17.t e23)))) <| QB (.plain rfl) rfl rfl Tryz.sizeOf52 (K21 4 rfl) rfl rfl rfl rfl (Blk.ext k18 e23) <| fun w32 h33 k34 => nx <| qt <| XL ?_
  obtain rfl := si H
  exact finC1 rfl (K21 4 rfl) k34 Tryz.isAgg52 Tryz.sizeOf52 rfl ((e5.t e11).t (Below.trans (e17.t e23) (Wr.below h33 (Nat.le_of_eq z15))))
/-! spec.l06Two -/
abbrev qI.e1 (a0 : List Rec) (a1 : List Rec) (x6_9 : Int) (x7_10 : Int) := ((!(decide (x7_10 = (a1.length : Int)))) && (decide (x6_9 < (a0.length : Int))))
abbrev qI.e2 (a0 : List Rec) (a1 : List Rec) (x6_9 : Int) (x7_10 : Int) := ((decide (x7_10 = (a1.length : Int))) || ((decide (x6_9 < (a0.length : Int))) && (vC (cut 47 ((gt a0 x6_9).path)) (cut 47 ((gt a1 x7_10).path)))))
theorem qI.walk {k : Nat} {w : World} {a0 : List Rec} {a1 : List Rec} {v_a0 : Value} (f_a0 : Rd 5 qb w v_a0 a0) {v_a1 : Value} (f_a1 : Rd 5 qb w v_a1 a1) {r : List Rec} (H : qI.sh k a0 a1 = some r) :
  Calls Tryz.prog 122 #[v_a0, v_a1] w (Rt (RO 52 5 qb w r)) := by
 unfold qI.sh at H
 refine qj Tryz.func122 rfl (Nat.le_of_ble_eq_true rfl) Tryz.ntmps122 rfl ?_
 refine wr <| lp rfl (xa (.slice none 0 0) rfl) <| nx <| wr <| yi (.plain rfl) rfl (ltb rfl) rfl Tryz.underlying35 Tryz.sizeOf52 Tryz.zeroValue52 rfl rfl rfl (vs := []) rfl (vq rfl) <| fun b1 w2 z3 z4 e5 k6 => lp rfl (xa (.slice (some ⟨b1, 0, none⟩) 0 0) rfl) <| nx <| wr <| lp rfl (xa (.int .i64 0) rfl) <| nx <| wr <| lp rfl (xa (.int .i64 0) rfl) <| nx <| qh ?_
 obtain ⟨z11, L12, C13⟩ := bind_some H
 clear H
 refine  vB (fun s0 sQ wQ => ∃ (x5_14 : List Rec) (v15 : Value), Kp [(5, 8), (9, 103)] s0 sQ ∧ sQ 5 = v15 ∧ Ow 52 5 qb w2.heap.size wQ v15 x5_14 ∧ Ext w2 wQ ∧ z11 = .inr x5_14) ?_ ?_
 ·refine qx <| vc (fun s0 kk sQ wQ => ∃ (x5_7 : List Rec) (v8 : Value) (x6_9 : Int) (x7_10 : Int), Kp [(5, 8), (9, 103)] s0 sQ ∧ sQ 5 = v8 ∧ Ow 52 5 qb w2.heap.size wQ v8 x5_7 ∧ sQ 6 = .int .i64 x6_9 ∧ sQ 7 = .int .i64 x7_10 ∧ Ext w2 wQ ∧ qp (qI.b1 a0 a1) kk (x5_7, x6_9, x7_10) = some z11) k ⟨([] : List Rec), (.slice (some ⟨b1, 0, none⟩) 0 0), 0, 0, kz, rfl, (Ow.zero), rfl, rfl, er, L12⟩ ?_
  rintro k20 s21 w22 ⟨x5_7, v8, x6_9, x7_10, K23, h26, h27, h28, h29, e24, L25⟩
  cases k20 with
  | zero => exact absurd L25 (by simp [qp])
  | succ k20 =>
   obtain ⟨t30, H, S31⟩ := qJ L25
   clear L25
   unfold qI.b1 at H
   refine qh <| wr <| lp rfl (qc h28) <| lp rfl (xm v_a0 (K23 0 rfl)) <| lp rfl (vz Tryz.underlying35 rfl (Rd.ext f_a0 (e5.t e24))) <| lp rfl (vt rfl rfl) <| lp rfl (xm (.bool (decide (x6_9 < (a0.length : Int)))) rfl) <| y7 5 [(14, 19)] 18 (.bool ((decide (x6_9 < (a0.length : Int))) || (decide (x7_10 < (a1.length : Int))))) ?_ ?_
   ·rcases qF (decide (x6_9 < (a0.length : Int))) with b31_ | b31_
    ·exact ls rfl rfl rfl (cb b31_) rfl <| ls rfl rfl rfl (cb b31_) rfl <| ls rfl rfl rfl (cb b31_) rfl <| ls rfl rfl rfl (cb b31_) rfl <| lp rfl (qC (b := true) (v := (.bool true)) (cb b31_) rfl) <| nx ⟨(ku1 (ku4 kz rfl) rfl), (VZ b31_), er⟩
    ·exact lg rfl rfl rfl rfl (cb b31_) (qc h29) <| lg rfl rfl rfl rfl (cb b31_) (xm v_a1 (K23 1 rfl)) <| lg rfl rfl rfl rfl (cb b31_) (vz Tryz.underlying35 rfl (Rd.ext f_a1 (e5.t e24))) <| lg rfl rfl rfl rfl (cb b31_) (vt rfl rfl) <| lp rfl (qC (b := false) (v := (.bool (decide (x7_10 < (a1.length : Int))))) (cb b31_) rfl) <| nx ⟨(ku1 (ku4 kz rfl) rfl), (V6 b31_), er⟩
   intro s37 w33 K34 h35 e36
   refine nx ?_
   rcases qg H with ⟨q38, H⟩ | ⟨q38, H⟩
   ·refine qq (h35.trans (cb q38)) <| qr <| qe <| qx <| qx <| qh ?_
    obtain ⟨c39, H⟩ := qa H
    obtain ⟨c42, H⟩ := qa H
    obtain ⟨c45, H⟩ := qa H
    obtain ⟨c46, H⟩ := qa H
    refine YD [LEq (.int .i64 x7_10), LEq v_a1, LEq (.int .i64 (a1.length : Int)), LEq (.bool (decide (x7_10 = (a1.length : Int)))), LEq (.bool (decide (x7_10 = (a1.length : Int)))), LIf (!(decide (x7_10 = (a1.length : Int)))) (LEq (.int .i64 x6_9)), LIf (!(decide (x7_10 = (a1.length : Int)))) (LEq v_a0), LIf (!(decide (x7_10 = (a1.length : Int)))) (LEq (.int .i64 (a0.length : Int))), LIf (!(decide (x7_10 = (a1.length : Int)))) (LEq (.bool (decide (x6_9 < (a0.length : Int))))), LIf (!(decide (x7_10 = (a1.length : Int)))) (LEq (.bool (decide (x6_9 < (a0.length : Int))))), LIf (qI.e1 a0 a1 x6_9 x7_10) (LEq v_a0), LIf (qI.e1 a0 a1 x6_9 x7_10) (LEq (.int .i64 x6_9)), LIf (qI.e1 a0 a1 x6_9 x7_10) (ja (qb (gt a0 x6_9))), LIf (qI.e1 a0 a1 x6_9 x7_10) (LAt 1 (qb (gt a0 x6_9))), LIf (qI.e1 a0 a1 x6_9 x7_10) (LEq (S ((gt a0 x6_9).path))), LIf (qI.e1 a0 a1 x6_9 x7_10) (LEq v_a1), LIf (qI.e1 a0 a1 x6_9 x7_10) (LEq (.int .i64 x7_10)), LIf (qI.e1 a0 a1 x6_9 x7_10) (ja (qb (gt a1 x7_10))), LIf (qI.e1 a0 a1 x6_9 x7_10) (LAt 1 (qb (gt a1 x7_10))), LIf (qI.e1 a0 a1 x6_9 x7_10) (LEq (S ((gt a1 x7_10).path))), LIf (qI.e1 a0 a1 x6_9 x7_10) (LEq (.bool (vC (cut 47 ((gt a0 x6_9).path)) (cut 47 ((gt a1 x7_10).path))))), LIf (!(decide (x7_10 = (a1.length : Int)))) (LEq (.bool ((decide (x6_9 < (a0.length : Int))) && (vC (cut 47 ((gt a0 x6_9).path)) (cut 47 ((gt a1 x7_10).path)))))), LEq (.bool (qI.e2 a0 a1 x6_9 x7_10)), LEq (.bool (qI.e2 a0 a1 x6_9 x7_10))] (by kernel_rfl) (by kernel_rfl) ⟨qm, qm, qm, qm, qm, lm, lm, lm, lm, lm, lm, lm, (LIf.mono ja.mono), (LIf.mono LAt.mono), lm, lm, lm, (LIf.mono ja.mono), (LIf.mono LAt.mono), lm, lm, lm, qm, qm, trivial⟩ ⟨?_, ?_, ?_, ?_, ?_, ?_, ?_, ?_, ?_, ?_, ?_, ?_, ?_, ?_, ?_, ?_, ?_, ?_, ?_, ?_, ?_, ?_, ?_, ?_, trivial⟩ ?_
    ·exact fun s x e f d u => lp rfl (xm (.int .i64 x7_10) ((f 7 rfl).trans ((K34 7 rfl).trans h29))) <| se rfl rfl
    ·exact fun s x e f d u => lp rfl (xm v_a1 ((f 1 rfl).trans ((K34 1 rfl).trans (K23 1 rfl)))) <| se rfl rfl
    ·exact fun s x e f d u => lp rfl (vz Tryz.underlying35 (d 1 rfl) (Rd.ext f_a1 (((e5.t e24).t e36).t e))) <| se rfl rfl
    ·exact fun s x e f d u => lp rfl (jo (d 0 rfl) (d 2 rfl)) <| se rfl rfl
    ·exact fun s x e f d u => lp rfl (qc (d 3 rfl)) <| se rfl rfl
    ·exact fun s x e f d u => gF rfl rfl rfl rfl (d 4 rfl) rfl fun b t => lt t rfl rfl (xm (.int .i64 x6_9) ((f 6 rfl).trans ((K34 6 rfl).trans h28))) <| sg rfl rfl b rfl
    ·exact fun s x e f d u => gF rfl rfl rfl rfl (d 4 rfl) rfl fun b t => lt t rfl rfl (xm v_a0 ((f 0 rfl).trans ((K34 0 rfl).trans (K23 0 rfl)))) <| sg rfl rfl b rfl
    ·exact fun s x e f d u => gF rfl rfl rfl rfl (d 4 rfl) rfl fun b t => lt t rfl rfl (vz Tryz.underlying35 ((d 6 rfl).1 (qU (vT b))) (Rd.ext f_a0 (((e5.t e24).t e36).t e))) <| sg rfl rfl b rfl
    ·exact fun s x e f d u => gF rfl rfl rfl rfl (d 4 rfl) rfl fun b t => lt t rfl rfl (vt ((d 5 rfl).1 (qU (vT b))) ((d 7 rfl).1 (qU (vT b)))) <| sg rfl rfl b rfl
    ·exact fun s x e f d u => gF rfl rfl rfl rfl (d 4 rfl) rfl fun b t => lt t rfl rfl (xm (.bool (decide (x6_9 < (a0.length : Int)))) ((d 8 rfl).1 (qU (vT b)))) <| sg rfl rfl b rfl
    ·exact fun s x e f d u => hT rfl rfl rfl rfl (d 9 rfl) rfl fun b t => lt t rfl rfl (xm v_a0 ((f 0 rfl).trans ((K34 0 rfl).trans (K23 0 rfl)))) <| sg rfl rfl b rfl
    ·exact fun s x e f d u => hT rfl rfl rfl rfl (d 9 rfl) rfl fun b t => lt t rfl rfl (xm (.int .i64 x6_9) ((f 6 rfl).trans ((K34 6 rfl).trans h28))) <| sg rfl rfl b rfl
    ·exact fun s x e f d u => hT rfl rfl rfl rfl (d 9 rfl) rfl fun b t => vJ t rfl (ltb rfl) rfl Tryz.underlying35 Tryz.sizeOf52 ((d 10 rfl).1 (vj (qU (vT (Qw b))) (Qz b))) (Rd.ext f_a0 (((e5.t e24).t e36).t e)) ((d 11 rfl).1 (vj (qU (vT (Qw b))) (Qz b))) (yA b c39) <| fun p50 h51 => sg rfl rfl b ⟨_, rfl, h51⟩
    ·intro s x e f d u
     refine hT rfl rfl rfl rfl (d 9 rfl) rfl fun b t => ?_
     obtain ⟨p52, h53, h54⟩ := ((d 12 rfl).1 (vj (qU (vT (Qw b))) (Qz b)))
     exact lt t rfl rfl (qd Tryz.underlying52 rfl Tryz.sizeOf9 rfl h53) <| sg rfl rfl b ⟨_, rfl, h54⟩
    ·intro s x e f d u
     refine hT rfl rfl rfl rfl (d 9 rfl) rfl fun b t => ?_
     obtain ⟨p55, h56, h57⟩ := ((d 13 rfl).1 (vj (qU (vT (Qw b))) (Qz b)))
     exact lt t rfl rfl (yI Tryz.isAgg9 (j := 1) h57 h56 rfl) <| sg rfl rfl b rfl
    ·exact fun s x e f d u => hT rfl rfl rfl rfl (d 9 rfl) rfl fun b t => lt t rfl rfl (xm v_a1 ((f 1 rfl).trans ((K34 1 rfl).trans (K23 1 rfl)))) <| sg rfl rfl b rfl
    ·exact fun s x e f d u => hT rfl rfl rfl rfl (d 9 rfl) rfl fun b t => lt t rfl rfl (xm (.int .i64 x7_10) ((f 7 rfl).trans ((K34 7 rfl).trans h29))) <| sg rfl rfl b rfl
    ·exact fun s x e f d u => hT rfl rfl rfl rfl (d 9 rfl) rfl fun b t => vJ t rfl (ltb rfl) rfl Tryz.underlying35 Tryz.sizeOf52 ((d 15 rfl).1 (vj (qU (vT (Qw b))) (Qz b))) (Rd.ext f_a1 (((e5.t e24).t e36).t e)) ((d 16 rfl).1 (vj (qU (vT (Qw b))) (Qz b))) (yA b c42) <| fun p59 h60 => sg rfl rfl b ⟨_, rfl, h60⟩
    ·intro s x e f d u
     refine hT rfl rfl rfl rfl (d 9 rfl) rfl fun b t => ?_
     obtain ⟨p61, h62, h63⟩ := ((d 17 rfl).1 (vj (qU (vT (Qw b))) (Qz b)))
     exact lt t rfl rfl (qd Tryz.underlying52 rfl Tryz.sizeOf9 rfl h62) <| sg rfl rfl b ⟨_, rfl, h63⟩
    ·intro s x e f d u
     refine hT rfl rfl rfl rfl (d 9 rfl) rfl fun b t => ?_
     obtain ⟨p64, h65, h66⟩ := ((d 18 rfl).1 (vj (qU (vT (Qw b))) (Qz b)))
     exact lt t rfl rfl (yI Tryz.isAgg9 (j := 1) h66 h65 rfl) <| sg rfl rfl b rfl
    ·exact fun s x e f d u => hT rfl rfl rfl rfl (d 9 rfl) rfl fun b t => yM t rfl (ltb rfl) rfl Tryz.call153 (vF.calls (w := x) (a0 := (gt a0 x6_9).path) (a1 := (gt a1 x7_10).path) (od (yA b c45)) (od (yA b c46))) (vW ((d 14 rfl).1 (vj (qU (vT (Qw b))) (Qz b))) (vW ((d 19 rfl).1 (vj (qU (vT (Qw b))) (Qz b))) rfl)) <| fun w69 e70 => sgx rfl rfl b e70 rfl
    ·exact fun s x e f d u => gF rfl rfl rfl rfl (d 4 rfl) rfl fun b t => lt t rfl rfl (j7 ((d 9 rfl).1 (qU (vT b))) rfl fun h => ((d 20 rfl).1 (vj (qU (vT b)) h))) <| sg rfl rfl b rfl
    ·exact fun s x e f d u => lp rfl (VN (d 4 rfl) rfl fun h => ((d 21 rfl).1 (qU h))) <| se rfl rfl
    ·exact fun s x e f d u => lp rfl (qv (d 22 rfl)) <| se rfl rfl
    intro s71 w72 e73 hf74 ha75
    have K76 := Kp.ofD (kp := [(35, 59)]) rfl hf74
    have d77 : s71 35 = (.bool (qI.e2 a0 a1 x6_9 x7_10)) := ha75 23 rfl
    clear ha75 hf74
    refine qe ?_
    rcases qg H with ⟨q78, H⟩ | ⟨q78, H⟩
    ·refine qq (d77.trans (cb q78)) <| qh <| wr <| lp rfl (xm v_a1 ((K76 1 rfl).trans ((K34 1 rfl).trans (K23 1 rfl)))) <| lp rfl (xm v_a0 ((K76 0 rfl).trans ((K34 0 rfl).trans (K23 0 rfl)))) <| lp rfl (xm (.int .i64 x6_9) ((K76 6 rfl).trans ((K34 6 rfl).trans h28))) ?_
     obtain ⟨c79, H⟩ := qa H
     refine vJ (.plain rfl) rfl (ltb rfl) rfl Tryz.underlying35 Tryz.sizeOf52 rfl (Rd.ext f_a0 (((e5.t e24).t e36).t e73)) rfl c79 <| fun p80 h81 => lp rfl (qd Tryz.underlying52 rfl Tryz.sizeOf9 rfl rfl) <| lp rfl (yI Tryz.isAgg9 (j := 1) h81 rfl rfl) ?_
     obtain ⟨c82, H⟩ := qa H
     obtain ⟨c83, H⟩ := qa H
     refine lc rfl rfl Tryz.call166 (vZ.calls (w := w72) (a0 := a1) (a1 := (gt a0 x6_9).path) (Rd.ext f_a1 (((e5.t e24).t e36).t e73)) (od c82) (od c83)) rfl <| fun w84 e85 => lp rfl (yQ rfl) <| nx ?_
     rcases qg H with ⟨q86, H⟩ | ⟨q86, H⟩
     ·refine qq (cb q86) <| qG <| lp rfl (xm v8 ((K76 5 rfl).trans ((K34 5 rfl).trans h26))) <| lp rfl (xm v_a0 ((K76 0 rfl).trans ((K34 0 rfl).trans (K23 0 rfl)))) <| lp rfl (xm (.int .i64 x6_9) ((K76 6 rfl).trans ((K34 6 rfl).trans h28))) ?_
      obtain ⟨c87, H⟩ := qa H
      refine vJ (.plain rfl) rfl (ltb rfl) rfl Tryz.underlying35 Tryz.sizeOf52 rfl (Rd.ext f_a0 ((((e5.t e24).t e36).t e73).t e85)) rfl c87 <| fun p88 h89 => lp rfl (vR Tryz.isAgg52 Tryz.sizeOf52 rfl rfl h89) <| yi (.plain rfl) rfl (ltb rfl) rfl Tryz.underlying35 Tryz.sizeOf52 Tryz.zeroValue52 rfl rfl rfl (vs := [(.agg (qb (gt a0 x6_9)).toArray)]) rfl (vq rfl) <| fun b90 w91 z92 z93 e94 k95 => ?_
      obtain ⟨c96, H⟩ := qa H
      refine yz (enc := qb) (.plain rfl) rfl (ltb rfl) rfl El.t35 rfl rfl (Ow.ext h27 (((e36.t e73).t e85).t e94)) (Ow.rd (Ow.new (xs := [gt a0 x6_9]) (sz := 5) (enc := qb) (base := w84.heap.size) k95 (Nat.le_of_eq z92) rfl (fun _ _ => by rfl) (Nat.le_of_ble_eq_true rfl))) (jr _) (od c96) (((((e24.t e36).t e73).t e85).t e94)).size <| fun v97 w98 o99 z100 g101 => lp rfl (xa v97 rfl) <| nx <| qG <| lp rfl (xm (.int .i64 x6_9) ((K76 6 rfl).trans ((K34 6 rfl).trans h28))) <| lp rfl (vn rfl rfl) <| lp rfl (xa (.int .i64 (IntKind.wrap .i64 (x6_9 + 1))) rfl) <| qW <| vy <| vy <| qe ?_
      obtain rfl := si H
      exact ⟨_, Nat.lt_succ_self _, x5_7 ++ ([gt a0 x6_9] : List Rec), v97, IntKind.wrap .i64 (x6_9 + 1), x7_10, (ku3 (ku8 (ku8 (Kp.cut (Kp.cut (ku1 (ku4 K23 rfl) rfl) K34 rfl) K76 rfl) rfl) rfl) rfl), rfl, o99, rfl, ((K76 7 rfl).trans ((K34 7 rfl).trans h29)), (g101 _ ((((e24.t e36).t e73).t e85).t e94)), S31⟩
     ·refine qi (cb q86) <| qr <| qe <| qG <| lp rfl (xm (.int .i64 x6_9) ((K76 6 rfl).trans ((K34 6 rfl).trans h28))) <| lp rfl (vn rfl rfl) <| lp rfl (xa (.int .i64 (IntKind.wrap .i64 (x6_9 + 1))) rfl) <| qW <| vy <| vy <| qe ?_
      obtain rfl := si H
      exact ⟨_, Nat.lt_succ_self _, x5_7, v8, IntKind.wrap .i64 (x6_9 + 1), x7_10, (ku3 (ku8 (Kp.cut (Kp.cut (ku1 (ku4 K23 rfl) rfl) K34 rfl) K76 rfl) rfl) rfl), ((K76 5 rfl).trans ((K34 5 rfl).trans h26)), (Ow.ext h27 ((e36.t e73).t e85)), rfl, ((K76 7 rfl).trans ((K34 7 rfl).trans h29)), (((e24.t e36).t e73).t e85), S31⟩
    ·refine qi (d77.trans (cb q78)) <| qh ?_
     obtain ⟨c102, H⟩ := qa H
     obtain ⟨c105, H⟩ := qa H
     obtain ⟨c108, H⟩ := qa H
     obtain ⟨c109, H⟩ := qa H
     refine YD [LEq (.int .i64 x6_9), LEq v_a0, LEq (.int .i64 (a0.length : Int)), LEq (.bool (decide (x6_9 = (a0.length : Int)))), LEq (.bool (decide (x6_9 = (a0.length : Int)))), LIf (!(decide (x6_9 = (a0.length : Int)))) (LEq v_a1), LIf (!(decide (x6_9 = (a0.length : Int)))) (LEq (.int .i64 x7_10)), LIf (!(decide (x6_9 = (a0.length : Int)))) (ja (qb (gt a1 x7_10))), LIf (!(decide (x6_9 = (a0.length : Int)))) (LAt 1 (qb (gt a1 x7_10))), LIf (!(decide (x6_9 = (a0.length : Int)))) (LEq (S ((gt a1 x7_10).path))), LIf (!(decide (x6_9 = (a0.length : Int)))) (LEq v_a0), LIf (!(decide (x6_9 = (a0.length : Int)))) (LEq (.int .i64 x6_9)), LIf (!(decide (x6_9 = (a0.length : Int)))) (ja (qb (gt a0 x6_9))), LIf (!(decide (x6_9 = (a0.length : Int)))) (LAt 1 (qb (gt a0 x6_9))), LIf (!(decide (x6_9 = (a0.length : Int)))) (LEq (S ((gt a0 x6_9).path))), LIf (!(decide (x6_9 = (a0.length : Int)))) (LEq (.bool (vC (cut 47 ((gt a1 x7_10).path)) (cut 47 ((gt a0 x6_9).path))))), LEq (.bool ((decide (x6_9 = (a0.length : Int))) || (vC (cut 47 ((gt a1 x7_10).path)) (cut 47 ((gt a0 x6_9).path))))), LEq (.bool ((decide (x6_9 = (a0.length : Int))) || (vC (cut 47 ((gt a1 x7_10).path)) (cut 47 ((gt a0 x6_9).path)))))] (by kernel_rfl) (by kernel_rfl) ⟨qm, qm, qm, qm, qm, lm, lm, (LIf.mono ja.mono), (LIf.mono LAt.mono), lm, lm, lm, (LIf.mono ja.mono), (LIf.mono LAt.mono), lm, lm, qm, qm, trivial⟩ ⟨?_, ?_, ?_, ?_, ?_, ?_, ?_, ?_, ?_, ?_, ?_, ?_, ?_, ?_, ?_, ?_, ?_, ?_, trivial⟩ ?_
     ·exact fun s x e f d u => lp rfl (xm (.int .i64 x6_9) ((f 6 rfl).trans ((K76 6 rfl).trans ((K34 6 rfl).trans h28)))) <| se rfl rfl
     ·exact fun s x e f d u => lp rfl (xm v_a0 ((f 0 rfl).trans ((K76 0 rfl).trans ((K34 0 rfl).trans (K23 0 rfl))))) <| se rfl rfl
     ·exact fun s x e f d u => lp rfl (vz Tryz.underlying35 (d 1 rfl) (Rd.ext f_a0 ((((e5.t e24).t e36).t e73).t e))) <| se rfl rfl
     ·exact fun s x e f d u => lp rfl (jo (d 0 rfl) (d 2 rfl)) <| se rfl rfl
     ·exact fun s x e f d u => lp rfl (qc (d 3 rfl)) <| se rfl rfl
     ·exact fun s x e f d u => gF rfl rfl rfl rfl (d 4 rfl) rfl fun b t => lt t rfl rfl (xm v_a1 ((f 1 rfl).trans ((K76 1 rfl).trans ((K34 1 rfl).trans (K23 1 rfl))))) <| sg rfl rfl b rfl
     ·exact fun s x e f d u => gF rfl rfl rfl rfl (d 4 rfl) rfl fun b t => lt t rfl rfl (xm (.int .i64 x7_10) ((f 7 rfl).trans ((K76 7 rfl).trans ((K34 7 rfl).trans h29)))) <| sg rfl rfl b rfl
     ·exact fun s x e f d u => gF rfl rfl rfl rfl (d 4 rfl) rfl fun b t => vJ t rfl (ltb rfl) rfl Tryz.underlying35 Tryz.sizeOf52 ((d 5 rfl).1 (qU (vT b))) (Rd.ext f_a1 ((((e5.t e24).t e36).t e73).t e)) ((d 6 rfl).1 (qU (vT b))) (yA b c102) <| fun p113 h114 => sg rfl rfl b ⟨_, rfl, h114⟩
     ·intro s x e f d u
      refine gF rfl rfl rfl rfl (d 4 rfl) rfl fun b t => ?_
      obtain ⟨p115, h116, h117⟩ := ((d 7 rfl).1 (qU (vT b)))
      exact lt t rfl rfl (qd Tryz.underlying52 rfl Tryz.sizeOf9 rfl h116) <| sg rfl rfl b ⟨_, rfl, h117⟩
     ·intro s x e f d u
      refine gF rfl rfl rfl rfl (d 4 rfl) rfl fun b t => ?_
      obtain ⟨p118, h119, h120⟩ := ((d 8 rfl).1 (qU (vT b)))
      exact lt t rfl rfl (yI Tryz.isAgg9 (j := 1) h120 h119 rfl) <| sg rfl rfl b rfl
     ·exact fun s x e f d u => gF rfl rfl rfl rfl (d 4 rfl) rfl fun b t => lt t rfl rfl (xm v_a0 ((f 0 rfl).trans ((K76 0 rfl).trans ((K34 0 rfl).trans (K23 0 rfl))))) <| sg rfl rfl b rfl
     ·exact fun s x e f d u => gF rfl rfl rfl rfl (d 4 rfl) rfl fun b t => lt t rfl rfl (xm (.int .i64 x6_9) ((f 6 rfl).trans ((K76 6 rfl).trans ((K34 6 rfl).trans h28)))) <| sg rfl rfl b rfl
     ·exact fun s x e f d u => gF rfl rfl rfl rfl (d 4 rfl) rfl fun b t => vJ t rfl (ltb rfl) rfl Tryz.underlying35 Tryz.sizeOf52 ((d 10 rfl).1 (qU (vT b))) (Rd.ext f_a0 ((((e5.t e24).t e36).t e73).t e)) ((d 11 rfl).1 (qU (vT b))) (yA b c105) <| fun p122 h123 => sg rfl rfl b ⟨_, rfl, h123⟩
     ·intro s x e f d u
      refine gF rfl rfl rfl rfl (d 4 rfl) rfl fun b t => ?_
      obtain ⟨p124, h125, h126⟩ := ((d 12 rfl).1 (qU (vT b)))
      exact lt t rfl rfl (qd Tryz.underlying52 rfl Tryz.sizeOf9 rfl h125) <| sg rfl rfl b ⟨_, rfl, h126⟩
     ·intro s x e f d u
      refine gF rfl rfl rfl rfl (d 4 rfl) rfl fun b t => ?_
      obtain ⟨p127, h128, h129⟩ := ((d 13 rfl).1 (qU (vT b)))
      exact lt t rfl rfl (yI Tryz.isAgg9 (j := 1) h129 h128 rfl) <| sg rfl rfl b rfl
     ·exact fun s x e f d u => gF rfl rfl rfl rfl (d 4 rfl) rfl fun b t => yM t rfl (ltb rfl) rfl Tryz.call153 (vF.calls (w := x) (a0 := (gt a1 x7_10).path) (a1 := (gt a0 x6_9).path) (od (yA b c108)) (od (yA b c109))) (vW ((d 9 rfl).1 (qU (vT b))) (vW ((d 14 rfl).1 (qU (vT b))) rfl)) <| fun w132 e133 => sgx rfl rfl b e133 rfl
     ·exact fun s x e f d u => lp rfl (VN (d 4 rfl) rfl fun h => ((d 15 rfl).1 (qU h))) <| se rfl rfl
     ·exact fun s x e f d u => lp rfl (qv (d 16 rfl)) <| se rfl rfl
     intro s134 w135 e136 hf137 ha138
     have K139 := Kp.ofD (kp := [(76, 94)]) rfl hf137
     have d140 : s134 76 = (.bool ((decide (x6_9 = (a0.length : Int))) || (vC (cut 47 ((gt a1 x7_10).path)) (cut 47 ((gt a0 x6_9).path))))) := ha138 17 rfl
     clear ha138 hf137
     refine qe ?_
     rcases qg H with ⟨q141, H⟩ | ⟨q141, H⟩
     ·refine qq (d140.trans (cb q141)) <| wr <| lp rfl (xm v8 ((K139 5 rfl).trans ((K76 5 rfl).trans ((K34 5 rfl).trans h26)))) <| lp rfl (xm v_a1 ((K139 1 rfl).trans ((K76 1 rfl).trans ((K34 1 rfl).trans (K23 1 rfl))))) <| lp rfl (xm (.int .i64 x7_10) ((K139 7 rfl).trans ((K76 7 rfl).trans ((K34 7 rfl).trans h29)))) ?_
      obtain ⟨c142, H⟩ := qa H
      refine vJ (.plain rfl) rfl (ltb rfl) rfl Tryz.underlying35 Tryz.sizeOf52 rfl (Rd.ext f_a1 ((((e5.t e24).t e36).t e73).t e136)) rfl c142 <| fun p143 h144 => lp rfl (vR Tryz.isAgg52 Tryz.sizeOf52 rfl rfl h144) <| yi (.plain rfl) rfl (ltb rfl) rfl Tryz.underlying35 Tryz.sizeOf52 Tryz.zeroValue52 rfl rfl rfl (vs := [(.agg (qb (gt a1 x7_10)).toArray)]) rfl (vq rfl) <| fun b145 w146 z147 z148 e149 k150 => ?_
      obtain ⟨c151, H⟩ := qa H
      refine yz (enc := qb) (.plain rfl) rfl (ltb rfl) rfl El.t35 rfl rfl (Ow.ext h27 (((e36.t e73).t e136).t e149)) (Ow.rd (Ow.new (xs := [gt a1 x7_10]) (sz := 5) (enc := qb) (base := w135.heap.size) k150 (Nat.le_of_eq z147) rfl (fun _ _ => by rfl) (Nat.le_of_ble_eq_true rfl))) (jr _) (od c151) (((((e24.t e36).t e73).t e136).t e149)).size <| fun v152 w153 o154 z155 g156 => lp rfl (xa v152 rfl) <| nx <| qG <| lp rfl (xm (.int .i64 x7_10) ((K139 7 rfl).trans ((K76 7 rfl).trans ((K34 7 rfl).trans h29)))) <| lp rfl (vn rfl rfl) <| lp rfl (xa (.int .i64 (IntKind.wrap .i64 (x7_10 + 1))) rfl) <| qW <| vy <| vy <| qe ?_
      obtain rfl := si H
      exact ⟨_, Nat.lt_succ_self _, x5_7 ++ ([gt a1 x7_10] : List Rec), v152, x6_9, IntKind.wrap .i64 (x7_10 + 1), (ku3 (ku8 (Kp.cut (Kp.cut (Kp.cut (ku1 (ku4 K23 rfl) rfl) K34 rfl) K76 rfl) K139 rfl) rfl) rfl), rfl, o154, ((K139 6 rfl).trans ((K76 6 rfl).trans ((K34 6 rfl).trans h28))), rfl, (g156 _ ((((e24.t e36).t e73).t e136).t e149)), S31⟩
     ·refine qi (d140.trans (cb q141)) <| qh ?_
      obtain ⟨c157, H⟩ := qa H
      obtain ⟨c160, H⟩ := qa H
      obtain ⟨c171, H⟩ := qa H
      refine W_drawR (B := w2.heap.size) [LEq v8, LEq v_a0, LEq (.int .i64 x6_9), YE w135 (qb (gt a0 x6_9)), LEq (.agg (qb (gt a0 x6_9)).toArray), LEq v_a1, LEq (.int .i64 x7_10), YE w135 (qb (gt a1 x7_10)), LEq (.agg (qb (gt a1 x7_10)).toArray), LEq (.agg (qb (y5 (gt a0 x6_9) (gt a1 x7_10))).toArray), LRd 5 qb ([(y5 (gt a0 x6_9) (gt a1 x7_10))] : List Rec), LOw 52 5 qb w2.heap.size (x5_7 ++ ([(y5 (gt a0 x6_9) (gt a1 x7_10))] : List Rec)), LOw 52 5 qb w2.heap.size (x5_7 ++ ([(y5 (gt a0 x6_9) (gt a1 x7_10))] : List Rec))] [⟨true, true, true, false, []⟩, ⟨true, true, true, false, []⟩, ⟨true, true, true, false, []⟩, ⟨true, true, true, false, [1, 2]⟩, ⟨true, true, true, false, [3]⟩, ⟨true, true, true, false, []⟩, ⟨true, true, true, false, []⟩, ⟨true, true, true, false, [5, 6]⟩, ⟨true, true, true, false, [7]⟩, ⟨true, true, true, false, [4, 8]⟩, ⟨true, false, true, false, [9]⟩, ⟨false, false, true, false, [0, 10]⟩, ⟨true, false, false, true, [11]⟩] [(11, 0, []), (11, 1, [9, 4, 3]), (11, 2, [9, 4, 3]), (11, 3, [9, 4]), (11, 4, [9]), (11, 5, [9, 8, 7]), (11, 6, [9, 8, 7]), (11, 7, [9, 8]), (11, 8, [9]), (11, 9, []), (11, 10, []), (12, 11, [])] (by kernel_rfl) (by kernel_rfl) (((e24.t e36).t e73).t e136).size ⟨⟨LEq.rig.mono, fun _ => LEq.rig⟩, ⟨LEq.rig.mono, fun _ => LEq.rig⟩, ⟨LEq.rig.mono, fun _ => LEq.rig⟩, ⟨YE.rig.mono, fun _ => YE.rig⟩, ⟨LEq.rig.mono, fun _ => LEq.rig⟩, ⟨LEq.rig.mono, fun _ => LEq.rig⟩, ⟨LEq.rig.mono, fun _ => LEq.rig⟩, ⟨YE.rig.mono, fun _ => YE.rig⟩, ⟨LEq.rig.mono, fun _ => LEq.rig⟩, ⟨LEq.rig.mono, fun _ => LEq.rig⟩, ⟨LRd.mono, noR⟩, ⟨LOw.mono, noR⟩, ⟨LOw.mono, noR⟩, trivial⟩ ⟨?_, ?_, ?_, ?_, ?_, ?_, ?_, ?_, ?_, ?_, ?_, ?_, ?_, trivial⟩ ?_
      ·intro s177 w178 hb179 hx180 hf181 hd182 hu183
       have e184 : Ext w135 w178 := hx180 rfl
       exact lp rfl (xm v8 ((hu183 12 rfl).trans ((K139 5 rfl).trans ((K76 5 rfl).trans ((K34 5 rfl).trans h26))))) <| qW <| Vu rfl rfl rfl er rfl
      ·intro s185 w186 hb187 hx188 hf189 hd190 hu191
       have e192 : Ext w135 w186 := hx188 rfl
       exact lp rfl (xm v_a0 ((hf189 0 rfl).trans ((K139 0 rfl).trans ((K76 0 rfl).trans ((K34 0 rfl).trans (K23 0 rfl)))))) <| qW <| Vu rfl rfl rfl er rfl
      ·intro s193 w194 hb195 hx196 hf197 hd198 hu199
       have e200 : Ext w135 w194 := hx196 rfl
       exact lp rfl (xm (.int .i64 x6_9) ((hf197 6 rfl).trans ((K139 6 rfl).trans ((K76 6 rfl).trans ((K34 6 rfl).trans h28))))) <| qW <| Vu rfl rfl rfl er rfl
      ·intro s201 w202 hb203 hx204 hf205 hd206 hu207
       have e208 : Ext w135 w202 := hx204 rfl
       have d209 : s201 20 = v_a0 := (hd206 1 rfl)
       have d210 : s201 21 = (.int .i64 x6_9) := (hd206 2 rfl)
       have c211 := c157
       exact vJ (.plain rfl) rfl (ltb rfl) rfl Tryz.underlying35 Tryz.sizeOf52 d209 (Rd.ext f_a0 ((((e5.t e24).t e36).t e73).t e136)) d210 c211 <| fun p212 h213 => qW <| Vu rfl rfl rfl er ⟨_, rfl, h213⟩
      ·intro s214 w215 hb216 hx217 hf218 hd219 hu220
       have e221 : Ext w135 w215 := hx217 rfl
       obtain ⟨p222, h223, h224⟩ := (hd219 3 rfl)
       exact lp rfl (vR Tryz.isAgg52 Tryz.sizeOf52 rfl h223 (At.ext h224 e221)) <| qW <| Vu rfl rfl rfl er rfl
      ·intro s225 w226 hb227 hx228 hf229 hd230 hu231
       have e232 : Ext w135 w226 := hx228 rfl
       exact lp rfl (xm v_a1 ((hf229 1 rfl).trans ((K139 1 rfl).trans ((K76 1 rfl).trans ((K34 1 rfl).trans (K23 1 rfl)))))) <| qW <| Vu rfl rfl rfl er rfl
      ·intro s233 w234 hb235 hx236 hf237 hd238 hu239
       have e240 : Ext w135 w234 := hx236 rfl
       exact lp rfl (xm (.int .i64 x7_10) ((hf237 7 rfl).trans ((K139 7 rfl).trans ((K76 7 rfl).trans ((K34 7 rfl).trans h29))))) <| qW <| Vu rfl rfl rfl er rfl
      ·intro s241 w242 hb243 hx244 hf245 hd246 hu247
       have e248 : Ext w135 w242 := hx244 rfl
       have d249 : s241 24 = v_a1 := (hd246 5 rfl)
       have d250 : s241 25 = (.int .i64 x7_10) := (hd246 6 rfl)
       have c251 := c160
       exact vJ (.plain rfl) rfl (ltb rfl) rfl Tryz.underlying35 Tryz.sizeOf52 d249 (Rd.ext f_a1 ((((e5.t e24).t e36).t e73).t e136)) d250 c251 <| fun p252 h253 => qW <| Vu rfl rfl rfl er ⟨_, rfl, h253⟩
      ·intro s254 w255 hb256 hx257 hf258 hd259 hu260
       have e261 : Ext w135 w255 := hx257 rfl
       obtain ⟨p262, h263, h264⟩ := (hd259 7 rfl)
       exact lp rfl (vR Tryz.isAgg52 Tryz.sizeOf52 rfl h263 (At.ext h264 e261)) <| qW <| Vu rfl rfl rfl er rfl
      ·intro s265 w266 hb267 hx268 hf269 hd270 hu271
       have e272 : Ext w135 w266 := hx268 rfl
       have d273 : s265 23 = (.agg (qb (gt a0 x6_9)).toArray) := (hd270 4 rfl)
       have d274 : s265 27 = (.agg (qb (gt a1 x7_10)).toArray) := (hd270 8 rfl)
       exact lc rfl rfl Tryz.call183 (jz.calls (w := w266) (a0 := gt a0 x6_9) (a1 := gt a1 x7_10)) (vW d273 (vW d274 rfl)) <| fun w275 e276 => qW <| Vu rfl rfl rfl e276 rfl
      ·intro s277 w278 hb279 hx280 hf281 hd282 hu283
       have e284 : Ext w135 w278 := hx280 rfl
       have d285 : s277 28 = (.agg (qb (y5 (gt a0 x6_9) (gt a1 x7_10))).toArray) := (hd282 9 rfl)
       exact yi (.plain rfl) rfl (ltb rfl) rfl Tryz.underlying35 Tryz.sizeOf52 Tryz.zeroValue52 rfl rfl rfl (vs := [(.agg (qb (y5 (gt a0 x6_9) (gt a1 x7_10))).toArray)]) (vW d285 rfl) (vq rfl) <| fun b286 w287 z288 z289 e290 k291 => qW <| Vu rfl rfl rfl e290 (Ow.rd (Ow.new (xs := [(y5 (gt a0 x6_9) (gt a1 x7_10))]) (sz := 5) (enc := qb) (base := w278.heap.size) k291 (Nat.le_of_eq z288) rfl (fun _ _ => by rfl) (Nat.le_of_ble_eq_true rfl)))
      ·intro s292 w293 hb294 hx295 hf296 hd297 hu298
       have e299 : Ext w135 w293 := hx295 rfl
       have d300 : s292 19 = v8 := (hd297 0 rfl)
       have d301 : Rd 5 qb w293 (s292 29) ([(y5 (gt a0 x6_9) (gt a1 x7_10))] : List Rec) := (hd297 10 rfl)
       have c302 := c171
       exact yz (enc := qb) (.plain rfl) rfl (ltb rfl) rfl El.t35 d300 rfl (Ow.ext h27 (((e36.t e73).t e136).t e299)) d301 (jr _) (od c302) (((((e24.t e36).t e73).t e136).t e299)).size <| fun v303 w304 o305 z306 g307 => qW <| stepH rfl rfl rfl (g307 _ (Below.refl _ _)) o305
      ·intro s308 w309 hb310 hx311 hf312 hd313 hu314
       have e315 : Ext w2 w309 := Below.trans (((e24.t e36).t e73).t e136) hb310
       have d316 : Ow 52 5 qb w2.heap.size w309 (s308 30) (x5_7 ++ ([(y5 (gt a0 x6_9) (gt a1 x7_10))] : List Rec)) := (hd313 11 rfl)
       exact lp rfl (xa (s308 30) rfl) <| qW <| Vu rfl rfl rfl er d316
      intro s317 w318 hb319 hf321 ha322
      have K323 := Kp.ofD (kp := [(5, 6), (19, 31)]) rfl hf321
      have e320 : Ext w2 w318 := Below.trans (((e24.t e36).t e73).t e136) hb319
      have d324 : Ow 52 5 qb w2.heap.size w318 (s317 5) (x5_7 ++ ([(y5 (gt a0 x6_9) (gt a1 x7_10))] : List Rec)) := ha322 12 rfl rfl
      clear ha322 hf321
      refine qe <| wr <| lp rfl (xm (.int .i64 x6_9) ((K323 6 rfl).trans ((K139 6 rfl).trans ((K76 6 rfl).trans ((K34 6 rfl).trans h28))))) <| lp rfl (vn rfl rfl) <| lp rfl (xa (.int .i64 (IntKind.wrap .i64 (x6_9 + 1))) rfl) <| nx <| qG <| lp rfl (xm (.int .i64 x7_10) ((K323 7 rfl).trans ((K139 7 rfl).trans ((K76 7 rfl).trans ((K34 7 rfl).trans h29))))) <| lp rfl (vn rfl rfl) <| lp rfl (xa (.int .i64 (IntKind.wrap .i64 (x7_10 + 1))) rfl) <| qW <| vy <| vy <| qe ?_
      obtain rfl := si H
      exact ⟨_, Nat.lt_succ_self _, x5_7 ++ ([(y5 (gt a0 x6_9) (gt a1 x7_10))] : List Rec), (s317 5), IntKind.wrap .i64 (x6_9 + 1), IntKind.wrap .i64 (x7_10 + 1), (ku2 (ku4 (Kp.cut (Kp.cut (Kp.cut (Kp.cut (ku1 (ku4 K23 rfl) rfl) K34 rfl) K76 rfl) K139 rfl) K323 rfl) rfl) rfl), rfl, d324, rfl, rfl, e320, S31⟩
   ·refine qi (h35.trans (cb q38)) <| vv <| qM <| qM <| yf <| qe ?_
    obtain rfl := si H
    obtain rfl := si S31
    exact ⟨x5_7, v8, (Kp.cut (ku1 (ku4 K23 rfl) rfl) K34 rfl), ((K34 5 rfl).trans h26), (Ow.ext h27 e36), (e24.t e36), rfl⟩
 ·rintro s17 w16 ⟨x5_14, v15, K18, h325, h326, e19, y327⟩
  rw [y327] at C13
  have H := C13
  replace H : _ = some _ := H
  refine qe <| wr <| lp rfl (qc h325) ?_
  obtain ⟨c328, H⟩ := qa H
  obtain ⟨c329, H⟩ := qa H
  refine yq (.plain rfl) rfl (ltb rfl) rfl Tryz.call76 (vP.calls (w := w16) (a0 := x5_14) (Ow.rd h326) (od c328) (od c329)) rfl <| fun v332 w330 e331 o333 => lp rfl (xa v332 rfl) <| nx <| qt <| qu ?_
  obtain rfl := si H
  exact Qd rfl ((e5.t e19).t e331) o333 ((e5.t e19)).size
theorem qI.calls {w : World} {a0 : List Rec} {a1 : List Rec} {v_a0 : Value} (f_a0 : Rd 5 qb w v_a0 a0) {v_a1 : Value} (f_a1 : Rd 5 qb w v_a1 a1) (h0 : a0.length ≤ 500000) (h1 : a1.length ≤ 500000) (h2 : yr a0 = true) (h3 : yr a1 = true) :
  Calls Tryz.prog 122 #[v_a0, v_a1] w (Rt (RO 52 5 qb w (jw a0 a1))) := by
 obtain ⟨k, h⟩ := qI.eq a0 a1 h0 h1 h2 h3
 exact qI.walk f_a0 f_a1 h
/-! impl.squash -/
abbrev qD.e1 (a0 : List Rec) (a1 : List Rec) (x17_22 : Int) := (gt a1 (qz a1 (gt (qT ([a0, a1] : List (List Rec))) x17_22)))
theorem qD.walk {k : Nat} {w : World} {a0 : List Rec} {a1 : List Rec} (gv : GV 0 w) {v_a0 : Value} (f_a0 : Rd 5 qb w v_a0 a0) {v_a1 : Value} (f_a1 : Rd 5 qb w v_a1 a1) {r : List Rec} (H : qD.sh k a0 a1 = some r) :
  Calls Tryz.prog 180 #[v_a0, v_a1] w (Rt (RO 52 5 qb w r)) := by
 unfold qD.sh at H
 refine qj Tryz.func180 rfl (Nat.le_of_ble_eq_true rfl) Tryz.ntmps180 rfl ?_
 refine wr <| lp rfl (xa (.slice none 0 0) rfl) <| nx <| wr <| yi (.plain rfl) rfl (ltb rfl) rfl Tryz.underlying35 Tryz.sizeOf52 Tryz.zeroValue52 rfl rfl rfl (vs := []) rfl (vq rfl) <| fun b1 w2 z3 z4 e5 k6 => lp rfl (xa (.slice (some ⟨b1, 0, none⟩) 0 0) rfl) <| nx <| qh <| wr <| lp rfl (xm v_a0 rfl) <| lp rfl (xm v_a1 rfl) <| yi (.plain rfl) rfl (ltb rfl) rfl Tryz.underlying23 Tryz.sizeOf35 Tryz.zeroValue35 rfl rfl rfl (vs := [v_a0, v_a1]) rfl (by simp; exact ⟨(Rd.one (Rd.ext f_a0 e5)), (Rd.one (Rd.ext f_a1 e5))⟩) <| fun b7 w8 z9 z10 e11 k12 => ?_
 obtain ⟨c13, H⟩ := qa H
 obtain ⟨c14, H⟩ := qa H
 obtain ⟨c15, H⟩ := qa H
 refine yq (.plain rfl) rfl (ltb rfl) rfl Tryz.call79 (ve.calls (w := w8) (a0 := ([a0, a1] : List (List Rec))) (GV.ext gv (e5.t e11)) (Rd2.new (vs := [v_a0, v_a1]) k12 ⟨(Rd.ext f_a0 (e5.t e11)), (Rd.ext f_a1 (e5.t e11)), trivial⟩ (Nat.le_of_ble_eq_true rfl)) (od c13) (od c14) (od c15)) rfl <| fun v18 w16 e17 o19 => lp rfl (vz Tryz.underlying44 rfl (Ow.rd o19)) <| lp rfl (xm (.int .i64 0) rfl) <| nx ?_
 obtain ⟨z23, L24, C25⟩ := bind_some H
 clear H
 refine  vB (fun s0 sQ wQ => ∃ (x5_26 : List Rec) (v27 : Value), Kp [(5, 6), (7, 11), (17, 66)] s0 sQ ∧ sQ 5 = v27 ∧ Ow 52 5 qb w16.heap.size wQ v27 x5_26 ∧ Ext w16 wQ ∧ z23 = .inr x5_26) ?_ ?_
 ·refine qx <| vc (fun s0 kk sQ wQ => ∃ (x5_20 : List Rec) (v21 : Value) (x17_22 : Int), Kp [(5, 6), (7, 11), (17, 66)] s0 sQ ∧ sQ 5 = v21 ∧ Ow 52 5 qb w16.heap.size wQ v21 x5_20 ∧ sQ 17 = .int .i64 x17_22 ∧ Ext w16 wQ ∧ qp (qD.b1 a0 a1) kk (x5_20, x17_22) = some z23) k ⟨([] : List Rec), (.slice (some ⟨b1, 0, none⟩) 0 0), 0, kz, rfl, (Ow.zero), rfl, er, L24⟩ ?_
  rintro k32 s33 w34 ⟨x5_20, v21, x17_22, K35, h38, h39, h40, e36, L37⟩
  cases k32 with
  | zero => exact absurd L37 (by simp [qp])
  | succ k32 =>
   obtain ⟨t41, H, S42⟩ := qJ L37
   clear L37
   unfold qD.b1 at H
   refine wr <| lp rfl (vt h40 (K35 16 rfl)) <| nx <| qh ?_
   rcases qg H with ⟨q43, H⟩ | ⟨q43, H⟩
   ·refine qq (cb q43) <| qr <| qe <| qh <| qx <| wr ?_
    obtain ⟨c44, H⟩ := qa H
    refine vJ (.plain rfl) rfl (ltb rfl) rfl Tryz.underlying44 Tryz.sizeOf9 (K35 15 rfl) (Ow.rd (Ow.ext o19 e36)) h40 c44 <| fun p45 h46 => lp rfl (vA Tryz.isAgg9 rfl h46 rfl) <| lp rfl (xa (S (gt (qT ([a0, a1] : List (List Rec))) x17_22)) rfl) <| nx <| wr <| lp rfl (xm v_a0 (K35 0 rfl)) <| lp rfl (xm (S (gt (qT ([a0, a1] : List (List Rec))) x17_22)) rfl) ?_
    obtain ⟨c47, H⟩ := qa H
    refine lc rfl rfl Tryz.call80 (jB.calls (w := w34) (a0 := a0) (a1 := gt (qT ([a0, a1] : List (List Rec))) x17_22) (Rd.ext f_a0 (((e5.t e11).t e17).t e36)) (od c47)) rfl <| fun w48 e49 => lp rfl (xm v_a1 (K35 1 rfl)) <| lp rfl (xm (S (gt (qT ([a0, a1] : List (List Rec))) x17_22)) rfl) ?_
    obtain ⟨c50, H⟩ := qa H
    refine lc rfl rfl Tryz.call80 (jB.calls (w := w48) (a0 := a1) (a1 := gt (qT ([a0, a1] : List (List Rec))) x17_22) (Rd.ext f_a1 ((((e5.t e11).t e17).t e36).t e49)) (od c50)) rfl <| fun w51 e52 => lp rfl (qv rfl) <| lp rfl (qv rfl) <| nx <| qx <| wr <| lp rfl (qc rfl) <| lp rfl (Vd rfl rfl) <| lp rfl (qv rfl) <| nx ?_
    rcases qg H with ⟨q53, H⟩ | ⟨q53, H⟩
    ·refine qq (cb q53) <| wr <| lp rfl (xm v_a1 (K35 1 rfl)) <| lp rfl (qc rfl) ?_
     obtain ⟨c54, H⟩ := qa H
     refine vJ (.plain rfl) rfl (ltb rfl) rfl Tryz.underlying35 Tryz.sizeOf52 rfl (Rd.ext f_a1 (((((e5.t e11).t e17).t e36).t e49).t e52)) rfl c54 <| fun p55 h56 => lp rfl (vR Tryz.isAgg52 Tryz.sizeOf52 rfl rfl h56) <| QW (.plain rfl) rfl (ltb rfl) rfl Tryz.zeroValue52 <| fun b57 w58 z59 z60 e61 k62 => QB (.plain rfl) rfl rfl Tryz.sizeOf52 rfl rfl rfl rfl rfl k62 <| fun w63 h64 k65 => nx <| qh <| wr <| lp rfl (qc rfl) <| lp rfl (Vd rfl rfl) <| lp rfl (qc rfl) <| y7 4 [(37, 41)] 40 (.bool ((decide (0 ≤ (qz a0 (gt (qT ([a0, a1] : List (List Rec))) x17_22)))) && (decide (((qD.e1 a0 a1 x17_22).kind) = 3)))) ?_ ?_
     ·rcases qF (decide (0 ≤ (qz a0 (gt (qT ([a0, a1] : List (List Rec))) x17_22)))) with b65_ | b65_
      ·exact lg rfl rfl rfl rfl (cb b65_) (qd Tryz.underlying52 rfl Tryz.sizeOf3 rfl rfl) <| lg rfl rfl rfl rfl (cb b65_) (qE Tryz.isAgg3 k65 rfl rfl) <| lg rfl rfl rfl rfl (cb b65_) (jo rfl rfl) <| lp rfl (qC (b := true) (v := (.bool (decide (((qD.e1 a0 a1 x17_22).kind) = 3)))) (cb b65_) rfl) <| nx ⟨(ku4 kz rfl), (Q1 b65_), er⟩
      ·exact ls rfl rfl rfl (cb b65_) rfl <| ls rfl rfl rfl (cb b65_) rfl <| ls rfl rfl rfl (cb b65_) rfl <| lp rfl (qC (b := false) (v := (.bool false)) (cb b65_) rfl) <| nx ⟨(ku4 kz rfl), (QX b65_), er⟩
     intro s71 w67 K68 h69 e70
     refine lp rfl (qc h69) ?_
     obtain ⟨z73, x74, H⟩ := bind_some H
     refine Qj 6 [(42, 48)] 47 (fun q => q = z73) ?_ ?_
     ·rcases qg x74 with ⟨b71_, H⟩ | ⟨b71_, H⟩
      ·refine lg rfl rfl rfl rfl (cb b71_) (xm v_a0 ((K68 0 rfl).trans (K35 0 rfl))) <| lg rfl rfl rfl rfl (cb b71_) (qc (K68 8 rfl)) ?_
       obtain ⟨c73, H⟩ := qa H
       refine vJ (tg rfl rfl rfl (cb b71_)) rfl (ltb rfl) rfl Tryz.underlying35 Tryz.sizeOf52 rfl (Rd.ext f_a0 (((((((e5.t e11).t e17).t e36).t e49).t e52).t (Below.trans e61 (Wr.below h64 (Nat.le_of_eq z59)))).t e70)) rfl c73 <| fun p74 h75 => lg rfl rfl rfl rfl (cb b71_) (vR Tryz.isAgg52 Tryz.sizeOf52 rfl rfl h75) <| yM (tg rfl rfl rfl (cb b71_)) rfl (ltb rfl) rfl Tryz.call160 (jT.calls (w := w67) (a0 := gt a0 (qz a0 (gt (qT ([a0, a1] : List (List Rec))) x17_22)))) rfl <| fun w76 e77 => lp rfl (qC (b := true) (v := (.bool (yX (gt a0 (qz a0 (gt (qT ([a0, a1] : List (List Rec))) x17_22)))))) (cb b71_) rfl) ?_
       obtain rfl := si H
       exact nx ⟨(ku2 (ku4 kz rfl) rfl), ⟨_, rfl, rfl⟩, e77⟩
      ·refine ls rfl rfl rfl (cb b71_) rfl <| ls rfl rfl rfl (cb b71_) rfl <| ls rfl rfl rfl (cb b71_) rfl <| ls rfl rfl rfl (cb b71_) rfl <| ls rfl rfl rfl (cb b71_) rfl <| lp rfl (qC (b := false) (v := (.bool false)) (cb b71_) rfl) ?_
       obtain rfl := si H
       exact nx ⟨(ku2 (ku4 kz rfl) rfl), ⟨_, rfl, rfl⟩, er⟩
     intro s79 w75 z80 K76 hq h77 e78
     rw [hq] at h77; clear hq
     refine nx ?_
     rcases qg H with ⟨q81, H⟩ | ⟨q81, H⟩
     ·refine qq (h77.trans (cb q81)) <| qG <| lp rfl (qd Tryz.underlying52 rfl Tryz.sizeOf4 rfl ((K76 10 rfl).trans (K68 10 rfl))) <| jO (.plain rfl) rfl rfl Tryz.sizeOf4 rfl rfl rfl (Blk.ext k65 (e70.t e78)) (ltb rfl) <| fun w82 h83 k84 => nx <| qG <| lp rfl (xm v21 ((K76 5 rfl).trans ((K68 5 rfl).trans h38))) <| lp rfl (vR Tryz.isAgg52 Tryz.sizeOf52 rfl ((K76 10 rfl).trans (K68 10 rfl)) (Blk.at0 k84)) <| yi (.plain rfl) rfl (ltb rfl) rfl Tryz.underlying35 Tryz.sizeOf52 Tryz.zeroValue52 rfl rfl rfl (vs := [(.agg #[(.int .i64 ((qD.e1 a0 a1 x17_22).kind)), (S ((qD.e1 a0 a1 x17_22).path)), (S ((qD.e1 a0 a1 x17_22).body)), (.int .i64 ((qD.e1 a0 a1 x17_22).mode)), (.bool true)])]) rfl (vq rfl) <| fun b85 w86 z87 z88 e89 k90 => ?_
      obtain ⟨c91, H⟩ := qa H
      refine yz (enc := qb) (.plain rfl) rfl (ltb rfl) rfl El.t35 rfl rfl (Ow.ext h39 (((e49.t e52).t (Below.trans (Ext.trans (Ext.trans (Below.trans e61 (Wr.below h64 (Nat.le_of_eq z59))) e70) e78) (Wr.below h83 (Nat.le_of_eq z59)))).t e89)) (Ow.rd (Ow.new (xs := [(⟨(qD.e1 a0 a1 x17_22).kind, (qD.e1 a0 a1 x17_22).path, (qD.e1 a0 a1 x17_22).body, (qD.e1 a0 a1 x17_22).mode, true⟩ : Rec)]) (sz := 5) (enc := qb) (base := w82.heap.size) k90 (Nat.le_of_eq z87) rfl (fun _ _ => by rfl) (Nat.le_of_ble_eq_true rfl))) (jr _) (od c91) (((((e36.t e49).t e52).t (Below.trans (Ext.trans (Ext.trans (Below.trans e61 (Wr.below h64 (Nat.le_of_eq z59))) e70) e78) (Wr.below h83 (Nat.le_of_eq z59)))).t e89)).size <| fun v92 w93 o94 z95 g96 => lp rfl (xa v92 rfl) <| qW <| vy <| vy <| qe <| qG <| lp rfl (vn ((K76 17 rfl).trans ((K68 17 rfl).trans h40)) rfl) <| lp rfl (xm (.int .i64 (IntKind.wrap .i64 (x17_22 + 1))) rfl) <| nx ?_
      obtain rfl := si H
      exact ⟨_, Nat.lt_succ_self _, x5_20 ++ ([(⟨(qD.e1 a0 a1 x17_22).kind, (qD.e1 a0 a1 x17_22).path, (qD.e1 a0 a1 x17_22).body, (qD.e1 a0 a1 x17_22).mode, true⟩ : Rec)] : List Rec), v92, IntKind.wrap .i64 (x17_22 + 1), (ku8 (Kp.cut (ku1 (Kp.cut (ku3 (ku4 (ku8 (ku8 K35 rfl) rfl) rfl) rfl) K68 rfl) rfl) K76 rfl) rfl), rfl, o94, rfl, (g96 _ ((((e36.t e49).t e52).t (Below.trans (Ext.trans (Ext.trans (Below.trans e61 (Wr.below h64 (Nat.le_of_eq z59))) e70) e78) (Wr.below h83 (Nat.le_of_eq z59)))).t e89)), S42⟩
     ·refine qi (h77.trans (cb q81)) <| qr <| qe <| qG <| lp rfl (xm v21 ((K76 5 rfl).trans ((K68 5 rfl).trans h38))) <| lp rfl (vR Tryz.isAgg52 Tryz.sizeOf52 rfl ((K76 10 rfl).trans (K68 10 rfl)) (Blk.at0 (Blk.ext k65 (e70.t e78)))) <| yi (.plain rfl) rfl (ltb rfl) rfl Tryz.underlying35 Tryz.sizeOf52 Tryz.zeroValue52 rfl rfl rfl (vs := [(.agg #[(.int .i64 ((qD.e1 a0 a1 x17_22).kind)), (S ((qD.e1 a0 a1 x17_22).path)), (S ((qD.e1 a0 a1 x17_22).body)), (.int .i64 ((qD.e1 a0 a1 x17_22).mode)), (.bool ((qD.e1 a0 a1 x17_22).opq))])]) rfl (vq rfl) <| fun b97 w98 z99 z100 e101 k102 => ?_
      obtain ⟨c103, H⟩ := qa H
      refine yz (enc := qb) (.plain rfl) rfl (ltb rfl) rfl El.t35 rfl rfl (Ow.ext h39 (((((e49.t e52).t (Below.trans e61 (Wr.below h64 (Nat.le_of_eq z59)))).t e70).t e78).t e101)) (Ow.rd (Ow.new (xs := [(qD.e1 a0 a1 x17_22)]) (sz := 5) (enc := qb) (base := w75.heap.size) k102 (Nat.le_of_eq z99) rfl (fun _ _ => by rfl) (Nat.le_of_ble_eq_true rfl))) (jr _) (od c103) (((((((e36.t e49).t e52).t (Below.trans e61 (Wr.below h64 (Nat.le_of_eq z59)))).t e70).t e78).t e101)).size <| fun v104 w105 o106 z107 g108 => lp rfl (xa v104 rfl) <| qW <| vy <| vy <| qe <| qG <| lp rfl (vn ((K76 17 rfl).trans ((K68 17 rfl).trans h40)) rfl) <| lp rfl (xm (.int .i64 (IntKind.wrap .i64 (x17_22 + 1))) rfl) <| nx ?_
      obtain rfl := si H
      exact ⟨_, Nat.lt_succ_self _, x5_20 ++ ([(qD.e1 a0 a1 x17_22)] : List Rec), v104, IntKind.wrap .i64 (x17_22 + 1), (ku3 (ku4 (Kp.cut (ku1 (Kp.cut (ku3 (ku4 (ku8 (ku8 K35 rfl) rfl) rfl) rfl) K68 rfl) rfl) K76 rfl) rfl) rfl), rfl, o106, rfl, (g108 _ ((((((e36.t e49).t e52).t (Below.trans e61 (Wr.below h64 (Nat.le_of_eq z59)))).t e70).t e78).t e101)), S42⟩
    ·refine qi (cb q53) <| wr <| lp rfl (xm v_a1 (K35 1 rfl)) <| lp rfl (xm (S (gt (qT ([a0, a1] : List (List Rec))) x17_22)) rfl) ?_
     obtain ⟨c109, H⟩ := qa H
     obtain ⟨c110, H⟩ := qa H
     refine lc rfl rfl Tryz.call165 (Ql.calls (w := w51) (a0 := a1) (a1 := gt (qT ([a0, a1] : List (List Rec))) x17_22) (Rd.ext f_a1 (((((e5.t e11).t e17).t e36).t e49).t e52)) (od c109) (od c110)) rfl <| fun w111 e112 => lp rfl (yQ rfl) <| lp rfl (qv rfl) <| nx ?_
     rcases qg H with ⟨q113, H⟩ | ⟨q113, H⟩
     ·refine qq (cb q113) <| qG <| lp rfl (qc h38) <| lp rfl (xm v_a0 (K35 0 rfl)) <| lp rfl (qc rfl) ?_
      obtain ⟨c114, H⟩ := qa H
      refine vJ (.plain rfl) rfl (ltb rfl) rfl Tryz.underlying35 Tryz.sizeOf52 rfl (Rd.ext f_a0 ((((((e5.t e11).t e17).t e36).t e49).t e52).t e112)) rfl c114 <| fun p115 h116 => lp rfl (vR Tryz.isAgg52 Tryz.sizeOf52 rfl rfl h116) <| yi (.plain rfl) rfl (ltb rfl) rfl Tryz.underlying35 Tryz.sizeOf52 Tryz.zeroValue52 rfl rfl rfl (vs := [(.agg (qb (gt a0 (qz a0 (gt (qT ([a0, a1] : List (List Rec))) x17_22)))).toArray)]) rfl (vq rfl) <| fun b117 w118 z119 z120 e121 k122 => ?_
      obtain ⟨c123, H⟩ := qa H
      refine yz (enc := qb) (.plain rfl) rfl (ltb rfl) rfl El.t35 rfl rfl (Ow.ext h39 (((e49.t e52).t e112).t e121)) (Ow.rd (Ow.new (xs := [gt a0 (qz a0 (gt (qT ([a0, a1] : List (List Rec))) x17_22))]) (sz := 5) (enc := qb) (base := w111.heap.size) k122 (Nat.le_of_eq z119) rfl (fun _ _ => by rfl) (Nat.le_of_ble_eq_true rfl))) (jr _) (od c123) (((((e36.t e49).t e52).t e112).t e121)).size <| fun v124 w125 o126 z127 g128 => lp rfl (xa v124 rfl) <| qW <| vy <| vy <| qe <| qG <| lp rfl (vn h40 rfl) <| lp rfl (xm (.int .i64 (IntKind.wrap .i64 (x17_22 + 1))) rfl) <| nx ?_
      obtain rfl := si H
      exact ⟨_, Nat.lt_succ_self _, x5_20 ++ ([gt a0 (qz a0 (gt (qT ([a0, a1] : List (List Rec))) x17_22))] : List Rec), v124, IntKind.wrap .i64 (x17_22 + 1), (ku2 (ku4 (ku8 (ku8 (ku8 K35 rfl) rfl) rfl) rfl) rfl), rfl, o126, rfl, (g128 _ ((((e36.t e49).t e52).t e112).t e121)), S42⟩
     ·refine qi (cb q113) <| qr <| vy <| vy <| qe <| qG <| lp rfl (vn h40 rfl) <| lp rfl (xm (.int .i64 (IntKind.wrap .i64 (x17_22 + 1))) rfl) <| nx ?_
      obtain rfl := si H
      exact ⟨_, Nat.lt_succ_self _, x5_20, v21, IntKind.wrap .i64 (x17_22 + 1), (ku2 (ku4 (ku8 (ku8 K35 rfl) rfl) rfl) rfl), h38, (Ow.ext h39 ((e49.t e52).t e112)), rfl, (((e36.t e49).t e52).t e112), S42⟩
   ·refine qi (cb q43) <| vv <| qM <| qM <| yf <| qe ?_
    obtain rfl := si H
    obtain rfl := si S42
    exact ⟨x5_20, v21, (ku1 K35 rfl), h38, h39, e36, rfl⟩
 ·rintro s29 w28 ⟨x5_26, v27, K30, h129, h130, e31, y131⟩
  rw [y131] at C25
  have H := C25
  replace H : _ = some _ := H
  refine qe <| wr <| lp rfl (qc h129) ?_
  obtain ⟨c132, H⟩ := qa H
  obtain ⟨c133, H⟩ := qa H
  refine yq (.plain rfl) rfl (ltb rfl) rfl Tryz.call73 (vG.calls (w := w28) (a0 := x5_26) (GV.ext gv (((e5.t e11).t e17).t e31)) (Ow.rd h130) (od c132) (od c133)) rfl <| fun v136 w134 e135 o137 => lp rfl (xa v136 rfl) <| nx <| qt <| qu ?_
  obtain rfl := si H
  exact Qd rfl ((((e5.t e11).t e17).t e31).t e135) o137 ((((e5.t e11).t e17).t e31)).size
theorem qD.calls {w : World} {a0 : List Rec} {a1 : List Rec} (gv : GV 0 w) {v_a0 : Value} (f_a0 : Rd 5 qb w v_a0 a0) {v_a1 : Value} (f_a1 : Rd 5 qb w v_a1 a1) (h0 : a0.length ≤ 500000) (h1 : a1.length ≤ 500000) (h2 : yr a0 = true) (h3 : yr a1 = true) :
  Calls Tryz.prog 180 #[v_a0, v_a1] w (Rt (RO 52 5 qb w (jw a0 a1))) := by
 obtain ⟨k, h⟩ := qD.eq a0 a1 h0 h1 h2 h3
 exact qD.walk gv f_a0 f_a1 h
/-! impl.fitting, by text -/
theorem GL.calls {w : World} {a : List Rec} {v : Value} (h : Rd 5 qb w v a) :
    Calls Tryz.prog 118 #[v] w (Rt (fun r w' => r = .tuple #[JB v a, .int .i64 (Vb a)] ∧ Ext w w')) := by
  refine qj Tryz.func118 rfl (Nat.le_of_ble_eq_true rfl) Tryz.ntmps118 rfl ?_
  refine wr <| lp rfl (qv rfl) <| lp rfl (qv rfl) <| nx <| qh <| wr <| lp rfl (xm v rfl) <| lp rfl (vz Tryz.underlying35 rfl h) <|
    lp rfl (Qe rfl rfl) <| nx ?_
  by_cases hc : 16 < a.length
  · refine qq (cb (decide_eq_true (by omega))) <| wr <| lp rfl (qv rfl) <| lp rfl (qv rfl) <| nx <| qt <| qo <| qu ?_
    exact ⟨_, rfl, by simp only [JB, Vb, hc, if_true]; rfl, Ext.refl _⟩
  · refine qi (cb (decide_eq_false (by omega))) <| qr <| qe <| wr <| lp rfl (xm v rfl) <| lp rfl (xa v rfl) <| lp rfl (qv rfl) <| nx <| qt <| qu ?_
    exact ⟨_, rfl, by simp only [JB, Vb, hc, if_false]; rfl, Ext.refl _⟩

/-! laws.markRecordSS, by text -/
theorem Q2.calls {w : World} {a0 : List (List Rec)} {a1 : Int} {v_a0 : Value} {B T : Nat} (o_a0 : qS 35 52 5 qb B w v_a0 a0) (l_a0 : HB2 w v_a0 T) (h0 : a0.length ≤ 1048576) (h1 : ∀ l ∈ a0, l.length ≤ 1048576) (h2 : (0 : Int) ≤ a1) (h3 : (a1 : Int) ≤ 4611686018427387904 - 5 * (jq a0 : Int)) :
    Calls Tryz.prog 51 #[v_a0, .int .i64 a1] w (Rt (RM2 35 52 5 qb B T w (.int .i64 (a1 + 5 * (jq a0 : Int))) v_a0 (vQ a0 a1))) := by
  refine qj Tryz.func51 rfl (Nat.le_of_ble_eq_true rfl) Tryz.ntmps51 rfl ?_
  refine wr <| lp rfl (xa (.int .i64 0) rfl) <| nx <| qh <| wr <| lp rfl (xa (.int .i64 0) rfl) <| nx ?_
  refine vB (fun s0 σ W => σ 1 = .int .i64 (a1 + 5 * (jq a0 : Int)) ∧ Gr B T w W ∧ qS 35 52 5 qb B W v_a0 (vQ a0 a1)) ?_ ?_
  · refine qx <| vc (fun s0 m σ W => ∃ (D R : List (List Rec)) (k : Int), m = R.length ∧ σ 0 = v_a0 ∧ σ 5 = .int .i64 (D.length : Int) ∧ σ 1 = .int .i64 k ∧ D.length + R.length = a0.length ∧ Gr B T w W ∧ qS 35 52 5 qb B W v_a0 (D ++ R) ∧ HB2 W v_a0 T ∧ (∀ l ∈ R, l.length ≤ 1048576) ∧ 0 ≤ k ∧ k + 5 * (jq R : Int) = a1 + 5 * (jq a0 : Int) ∧ D ++ vQ R k = vQ a0 a1) a0.length
      ⟨[], a0, a1, rfl, rfl, rfl, rfl, by simp, Gr.refl _ _ _, o_a0, l_a0, h1, h2, rfl, rfl⟩ ?_
    rintro m s1 W1 ⟨D, R, k, rfl, q0, q5, q1, hl, hg, hO, hH, hR, hk0, hk, hf⟩
    refine qh <| wr <| lp rfl (qc q5) <| lp rfl (qc q0) <| lp rfl (ye Tryz.underlying23 rfl hO.rd) <| lp rfl (vt rfl rfl) <| nx ?_
    cases R with
    | nil =>
      refine qi (cb (decide_eq_false (by simp))) <| vv <| qM <| qM <| yf <| qe ?_
      have hkk : k = a1 + 5 * (jq a0 : Int) := by simpa [jq] using hk
      refine ⟨by rw [← hkk]; exact q1, hg, ?_⟩
      rw [← hf]
      exact hO
    | cons l R =>
      obtain ⟨vs, u, lo, hi, hv, hvl, hu, ho, hh, hsub, hback⟩ := hO.inner hH
      have hlt : D.length < vs.length := by rw [hvl]; simp
      haveI : Inhabited Value := ⟨undef⟩
      have hgu : gt vs (D.length : Int) = u := by
        rw [vI, ya hlt]
        rw [List.getElem?_eq_getElem hlt] at hu
        exact si hu
      have htot : jq (l :: R) = l.length + jq R := by simp [jq]
      rw [htot] at hk
      have hll := hR l (by simp)
      refine qq (cb (decide_eq_true (by simp; omega))) <| qr <| qe <| qh <| qx <| qG <| lp rfl (qc q0) <| lp rfl (qc q5) <|
        vJ (xs := vs) (.plain rfl) rfl (ltb rfl) rfl Tryz.underlying23 Tryz.sizeOf35 rfl hv rfl (qR hlt) <| fun p hA => ?_
      rw [hgu] at hA
      refine lp rfl (vA (v := u) Tryz.isAgg35 rfl hA rfl) <| lp rfl (qc q1) <|
        L_callM (.plain rfl) rfl (ltb rfl) rfl Tryz.call46 (qw.calls (w := W1) (a0 := l) (a1 := k) ho hh (by omega) hk0 (by omega)) rfl <| fun W2 g2 o2 => lp rfl (qv (v := .int .i64 (k + 5 * (l.length : Int))) rfl) <| qW <| vy <| qe ?_
      obtain ⟨hO2, hH2⟩ := hback W2 (Qm l.length k) g2 o2
      have hw : IntKind.wrap .i64 ((D.length : Int) + 1) = (((D ++ [Qm l.length k]).length : Nat) : Int) := by simp only [List.length_append, List.length_cons, List.length_nil]; rw [Int.natCast_add]; exact Go.UL.wrap_small (by omega) (by simp at hl; omega)
      refine qG <| lp rfl (qc q5) <| lp rfl (vn rfl rfl) <| lp rfl (qv (v := .int .i64 (((D ++ [Qm l.length k]).length : Nat) : Int)) (congrArg (Value.int .i64) hw)) <| nx ?_
      exact ⟨R.length, by simp, D ++ [Qm l.length k], R, k + 5 * (l.length : Int), rfl, q0, rfl, rfl, by simp at hl ⊢; omega, hg.trans (hsub W2 g2), by rw [List.append_assoc]; exact hO2, hH2, fun y hy => hR y (by simp [hy]), by omega, by omega, by rw [List.append_assoc]; exact hf⟩
  · rintro s2 W2 ⟨q1, hg, hO⟩
    refine qe <| wr <| lp rfl (qc q1) <| lp rfl (qv (v := .int .i64 (a1 + 5 * (jq a0 : Int))) rfl) <| nx <| qt <| qu ?_
    exact ⟨_, rfl, rfl, hg, hO⟩

/-! laws.heldRecordSS -/
theorem qV.calls {w : World} {a0 : List (List Rec)} {a1 : Int} {v_a0 : Value} (f_a0 : Rd2 5 qb w v_a0 a0) (h0 : a0.length ≤ 1048576) (h1 : ∀ l ∈ a0, l.length ≤ 1048576) (h2 : (0 : Int) ≤ a1) (h3 : (a1 : Int) ≤ 4611686018427387904 - 5 * (jq a0 : Int)) :
  Calls Tryz.prog 52 #[v_a0, .int .i64 a1] w (Rt (RP w (.int .i64 (jf a0 a1)))) := by
 obtain ⟨k, H⟩ := qV.eq a0 a1 h0 h1 h2 h3
 generalize (jf a0 a1) = r at H ⊢
 unfold qV.sh at H
 refine qj Tryz.func52 rfl (Nat.le_of_ble_eq_true rfl) Tryz.ntmps52 rfl ?_
 refine wr <| lp rfl (xa (.int .i64 0) rfl) <| nx <| qh <| wr <| lp rfl (xa (.int .i64 0) rfl) <| nx ?_
 obtain ⟨z3, L4, C5⟩ := bind_some H
 clear H
 refine  vB (fun s0 sQ wQ => ∃ (x1_6 : Int), Kp [(1, 2), (4, 20)] s0 sQ ∧ sQ 1 = .int .i64 x1_6 ∧ Ext w wQ ∧ z3 = .inr x1_6) ?_ ?_
 ·refine qx <| vc (fun s0 kk sQ wQ => ∃ (x1_1 : Int) (x5_2 : Int), Kp [(1, 2), (4, 20)] s0 sQ ∧ sQ 1 = .int .i64 x1_1 ∧ sQ 5 = .int .i64 x5_2 ∧ Ext w wQ ∧ qp (qV.b1 a0) kk (x1_1, x5_2) = some z3) k ⟨a1, 0, kz, rfl, rfl, er, L4⟩ ?_
  rintro k11 s12 w13 ⟨x1_1, x5_2, K14, h17, h18, e15, L16⟩
  cases k11 with
  | zero => exact absurd L16 (by simp [qp])
  | succ k11 =>
   obtain ⟨t19, H, S20⟩ := qJ L16
   clear L16
   unfold qV.b1 at H
   refine qh <| wr <| lp rfl (qc h18) <| lp rfl (xm v_a0 (K14 0 rfl)) <| lp rfl (ye Tryz.underlying23 rfl (Rd2.ext f_a0 e15)) <| lp rfl (vt rfl rfl) <| nx ?_
   rcases qg H with ⟨q21, H⟩ | ⟨q21, H⟩
   ·refine qq (cb q21) <| qr <| qe <| qh <| qx <| wr <| lp rfl (xm v_a0 (K14 0 rfl)) <| lp rfl (qc h18) ?_
    obtain ⟨c22, H⟩ := qa H
    refine j9 (.plain rfl) rfl (ltb rfl) rfl Tryz.underlying23 Tryz.sizeOf35 rfl (Rd2.ext f_a0 e15) rfl c22 <| fun p23 v25 h24 h26 => lp rfl (vA Tryz.isAgg35 rfl h24 rfl) <| lp rfl (qc h17) ?_
    obtain ⟨c27, H⟩ := qa H
    obtain ⟨c28, H⟩ := qa H
    obtain ⟨c29, H⟩ := qa H
    refine lc rfl rfl Tryz.call47 (vk.calls (w := w13) (a0 := gt a0 x5_2) (a1 := x1_1) h26 (od c27) (od c28) (od c29)) rfl <| fun w30 e31 => lp rfl (xa (.int .i64 (Qy (gt a0 x5_2) x1_1)) rfl) <| nx <| wr <| lp rfl (xm (.int .i64 (Qy (gt a0 x5_2) x1_1)) rfl) <| lp rfl (vt rfl rfl) <| nx ?_
    rcases qg H with ⟨q32, H⟩ | ⟨q32, H⟩
    ·refine qq (cb q32) <| wr <| lp rfl (xa (.int .i64 (-1)) rfl) <| nx <| qt <| vb <| qo <| qo <| vb <| qo <| qo <| qu ?_
     obtain rfl := si H
     obtain rfl := si S20
     have H := C5
     obtain rfl := si H
     exact qQ rfl (e15.t e31)
    ·refine qi (cb q32) <| qr <| vy <| qe <| qG <| lp rfl (qc h18) <| lp rfl (vn rfl rfl) <| lp rfl (xa (.int .i64 (IntKind.wrap .i64 (x5_2 + 1))) rfl) <| nx ?_
     obtain rfl := si H
     exact ⟨_, Nat.lt_succ_self _, (Qy (gt a0 x5_2) x1_1), IntKind.wrap .i64 (x5_2 + 1), (ku8 (ku8 K14 rfl) rfl), rfl, rfl, (e15.t e31), S20⟩
   ·refine qi (cb q21) <| vv <| qM <| qM <| yf <| qe ?_
    obtain rfl := si H
    obtain rfl := si S20
    exact ⟨x1_1, (ku4 K14 rfl), h17, e15, rfl⟩
 ·rintro s8 w7 ⟨x1_6, K9, h33, e10, y34⟩
  rw [y34] at C5
  have H := C5
  replace H : _ = some _ := H
  refine qe <| wr <| lp rfl (qc h33) <| lp rfl (xa (.int .i64 x1_6) rfl) <| nx <| qt <| qu ?_
  obtain rfl := si H
  exact qQ rfl e10
/-! spec.l06All -/
theorem yl.calls {w : World} {a0 : List (List Rec)} {v_a0 : Value} (f_a0 : Rd2 5 qb w v_a0 a0) (h0 : vr a0 = true) :
  Calls Tryz.prog 62 #[v_a0] w (Rt (RO 52 5 qb w (qB a0))) := by
 obtain ⟨k, H⟩ := yl.eq a0 h0
 generalize (qB a0) = r at H ⊢
 unfold yl.sh at H
 refine qj Tryz.func62 rfl (Nat.le_of_ble_eq_true rfl) Tryz.ntmps62 rfl ?_
 refine wr <| lp rfl (xa (.slice none 0 0) rfl) <| nx <| wr <| yi (.plain rfl) rfl (ltb rfl) rfl Tryz.underlying35 Tryz.sizeOf52 Tryz.zeroValue52 rfl rfl rfl (vs := []) rfl (vq rfl) <| fun b1 w2 z3 z4 e5 k6 => lp rfl (xa (.slice (some ⟨b1, 0, none⟩) 0 0) rfl) <| nx <| qh <| wr <| lp rfl (xa (.int .i64 0) rfl) <| nx ?_
 obtain ⟨z10, L11, C12⟩ := bind_some H
 clear H
 refine  vB (fun s0 sQ wQ => ∃ (x3_13 : List Rec) (v14 : Value), Kp [(3, 5), (6, 18)] s0 sQ ∧ sQ 3 = v14 ∧ Ow 52 5 qb w2.heap.size wQ v14 x3_13 ∧ Ext w2 wQ ∧ z10 = .inr x3_13) ?_ ?_
 ·refine qx <| vc (fun s0 kk sQ wQ => ∃ (x3_7 : List Rec) (v8 : Value) (x4_9 : Int), Kp [(3, 5), (6, 18)] s0 sQ ∧ sQ 3 = v8 ∧ Ow 52 5 qb w2.heap.size wQ v8 x3_7 ∧ sQ 4 = .int .i64 x4_9 ∧ Ext w2 wQ ∧ qp (yl.b1 a0) kk (x3_7, x4_9) = some z10) k ⟨([] : List Rec), (.slice (some ⟨b1, 0, none⟩) 0 0), 0, kz, rfl, (Ow.zero), rfl, er, L11⟩ ?_
  rintro k19 s20 w21 ⟨x3_7, v8, x4_9, K22, h25, h26, h27, e23, L24⟩
  cases k19 with
  | zero => exact absurd L24 (by simp [qp])
  | succ k19 =>
   obtain ⟨t28, H, S29⟩ := qJ L24
   clear L24
   unfold yl.b1 at H
   refine qh <| wr <| lp rfl (qc h27) <| lp rfl (xm v_a0 (K22 0 rfl)) <| lp rfl (ye Tryz.underlying23 rfl (Rd2.ext f_a0 (e5.t e23))) <| lp rfl (vt rfl rfl) <| nx ?_
   rcases qg H with ⟨q30, H⟩ | ⟨q30, H⟩
   ·refine qq (cb q30) <| qr <| qe <| qh <| qx <| qG <| lp rfl (qc h25) <| lp rfl (xm v_a0 (K22 0 rfl)) <| lp rfl (qc h27) ?_
    obtain ⟨c31, H⟩ := qa H
    refine j9 (.plain rfl) rfl (ltb rfl) rfl Tryz.underlying23 Tryz.sizeOf35 rfl (Rd2.ext f_a0 (e5.t e23)) rfl c31 <| fun p32 v34 h33 h35 => lp rfl (vA Tryz.isAgg35 rfl h33 rfl) ?_
    obtain ⟨c36, H⟩ := qa H
    obtain ⟨c37, H⟩ := qa H
    obtain ⟨c38, H⟩ := qa H
    obtain ⟨c39, H⟩ := qa H
    refine yq (.plain rfl) rfl (ltb rfl) rfl Tryz.call122 (qI.calls (w := w21) (a0 := x3_7) (a1 := gt a0 x4_9) (Ow.rd h26) h35 (od c36) (od c37) (od c38) (od c39)) rfl <| fun v42 w40 e41 o43 => lp rfl (xa v42 rfl) <| qW <| vy <| qe <| qG <| lp rfl (qc h27) <| lp rfl (vn rfl rfl) <| lp rfl (xa (.int .i64 (IntKind.wrap .i64 (x4_9 + 1))) rfl) <| nx ?_
    obtain rfl := si H
    exact ⟨_, Nat.lt_succ_self _, (jw x3_7 (gt a0 x4_9)), v42, IntKind.wrap .i64 (x4_9 + 1), (ku2 (ku4 (ku8 K22 rfl) rfl) rfl), rfl, (Ow.base o43 e23.size), rfl, (e23.t e41), S29⟩
   ·refine qi (cb q30) <| vv <| qM <| qM <| yf <| qe ?_
    obtain rfl := si H
    obtain rfl := si S29
    exact ⟨x3_7, v8, (ku4 K22 rfl), h25, h26, e23, rfl⟩
 ·rintro s16 w15 ⟨x3_13, v14, K17, h44, h45, e18, y46⟩
  rw [y46] at C12
  have H := C12
  replace H : _ = some _ := H
  refine qe <| wr <| lp rfl (qc h44) <| lp rfl (xa v14 rfl) <| nx <| qt <| qu ?_
  obtain rfl := si H
  exact Qd rfl (e5.t e18) h45 (e5).size
/-! impl.squashAll -/
theorem vD.calls {w : World} {a0 : List (List Rec)} (gv : GV 0 w) {v_a0 : Value} (f_a0 : Rd2 5 qb w v_a0 a0) (h0 : vr a0 = true) :
  Calls Tryz.prog 119 #[v_a0] w (Rt (RO 52 5 qb w (qB a0))) := by
 obtain ⟨k, H⟩ := vD.eq a0 h0
 generalize (qB a0) = r at H ⊢
 unfold vD.sh at H
 refine qj Tryz.func119 rfl (Nat.le_of_ble_eq_true rfl) Tryz.ntmps119 rfl ?_
 refine wr <| lp rfl (xa (.slice none 0 0) rfl) <| nx <| wr <| yi (.plain rfl) rfl (ltb rfl) rfl Tryz.underlying35 Tryz.sizeOf52 Tryz.zeroValue52 rfl rfl rfl (vs := []) rfl (vq rfl) <| fun b1 w2 z3 z4 e5 k6 => lp rfl (xa (.slice (some ⟨b1, 0, none⟩) 0 0) rfl) <| nx <| qh <| wr <| lp rfl (xm v_a0 rfl) <| lp rfl (ye Tryz.underlying23 rfl (Rd2.ext f_a0 e5)) <| lp rfl (xm (.int .i64 0) rfl) <| nx ?_
 obtain ⟨z10, L11, C12⟩ := bind_some H
 clear H
 refine  vB (fun s0 sQ wQ => ∃ (x3_13 : List Rec) (v14 : Value), Kp [(3, 4), (5, 6), (9, 17)] s0 sQ ∧ sQ 3 = v14 ∧ Ow 52 5 qb w2.heap.size wQ v14 x3_13 ∧ Ext w2 wQ ∧ z10 = .inr x3_13) ?_ ?_
 ·refine qx <| vc (fun s0 kk sQ wQ => ∃ (x3_7 : List Rec) (v8 : Value) (x9_9 : Int), Kp [(3, 4), (5, 6), (9, 17)] s0 sQ ∧ sQ 3 = v8 ∧ Ow 52 5 qb w2.heap.size wQ v8 x3_7 ∧ sQ 9 = .int .i64 x9_9 ∧ Ext w2 wQ ∧ qp (vD.b1 a0) kk (x3_7, x9_9) = some z10) k ⟨([] : List Rec), (.slice (some ⟨b1, 0, none⟩) 0 0), 0, kz, rfl, (Ow.zero), rfl, er, L11⟩ ?_
  rintro k19 s20 w21 ⟨x3_7, v8, x9_9, K22, h25, h26, h27, e23, L24⟩
  cases k19 with
  | zero => exact absurd L24 (by simp [qp])
  | succ k19 =>
   obtain ⟨t28, H, S29⟩ := qJ L24
   clear L24
   unfold vD.b1 at H
   refine wr <| lp rfl (vt h27 (K22 8 rfl)) <| nx <| qh ?_
   rcases qg H with ⟨q30, H⟩ | ⟨q30, H⟩
   ·refine qq (cb q30) <| qr <| qe <| qh <| qx <| wr ?_
    obtain ⟨c31, H⟩ := qa H
    refine j9 (.plain rfl) rfl (ltb rfl) rfl Tryz.underlying23 Tryz.sizeOf35 (K22 7 rfl) (Rd2.ext f_a0 (e5.t e23)) h27 c31 <| fun p32 v34 h33 h35 => lp rfl (vA Tryz.isAgg35 rfl h33 rfl) <| lp rfl (xa v34 rfl) <| nx <| qG <| lp rfl (qc h25) <| lp rfl (xm v34 rfl) ?_
    obtain ⟨c36, H⟩ := qa H
    obtain ⟨c37, H⟩ := qa H
    obtain ⟨c38, H⟩ := qa H
    obtain ⟨c39, H⟩ := qa H
    refine yq (.plain rfl) rfl (ltb rfl) rfl Tryz.call180 (qD.calls (w := w21) (a0 := x3_7) (a1 := gt a0 x9_9) (GV.ext gv (e5.t e23)) (Ow.rd h26) h35 (od c36) (od c37) (od c38) (od c39)) rfl <| fun v42 w40 e41 o43 => lp rfl (xa v42 rfl) <| qW <| vy <| qe <| qG <| lp rfl (vn h27 rfl) <| lp rfl (xm (.int .i64 (IntKind.wrap .i64 (x9_9 + 1))) rfl) <| nx ?_
    obtain rfl := si H
    exact ⟨_, Nat.lt_succ_self _, (jw x3_7 (gt a0 x9_9)), v42, IntKind.wrap .i64 (x9_9 + 1), (ku2 (ku8 K22 rfl) rfl), rfl, (Ow.base o43 e23.size), rfl, (e23.t e41), S29⟩
   ·refine qi (cb q30) <| vv <| qM <| qM <| yf <| qe ?_
    obtain rfl := si H
    obtain rfl := si S29
    exact ⟨x3_7, v8, (ku1 K22 rfl), h25, h26, e23, rfl⟩
 ·rintro s16 w15 ⟨x3_13, v14, K17, h44, h45, e18, y46⟩
  rw [y46] at C12
  have H := C12
  replace H : _ = some _ := H
  refine qe <| wr <| lp rfl (qc h44) <| lp rfl (xa v14 rfl) <| nx <| qt <| qu ?_
  obtain rfl := si H
  exact Qd rfl (e5.t e18) h45 (e5).size
/-! slices.Clone(()impl.Record,impl.Record), by text -/
theorem JY.calls {w : World} {a0 : List Rec} {v_a0 : Value} (f_a0 : Rd 5 qb w v_a0 a0) (h0 : a0.length ≤ 1048576) :
    Calls Tryz.prog 181 #[v_a0] w (Rt (RO 52 5 qb w a0)) := by
  obtain ⟨A, c, hv⟩ := f_a0.shape
  refine qj Tryz.func181 rfl (Nat.le_of_ble_eq_true rfl) Tryz.ntmps181 rfl ?_
  refine wr <| lp rfl (qv (v := .slice none 0 0) rfl) <| nx <| qh <| wr <| lp rfl (xm v_a0 rfl) <| lp rfl (X_eqNil Tryz.underlying35 (by kernel_rfl) hv rfl) <| nx ?_
  cases A with
  | none =>
    have hn : a0 = [] := by
      obtain ⟨A', c', hv', ⟨hn, hz, _⟩, _⟩ := f_a0
      rw [hv] at hv'; injection hv' with e1 e2 e3
      have := hz e1.symm
      exact List.eq_nil_of_length_eq_zero (by omega)
    subst hn
    refine qq rfl <| wr <| lp rfl (qv (v := .slice none 0 0) rfl) <| nx <| qt <| qo <| qu ?_
    exact Qd rfl er (Ow.zero (base := w.heap.size)) (Nat.le_refl _)
  | some a =>
    refine qi rfl <| qr <| qe <| wr <| yi (.plain rfl) rfl (ltb rfl) rfl Tryz.underlying35 Tryz.sizeOf52 Tryz.zeroValue52 rfl rfl rfl (vs := []) rfl (vq rfl) <| fun b w1 z1 z2 e1 k1 => lp rfl (xm v_a0 rfl) <|
      yz (enc := qb) (.plain rfl) rfl (ltb rfl) rfl El.t35 rfl rfl (Ow.zero (base := w1.heap.size) (w := w1)) (Rd.ext f_a0 e1) (jr _) (by simp; omega) (Nat.le_refl _) <| fun v2 w2 o2 z3 g2 => lp rfl (xa v2 rfl) <| nx <| qt <| qu ?_
    have e2 : Ext w w2 := Ext.trans e1 (g2 _ er)
    have o3 : Ow 52 5 qb w1.heap.size w2 v2 a0 := by simpa using o2
    exact Qd rfl e2 o3 e1.size

/-! impl.copyStack -/
theorem vh.walk {k : Nat} {w : World} {a0 : List (List Rec)} {v_a0 : Value} (f_a0 : Rd2 5 qb w v_a0 a0) {r : List (List Rec)} (H : vh.sh k a0 = some r) :
  Calls Tryz.prog 120 #[v_a0] w (Rt (ROS 35 52 5 qb w r)) := by
 unfold vh.sh at H
 refine qj Tryz.func120 rfl (Nat.le_of_ble_eq_true rfl) Tryz.ntmps120 rfl ?_
 refine wr <| lp rfl (xa (.slice none 0 0) rfl) <| nx <| wr <| yi (.plain rfl) rfl (ltb rfl) rfl Tryz.underlying23 Tryz.sizeOf35 Tryz.zeroValue35 rfl rfl rfl (vs := []) rfl (vq rfl) <| fun b1 w2 z3 z4 e5 k6 => lp rfl (xa (.slice (some ⟨b1, 0, none⟩) 0 0) rfl) <| nx <| qh <| wr <| lp rfl (xm v_a0 rfl) <| lp rfl (ye Tryz.underlying23 rfl (Rd2.ext f_a0 e5)) <| lp rfl (xm (.int .i64 0) rfl) <| nx ?_
 obtain ⟨z10, L11, C12⟩ := bind_some H
 clear H
 refine  vB (fun s0 sQ wQ => ∃ (x3_13 : List (List Rec)) (v14 : Value), Kp [(3, 4), (5, 6), (9, 19)] s0 sQ ∧ sQ 3 = v14 ∧ qS 35 52 5 qb w2.heap.size wQ v14 x3_13 ∧ Ext w2 wQ ∧ z10 = .inr x3_13) ?_ ?_
 ·refine qx <| vc (fun s0 kk sQ wQ => ∃ (x3_7 : List (List Rec)) (v8 : Value) (x9_9 : Int), Kp [(3, 4), (5, 6), (9, 19)] s0 sQ ∧ sQ 3 = v8 ∧ qS 35 52 5 qb w2.heap.size wQ v8 x3_7 ∧ sQ 9 = .int .i64 x9_9 ∧ Ext w2 wQ ∧ qp (vh.b1 a0) kk (x3_7, x9_9) = some z10) k ⟨([] : List (List Rec)), (.slice (some ⟨b1, 0, none⟩) 0 0), 0, kz, rfl, (qS.zero), rfl, er, L11⟩ ?_
  rintro k19 s20 w21 ⟨x3_7, v8, x9_9, K22, h25, h26, h27, e23, L24⟩
  cases k19 with
  | zero => exact absurd L24 (by simp [qp])
  | succ k19 =>
   obtain ⟨t28, H, S29⟩ := qJ L24
   clear L24
   unfold vh.b1 at H
   refine wr <| lp rfl (vt h27 (K22 8 rfl)) <| nx <| qh ?_
   rcases qg H with ⟨q30, H⟩ | ⟨q30, H⟩
   ·refine qq (cb q30) <| qr <| qe <| qh <| qx <| wr ?_
    obtain ⟨c31, H⟩ := qa H
    refine j9 (.plain rfl) rfl (ltb rfl) rfl Tryz.underlying23 Tryz.sizeOf35 (K22 7 rfl) (Rd2.ext f_a0 (e5.t e23)) h27 c31 <| fun p32 v34 h33 h35 => lp rfl (vA Tryz.isAgg35 rfl h33 rfl) <| lp rfl (xa v34 rfl) <| nx <| qG <| lp rfl (qc h25) <| lp rfl (xm v34 rfl) ?_
    obtain ⟨c36, H⟩ := qa H
    refine yq (.plain rfl) rfl (ltb rfl) rfl Tryz.call181 (JY.calls (w := w21) (a0 := gt a0 x9_9) h35 (od c36)) rfl <| fun v39 w37 e38 o40 => yi (.plain rfl) rfl (ltb rfl) rfl Tryz.underlying23 Tryz.sizeOf35 Tryz.zeroValue35 rfl rfl rfl (vs := [v39]) rfl (by simp; exact (Rd.one (Ow.rd o40))) <| fun b41 w42 z43 z44 e45 k46 => ?_
    obtain ⟨c47, H⟩ := qa H
    refine Gm (e2 := 52) (enc := qb) (.plain rfl) rfl (ltb rfl) rfl El.t23 rfl rfl (qS.ext h26 (e38.t e45)) (qS.hbe h26 (e38.t e45)) (Ow.ext o40 e45) (Ow.rd (Ow.new (xs := [v39]) (sz := 1) (enc := yP) (base := w37.heap.size) k46 (Nat.le_of_eq z43) (by obtain ⟨A9, c9, e9⟩ := Rd.shape (Ow.rd (Ow.ext o40 e45)); rw [e9]; rfl) (fun _ _ => rfl) (Nat.le_of_ble_eq_true rfl))) (by obtain ⟨A9, c9, e9⟩ := Rd.shape (Ow.rd (Ow.ext o40 e45)); rw [e9]; rfl) (e23).size (od c47) (((e23.t e38).t e45)).size <| fun v48 w49 o50 z51 g52 => lp rfl (xa v48 rfl) <| qW <| vy <| qe <| qG <| lp rfl (vn h27 rfl) <| lp rfl (xm (.int .i64 (IntKind.wrap .i64 (x9_9 + 1))) rfl) <| nx ?_
    obtain rfl := si H
    exact ⟨_, Nat.lt_succ_self _, x3_7 ++ [(gt a0 x9_9)], v48, IntKind.wrap .i64 (x9_9 + 1), (ku4 (ku8 K22 rfl) rfl), rfl, o50, rfl, (g52 _ ((e23.t e38).t e45)), S29⟩
   ·refine qi (cb q30) <| vv <| qM <| qM <| yf <| qe ?_
    obtain rfl := si H
    obtain rfl := si S29
    exact ⟨x3_7, v8, (ku1 K22 rfl), h25, h26, e23, rfl⟩
 ·rintro s16 w15 ⟨x3_13, v14, K17, h53, h54, e18, y55⟩
  rw [y55] at C12
  have H := C12
  replace H : _ = some _ := H
  refine qe <| wr <| lp rfl (qc h53) <| lp rfl (xa v14 rfl) <| nx <| qt <| qu ?_
  obtain rfl := si H
  exact fin1os rfl (e5.t e18) h54 (e5).size
theorem vh.calls {w : World} {a0 : List (List Rec)} {v_a0 : Value} (f_a0 : Rd2 5 qb w v_a0 a0) (h0 : a0.length ≤ 100) (h1 : ∀ l ∈ a0, l.length ≤ 1048576) :
  Calls Tryz.prog 120 #[v_a0] w (Rt (ROS 35 52 5 qb w a0)) := by
 obtain ⟨k, h⟩ := vh.eq a0 h0 h1
 exact vh.walk f_a0 h
/-! slices.Grow(()()impl.Record,()impl.Record), by text -/
theorem JW.calls {w : World} {n : Nat} (hn : n ≤ 1000000) :
    Calls Tryz.prog 182 #[.slice none 0 0, .int .i64 (n : Int)] w (Rt (RO 35 1 yP w ([] : List Value))) := by
  refine qj Tryz.func182 rfl (Nat.le_of_ble_eq_true rfl) Tryz.ntmps182 rfl ?_
  have hw : IntKind.wrap .i64 ((n : Int) - 0) = (n : Int) := by rw [Int.sub_zero]; exact Go.UL.wrap_small (by omega) (by omega)
  refine wr <| lp rfl (qv (v := .slice none 0 0) rfl) <| nx <| qh <| wr <| lp rfl (qc (v := .int .i64 (n : Int)) rfl) <| lp rfl (vt rfl rfl) <| nx <| qi (cb (decide_eq_false (by omega))) <| qr <| qe <|
    qh <| wr <| lp rfl (qc (v := .int .i64 (n : Int)) rfl) <| lp rfl (qc (v := .slice none 0 0) rfl) <| lp rfl (X_cap (A := none) (n := 0) (c := 0) Tryz.underlying23 rfl) <| lp rfl (qc (v := .slice none 0 0) rfl) <| lp rfl (J8 (A := none) (n := 0) (c := 0) Tryz.underlying23 rfl) <|
    lp rfl (Q0 rfl rfl) <| lp rfl (Q0 rfl rfl) <| lp rfl (qv (v := .int .i64 (n : Int)) (congrArg (Value.int .i64) hw)) <| nx <| wr <| lp rfl (qc (v := .int .i64 (n : Int)) rfl) <| lp rfl (Qe rfl rfl) <| nx ?_
  by_cases h0 : 0 < n
  · refine qq (cb (decide_eq_true (by omega))) <| qG <| lp rfl (qc (v := .slice none 0 0) rfl) <| lp rfl (qc (v := .slice none 0 0) rfl) <| lp rfl (X_cap (A := none) (n := 0) (c := 0) Tryz.underlying23 rfl) <|
      lp rfl ((YK (lo := none) (hi := some (.tmp 19)) (A := none) (n := 0) (c := 0) (l := 0) (h := 0) Tryz.underlying23 Tryz.sizeOf35 rfl rfl ⟨_, rfl⟩ (by omega) (by omega) (by omega)).cast (v' := .slice none 0 0) rfl) <| lp rfl (qc (v := .int .i64 (n : Int)) rfl) <|
      L_appendZ (A := none) (n := 0) (c := 0) (k := n) (olds := []) (.plain rfl) rfl (ltb rfl) rfl El.t23 Tryz.underlying3 rfl rfl (by simp [Builtin.firstCells]) (by simp) h0 (by omega) (by omega) <| fun b w1 C zs hb e1 hC hC2 hl hk => ?_
    refine lp rfl (qc (v := .slice none 0 0) rfl) <| lp rfl (J8 (A := none) (n := 0) (c := 0) Tryz.underlying23 rfl) <|
      lp rfl ((X_sliceG (lo := none) (hi := some (.tmp 24)) (l := 0) (h := 0) Tryz.underlying23 Tryz.sizeOf35 rfl rfl ⟨_, rfl⟩ (.inr rfl) (by omega) (by omega)).cast (v' := .slice (some ⟨b, 0, none⟩) 0 C) (by simp)) <| lp rfl (qv (v := .slice (some ⟨b, 0, none⟩) 0 C) rfl) <| nx <|
      wr <| lp rfl (qc (v := .slice (some ⟨b, 0, none⟩) 0 C) rfl) <| lp rfl (qv (v := .slice (some ⟨b, 0, none⟩) 0 C) rfl) <| nx <| qt <| qu ?_
    exact Qd rfl e1 (Ow.of_row (B := w.heap.size) (ys := ([] : List Value)) (R := [] ++ zs) (Nat.le_of_eq hb) hk (by simp) (fun y hy => by cases hy) (Nat.zero_le _) hC2 hl) (Nat.le_refl _)
  · refine qi (cb (decide_eq_false (by omega))) <| qr <| qe <| wr <| lp rfl (qc (v := .slice none 0 0) rfl) <| lp rfl (qv (v := .slice none 0 0) rfl) <| nx <| qt <| qu ?_
    exact Qd rfl er (Ow.zero (base := w.heap.size)) (Nat.le_refl _)

/-! slices.Concat(()()impl.Record,()impl.Record), by text -/
theorem QC.raw {w : World} {v : Value} {vss : List (List Value)} (f : Rd2 1 yP w v vss) (h1 : ∀ xs ∈ vss, ∀ y ∈ xs, y.oneCell' = true) (hn : vss.length ≤ 1000) (hT : vss.flatten.length ≤ 1000) :
    Calls Tryz.prog 121 #[v] w (Rt (RO 35 1 yP w vss.flatten)) := by
  have htk : ∀ i, (vss.take i).flatten.length ≤ 1000 := fun i => Nat.le_trans (JS vss i) hT
  refine qj Tryz.func121 rfl (Nat.le_of_ble_eq_true rfl) Tryz.ntmps121 rfl ?_
  refine wr <| lp rfl (qv (v := .slice none 0 0) rfl) <| nx <| wr <| lp rfl (qv (v := .int .i64 0) rfl) <| nx <| qh <| wr <| lp rfl (xm v rfl) <| lp rfl (ye Tryz.underlying175 rfl f) <| lp rfl (qc (v := .int .i64 0) rfl) <| nx ?_
  refine vB (fun s0 σ W => σ 0 = v ∧ σ 3 = .int .i64 (vss.flatten.length : Int) ∧ W = w) ?_ ?_
  · refine qx <| vc (fun s0 m σ W => ∃ i : Nat, i + m = vss.length ∧ σ 0 = v ∧ σ 9 = v ∧ σ 10 = .int .i64 (vss.length : Int) ∧ σ 11 = .int .i64 (i : Int) ∧ σ 3 = .int .i64 ((vss.take i).flatten.length : Int) ∧ W = w) vss.length ⟨0, by omega, rfl, rfl, rfl, rfl, rfl, rfl⟩ ?_
    rintro m s1 W1 ⟨i, him, q0, q9, q10, q11, q3, rfl⟩
    refine wr <| lp rfl (vt q11 q10) <| nx ?_
    by_cases hi : i < vss.length
    · have hk := htk i
      have hk2 := htk (i + 1)
      have hfl := congrArg List.length (VG hi)
      rw [List.length_append] at hfl
      have hw : IntKind.wrap .i64 ((i : Int) + 1) = ((i + 1 : Nat) : Int) := by rw [Go.UL.wrap_small (by omega) (by omega)]; omega
      have hw2 : IntKind.wrap .i64 ((((vss.take i).flatten.length : Nat) : Int) + (((gt vss (i : Int)).length : Nat) : Int)) = (((vss.take (i + 1)).flatten.length : Nat) : Int) := by rw [Go.UL.wrap_small (by omega) (by omega)]; omega
      refine qh <| qq (cb (decide_eq_true (by omega))) <| qr <| qe <| qh <| qx <| wr <| j9 (.plain rfl) rfl (ltb rfl) rfl Tryz.underlying175 Tryz.sizeOf23 q9 f q11 (qR hi) <| fun p u hA hR => lp rfl (vA (v := u) Tryz.isAgg23 rfl hA rfl) <| lp rfl (xa u rfl) <| nx <|
        wr <| lp rfl (qc q3) <| lp rfl (xm u rfl) <| lp rfl (vz Tryz.underlying23 rfl hR) <| lp rfl (vn rfl rfl) <| lp rfl (qv (v := .int .i64 (((vss.take (i + 1)).flatten.length : Nat) : Int)) (congrArg (Value.int .i64) hw2)) <| nx <|
        wr <| lp rfl (qc (v := .int .i64 (((vss.take (i + 1)).flatten.length : Nat) : Int)) rfl) <| lp rfl (vt rfl rfl) <| nx <| qi (cb (decide_eq_false (by omega))) <| qr <| vy <| qe <|
        qG <| lp rfl (vn q11 rfl) <| lp rfl (qc (v := .int .i64 ((i + 1 : Nat) : Int)) (congrArg (Value.int .i64) hw)) <| nx ?_
      exact ⟨m - 1, by omega, i + 1, by omega, q0, q9, q10, rfl, rfl, rfl⟩
    · have hie : i = vss.length := by omega
      rw [hie, List.take_length] at q3
      refine qh <| qi (cb (decide_eq_false (by omega))) <| vv <| qM <| qM <| yf ?_
      exact ⟨q0, q3, rfl⟩
  · rintro s2 W2 ⟨q0, q3, rfl⟩
    refine qe <| wr <| lp rfl (qc q3) <| yq (.plain rfl) rfl (ltb rfl) rfl Tryz.call182 (JW.calls (w := W2) (n := vss.flatten.length) (by omega)) rfl <| fun v1 w1 e1 o1 => lp rfl (xa v1 rfl) <| nx <| qh <| wr <| lp rfl (qc q0) <| lp rfl (ye Tryz.underlying175 rfl (f.ext e1)) <| lp rfl (qc (v := .int .i64 0) rfl) <| nx ?_
    refine vB (fun s0 σ W => ∃ u, σ 6 = u ∧ Ow 35 1 yP W2.heap.size W u vss.flatten ∧ Ext W2 W) ?_ ?_
    · refine qx <| vc (fun s0 m σ W => ∃ (i : Nat) (u : Value), i + m = vss.length ∧ σ 25 = v ∧ σ 26 = .int .i64 (vss.length : Int) ∧ σ 27 = .int .i64 (i : Int) ∧ σ 6 = u ∧ Ow 35 1 yP W2.heap.size W u (vss.take i).flatten ∧ Ext W2 W) vss.length ⟨0, v1, by omega, rfl, rfl, rfl, rfl, o1, e1⟩ ?_
      rintro m s1 W1 ⟨i, u, him, q25, q26, q27, q6, hO, hE⟩
      refine wr <| lp rfl (vt q27 q26) <| nx ?_
      by_cases hi : i < vss.length
      · have hk := htk i
        have hk2 := htk (i + 1)
        have hfe := VG hi
        have hfl := congrArg List.length hfe
        rw [List.length_append] at hfl
        have hmem : gt vss (i : Int) ∈ vss := by rw [vI, ya hi]; exact List.getElem_mem hi
        have hw : IntKind.wrap .i64 ((i : Int) + 1) = ((i + 1 : Nat) : Int) := by rw [Go.UL.wrap_small (by omega) (by omega)]; omega
        refine qh <| qq (cb (decide_eq_true (by omega))) <| qr <| qe <| qh <| qx <| wr <| j9 (.plain rfl) rfl (ltb rfl) rfl Tryz.underlying175 Tryz.sizeOf23 q25 (f.ext hE) q27 (qR hi) <| fun p x hA hR => lp rfl (vA (v := x) Tryz.isAgg23 rfl hA rfl) <| lp rfl (xa x rfl) <| nx <|
          qG <| lp rfl (xm u q6) <| lp rfl (xm x rfl) <|
          yz (enc := yP) (.plain rfl) rfl (ltb rfl) rfl El.t23 rfl rfl hO hR (fun y hy c hc => by simp [yP] at hc; subst hc; exact h1 _ hmem _ hy) (by omega) hE.size <| fun v9 w9 o9 z9 g9 => lp rfl (xa v9 rfl) <| qW <| vy <| qe <|
          qG <| lp rfl (vn q27 rfl) <| lp rfl (qc (v := .int .i64 ((i + 1 : Nat) : Int)) (congrArg (Value.int .i64) hw)) <| nx ?_
        exact ⟨m - 1, by omega, i + 1, v9, by omega, q25, q26, rfl, rfl, by rw [hfe]; exact o9, g9 _ hE⟩
      · have hie : i = vss.length := by omega
        rw [hie, List.take_length] at hO
        refine qh <| qi (cb (decide_eq_false (by omega))) <| vv <| qM <| qM <| yf ?_
        exact ⟨u, q6, hO, hE⟩
    · rintro s3 W3 ⟨u, q6, hO, hE⟩
      refine qe <| wr <| lp rfl (qc q6) <| lp rfl (xa u rfl) <| nx <| qt <| qu ?_
      exact Qd rfl hE hO (Nat.le_refl _)
theorem QC.calls {w : World} {v : Value} {X : List (List (List Rec))} (f : Rd3 5 qb w v X) (h0 : X.length ≤ 1000) (h1 : X.flatten.length ≤ 1000) :
    Calls Tryz.prog 121 #[v] w (Rt (fun r w' => Ext w w' ∧ Rd2 5 qb w' r X.flatten)) := by
  obtain ⟨vss, f1, f2, f3, f4, f5⟩ := f.flat
  refine Calls.mono (QC.raw f1 f4 (by omega) (by omega)) ?_
  rintro e w' ⟨r, rfl, hE, hO⟩
  exact ⟨r, rfl, hE, vss.flatten, f3, hO.rd, fun i u xs a b => (f5 i u xs a b).ext hE⟩

/-! impl.replaced -/
abbrev q4.e1 (a0 : List (List Rec)) (a1 : Int) (a2 : Int) := ([sub a0 0 a1, ([(VY (qB (sub a0 a1 a2)))] : List (List Rec)), sub a0 a2 (a0.length : Int)] : List (List (List Rec)))
theorem q4.walk {w : World} {a0 : List (List Rec)} {a1 : Int} {a2 : Int} (gv : GV 0 w) {v_a0 : Value} (f_a0 : Rd2 5 qb w v_a0 a0) {r : List (List Rec) × Int} (H : q4.sh a0 a1 a2 = some r) :
  Calls Tryz.prog 59 #[v_a0, .int .i64 a1, .int .i64 a2] w (Rt (RTS 35 52 5 qb w r.1 (.int .i64 r.2))) := by
 unfold q4.sh at H
 refine qj Tryz.func59 rfl (Nat.le_of_ble_eq_true rfl) Tryz.ntmps59 rfl ?_
 refine wr <| lp rfl (xa (.slice none 0 0) rfl) <| lp rfl (xa (.int .i64 0) rfl) <| nx <| qh <| wr <| lp rfl (xm (.int .i64 a1) rfl) <| lp rfl (xm v_a0 rfl) <| lp rfl (ye Tryz.underlying23 rfl f_a0) <| lc rfl rfl Tryz.call117 (yK.calls (w := w) (a0 := a1) (a1 := 0) (a2 := (a0.length : Int))) rfl <| fun w1 e2 => lp rfl (yQ rfl) <| lp rfl (xm (.bool (!(within a1 0 (a0.length : Int)))) rfl) <| y7 7 [(17, 24)] 23 (.bool ((!(within a1 0 (a0.length : Int))) || (!(within a2 a1 (a0.length : Int))))) ?_ ?_
 ·rcases qF (!(within a1 0 (a0.length : Int))) with b2_ | b2_
  ·exact ls rfl rfl rfl (cb b2_) rfl <| ls rfl rfl rfl (cb b2_) rfl <| ls rfl rfl rfl (cb b2_) rfl <| ls rfl rfl rfl (cb b2_) rfl <| ls rfl rfl rfl (cb b2_) rfl <| ls rfl rfl rfl (cb b2_) rfl <| lp rfl (qC (b := true) (v := (.bool true)) (cb b2_) rfl) <| nx ⟨(ku3 (ku4 kz rfl) rfl), (VZ b2_), er⟩
  ·exact lg rfl rfl rfl rfl (cb b2_) (xm (.int .i64 a2) rfl) <| lg rfl rfl rfl rfl (cb b2_) (xm (.int .i64 a1) rfl) <| lg rfl rfl rfl rfl (cb b2_) (xm v_a0 rfl) <| lg rfl rfl rfl rfl (cb b2_) (ye Tryz.underlying23 rfl (Rd2.ext f_a0 e2)) <| yM (tg rfl rfl rfl (cb b2_)) rfl (ltb rfl) rfl Tryz.call117 (yK.calls (w := w1) (a0 := a2) (a1 := a1) (a2 := (a0.length : Int))) rfl <| fun w4 e5 => lg rfl rfl rfl rfl (cb b2_) (yQ rfl) <| lp rfl (qC (b := false) (v := (.bool (!(within a2 a1 (a0.length : Int))))) (cb b2_) rfl) <| nx ⟨(ku3 (ku4 kz rfl) rfl), (V6 b2_), e5⟩
 intro s8 w4 K5 h6 e7
 refine lp rfl (qY Tryz.underlying4 rfl h6) <| lp rfl (qY Tryz.underlying3 rfl rfl) <| lp rfl (xm v_a0 (K5 0 rfl)) <| lp rfl (ye Tryz.underlying23 rfl (Rd2.ext f_a0 (e2.t e7))) <| lp rfl (xm (.int .i64 a2) (K5 2 rfl)) <| lp rfl (xm (.int .i64 a1) (K5 1 rfl)) <| lp rfl (Q0 rfl rfl) <| lp rfl (Q0 rfl rfl) <| lp rfl (vn rfl rfl) <| lp rfl (Qe rfl rfl) <| lp rfl (qY Tryz.underlying4 rfl rfl) <| lp rfl (qY Tryz.underlying3 rfl rfl) <| yi (.plain rfl) rfl (ltb rfl) rfl Tryz.underlying142 Tryz.sizeOf20 Tryz.zeroValue20 rfl rfl rfl (vs := [(.iface 4 (.bool ((!(within a1 0 (a0.length : Int))) || (!(within a2 a1 (a0.length : Int)))))), (.iface 3 (.int .i64 4)), (.iface 4 (.bool (decide (5 < (IntKind.wrap .i64 ((IntKind.wrap .i64 ((a0.length : Int) - (IntKind.wrap .i64 (a2 - a1)))) + 1)))))), (.iface 3 (.int .i64 6))]) rfl (vq rfl) <| fun b9 w10 z11 z12 e13 k14 => ?_
 obtain ⟨c15, H⟩ := qa H
 obtain ⟨z18, x19, H⟩ := bind_some H
 replace x19 := si x19
 refine lc rfl rfl Tryz.call77 (yg.calls (w := w10) (a0 := ([.inl ((!(within a1 0 (a0.length : Int))) || (!(within a2 a1 (a0.length : Int)))), .inr 4, .inl (decide (5 < (IntKind.wrap .i64 ((IntKind.wrap .i64 ((a0.length : Int) - (IntKind.wrap .i64 (a2 - a1)))) + 1)))), .inr 6] : List (Bool ⊕ Int))) (Ow.rd (Ow.new (xs := [.inl ((!(within a1 0 (a0.length : Int))) || (!(within a2 a1 (a0.length : Int)))), .inr 4, .inl (decide (5 < (IntKind.wrap .i64 ((IntKind.wrap .i64 ((a0.length : Int) - (IntKind.wrap .i64 (a2 - a1)))) + 1)))), .inr 6]) (sz := 1) (enc := (j8 4 3)) (base := w4.heap.size) k14 (Nat.le_of_eq z11) rfl (fun _ _ => by first | rfl | exact QQ _ _ _) (Nat.le_of_ble_eq_true rfl))) (od c15)) rfl <| fun w16 e17 => lp rfl (xa (.int .i64 z18) (congrArg (Value.int .i64) x19)) <| nx <| wr <| lp rfl (xm (.int .i64 z18) rfl) <| lp rfl (js rfl rfl) <| nx ?_
 rcases qg H with ⟨q20, H⟩ | ⟨q20, H⟩
 ·refine qq (cb q20) <| wr <| lp rfl (xm (.int .i64 z18) rfl) <| lp rfl (xa (.slice none 0 0) rfl) <| lp rfl (xa (.int .i64 z18) rfl) <| nx <| qt <| qo <| qu ?_
  obtain rfl := si H
  exact QM rfl rfl (((e2.t e7).t e13).t e17) (qS.zero (base := w.heap.size)) (Nat.le_refl _)
 ·refine qi (cb q20) <| qr <| qe <| wr <| lp rfl (xm v_a0 (K5 0 rfl)) <| lp rfl (xm (.int .i64 a1) (K5 1 rfl)) <| lp rfl (xm (.int .i64 a2) (K5 2 rfl)) ?_
  obtain ⟨c21, H⟩ := qa H
  refine GI (.plain rfl) rfl (ltb rfl) rfl Tryz.underlying23 Tryz.sizeOf35 rfl (Rd2.ext f_a0 (((e2.t e7).t e13).t e17)) (l := a1) (h := a2) ⟨_, rfl⟩ ⟨_, rfl⟩ c21 <| fun v22 h23 => ?_
  obtain ⟨c24, H⟩ := qa H
  refine yq (.plain rfl) rfl (ltb rfl) rfl Tryz.call119 (vD.calls (w := w16) (a0 := sub a0 a1 a2) (GV.ext gv (((e2.t e7).t e13).t e17)) h23 (od c24)) rfl <| fun v27 w25 e26 o28 => jG (.plain rfl) rfl (ltb rfl) rfl Tryz.call118 (GL.calls (w := w25) (Ow.rd o28)) rfl <| fun _ w29 hA9 => ?_
  obtain ⟨rfl, e30⟩ := hA9
  refine lp rfl (qc rfl) <| lp rfl (yd (v := (JB v27 (qB (sub a0 a1 a2)))) rfl rfl) <| lp rfl (yd (v := (.int .i64 (Vb (qB (sub a0 a1 a2))))) rfl rfl) <| lp rfl (xa (JB v27 (qB (sub a0 a1 a2))) rfl) <| lp rfl (xa (.int .i64 (Vb (qB (sub a0 a1 a2)))) rfl) <| nx <| qh <| wr <| lp rfl (xm (.int .i64 (Vb (qB (sub a0 a1 a2)))) rfl) <| lp rfl (js rfl rfl) <| nx ?_
  rcases qg H with ⟨q31, H⟩ | ⟨q31, H⟩
  ·refine qq (cb q31) <| wr <| lp rfl (xm (.int .i64 (Vb (qB (sub a0 a1 a2)))) rfl) <| lp rfl (xa (.slice none 0 0) rfl) <| lp rfl (xa (.int .i64 (Vb (qB (sub a0 a1 a2)))) rfl) <| nx <| qt <| qo <| qu ?_
   obtain rfl := si H
   exact QM rfl rfl (((((e2.t e7).t e13).t e17).t e26).t e30) (qS.zero (base := w.heap.size)) (Nat.le_refl _)
  ·refine qi (cb q31) <| qr <| qe <| qh ?_
   obtain ⟨c32, H⟩ := qa H
   obtain ⟨c41, H⟩ := qa H
   obtain ⟨c50, H⟩ := qa H
   obtain ⟨c51, H⟩ := qa H
   obtain ⟨c56, H⟩ := qa H
   obtain ⟨c57, H⟩ := qa H
   refine YD [LEq v_a0, LEq (.int .i64 a1), JT 5 qb (sub a0 0 a1), LEq (JB v27 (qB (sub a0 a1 a2))), JT 5 qb ([(VY (qB (sub a0 a1 a2)))] : List (List Rec)), LEq v_a0, LEq (.int .i64 a2), JT 5 qb (sub a0 a2 (a0.length : Int)), LRd3 5 qb (q4.e1 a0 a1 a2), JT 5 qb ((q4.e1 a0 a1 a2).flatten), LOw2 35 52 5 qb w29.heap.size ((q4.e1 a0 a1 a2).flatten), LOw2 35 52 5 qb w29.heap.size ((q4.e1 a0 a1 a2).flatten), LEq (.int .i64 0)] (by kernel_rfl) (by kernel_rfl) ⟨qm, qm, JT.mono, qm, JT.mono, qm, qm, JT.mono, LRd3.mono, JT.mono, LOw2.mono, LOw2.mono, qm, trivial⟩ ⟨?_, ?_, ?_, ?_, ?_, ?_, ?_, ?_, ?_, ?_, ?_, ?_, ?_, trivial⟩ ?_
   ·exact fun s x e f d u => lp rfl (xm v_a0 ((f 0 rfl).trans (K5 0 rfl))) <| se rfl rfl
   ·exact fun s x e f d u => lp rfl (xm (.int .i64 a1) ((f 1 rfl).trans (K5 1 rfl))) <| se rfl rfl
   ·exact fun s x e f d u => GI (.plain rfl) rfl (ltb rfl) rfl Tryz.underlying23 Tryz.sizeOf35 (d 0 rfl) (Rd2.ext f_a0 ((((((e2.t e7).t e13).t e17).t e26).t e30).t e)) (l := 0) (h := a1) rfl ⟨_, (d 1 rfl)⟩ c32 <| fun v63 h64 => se rfl h64
   ·exact fun s x e f d u => lp rfl (xm (JB v27 (qB (sub a0 a1 a2))) (f 9 rfl)) <| se rfl rfl
   ·exact fun s x e f d u => yi (.plain rfl) rfl (ltb rfl) rfl Tryz.underlying23 Tryz.sizeOf35 Tryz.zeroValue35 rfl rfl rfl (vs := [(JB v27 (qB (sub a0 a1 a2)))]) (vW (d 3 rfl) rfl) (by simp; exact (Rd.one (Ow.rd (Ow.ext (Ow.fit (Ow.ext o28 e30)) e)))) <| fun b65 w66 z67 z68 e69 k70 => sx rfl e69 (Rd2.new (vs := [(JB v27 (qB (sub a0 a1 a2)))]) k70 ⟨(Ow.rd (Ow.ext (Ow.fit (Ow.ext o28 e30)) (e.t e69))), trivial⟩ (Nat.le_of_ble_eq_true rfl))
   ·exact fun s x e f d u => lp rfl (xm v_a0 ((f 0 rfl).trans (K5 0 rfl))) <| se rfl rfl
   ·exact fun s x e f d u => lp rfl (xm (.int .i64 a2) ((f 2 rfl).trans (K5 2 rfl))) <| se rfl rfl
   ·exact fun s x e f d u => GI (.plain rfl) rfl (ltb rfl) rfl Tryz.underlying23 Tryz.sizeOf35 (d 5 rfl) (Rd2.ext f_a0 ((((((e2.t e7).t e13).t e17).t e26).t e30).t e)) (l := a2) (h := (a0.length : Int)) ⟨_, (d 6 rfl)⟩ rfl c41 <| fun v72 h73 => se rfl h73
   ·intro s x e f d u
    have d74 : Rd2 5 qb x (s 55) (sub a0 0 a1) := (d 2 rfl)
    have d75 : Rd2 5 qb x (s 57) ([(VY (qB (sub a0 a1 a2)))] : List (List Rec)) := (d 4 rfl)
    have d76 : Rd2 5 qb x (s 60) (sub a0 a2 (a0.length : Int)) := (d 7 rfl)
    exact yi (.plain rfl) rfl (ltb rfl) rfl Tryz.underlying175 Tryz.sizeOf23 Tryz.zeroValue23 rfl rfl rfl (vs := [(s 55), (s 57), (s 60)]) rfl (by simp; exact ⟨(Rd2.one d74), (Rd2.one d75), (Rd2.one d76)⟩) <| fun b77 w78 z79 z80 e81 k82 => sx rfl e81 (Rd3.new (vs := [(s 55), (s 57), (s 60)]) k82 ⟨(Rd2.ext d74 e81), (Rd2.ext d75 e81), (Rd2.ext d76 e81), trivial⟩ (Nat.le_of_ble_eq_true rfl))
   ·intro s x e f d u
    have d83 : Rd3 5 qb x (s 61) (q4.e1 a0 a1 a2) := (d 8 rfl)
    exact jG (.plain rfl) rfl (ltb rfl) rfl Tryz.call121 (QC.calls (w := x) d83 (od c50) (od c51)) rfl <| fun v86 w87 q9 => andE q9 fun e88 h89 => sx rfl e88 h89
   ·intro s x e f d u
    have d90 : Rd2 5 qb x (s 62) ((q4.e1 a0 a1 a2).flatten) := (d 9 rfl)
    exact Vz (.plain rfl) rfl (ltb rfl) rfl Tryz.call120 (vh.calls (w := x) (a0 := (q4.e1 a0 a1 a2).flatten) d90 (od c56) (od c57)) rfl <| fun v95 w93 e94 o96 => sx rfl e94 (qS.base o96 (e).size)
   ·intro s x e f d u
    have d97 : qS 35 52 5 qb w29.heap.size x (s 63) ((q4.e1 a0 a1 a2).flatten) := (d 10 rfl)
    exact lp rfl (xa (s 63) rfl) <| se rfl d97
   ·exact fun s x e f d u => lp rfl (xa (.int .i64 0) rfl) <| se rfl rfl
   intro s98 w99 e100 hf101 ha102
   have K103 := Kp.ofD (kp := [(6, 8), (53, 64)]) rfl hf101
   have d104 : qS 35 52 5 qb w29.heap.size w99 (s98 6) ((q4.e1 a0 a1 a2).flatten) := ha102 11 rfl
   have d105 : s98 7 = (.int .i64 0) := ha102 12 rfl
   clear ha102 hf101
   refine qe <| qt <| qu ?_
   obtain rfl := si H
   exact QM rfl d105 ((((((e2.t e7).t e13).t e17).t e26).t e30).t e100) d104 ((((((e2.t e7).t e13).t e17).t e26).t e30)).size
theorem q4.calls {w : World} {a0 : List (List Rec)} {a1 : Int} {a2 : Int} (gv : GV 0 w) {v_a0 : Value} (f_a0 : Rd2 5 qb w v_a0 a0) (h0 : vr a0 = true) :
  Calls Tryz.prog 59 #[v_a0, .int .i64 a1, .int .i64 a2] w (Rt (RTS 35 52 5 qb w ((Q7 a0 a1 a2).1) (.int .i64 ((Q7 a0 a1 a2).2)))) := q4.walk gv f_a0 (q4.eq a0 a1 a2 h0)
/-! impl.Replaced -/
theorem yo.walk {w : World} {a0 : List (List Rec)} {a1 : Int} {a2 : Int} (gv : GV 0 w) {v_a0 : Value} (f_a0 : Rd2 5 qb w v_a0 a0) {r : List (List Rec) × Int} (H : yo.sh a0 a1 a2 = some r) :
  Calls Tryz.prog 11 #[v_a0, .int .i64 a1, .int .i64 a2] w (Rt (RTS 35 52 5 qb w r.1 (.int .i64 r.2))) := by
 unfold yo.sh at H
 refine qj Tryz.func11 rfl (Nat.le_of_ble_eq_true rfl) Tryz.ntmps11 rfl ?_
 refine wr <| lp rfl (xa (.slice none 0 0) rfl) <| lp rfl (xa (.int .i64 0) rfl) <| nx <| qh <| wr <| lp rfl (xm v_a0 rfl) ?_
 obtain ⟨c1, H⟩ := qa H
 obtain ⟨c2, H⟩ := qa H
 obtain ⟨c3, H⟩ := qa H
 refine lc rfl rfl Tryz.call58 (yZ.calls (w := w) (a0 := a0) gv f_a0 (od c1) (od c2) (od c3)) rfl <| fun w4 e5 => lp rfl (xa (.int .i64 (stackCode a0)) rfl) <| nx <| wr <| lp rfl (xm (.int .i64 (stackCode a0)) rfl) <| lp rfl (js rfl rfl) <| nx ?_
 rcases qg H with ⟨q6, H⟩ | ⟨q6, H⟩
 ·refine qq (cb q6) <| wr <| lp rfl (xm (.int .i64 (stackCode a0)) rfl) <| lp rfl (xa (.slice none 0 0) rfl) <| lp rfl (xa (.int .i64 (stackCode a0)) rfl) <| nx <| qt <| qo <| qu ?_
  obtain rfl := si H
  exact QM rfl rfl e5 (qS.zero (base := w.heap.size)) (Nat.le_refl _)
 ·refine qi (cb q6) <| qr <| qe <| wr <| lp rfl (xm v_a0 rfl) <| lp rfl (xm (.int .i64 a1) rfl) <| lp rfl (xm (.int .i64 a2) rfl) ?_
  obtain ⟨c7, H⟩ := qa H
  refine Yk (.plain rfl) rfl (ltb rfl) rfl Tryz.call59 (q4.calls (w := w4) (a0 := a0) (a1 := a1) (a2 := a2) (GV.ext gv e5) (Rd2.ext f_a0 e5) (od c7)) rfl <| fun v10 w8 e9 o11 => lp rfl (yd (v := v10) rfl rfl) <| lp rfl (yd (v := (.int .i64 ((Q7 a0 a1 a2).2))) rfl rfl) <| lp rfl (xa v10 rfl) <| lp rfl (xa (.int .i64 ((Q7 a0 a1 a2).2)) rfl) <| nx <| qt <| qu ?_
  obtain rfl := si H
  exact QM rfl rfl (e5.t e9) o11 (e5).size
theorem yo.calls {w : World} {a0 : List (List Rec)} {a1 : Int} {a2 : Int} (gv : GV 0 w) {v_a0 : Value} (f_a0 : Rd2 5 qb w v_a0 a0) (h0 : a0.length ≤ 1048576) (h1 : ∀ l ∈ a0, l.length ≤ 1048576) (h2 : ∀ l ∈ a0, ∀ x ∈ l, x.path.length ≤ 1048576) :
  Calls Tryz.prog 11 #[v_a0, .int .i64 a1, .int .i64 a2] w (Rt (RTS 35 52 5 qb w ((qf a0 a1 a2).1) (.int .i64 ((qf a0 a1 a2).2)))) := yo.walk gv f_a0 (yo.eq a0 a1 a2 h0 h1 h2)
/-! spec.l06Put, by text -/
theorem VD.calls {w : World} {a0 : List (List Rec)} {a1 a2 : Nat} {a3 : List Rec} {v_a0 v_a3 : Value} {B : Nat} (f_a0 : Rd2 5 qb w v_a0 a0) (o_a3 : Ow 52 5 qb B w v_a3 a3) (hB : B ≤ w.heap.size) (h0 : a0.length ≤ 100) (h1 : ∀ l ∈ a0, l.length ≤ 1048576) (h2 : a1 ≤ a0.length) (h3 : a2 ≤ a0.length) :
    Calls Tryz.prog 63 #[v_a0, .int .i64 (a1 : Int), .int .i64 (a2 : Int), v_a3] w (Rt (fun v w' => Ext w w' ∧ qS 35 52 5 qb B w' v (Yi a0 a1 a2 a3))) := by
  have hmem : ∀ i, i < a0.length → (gt a0 (i : Int)).length ≤ 1048576 := fun i hi => h1 _ (by rw [vI, ya hi]; exact List.getElem_mem hi)
  have htk : ∀ i, i < a0.length → a0.take (i + 1) = a0.take i ++ [gt a0 (i : Int)] := fun i hi => by rw [List.take_succ_eq_append_getElem hi, vI, ya hi]
  have hdr : ∀ i, i < a0.length → (a0.take (i + 1)).drop a2 = (a0.take i).drop a2 ++ (if a2 ≤ i then [gt a0 (i : Int)] else []) := fun i hi => by
    rw [htk i hi]
    by_cases h : a2 ≤ i
    · rw [if_pos h, List.drop_append_of_le_length (by simp; omega)]
    · rw [if_neg h, List.append_nil, List.drop_eq_nil_of_le (by simp; omega), List.drop_eq_nil_of_le (by simp; omega)]
  refine qj Tryz.func63 rfl (Nat.le_of_ble_eq_true rfl) Tryz.ntmps63 rfl ?_
  refine wr <| lp rfl (qv (v := .slice none 0 0) rfl) <| nx <| wr <| yi (.plain rfl) rfl (ltb rfl) rfl Tryz.underlying23 Tryz.sizeOf35 Tryz.zeroValue35 rfl rfl rfl (vs := []) rfl (vq rfl) <| fun b0 w1 z1 z2 e1 k1 => lp rfl (qv (v := .slice (some ⟨b0, 0, none⟩) 0 0) rfl) <| nx <|
    qh <| wr <| lp rfl (qv (v := .int .i64 0) rfl) <| nx ?_
  refine vB (fun s0 σ W => ∃ u, σ 0 = v_a0 ∧ σ 2 = .int .i64 (a2 : Int) ∧ σ 3 = v_a3 ∧ σ 9 = u ∧ qS 35 52 5 qb w.heap.size W u (a0.take a1) ∧ HB2 W u W.heap.size ∧ Ext w W) ?_ ?_
  · refine qx <| vc (fun s0 m σ W => ∃ (i : Nat) (u : Value), i + m = a1 ∧ σ 0 = v_a0 ∧ σ 1 = .int .i64 (a1 : Int) ∧ σ 2 = .int .i64 (a2 : Int) ∧ σ 3 = v_a3 ∧ σ 10 = .int .i64 (i : Int) ∧ σ 9 = u ∧ qS 35 52 5 qb w.heap.size W u (a0.take i) ∧ HB2 W u W.heap.size ∧ Ext w W) a1 ⟨0, _, by omega, rfl, rfl, rfl, rfl, rfl, rfl, qS.zero, HB2.zero, e1⟩ ?_
    rintro m s1 W1 ⟨i, u, him, q0, q1, q2, q3, q10, q9, hO, hH, hE⟩
    refine qh <| wr <| lp rfl (qc q10) <| lp rfl (qc q1) <| lp rfl (vt rfl rfl) <| nx ?_
    by_cases hi : i < a1
    · have hm := hmem i (by omega)
      have hw : IntKind.wrap .i64 ((i : Int) + 1) = ((i + 1 : Nat) : Int) := by rw [Go.UL.wrap_small (by omega) (by omega)]; omega
      refine qq (cb (decide_eq_true (by omega))) <| qr <| qe <| qh <| qx <| qG <| lp rfl (xm u q9) <| yi (.plain rfl) rfl (ltb rfl) rfl Tryz.underlying35 Tryz.sizeOf52 Tryz.zeroValue52 rfl rfl rfl (vs := []) rfl (vq rfl) <| fun b3 w3 z3 z4 e3 k3 => lp rfl (qc q0) <| lp rfl (qc q10) <|
        j9 (.plain rfl) rfl (ltb rfl) rfl Tryz.underlying23 Tryz.sizeOf35 rfl (f_a0.ext (hE.trans e3)) rfl (qR (by omega)) <| fun p x hA hR => lp rfl (vA (v := x) Tryz.isAgg35 rfl hA rfl) <|
        yz (enc := qb) (.plain rfl) rfl (ltb rfl) rfl El.t35 rfl rfl (Ow.zero (base := W1.heap.size)) hR (jr _) (by simp only [List.length_nil]; omega) e3.size <| fun v5 w5 o5 z5 g5 => ?_
      have e5 : Ext W1 w5 := g5 _ e3
      rw [List.nil_append] at o5
      refine yi (.plain rfl) rfl (ltb rfl) rfl Tryz.underlying23 Tryz.sizeOf35 Tryz.zeroValue35 rfl rfl rfl (vs := [v5]) rfl (by simp; exact Rd.one o5.rd) <| fun b6 w6 z6 z7 e6 k6 => ?_
      have hl6 : Rd 1 yP w6 (.slice (some ⟨b6, 0, none⟩) 1 1) [v5] := Ow.rd (Ow.new (xs := [v5]) (sz := 1) (enc := yP) (base := w5.heap.size) k6 (Nat.le_of_eq z6) (by obtain ⟨A9, c9, e9⟩ := Rd.shape o5.rd; rw [e9]; rfl) (fun _ _ => rfl) (Nat.le_of_ble_eq_true rfl))
      have e7 := e5.trans e6
      refine Gm (e2 := 52) (enc := qb) (.plain rfl) rfl (ltb rfl) rfl El.t23 rfl rfl (hO.ext e7) (qS.hbe hO e7) (o5.ext e6) hl6 (by obtain ⟨A9, c9, e9⟩ := Rd.shape o5.rd; rw [e9]; rfl) hE.size (by simp; omega) (Nat.le_trans hE.size e7.size) <| fun v8 w8 o8 z8 g8 => lp rfl (xa v8 rfl) <| qW <| vy <| qe <|
        qG <| lp rfl (qc q10) <| lp rfl (vn rfl rfl) <| lp rfl (qv (v := .int .i64 ((i + 1 : Nat) : Int)) (congrArg (Value.int .i64) hw)) <| nx ?_
      exact ⟨m - 1, by omega, i + 1, v8, by omega, q0, q1, q2, q3, rfl, rfl, by rw [htk i (by omega)]; exact o8, o8.hb, g8 _ (hE.trans e7)⟩
    · have hie : i = a1 := by omega
      rw [hie] at hO
      refine qi (cb (decide_eq_false (by omega))) <| vv <| qM <| qM <| yf ?_
      exact ⟨u, q0, q2, q3, q9, hO, hH, hE⟩
  · rintro s2 W2 ⟨u, q0, q2, q3, q9, hO, hH, hE⟩
    have o3 := o_a3.ext hE
    refine qe <| wr <| lp rfl (xm u q9) <| lp rfl (xm v_a3 q3) <| yi (.plain rfl) rfl (ltb rfl) rfl Tryz.underlying23 Tryz.sizeOf35 Tryz.zeroValue35 rfl rfl rfl (vs := [v_a3]) rfl (by simp; exact Rd.one o3.rd) <| fun b6 w6 z6 z7 e6 k6 => ?_
    have hl6 : Rd 1 yP w6 (.slice (some ⟨b6, 0, none⟩) 1 1) [v_a3] := Ow.rd (Ow.new (xs := [v_a3]) (sz := 1) (enc := yP) (base := W2.heap.size) k6 (Nat.le_of_eq z6) (by obtain ⟨A9, c9, e9⟩ := Rd.shape o3.rd; rw [e9]; rfl) (fun _ _ => rfl) (Nat.le_of_ble_eq_true rfl))
    have hold := V4.old (hO.ext e6) o_a3.hb
    refine Gj (e2 := 52) (enc := qb) (bi := B) (.plain rfl) rfl (ltb rfl) rfl El.t23 rfl rfl (V4.of (hO.ext e6) hB) (o3.ext e6) hold.1 hold.2 hl6 (by simp; omega) (Nat.le_trans hE.size e6.size) <| fun v8 w8 o8 z8 g8 => lp rfl (xa v8 rfl) <| nx <|
      qh <| wr <| lp rfl (qc q2) <| lp rfl (qv (v := .int .i64 (a2 : Int)) rfl) <| nx ?_
    have e8 : Ext w w8 := g8 _ (hE.trans e6)
    refine vB (fun s0 σ W => ∃ u, σ 9 = u ∧ V4 35 52 5 qb w.heap.size B W u (Yi a0 a1 a2 a3) ∧ Ext w W) ?_ ?_
    · refine qx <| vc (fun s0 m σ W => ∃ (i : Nat) (u : Value), i + m = a0.length ∧ a2 ≤ i ∧ σ 0 = v_a0 ∧ σ 11 = .int .i64 (i : Int) ∧ σ 9 = u ∧ V4 35 52 5 qb w.heap.size B W u ((a0.take a1 ++ [a3]) ++ (a0.take i).drop a2) ∧ Ext w W) (a0.length - a2) ⟨a2, _, by omega, Nat.le_refl _, q0, rfl, rfl, by rw [List.drop_eq_nil_of_le (by simp; omega), List.append_nil]; exact o8, e8⟩ ?_
      rintro m s1 W1 ⟨i, u, him, ha2, q0, q11, q9, hO, hE⟩
      refine qh <| wr <| lp rfl (qc q11) <| lp rfl (qc q0) <| lp rfl (ye Tryz.underlying23 rfl (f_a0.ext hE)) <| lp rfl (vt rfl rfl) <| nx ?_
      by_cases hi : i < a0.length
      · have hm := hmem i hi
        have hd := hdr i hi
        rw [if_pos ha2] at hd
        have hw : IntKind.wrap .i64 ((i : Int) + 1) = ((i + 1 : Nat) : Int) := by rw [Go.UL.wrap_small (by omega) (by omega)]; omega
        refine qq (cb (decide_eq_true (by omega))) <| qr <| qe <| qh <| qx <| qG <| lp rfl (xm u q9) <| yi (.plain rfl) rfl (ltb rfl) rfl Tryz.underlying35 Tryz.sizeOf52 Tryz.zeroValue52 rfl rfl rfl (vs := []) rfl (vq rfl) <| fun b3 w3 z3 z4 e3 k3 => lp rfl (qc q0) <| lp rfl (qc q11) <|
          j9 (.plain rfl) rfl (ltb rfl) rfl Tryz.underlying23 Tryz.sizeOf35 rfl (f_a0.ext (hE.trans e3)) rfl (qR hi) <| fun p x hA hR => lp rfl (vA (v := x) Tryz.isAgg35 rfl hA rfl) <|
          yz (enc := qb) (.plain rfl) rfl (ltb rfl) rfl El.t35 rfl rfl (Ow.zero (base := W1.heap.size)) hR (jr _) (by simp only [List.length_nil]; omega) e3.size <| fun v5 w5 o5 z5 g5 => ?_
        have e5 : Ext W1 w5 := g5 _ e3
        rw [List.nil_append] at o5
        refine yi (.plain rfl) rfl (ltb rfl) rfl Tryz.underlying23 Tryz.sizeOf35 Tryz.zeroValue35 rfl rfl rfl (vs := [v5]) rfl (by simp; exact Rd.one o5.rd) <| fun b6 w6 z6 z7 e6 k6 => ?_
        have hl6 : Rd 1 yP w6 (.slice (some ⟨b6, 0, none⟩) 1 1) [v5] := Ow.rd (Ow.new (xs := [v5]) (sz := 1) (enc := yP) (base := w5.heap.size) k6 (Nat.le_of_eq z6) (by obtain ⟨A9, c9, e9⟩ := Rd.shape o5.rd; rw [e9]; rfl) (fun _ _ => rfl) (Nat.le_of_ble_eq_true rfl))
        have e7 := e5.trans e6
        have hnew := V4.new (qS.hbe (hO.to (Nat.zero_le _) (Nat.zero_le _)) e7) (o5.ext e6)
        refine Gj (e2 := 52) (enc := qb) (bi := B) (.plain rfl) rfl (ltb rfl) rfl El.t23 rfl rfl (hO.ext e7) ((o5.ext e6).base (Nat.le_trans hB hE.size)) hnew.1 hnew.2 hl6 (by simp; omega) (Nat.le_trans hE.size e7.size) <| fun v8 w8 o8 z8 g8 => ?_
        refine lp rfl (xa v8 rfl) <| qW <| vy <| qe <| qG <| lp rfl (qc q11) <| lp rfl (vn rfl rfl) <| lp rfl (qv (v := .int .i64 ((i + 1 : Nat) : Int)) (congrArg (Value.int .i64) hw)) <| nx ?_
        exact ⟨m - 1, by omega, i + 1, v8, by omega, by omega, q0, rfl, rfl, by rw [hd, ← List.append_assoc]; exact o8, g8 _ (hE.trans e7)⟩
      · have hie : i = a0.length := by omega
        rw [hie, List.take_length] at hO
        refine qi (cb (decide_eq_false (by omega))) <| vv <| qM <| qM <| yf ?_
        exact ⟨u, q9, by unfold Yi; rw [← List.append_cons] at hO; exact hO, hE⟩
    · rintro s3 W3 ⟨u, q9, hO, hE⟩
      refine qe <| wr <| lp rfl (qc q9) <| lp rfl (xa u rfl) <| nx <| qt <| qu ?_
      exact ⟨_, rfl, hE, hO.to hB (Nat.le_refl _)⟩
theorem VD.callsI {w : World} {a0 : List (List Rec)} {a1 a2 : Int} {a3 : List Rec} {v_a0 v_a3 : Value} {B : Nat} (f_a0 : Rd2 5 qb w v_a0 a0) (o_a3 : Ow 52 5 qb B w v_a3 a3) (hB : B ≤ w.heap.size) (h0 : a0.length ≤ 100) (h1 : ∀ l ∈ a0, l.length ≤ 1048576) (h2 : (0 : Int) ≤ a1) (h3 : a1 ≤ (a0.length : Int)) (h4 : (0 : Int) ≤ a2) (h5 : a2 ≤ (a0.length : Int)) :
    Calls Tryz.prog 63 #[v_a0, .int .i64 a1, .int .i64 a2, v_a3] w (Rt (fun v w' => Ext w w' ∧ qS 35 52 5 qb B w' v (Yi a0 a1.toNat a2.toNat a3))) := by
  obtain ⟨i, rfl⟩ := Int.eq_ofNat_of_zero_le h2
  obtain ⟨j, rfl⟩ := Int.eq_ofNat_of_zero_le h4
  exact VD.calls f_a0 o_a3 hB h0 h1 (by omega) (by omega)

/-! spec.Replaced -/
theorem yv.walk {w : World} {a0 : List (List Rec)} {a1 : Int} {a2 : Int} {v_a0 : Value} (f_a0 : Rd2 5 qb w v_a0 a0) {r : List (List Rec) × Int} (H : yv.sh a0 a1 a2 = some r) :
  Calls Tryz.prog 12 #[v_a0, .int .i64 a1, .int .i64 a2] w (Rt (RTS 35 52 5 qb w r.1 (.int .i64 r.2))) := by
 unfold yv.sh at H
 refine qj Tryz.func12 rfl (Nat.le_of_ble_eq_true rfl) Tryz.ntmps12 rfl ?_
 refine wr <| lp rfl (xa (.slice none 0 0) rfl) <| lp rfl (xa (.int .i64 0) rfl) <| nx <| qh <| wr <| lp rfl (xm v_a0 rfl) <| lp rfl (ye Tryz.underlying23 rfl f_a0) <| lp rfl (Qe rfl rfl) <| nx ?_
 rcases qg H with ⟨q1, H⟩ | ⟨q1, H⟩
 ·refine qq (cb q1) <| wr <| yi (.plain rfl) rfl (ltb rfl) rfl Tryz.underlying23 Tryz.sizeOf35 Tryz.zeroValue35 rfl rfl rfl (vs := []) rfl (vq rfl) <| fun b2 w3 z4 z5 e6 k7 => lp rfl (xa (.slice (some ⟨b2, 0, none⟩) 0 0) rfl) <| lp rfl (xa (.int .i64 2) rfl) <| nx <| qt <| qo <| qu ?_
  obtain rfl := si H
  exact QM rfl rfl e6 (qS.zero (base := w.heap.size)) (Nat.le_refl _)
 ·refine qi (cb q1) <| qr <| qe <| qh <| wr <| lp rfl (xm v_a0 rfl) ?_
  obtain ⟨c8, H⟩ := qa H
  obtain ⟨c9, H⟩ := qa H
  obtain ⟨c10, H⟩ := qa H
  refine lc rfl rfl Tryz.call60 (vN.calls (w := w) (a0 := a0) f_a0 (od c8) (od c9) (od c10)) rfl <| fun w11 e12 => lp rfl (yQ rfl) <| nx ?_
  rcases qg H with ⟨q13, H⟩ | ⟨q13, H⟩
  ·refine qq (cb q13) <| wr <| yi (.plain rfl) rfl (ltb rfl) rfl Tryz.underlying23 Tryz.sizeOf35 Tryz.zeroValue35 rfl rfl rfl (vs := []) rfl (vq rfl) <| fun b14 w15 z16 z17 e18 k19 => lp rfl (xa (.slice (some ⟨b14, 0, none⟩) 0 0) rfl) <| lp rfl (xa (.int .i64 1) rfl) <| nx <| qt <| qo <| qu ?_
   obtain rfl := si H
   exact QM rfl rfl (e12.t e18) (qS.zero (base := w.heap.size)) (Nat.le_refl _)
  ·refine qi (cb q13) <| qr <| qe <| qh <| wr <| lp rfl (xm (.int .i64 a1) rfl) <| lp rfl (xm v_a0 rfl) <| lp rfl (ye Tryz.underlying23 rfl (Rd2.ext f_a0 e12)) <| lc rfl rfl Tryz.call61 (jk.calls (w := w11) (a0 := a1) (a1 := 0) (a2 := (a0.length : Int))) rfl <| fun w20 e21 => lp rfl (yQ rfl) <| lp rfl (xm (.bool (!(within a1 0 (a0.length : Int)))) rfl) <| y7 7 [(23, 30)] 29 (.bool ((!(within a1 0 (a0.length : Int))) || (!(within a2 a1 (a0.length : Int))))) ?_ ?_
   ·rcases qF (!(within a1 0 (a0.length : Int))) with b21_ | b21_
    ·exact ls rfl rfl rfl (cb b21_) rfl <| ls rfl rfl rfl (cb b21_) rfl <| ls rfl rfl rfl (cb b21_) rfl <| ls rfl rfl rfl (cb b21_) rfl <| ls rfl rfl rfl (cb b21_) rfl <| ls rfl rfl rfl (cb b21_) rfl <| lp rfl (qC (b := true) (v := (.bool true)) (cb b21_) rfl) <| nx ⟨(ku3 (ku4 kz rfl) rfl), (VZ b21_), er⟩
    ·exact lg rfl rfl rfl rfl (cb b21_) (xm (.int .i64 a2) rfl) <| lg rfl rfl rfl rfl (cb b21_) (xm (.int .i64 a1) rfl) <| lg rfl rfl rfl rfl (cb b21_) (xm v_a0 rfl) <| lg rfl rfl rfl rfl (cb b21_) (ye Tryz.underlying23 rfl (Rd2.ext f_a0 (e12.t e21))) <| yM (tg rfl rfl rfl (cb b21_)) rfl (ltb rfl) rfl Tryz.call61 (jk.calls (w := w20) (a0 := a2) (a1 := a1) (a2 := (a0.length : Int))) rfl <| fun w23 e24 => lg rfl rfl rfl rfl (cb b21_) (yQ rfl) <| lp rfl (qC (b := false) (v := (.bool (!(within a2 a1 (a0.length : Int))))) (cb b21_) rfl) <| nx ⟨(ku3 (ku4 kz rfl) rfl), (V6 b21_), e24⟩
   intro s27 w23 K24 h25 e26
   refine nx ?_
   rcases qg H with ⟨q28, H⟩ | ⟨q28, H⟩
   ·refine qq (h25.trans (cb q28)) <| wr <| yi (.plain rfl) rfl (ltb rfl) rfl Tryz.underlying23 Tryz.sizeOf35 Tryz.zeroValue35 rfl rfl rfl (vs := []) rfl (vq rfl) <| fun b29 w30 z31 z32 e33 k34 => lp rfl (xa (.slice (some ⟨b29, 0, none⟩) 0 0) rfl) <| lp rfl (xa (.int .i64 4) rfl) <| nx <| qt <| qo <| qu ?_
    obtain rfl := si H
    exact QM rfl rfl (((e12.t e21).t e26).t e33) (qS.zero (base := w.heap.size)) (Nat.le_refl _)
   ·refine qi (h25.trans (cb q28)) <| qr <| qe <| qh <| wr <| lp rfl (xm (.int .i64 a1) (K24 1 rfl)) <| lp rfl (xm (.int .i64 a2) (K24 2 rfl)) <| lp rfl (jo rfl rfl) <| lp rfl (xm (.bool (decide (a1 = a2))) rfl) <| y7 4 [(35, 39)] 38 (.bool ((decide (a1 = a2)) && (decide ((a0.length : Int) = 5)))) ?_ ?_
    ·rcases qF (decide (a1 = a2)) with b34_ | b34_
     ·exact lg rfl rfl rfl rfl (cb b34_) (xm v_a0 (K24 0 rfl)) <| lg rfl rfl rfl rfl (cb b34_) (ye Tryz.underlying23 rfl (Rd2.ext f_a0 ((e12.t e21).t e26))) <| lg rfl rfl rfl rfl (cb b34_) (jo rfl rfl) <| lp rfl (qC (b := true) (v := (.bool (decide ((a0.length : Int) = 5)))) (cb b34_) rfl) <| nx ⟨(ku4 kz rfl), (Q1 b34_), er⟩
     ·exact ls rfl rfl rfl (cb b34_) rfl <| ls rfl rfl rfl (cb b34_) rfl <| ls rfl rfl rfl (cb b34_) rfl <| lp rfl (qC (b := false) (v := (.bool false)) (cb b34_) rfl) <| nx ⟨(ku4 kz rfl), (QX b34_), er⟩
    intro s40 w36 K37 h38 e39
    refine nx ?_
    rcases qg H with ⟨q41, H⟩ | ⟨q41, H⟩
    ·refine qq (h38.trans (cb q41)) <| wr <| yi (.plain rfl) rfl (ltb rfl) rfl Tryz.underlying23 Tryz.sizeOf35 Tryz.zeroValue35 rfl rfl rfl (vs := []) rfl (vq rfl) <| fun b42 w43 z44 z45 e46 k47 => lp rfl (xa (.slice (some ⟨b42, 0, none⟩) 0 0) rfl) <| lp rfl (xa (.int .i64 6) rfl) <| nx <| qt <| qo <| qu ?_
     obtain rfl := si H
     exact QM rfl rfl ((((e12.t e21).t e26).t e39).t e46) (qS.zero (base := w.heap.size)) (Nat.le_refl _)
    ·refine qi (h38.trans (cb q41)) <| qr <| qe <| wr <| lp rfl (xm v_a0 ((K37 0 rfl).trans (K24 0 rfl))) <| lp rfl (xm (.int .i64 a1) ((K37 1 rfl).trans (K24 1 rfl))) <| lp rfl (xm (.int .i64 a2) ((K37 2 rfl).trans (K24 2 rfl))) ?_
     obtain ⟨c48, H⟩ := qa H
     refine GI (.plain rfl) rfl (ltb rfl) rfl Tryz.underlying23 Tryz.sizeOf35 rfl (Rd2.ext f_a0 (((e12.t e21).t e26).t e39)) (l := a1) (h := a2) ⟨_, rfl⟩ ⟨_, rfl⟩ c48 <| fun v49 h50 => ?_
     obtain ⟨c51, H⟩ := qa H
     refine yq (.plain rfl) rfl (ltb rfl) rfl Tryz.call62 (yl.calls (w := w36) (a0 := sub a0 a1 a2) h50 (od c51)) rfl <| fun v54 w52 e53 o55 => lp rfl (xa v54 rfl) <| nx <| qh <| wr <| lp rfl (xm v54 rfl) <| lp rfl (vz Tryz.underlying35 rfl (Ow.rd o55)) <| lp rfl (Qe rfl rfl) <| nx ?_
     rcases qg H with ⟨q56, H⟩ | ⟨q56, H⟩
     ·refine qq (cb q56) <| wr <| yi (.plain rfl) rfl (ltb rfl) rfl Tryz.underlying23 Tryz.sizeOf35 Tryz.zeroValue35 rfl rfl rfl (vs := []) rfl (vq rfl) <| fun b57 w58 z59 z60 e61 k62 => lp rfl (xa (.slice (some ⟨b57, 0, none⟩) 0 0) rfl) <| lp rfl (xa (.int .i64 7) rfl) <| nx <| qt <| qo <| qu ?_
      obtain rfl := si H
      exact QM rfl rfl (((((e12.t e21).t e26).t e39).t e53).t e61) (qS.zero (base := w.heap.size)) (Nat.le_refl _)
     ·refine qi (cb q56) <| qr <| qe <| wr <| lp rfl (xm v_a0 ((K37 0 rfl).trans (K24 0 rfl))) <| lp rfl (xm (.int .i64 a1) ((K37 1 rfl).trans (K24 1 rfl))) <| lp rfl (xm (.int .i64 a2) ((K37 2 rfl).trans (K24 2 rfl))) <| lp rfl (xm v54 rfl) ?_
      obtain ⟨c63, H⟩ := qa H
      obtain ⟨c64, H⟩ := qa H
      obtain ⟨c65, H⟩ := qa H
      obtain ⟨c66, H⟩ := qa H
      obtain ⟨c67, H⟩ := qa H
      obtain ⟨c68, H⟩ := qa H
      refine jG (.plain rfl) rfl (ltb rfl) rfl Tryz.call63 (VD.callsI (w := w52) (a1 := a1) (a2 := a2) (Rd2.ext f_a0 ((((e12.t e21).t e26).t e39).t e53)) o55 (e53).size (od c63) (od c64) (od c65) (od c66) (od c67) (od c68)) rfl <| fun v69 w70 q9 => andE q9 fun e71 o72 => lp rfl (xa v69 rfl) <| lp rfl (xa (.int .i64 0) rfl) <| nx <| qt <| qu ?_
      obtain rfl := si H
      exact QM rfl rfl (((((e12.t e21).t e26).t e39).t e53).t e71) o72 ((((e12.t e21).t e26).t e39)).size
theorem yv.calls {w : World} {a0 : List (List Rec)} {a1 : Int} {a2 : Int} {v_a0 : Value} (f_a0 : Rd2 5 qb w v_a0 a0) (h0 : a0.length ≤ 1048576) (h1 : ∀ l ∈ a0, l.length ≤ 1048576) (h2 : ∀ l ∈ a0, ∀ x ∈ l, x.path.length ≤ 1048576) :
  Calls Tryz.prog 12 #[v_a0, .int .i64 a1, .int .i64 a2] w (Rt (RTS 35 52 5 qb w ((qf a0 a1 a2).1) (.int .i64 ((qf a0 a1 a2).2)))) := yv.walk f_a0 (yv.eq a0 a1 a2 h0 h1 h2)
/-! laws.FnExactReplaced -/
theorem law_Replaced.walk {w : World} {a0 : List (List Rec)} {a1 : Int} {a2 : Int} (gv : GV 0 w) {v_a0 : Value} (f_a0 : Rd2 5 qb w v_a0 a0) {r : Bool} (H : law_Replaced.sh a0 a1 a2 = some r) :
  Calls Tryz.prog 7 #[v_a0, .int .i64 a1, .int .i64 a2] w (Rt (RP w (.bool r))) := by
 unfold law_Replaced.sh at H
 refine qj Tryz.func7 rfl (Nat.le_of_ble_eq_true rfl) Tryz.ntmps7 rfl ?_
 refine wr <| lp rfl (xa (.bool false) rfl) <| nx <| wr <| lp rfl (xa (.int .i64 1048576) rfl) <| nx <| wr <| lp rfl (xm v_a0 rfl) <| lp rfl (xm (.int .i64 1048576) rfl) ?_
 obtain ⟨c1, H⟩ := qa H
 obtain ⟨c2, H⟩ := qa H
 obtain ⟨c3, H⟩ := qa H
 obtain ⟨c4, H⟩ := qa H
 obtain ⟨c5, H⟩ := qa H
 refine lc rfl rfl Tryz.call48 (vu.calls (w := w) (a0 := a0) (a1 := 1048576) f_a0 (od c1) (od c2) (od c3) (od c4) (od c5)) rfl <| fun w6 e7 => lp rfl (xa (.int .i64 (jR a0 1048576)) rfl) <| nx <| qh <| wr <| lp rfl (xm (.int .i64 (jR a0 1048576)) rfl) <| lp rfl (vt rfl rfl) <| nx ?_
 rcases qg H with ⟨q8, H⟩ | ⟨q8, H⟩
 ·refine qq (cb q8) <| wr <| lp rfl (xa (.bool true) rfl) <| nx <| qt <| qo <| qu ?_
  obtain rfl := si H
  exact qQ rfl e7
 ·refine qi (cb q8) <| qr <| qe <| wr <| lp rfl (xm v_a0 rfl) ?_
  obtain ⟨c9, H⟩ := qa H
  obtain ⟨c10, H⟩ := qa H
  refine Vz (.plain rfl) rfl (ltb rfl) rfl Tryz.call49 (qN.calls (w := w6) (a0 := a0) (Rd2.ext f_a0 e7) (od c9) (od c10)) rfl <| fun v13 w11 e12 o14 => lp rfl (xm (.int .i64 a1) rfl) <| lp rfl (xm (.int .i64 a2) rfl) ?_
  obtain ⟨c15, H⟩ := qa H
  obtain ⟨c16, H⟩ := qa H
  obtain ⟨c17, H⟩ := qa H
  refine Yk (.plain rfl) rfl (ltb rfl) rfl Tryz.call12 (yv.calls (w := w11) (a0 := a0) (a1 := a1) (a2 := a2) (qS.rd o14) (od c15) (od c16) (od c17)) rfl <| fun v20 w18 e19 o21 => lp rfl (xm (.tuple #[v20, (.int .i64 ((qf a0 a1 a2).2))]) rfl) <| lp rfl (yd (v := v20) rfl rfl) <| lp rfl (yd (v := (.int .i64 ((qf a0 a1 a2).2))) rfl rfl) <| lp rfl (xa v20 rfl) <| lp rfl (xa (.int .i64 ((qf a0 a1 a2).2)) rfl) <| nx <| wr <| lp rfl (xm v_a0 rfl) ?_
  obtain ⟨c22, H⟩ := qa H
  obtain ⟨c23, H⟩ := qa H
  refine Vz (.plain rfl) rfl (ltb rfl) rfl Tryz.call49 (qN.calls (w := w18) (a0 := a0) (Rd2.ext f_a0 ((e7.t e12).t e19)) (od c22) (od c23)) rfl <| fun v26 w24 e25 o27 => lp rfl (xa v26 rfl) <| nx <| wr <| lp rfl (xm v26 rfl) <| lp rfl (xm (.int .i64 a1) rfl) <| lp rfl (xm (.int .i64 a2) rfl) ?_
  obtain ⟨c28, H⟩ := qa H
  obtain ⟨c29, H⟩ := qa H
  obtain ⟨c30, H⟩ := qa H
  refine Yk (.plain rfl) rfl (ltb rfl) rfl Tryz.call11 (yo.calls (w := w24) (a0 := a0) (a1 := a1) (a2 := a2) (GV.ext gv (((e7.t e12).t e19).t e25)) (qS.rd o27) (od c28) (od c29) (od c30)) rfl <| fun v33 w31 e32 o34 => lp rfl (xm (.tuple #[v33, (.int .i64 ((qf a0 a1 a2).2))]) rfl) <| lp rfl (yd (v := v33) rfl rfl) <| lp rfl (yd (v := (.int .i64 ((qf a0 a1 a2).2))) rfl rfl) <| lp rfl (xa v33 rfl) <| lp rfl (xa (.int .i64 ((qf a0 a1 a2).2)) rfl) <| nx <| qh <| wr <| lp rfl (xm v33 rfl) <| lp rfl (xm v20 rfl) ?_
  obtain ⟨c35, H⟩ := qa H
  obtain ⟨c36, H⟩ := qa H
  refine lc rfl rfl Tryz.call50 (qX.calls (w := w31) (a0 := (qf a0 a1 a2).1) (a1 := (qf a0 a1 a2).1) (qS.rd o34) (qS.rd (qS.ext o21 (e25.t e32))) (od c35) (od c36)) rfl <| fun w37 e38 => lp rfl (yQ rfl) <| lp rfl (qc rfl) <| y7 4 [(45, 49)] 48 (.bool ((!(decide (((qf a0 a1 a2).1) = ((qf a0 a1 a2).1)))) || (!decide (((qf a0 a1 a2).2) = ((qf a0 a1 a2).2))))) ?_ ?_
  ·rcases qF (!(decide (((qf a0 a1 a2).1) = ((qf a0 a1 a2).1)))) with b38_ | b38_
   ·exact ls rfl rfl rfl (cb b38_) rfl <| ls rfl rfl rfl (cb b38_) rfl <| ls rfl rfl rfl (cb b38_) rfl <| lp rfl (qC (b := true) (v := (.bool true)) (cb b38_) rfl) <| nx ⟨(ku4 kz rfl), (VZ b38_), er⟩
   ·exact lg rfl rfl rfl rfl (cb b38_) (xm (.int .i64 ((qf a0 a1 a2).2)) rfl) <| lg rfl rfl rfl rfl (cb b38_) (xm (.int .i64 ((qf a0 a1 a2).2)) rfl) <| lg rfl rfl rfl rfl (cb b38_) (js rfl rfl) <| lp rfl (qC (b := false) (v := (.bool (!decide (((qf a0 a1 a2).2) = ((qf a0 a1 a2).2))))) (cb b38_) rfl) <| nx ⟨(ku4 kz rfl), (V6 b38_), er⟩
  intro s44 w40 K41 h42 e43
  refine nx ?_
  rcases qg H with ⟨q45, H⟩ | ⟨q45, H⟩
  ·refine qq (h42.trans (cb q45)) <| wr <| lp rfl (xa (.bool false) rfl) <| nx <| qt <| qo <| qu ?_
   obtain rfl := si H
   exact qQ rfl ((((((e7.t e12).t e19).t e25).t e32).t e38).t e43)
  ·refine qi (h42.trans (cb q45)) <| qr <| qe <| qh <| wr <| lp rfl (xm v26 (K41 10 rfl)) <| lp rfl (xm v_a0 (K41 0 rfl)) ?_
   obtain ⟨c46, H⟩ := qa H
   obtain ⟨c47, H⟩ := qa H
   refine Vz (.plain rfl) rfl (ltb rfl) rfl Tryz.call49 (qN.calls (w := w40) (a0 := a0) (Rd2.ext f_a0 ((((((e7.t e12).t e19).t e25).t e32).t e38).t e43)) (od c46) (od c47)) rfl <| fun v50 w48 e49 o51 => ?_
   obtain ⟨c52, H⟩ := qa H
   obtain ⟨c53, H⟩ := qa H
   refine lc rfl rfl Tryz.call50 (qX.calls (w := w48) (a0 := a0) (a1 := a0) (qS.rd (qS.ext o27 (((e32.t e38).t e43).t e49))) (qS.rd o51) (od c52) (od c53)) rfl <| fun w54 e55 => lp rfl (yQ rfl) <| nx ?_
   rcases qg H with ⟨q56, H⟩ | ⟨q56, H⟩
   ·refine qq (cb q56) <| wr <| lp rfl (xa (.bool false) rfl) <| nx <| qt <| qo <| qu ?_
    obtain rfl := si H
    exact qQ rfl ((((((((e7.t e12).t e19).t e25).t e32).t e38).t e43).t e49).t e55)
   ·refine qi (cb q56) <| qr <| qe <| wr <| lp rfl (xa (.int .i64 1) rfl) <| nx <| wr <| lp rfl (xm v26 (K41 10 rfl)) <| lp rfl (xm (.int .i64 1) rfl) ?_
    obtain ⟨c57, H⟩ := qa H
    obtain ⟨c58, H⟩ := qa H
    obtain ⟨c59, H⟩ := qa H
    obtain ⟨c60, H⟩ := qa H
    refine Xl (.plain rfl) rfl (ltb rfl) rfl Tryz.call51 (Q2.calls (w := w54) (a0 := a0) (a1 := 1) (qS.ext o27 ((((e32.t e38).t e43).t e49).t e55)) (qS.hbx o27 ((((e32.t e38).t e43).t e49).t e55)) (od c57) (od c58) (od c59) (od c60)) rfl <| fun w61 e62 o63 => lp rfl (xa (.int .i64 (1 + 5 * (jq a0 : Int))) rfl) <| nx <| qh <| wr <| lp rfl (xm (.int .i64 (1 + 5 * (jq a0 : Int))) rfl) <| lp rfl (vt rfl rfl) <| lp rfl (xm (.bool (decide ((1 + 5 * (jq a0 : Int)) < 0))) rfl) ?_
    obtain ⟨z65, x66, H⟩ := bind_some H
    refine Qj 5 [(60, 65)] 64 (fun q => q = z65) ?_ ?_
    ·rcases qg x66 with ⟨b63_, H⟩ | ⟨b63_, H⟩
     ·refine ls rfl rfl rfl (cb b63_) rfl <| ls rfl rfl rfl (cb b63_) rfl <| ls rfl rfl rfl (cb b63_) rfl <| ls rfl rfl rfl (cb b63_) rfl <| lp rfl (qC (b := true) (v := (.bool true)) (cb b63_) rfl) ?_
      obtain rfl := si H
      exact nx ⟨(ku1 (ku4 kz rfl) rfl), ⟨_, rfl, rfl⟩, er⟩
     ·refine lg rfl rfl rfl rfl (cb b63_) (xm v33 (K41 11 rfl)) <| lg rfl rfl rfl rfl (cb b63_) (xm v20 (K41 8 rfl)) ?_
      obtain ⟨c65, H⟩ := qa H
      obtain ⟨c66, H⟩ := qa H
      refine yM (tg rfl rfl rfl (cb b63_)) rfl (ltb rfl) rfl Tryz.call50 (qX.calls (w := w61) (a0 := (qf a0 a1 a2).1) (a1 := (qf a0 a1 a2).1) (qS.rd (qS.later (qS.ext o34 (((e38.t e43).t e49).t e55)) e62 er.size)) (qS.rd (qS.ext o21 (Ext.gr (((((e25.t e32).t e38).t e43).t e49).t e55) e62 er.size))) (od c65) (od c66)) rfl <| fun w67 e68 => lg rfl rfl rfl rfl (cb b63_) (yQ rfl) <| lp rfl (qC (b := false) (v := (.bool (!(decide (((qf a0 a1 a2).1) = ((qf a0 a1 a2).1)))))) (cb b63_) rfl) ?_
      obtain rfl := si H
      exact nx ⟨(ku1 (ku4 kz rfl) rfl), ⟨_, rfl, rfl⟩, e68⟩
    intro s71 w67 z72 K68 hq h69 e70
    rw [hq] at h69; clear hq
    refine lp rfl (qc h69) <| y7 4 [(66, 70)] 69 (.bool (z65 || (!decide (((qf a0 a1 a2).2) = ((qf a0 a1 a2).2))))) ?_ ?_
    ·rcases qF z65 with b72_ | b72_
     ·exact ls rfl rfl rfl (cb b72_) rfl <| ls rfl rfl rfl (cb b72_) rfl <| ls rfl rfl rfl (cb b72_) rfl <| lp rfl (qC (b := true) (v := (.bool true)) (cb b72_) rfl) <| nx ⟨(ku4 kz rfl), (VZ b72_), er⟩
     ·exact lg rfl rfl rfl rfl (cb b72_) (xm (.int .i64 ((qf a0 a1 a2).2)) ((K68 12 rfl).trans (K41 12 rfl))) <| lg rfl rfl rfl rfl (cb b72_) (xm (.int .i64 ((qf a0 a1 a2).2)) ((K68 9 rfl).trans (K41 9 rfl))) <| lg rfl rfl rfl rfl (cb b72_) (js rfl rfl) <| lp rfl (qC (b := false) (v := (.bool (!decide (((qf a0 a1 a2).2) = ((qf a0 a1 a2).2))))) (cb b72_) rfl) <| nx ⟨(ku4 kz rfl), (V6 b72_), er⟩
    intro s78 w74 K75 h76 e77
    refine nx ?_
    rcases qg H with ⟨q79, H⟩ | ⟨q79, H⟩
    ·refine qq (h76.trans (cb q79)) <| wr <| lp rfl (xa (.bool false) rfl) <| nx <| qt <| qo <| qu ?_
     obtain rfl := si H
     exact qQ rfl (((((e7.t e12).t e19).t (Ext.gr (((((e25.t e32).t e38).t e43).t e49).t e55) e62 er.size)).t e70).t e77)
    ·refine qi (h76.trans (cb q79)) <| qr <| qe <| wr <| lp rfl (xa (.int .i64 1) rfl) <| nx <| wr <| lp rfl (xm v33 ((K75 11 rfl).trans ((K68 11 rfl).trans (K41 11 rfl)))) <| lp rfl (xm (.int .i64 1) rfl) ?_
     obtain ⟨c80, H⟩ := qa H
     obtain ⟨c81, H⟩ := qa H
     obtain ⟨c82, H⟩ := qa H
     obtain ⟨c83, H⟩ := qa H
     refine Xl (.plain rfl) rfl (ltb rfl) rfl Tryz.call51 (Q2.calls (w := w74) (a0 := (qf a0 a1 a2).1) (a1 := 1) (qS.ext (qS.later (qS.ext o34 (((e38.t e43).t e49).t e55)) e62 er.size) (e70.t e77)) (HB2.extO (HB2.laterO (qS.hbx o34 (((e38.t e43).t e49).t e55)) (qS.ext o34 (((e38.t e43).t e49).t e55)) e62 er.size) (qS.later (qS.ext o34 (((e38.t e43).t e49).t e55)) e62 er.size) (e70.t e77)) (od c80) (od c81) (od c82) (od c83)) rfl <| fun w84 e85 o86 => lp rfl (xa (.int .i64 (1 + 5 * (jq ((qf a0 a1 a2).1) : Int))) rfl) <| nx <| wr <| lp rfl (xa (.int .i64 1) rfl) <| nx <| wr <| lp rfl (xm v33 ((K75 11 rfl).trans ((K68 11 rfl).trans (K41 11 rfl)))) <| lp rfl (xm (.int .i64 1) rfl) ?_
     obtain ⟨c87, H⟩ := qa H
     obtain ⟨c88, H⟩ := qa H
     obtain ⟨c89, H⟩ := qa H
     obtain ⟨c90, H⟩ := qa H
     refine lc rfl rfl Tryz.call52 (qV.calls (w := w84) (a0 := (vQ ((qf a0 a1 a2).1) 1)) (a1 := 1) (qS.rd o86) (od c87) (od c88) (od c89) (od c90)) rfl <| fun w91 e92 => lp rfl (xa (.int .i64 (jf (vQ ((qf a0 a1 a2).1) 1) 1)) rfl) <| nx <| qh <| wr <| lp rfl (xm (.int .i64 (jf (vQ ((qf a0 a1 a2).1) 1) 1)) rfl) <| lp rfl (vt rfl rfl) <| nx ?_
     rcases qg H with ⟨q93, H⟩ | ⟨q93, H⟩
     ·refine qq (cb q93) <| wr <| lp rfl (xa (.bool false) rfl) <| nx <| qt <| qo <| qu ?_
      obtain rfl := si H
      exact qQ rfl ((((e7.t e12).t e19).t (Ext.gr (Ext.trans (Ext.trans (Ext.gr (((((e25.t e32).t e38).t e43).t e49).t e55) e62 er.size) e70) e77) e85 e25.size)).t e92)
     ·refine qi (cb q93) <| qr <| qe <| qh <| wr <| lp rfl (xm (.int .i64 (jf (vQ ((qf a0 a1 a2).1) 1) 1)) rfl) <| lp rfl (xm (.int .i64 (1 + 5 * (jq ((qf a0 a1 a2).1) : Int))) rfl) <| lp rfl (js rfl rfl) <| nx ?_
      rcases qg H with ⟨q94, H⟩ | ⟨q94, H⟩
      ·refine qq (cb q94) <| wr <| lp rfl (xa (.bool false) rfl) <| nx <| qt <| qo <| qu ?_
       obtain rfl := si H
       exact qQ rfl ((((e7.t e12).t e19).t (Ext.gr (Ext.trans (Ext.trans (Ext.gr (((((e25.t e32).t e38).t e43).t e49).t e55) e62 er.size) e70) e77) e85 e25.size)).t e92)
      ·refine qi (cb q94) <| qr <| qe <| wr <| lp rfl (xm v_a0 ((K75 0 rfl).trans ((K68 0 rfl).trans (K41 0 rfl)))) ?_
       obtain ⟨c95, H⟩ := qa H
       obtain ⟨c96, H⟩ := qa H
       refine Vz (.plain rfl) rfl (ltb rfl) rfl Tryz.call49 (qN.calls (w := w91) (a0 := a0) (Rd2.ext f_a0 ((((e7.t e12).t e19).t (Ext.gr (Ext.trans (Ext.trans (Ext.gr (((((e25.t e32).t e38).t e43).t e49).t e55) e62 er.size) e70) e77) e85 e25.size)).t e92)) (od c95) (od c96)) rfl <| fun v99 w97 e98 o100 => lp rfl (xm (.int .i64 a1) ((K75 1 rfl).trans ((K68 1 rfl).trans (K41 1 rfl)))) <| lp rfl (xm (.int .i64 a2) ((K75 2 rfl).trans ((K68 2 rfl).trans (K41 2 rfl)))) ?_
       obtain ⟨c101, H⟩ := qa H
       obtain ⟨c102, H⟩ := qa H
       obtain ⟨c103, H⟩ := qa H
       refine Yk (.plain rfl) rfl (ltb rfl) rfl Tryz.call11 (yo.calls (w := w97) (a0 := a0) (a1 := a1) (a2 := a2) (GV.ext gv (((((e7.t e12).t e19).t (Ext.gr (Ext.trans (Ext.trans (Ext.gr (((((e25.t e32).t e38).t e43).t e49).t e55) e62 er.size) e70) e77) e85 e25.size)).t e92).t e98)) (qS.rd o100) (od c101) (od c102) (od c103)) rfl <| fun v106 w104 e105 o107 => lp rfl (xm (.tuple #[v106, (.int .i64 ((qf a0 a1 a2).2))]) rfl) <| lp rfl (yd (v := v106) rfl rfl) <| lp rfl (yd (v := (.int .i64 ((qf a0 a1 a2).2))) rfl rfl) <| lp rfl (xa v106 rfl) <| lp rfl (xa (.int .i64 ((qf a0 a1 a2).2)) rfl) <| nx <| qh <| wr <| lp rfl (xm v106 rfl) <| lp rfl (xm v20 ((K75 8 rfl).trans ((K68 8 rfl).trans (K41 8 rfl)))) ?_
       obtain ⟨c108, H⟩ := qa H
       obtain ⟨c109, H⟩ := qa H
       refine lc rfl rfl Tryz.call50 (qX.calls (w := w104) (a0 := (qf a0 a1 a2).1) (a1 := (qf a0 a1 a2).1) (qS.rd o107) (qS.rd (qS.ext o21 (Ext.trans (Ext.trans (Ext.trans (Ext.gr (Ext.trans (Ext.trans (Ext.gr (((((e25.t e32).t e38).t e43).t e49).t e55) e62 er.size) e70) e77) e85 e25.size) e92) e98) e105))) (od c108) (od c109)) rfl <| fun w110 e111 => lp rfl (yQ rfl) <| lp rfl (qc rfl) <| y7 4 [(94, 98)] 97 (.bool ((!(decide (((qf a0 a1 a2).1) = ((qf a0 a1 a2).1)))) || (!decide (((qf a0 a1 a2).2) = ((qf a0 a1 a2).2))))) ?_ ?_
       ·rcases qF (!(decide (((qf a0 a1 a2).1) = ((qf a0 a1 a2).1)))) with b111_ | b111_
        ·exact ls rfl rfl rfl (cb b111_) rfl <| ls rfl rfl rfl (cb b111_) rfl <| ls rfl rfl rfl (cb b111_) rfl <| lp rfl (qC (b := true) (v := (.bool true)) (cb b111_) rfl) <| nx ⟨(ku4 kz rfl), (VZ b111_), er⟩
        ·exact lg rfl rfl rfl rfl (cb b111_) (xm (.int .i64 ((qf a0 a1 a2).2)) rfl) <| lg rfl rfl rfl rfl (cb b111_) (xm (.int .i64 ((qf a0 a1 a2).2)) ((K75 9 rfl).trans ((K68 9 rfl).trans (K41 9 rfl)))) <| lg rfl rfl rfl rfl (cb b111_) (js rfl rfl) <| lp rfl (qC (b := false) (v := (.bool (!decide (((qf a0 a1 a2).2) = ((qf a0 a1 a2).2))))) (cb b111_) rfl) <| nx ⟨(ku4 kz rfl), (V6 b111_), er⟩
       intro s117 w113 K114 h115 e116
       refine nx ?_
       rcases qg H with ⟨q118, H⟩ | ⟨q118, H⟩
       ·refine qq (h115.trans (cb q118)) <| wr <| lp rfl (xa (.bool false) rfl) <| nx <| qt <| qo <| qu ?_
        obtain rfl := si H
        exact qQ rfl ((((((((e7.t e12).t e19).t (Ext.gr (Ext.trans (Ext.trans (Ext.gr (((((e25.t e32).t e38).t e43).t e49).t e55) e62 er.size) e70) e77) e85 e25.size)).t e92).t e98).t e105).t e111).t e116)
       ·refine qi (h115.trans (cb q118)) <| qr <| qe <| wr <| lp rfl (xa (.int .i64 1) rfl) <| nx <| wr <| lp rfl (xm v33 ((K114 11 rfl).trans ((K75 11 rfl).trans ((K68 11 rfl).trans (K41 11 rfl))))) <| lp rfl (xm (.int .i64 1) rfl) ?_
        obtain ⟨c119, H⟩ := qa H
        obtain ⟨c120, H⟩ := qa H
        obtain ⟨c121, H⟩ := qa H
        obtain ⟨c122, H⟩ := qa H
        refine lc rfl rfl Tryz.call52 (qV.calls (w := w113) (a0 := (vQ ((qf a0 a1 a2).1) 1)) (a1 := 1) (qS.rd (qS.ext o86 ((((e92.t e98).t e105).t e111).t e116))) (od c119) (od c120) (od c121) (od c122)) rfl <| fun w123 e124 => lp rfl (xa (.int .i64 (jf (vQ ((qf a0 a1 a2).1) 1) 1)) rfl) <| nx <| qh <| wr <| lp rfl (xm (.int .i64 (jf (vQ ((qf a0 a1 a2).1) 1) 1)) rfl) <| lp rfl (vt rfl rfl) <| nx ?_
        rcases qg H with ⟨q125, H⟩ | ⟨q125, H⟩
        ·refine qq (cb q125) <| wr <| lp rfl (xa (.bool false) rfl) <| nx <| qt <| qo <| qu ?_
         obtain rfl := si H
         exact qQ rfl (((((((((e7.t e12).t e19).t (Ext.gr (Ext.trans (Ext.trans (Ext.gr (((((e25.t e32).t e38).t e43).t e49).t e55) e62 er.size) e70) e77) e85 e25.size)).t e92).t e98).t e105).t e111).t e116).t e124)
        ·refine qi (cb q125) <| qr <| qe <| qh <| wr <| lp rfl (xm (.int .i64 (jf (vQ ((qf a0 a1 a2).1) 1) 1)) rfl) <| lp rfl (xm (.int .i64 (1 + 5 * (jq ((qf a0 a1 a2).1) : Int))) (K114 14 rfl)) <| lp rfl (js rfl rfl) <| nx ?_
         rcases qg H with ⟨q126, H⟩ | ⟨q126, H⟩
         ·refine qq (cb q126) <| wr <| lp rfl (xa (.bool false) rfl) <| nx <| qt <| qo <| qu ?_
          obtain rfl := si H
          exact qQ rfl (((((((((e7.t e12).t e19).t (Ext.gr (Ext.trans (Ext.trans (Ext.gr (((((e25.t e32).t e38).t e43).t e49).t e55) e62 er.size) e70) e77) e85 e25.size)).t e92).t e98).t e105).t e111).t e116).t e124)
         ·refine qi (cb q126) <| qr <| qe <| wr <| lp rfl (xa (.bool true) rfl) <| nx <| qt <| qu ?_
          obtain rfl := si H
          exact qQ rfl (((((((((e7.t e12).t e19).t (Ext.gr (Ext.trans (Ext.trans (Ext.gr (((((e25.t e32).t e38).t e43).t e49).t e55) e62 er.size) e70) e77) e85 e25.size)).t e92).t e98).t e105).t e111).t e116).t e124)
theorem law_Replaced.calls {w : World} {a0 : List (List Rec)} {a1 : Int} {a2 : Int} (gv : GV 0 w) {v_a0 : Value} (f_a0 : Rd2 5 qb w v_a0 a0) (h0 : ∀ l ∈ a0, ∀ x ∈ l, Vt x) (h1 : a0.length ≤ 9223372036854775807) (h2 : ∀ l ∈ a0, l.length ≤ 9223372036854775807) :
  Calls Tryz.prog 7 #[v_a0, .int .i64 a1, .int .i64 a2] w (Rt (RP w (.bool true))) := law_Replaced.walk gv f_a0 (law_Replaced.eq a0 a1 a2 h0 h1 h2)
end Go.Proofs.YtdhmlillkbjjjaaGreatDoor
