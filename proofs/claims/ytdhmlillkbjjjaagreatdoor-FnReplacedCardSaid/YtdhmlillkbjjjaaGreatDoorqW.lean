/- The walks, by program (wip/tools). -/
import Derived.Test.YtdhmlillkbjjjaaGreatDoorProg
import Derived.Test.YtdhmlillkbjjjaaGreatDoorKJ
import Derived.Test.YtdhmlillkbjjjaaGreatDoorKL
import Derived.Test.YtdhmlillkbjjjaaGreatDoorqWB
set_option linter.unusedVariables false
set_option linter.unusedSimpArgs false
set_option maxRecDepth 10000
namespace Go.Proofs.YtdhmlillkbjjjaaGreatDoor
open Go.UL Go.RowKit
/-! (*spec.l00Src).stack -/
theorem yd.walk {k : Nat} {w : World} {a0 : List Int} {a1 : DSrc} {wc : World} {cv : Value} {bs : Nat} (kc : Ext wc w) (fc : Rd 1 (Go.UL.encI .u8) wc cv a0) (hz : wc.heap.size ≤ bs) (ks : Blk w bs (vN cv a1).toArray 128) {r : List (List Rec) × DSrc} (H : yd.sh k a0 a1 = some r) :
  Calls Tryz.prog 57 #[.pointer (some ⟨bs, 0, none⟩)] w (Rt (RSOS 128 bs cv 35 52 5 qc w r.1 r.2)) := by
 unfold yd.sh at H
 refine qg Tryz.func57 rfl (Nat.le_of_ble_eq_true rfl) Tryz.ntmps57 rfl ?_
 refine wr <| lp rfl (xa (.slice none 0 0) rfl) <| nx <| wr <| vC (.plain rfl) rfl (ltb rfl) rfl Tryz.underlying23 Tryz.sizeOf35 Tryz.zeroValue35 rfl rfl rfl (vs := []) rfl (qO rfl) <| fun b1 w2 z3 z4 e5 k6 => lp rfl (xa (.slice (some ⟨b1, 0, none⟩) 0 0) rfl) <| nx <| qi <| wr <| lp rfl (xm (.pointer (some ⟨bs, 0, none⟩)) rfl) ?_
 obtain ⟨z7, x8, H⟩ := bind_some H
 refine jp (.plain rfl) rfl (ltb rfl) rfl Tryz.call115 (vw.calls (w := w2) (a0 := a0) (a1 := a1) (a2 := 4) (Ext.trans kc e5) fc hz (Blk.ext ks e5) x8) rfl <| fun w11 g12 k13 => lp rfl (xa (.int .i64 z7.1) rfl) <| nx ?_
 obtain ⟨z18, L19, C20⟩ := bind_some H
 clear H
 refine  vq (fun s0 sQ wQ => ∃ (x3_21 : List (List Rec)) (v22 : Value) (y23 : DSrc), Kp [(3, 5), (8, 17)] s0 sQ ∧ sQ 3 = v22 ∧ vv 35 52 5 qc w11.heap.size wQ v22 x3_21 ∧ Blk wQ bs ((vN cv) y23).toArray 128 ∧ Gr bs (bs + 1) w11 wQ ∧ Ext wc wQ ∧ z18 = .inr (x3_21, y23)) ?_ ?_
 ·refine qx <| vc (fun s0 kk sQ wQ => ∃ (x3_14 : List (List Rec)) (v15 : Value) (x4_16 : Int) (y17 : DSrc), Kp [(3, 5), (8, 17)] s0 sQ ∧ sQ 3 = v15 ∧ vv 35 52 5 qc w11.heap.size wQ v15 x3_14 ∧ sQ 4 = .int .i64 x4_16 ∧ Blk wQ bs ((vN cv) y17).toArray 128 ∧ Gr bs (bs + 1) w11 wQ ∧ Ext wc wQ ∧ qn (yd.b1 a0) kk (x3_14, x4_16, y17) = some z18) k ⟨([] : List (List Rec)), (.slice (some ⟨b1, 0, none⟩) 0 0), z7.1, z7.2, kz, rfl, (vv.zero), rfl, k13, (Gr.refl _ _ _), (Ext.gr (Ext.trans kc e5) g12 hz), L19⟩ ?_
  rintro k28 s29 w30 ⟨x3_14, v15, x4_16, y17, K31, h34, h35, h36, h37, e32, e32c, L33⟩
  cases k28 with
  | zero => exact absurd L33 (by simp [qn])
  | succ k28 =>
   obtain ⟨t38, H, S39⟩ := qJ L33
   clear L33
   unfold yd.b1 at H
   refine qi <| wr <| lp rfl (qb h36) <| lp rfl (Qp rfl rfl) <| nx ?_
   rcases qh H with ⟨q40, H⟩ | ⟨q40, H⟩
   ·refine qo (cb q40) <| qq <| qf <| qi <| qx <| qG <| lp rfl (qb h34) <| lp rfl (xm (.pointer (some ⟨bs, 0, none⟩)) (K31 0 rfl)) ?_
    obtain ⟨z41, x42, H⟩ := bind_some H
    refine L_callSO (.plain rfl) rfl (ltb rfl) rfl Tryz.call69 (yg.calls (w := w30) (a0 := a0) (a1 := y17) e32c fc hz h37 x42) rfl <| fun v48 w45 g46 k47 o49 => vC (.plain rfl) rfl (ltb rfl) rfl Tryz.underlying23 Tryz.sizeOf35 Tryz.zeroValue35 rfl rfl rfl (vs := [v48]) rfl (by simp; exact (Rd.one (Ow.rd o49))) <| fun b50 w51 z52 z53 e54 k55 => ?_
    obtain ⟨c56, H⟩ := qa H
    refine Gp (e2 := 52) (enc := qc) (.plain rfl) rfl (ltb rfl) rfl El.t23 rfl rfl (vv.ext (vv.later h35 g46 (Nat.le_trans (Blk.lt ks) ((Gr.trans (Gr.ext e5) g12)).size)) e54) (vv.hbg h35 (Gr.trans g46 (Gr.ext e54)) (Nat.le_trans (Blk.lt ks) ((Gr.trans (Gr.ext e5) g12)).size)) (Ow.ext o49 e54) (Ow.rd (Ow.new (xs := [v48]) (sz := 1) (enc := Qh) (base := w45.heap.size) k55 (Nat.le_of_eq z52) (by obtain ⟨A9, c9, e9⟩ := Rd.shape (Ow.rd (Ow.ext o49 e54)); rw [e9]; rfl) (fun _ _ => rfl) (Nat.le_of_ble_eq_true rfl))) (by obtain ⟨A9, c9, e9⟩ := Rd.shape (Ow.rd (Ow.ext o49 e54)); rw [e9]; rfl) (e32).size (od c56) ((Gr.trans (Gr.trans e32 g46) (Gr.ext e54))).size <| fun v57 w58 o59 z60 g61 => lp rfl (xa v57 rfl) <| qH <| vj <| qf <| qG <| lp rfl (qb h36) <| lp rfl (QS rfl rfl) <| lp rfl (xa (.int .i64 (IntKind.wrap .i64 (x4_16 - 1))) rfl) <| nx ?_
    obtain rfl := si H
    exact ⟨_, Nat.lt_succ_self _, x3_14 ++ [z41.1], v57, IntKind.wrap .i64 (x4_16 - 1), z41.2, (ku3 (ku8 K31 rfl) rfl), rfl, o59, rfl, (Gr.blk (Gr.ofBelow (g61 _ (Below.refl _ _))) (Blk.ext k47 e54) (Or.inr (Nat.le_trans (Blk.lt ks) ((Gr.trans (Gr.ext e5) g12)).size))), (Gr.thn (Gr.trans (Gr.trans e32 g46) (Gr.ext e54)) (g61 _ (Below.refl _ _))), (Below.trans (Ext.trans (Ext.gr e32c g46 hz) e54) (Below.mono (g61 _ (Below.refl _ _)) ((Ext.gr (Ext.trans kc e5) g12 hz)).size)), S39⟩
   ·refine qj (cb q40) <| vt <| qN <| qN <| yu <| qf ?_
    obtain rfl := si H
    obtain rfl := si S39
    exact ⟨x3_14, v15, y17, (ku2 K31 rfl), h34, h35, h37, e32, e32c, rfl⟩
 ·rintro s25 w24 ⟨x3_21, v22, y23, K26, h62, h63, h64, e27, e27c, y65⟩
  rw [y65] at C20
  have H := C20
  replace H : _ = some _ := H
  refine qf <| wr <| lp rfl (qb h62) <| lp rfl (xa v22 rfl) <| nx <| qr <| qu ?_
  obtain rfl := si H
  exact fin1sos rfl (Gr.trans (Gr.trans (Gr.ext e5) g12) e27) h64 h63 ((Gr.trans (Gr.ext e5) g12)).size
theorem yd.calls {w : World} {a0 : List Int} {a1 : DSrc} {r : List (List Rec) × DSrc} {wc : World} {cv : Value} {bs : Nat} (kc : Ext wc w) (fc : Rd 1 (Go.UL.encI .u8) wc cv a0) (hz : wc.heap.size ≤ bs) (ks : Blk w bs (vN cv a1).toArray 128) (H : (yd.sh 8 a0 a1) = some r) :
  Calls Tryz.prog 57 #[.pointer (some ⟨bs, 0, none⟩)] w (Rt (RSOS 128 bs cv 35 52 5 qc w r.1 r.2)) := by
 obtain ⟨k, h⟩ := yd.eq a0 a1 H
 exact yd.walk kc fc hz ks h
/-! spec.StackDrawn -/
theorem vQ.walk {w : World} {a0 : List Int} {v_a0 : Value} (f_a0 : Rd 1 (Go.UL.encI .u8) w v_a0 a0) {r : List (List Rec)} (H : vQ.sh a0 = some r) :
  Calls Tryz.prog 9 #[v_a0] w (Rt (ROS 35 52 5 qc w r)) := by
 unfold vQ.sh at H
 refine qg Tryz.func9 rfl (Nat.le_of_ble_eq_true rfl) Tryz.ntmps9 rfl ?_
 refine wr <| lp rfl (xa (.slice none 0 0) rfl) <| nx <| wr <| lp rfl (xm v_a0 rfl) ?_
 obtain ⟨z1, x2, H⟩ := bind_some H
 refine L_callSN (.plain rfl) rfl (ltb rfl) rfl Tryz.call56 (yo.calls (w := w) (a0 := a0) f_a0 x2) rfl <| fun b5 w3 z6 e4 k7 => ?_
 obtain ⟨z8, x9, H⟩ := bind_some H
 refine L_callSOS (.plain rfl) rfl (ltb rfl) rfl Tryz.call57 (yd.calls (w := w3) (a0 := a0) (a1 := z1) e4 f_a0 z6 k7 x9) rfl <| fun v15 w12 g13 k14 o16 => lp rfl (xa v15 rfl) <| nx <| qr <| qu ?_
 obtain rfl := si H
 exact fin1os rfl (Ext.gr e4 g13 z6) o16 (e4).size
theorem vQ.calls {w : World} {a0 : List Int} {r : List (List Rec)} {v_a0 : Value} (f_a0 : Rd 1 (Go.UL.encI .u8) w v_a0 a0) (H : (vQ.sh a0) = some r) :
  Calls Tryz.prog 9 #[v_a0] w (Rt (ROS 35 52 5 qc w r)) := vQ.walk f_a0 (vQ.eq a0 H)
/-! slices.Clone(()impl.Record,impl.Record), by text -/
theorem slices_CloneR.calls {w : World} {a0 : List Rec} {v_a0 : Value} (f_a0 : Rd 5 qc w v_a0 a0) (h0 : a0.length ≤ 1048576) :
    Calls Tryz.prog 181 #[v_a0] w (Rt (RO 52 5 qc w a0)) := by
  obtain ⟨A, c, hv⟩ := f_a0.shape
  refine qg Tryz.func181 rfl (Nat.le_of_ble_eq_true rfl) Tryz.ntmps181 rfl ?_
  refine wr <| lp rfl (qp (v := .slice none 0 0) rfl) <| nx <| qi <| wr <| lp rfl (xm v_a0 rfl) <| lp rfl (X_eqNil Tryz.underlying35 (by kernel_rfl) hv rfl) <| nx ?_
  cases A with
  | none =>
    have hn : a0 = [] := by
      obtain ⟨A', c', hv', ⟨hn, hz, _⟩, _⟩ := f_a0
      rw [hv] at hv'; injection hv' with e1 e2 e3
      have := hz e1.symm
      exact List.eq_nil_of_length_eq_zero (by omega)
    subst hn
    refine qo rfl <| wr <| lp rfl (qp (v := .slice none 0 0) rfl) <| nx <| qr <| qw <| qu ?_
    exact jI rfl er (Ow.zero (base := w.heap.size)) (Nat.le_refl _)
  | some a =>
    refine qj rfl <| qq <| qf <| wr <| vC (.plain rfl) rfl (ltb rfl) rfl Tryz.underlying35 Tryz.sizeOf52 Tryz.zeroValue52 rfl rfl rfl (vs := []) rfl (qO rfl) <| fun b w1 z1 z2 e1 k1 => lp rfl (xm v_a0 rfl) <|
      vP (enc := qc) (.plain rfl) rfl (ltb rfl) rfl El.t35 rfl rfl (Ow.zero (base := w1.heap.size) (w := w1)) (Rd.ext f_a0 e1) (jJ _) (by simp; omega) (Nat.le_refl _) <| fun v2 w2 o2 z3 g2 => lp rfl (xa v2 rfl) <| nx <| qr <| qu ?_
    have e2 : Ext w w2 := Ext.trans e1 (g2 _ er)
    have o3 : Ow 52 5 qc w1.heap.size w2 v2 a0 := by simpa using o2
    exact jI rfl e2 o3 e1.size

/-! impl.copyStack -/
theorem vx.walk {k : Nat} {w : World} {a0 : List (List Rec)} {v_a0 : Value} (f_a0 : Rd2 5 qc w v_a0 a0) {r : List (List Rec)} (H : vx.sh k a0 = some r) :
  Calls Tryz.prog 120 #[v_a0] w (Rt (ROS 35 52 5 qc w r)) := by
 unfold vx.sh at H
 refine qg Tryz.func120 rfl (Nat.le_of_ble_eq_true rfl) Tryz.ntmps120 rfl ?_
 refine wr <| lp rfl (xa (.slice none 0 0) rfl) <| nx <| wr <| vC (.plain rfl) rfl (ltb rfl) rfl Tryz.underlying23 Tryz.sizeOf35 Tryz.zeroValue35 rfl rfl rfl (vs := []) rfl (qO rfl) <| fun b1 w2 z3 z4 e5 k6 => lp rfl (xa (.slice (some ⟨b1, 0, none⟩) 0 0) rfl) <| nx <| qi <| wr <| lp rfl (xm v_a0 rfl) <| lp rfl (yK Tryz.underlying23 rfl (Rd2.ext f_a0 e5)) <| lp rfl (xm (.int .i64 0) rfl) <| nx ?_
 obtain ⟨z10, L11, C12⟩ := bind_some H
 clear H
 refine  vq (fun s0 sQ wQ => ∃ (x3_13 : List (List Rec)) (v14 : Value), Kp [(3, 4), (5, 6), (9, 19)] s0 sQ ∧ sQ 3 = v14 ∧ vv 35 52 5 qc w2.heap.size wQ v14 x3_13 ∧ Ext w2 wQ ∧ z10 = .inr x3_13) ?_ ?_
 ·refine qx <| vc (fun s0 kk sQ wQ => ∃ (x3_7 : List (List Rec)) (v8 : Value) (x9_9 : Int), Kp [(3, 4), (5, 6), (9, 19)] s0 sQ ∧ sQ 3 = v8 ∧ vv 35 52 5 qc w2.heap.size wQ v8 x3_7 ∧ sQ 9 = .int .i64 x9_9 ∧ Ext w2 wQ ∧ qn (vx.b1 a0) kk (x3_7, x9_9) = some z10) k ⟨([] : List (List Rec)), (.slice (some ⟨b1, 0, none⟩) 0 0), 0, kz, rfl, (vv.zero), rfl, er, L11⟩ ?_
  rintro k19 s20 w21 ⟨x3_7, v8, x9_9, K22, h25, h26, h27, e23, L24⟩
  cases k19 with
  | zero => exact absurd L24 (by simp [qn])
  | succ k19 =>
   obtain ⟨t28, H, S29⟩ := qJ L24
   clear L24
   unfold vx.b1 at H
   refine wr <| lp rfl (vW h27 (K22 8 rfl)) <| nx <| qi ?_
   rcases qh H with ⟨q30, H⟩ | ⟨q30, H⟩
   ·refine qo (cb q30) <| qq <| qf <| qi <| qx <| wr ?_
    obtain ⟨c31, H⟩ := qa H
    refine Vt (.plain rfl) rfl (ltb rfl) rfl Tryz.underlying23 Tryz.sizeOf35 (K22 7 rfl) (Rd2.ext f_a0 (e5.t e23)) h27 c31 <| fun p32 v34 h33 h35 => lp rfl (vy Tryz.isAgg35 rfl h33 rfl) <| lp rfl (xa v34 rfl) <| nx <| qG <| lp rfl (qb h25) <| lp rfl (xm v34 rfl) ?_
    obtain ⟨c36, H⟩ := qa H
    refine vE (.plain rfl) rfl (ltb rfl) rfl Tryz.call181 (slices_CloneR.calls (w := w21) (a0 := gt a0 x9_9) h35 (od c36)) rfl <| fun v39 w37 e38 o40 => vC (.plain rfl) rfl (ltb rfl) rfl Tryz.underlying23 Tryz.sizeOf35 Tryz.zeroValue35 rfl rfl rfl (vs := [v39]) rfl (by simp; exact (Rd.one (Ow.rd o40))) <| fun b41 w42 z43 z44 e45 k46 => ?_
    obtain ⟨c47, H⟩ := qa H
    refine Gp (e2 := 52) (enc := qc) (.plain rfl) rfl (ltb rfl) rfl El.t23 rfl rfl (vv.ext h26 (e38.t e45)) (vv.hbe h26 (e38.t e45)) (Ow.ext o40 e45) (Ow.rd (Ow.new (xs := [v39]) (sz := 1) (enc := Qh) (base := w37.heap.size) k46 (Nat.le_of_eq z43) (by obtain ⟨A9, c9, e9⟩ := Rd.shape (Ow.rd (Ow.ext o40 e45)); rw [e9]; rfl) (fun _ _ => rfl) (Nat.le_of_ble_eq_true rfl))) (by obtain ⟨A9, c9, e9⟩ := Rd.shape (Ow.rd (Ow.ext o40 e45)); rw [e9]; rfl) (e23).size (od c47) (((e23.t e38).t e45)).size <| fun v48 w49 o50 z51 g52 => lp rfl (xa v48 rfl) <| qH <| vj <| qf <| qG <| lp rfl (qU h27 rfl) <| lp rfl (xm (.int .i64 (IntKind.wrap .i64 (x9_9 + 1))) rfl) <| nx ?_
    obtain rfl := si H
    exact ⟨_, Nat.lt_succ_self _, x3_7 ++ [(gt a0 x9_9)], v48, IntKind.wrap .i64 (x9_9 + 1), (ku4 (ku8 K22 rfl) rfl), rfl, o50, rfl, (g52 _ ((e23.t e38).t e45)), S29⟩
   ·refine qj (cb q30) <| vt <| qN <| qN <| yu <| qf ?_
    obtain rfl := si H
    obtain rfl := si S29
    exact ⟨x3_7, v8, (ku1 K22 rfl), h25, h26, e23, rfl⟩
 ·rintro s16 w15 ⟨x3_13, v14, K17, h53, h54, e18, y55⟩
  rw [y55] at C12
  have H := C12
  replace H : _ = some _ := H
  refine qf <| wr <| lp rfl (qb h53) <| lp rfl (xa v14 rfl) <| nx <| qr <| qu ?_
  obtain rfl := si H
  exact fin1os rfl (e5.t e18) h54 (e5).size
theorem vx.calls {w : World} {a0 : List (List Rec)} {v_a0 : Value} (f_a0 : Rd2 5 qc w v_a0 a0) (h0 : a0.length ≤ 100) (h1 : ∀ l ∈ a0, l.length ≤ 1048576) :
  Calls Tryz.prog 120 #[v_a0] w (Rt (ROS 35 52 5 qc w a0)) := by
 obtain ⟨k, h⟩ := vx.eq a0 h0 h1
 exact vx.walk f_a0 h
/-! slices.Grow(()()impl.Record,()impl.Record), by text -/
theorem X8.calls {w : World} {n : Nat} (hn : n ≤ 1000000) :
    Calls Tryz.prog 182 #[.slice none 0 0, .int .i64 (n : Int)] w (Rt (RO 35 1 Qh w ([] : List Value))) := by
  refine qg Tryz.func182 rfl (Nat.le_of_ble_eq_true rfl) Tryz.ntmps182 rfl ?_
  have hw : IntKind.wrap .i64 ((n : Int) - 0) = (n : Int) := by rw [Int.sub_zero]; exact Go.UL.wrap_small (by omega) (by omega)
  refine wr <| lp rfl (qp (v := .slice none 0 0) rfl) <| nx <| qi <| wr <| lp rfl (qb (v := .int .i64 (n : Int)) rfl) <| lp rfl (vW rfl rfl) <| nx <| qj (cb (decide_eq_false (by omega))) <| qq <| qf <|
    qi <| wr <| lp rfl (qb (v := .int .i64 (n : Int)) rfl) <| lp rfl (qb (v := .slice none 0 0) rfl) <| lp rfl (X_cap (A := none) (n := 0) (c := 0) Tryz.underlying23 rfl) <| lp rfl (qb (v := .slice none 0 0) rfl) <| lp rfl (GP (A := none) (n := 0) (c := 0) Tryz.underlying23 rfl) <|
    lp rfl (QS rfl rfl) <| lp rfl (QS rfl rfl) <| lp rfl (qp (v := .int .i64 (n : Int)) (congrArg (Value.int .i64) hw)) <| nx <| wr <| lp rfl (qb (v := .int .i64 (n : Int)) rfl) <| lp rfl (Qp rfl rfl) <| nx ?_
  by_cases h0 : 0 < n
  · refine qo (cb (decide_eq_true (by omega))) <| qG <| lp rfl (qb (v := .slice none 0 0) rfl) <| lp rfl (qb (v := .slice none 0 0) rfl) <| lp rfl (X_cap (A := none) (n := 0) (c := 0) Tryz.underlying23 rfl) <|
      lp rfl ((VX (lo := none) (hi := some (.tmp 19)) (A := none) (n := 0) (c := 0) (l := 0) (h := 0) Tryz.underlying23 Tryz.sizeOf35 rfl rfl ⟨_, rfl⟩ (by omega) (by omega) (by omega)).cast (v' := .slice none 0 0) rfl) <| lp rfl (qb (v := .int .i64 (n : Int)) rfl) <|
      L_appendZ (A := none) (n := 0) (c := 0) (k := n) (olds := []) (.plain rfl) rfl (ltb rfl) rfl El.t23 Tryz.underlying3 rfl rfl (by simp [Builtin.firstCells]) (by simp) h0 (by omega) (by omega) <| fun b w1 C zs hb e1 hC hC2 hl hk => ?_
    refine lp rfl (qb (v := .slice none 0 0) rfl) <| lp rfl (GP (A := none) (n := 0) (c := 0) Tryz.underlying23 rfl) <|
      lp rfl ((QR (lo := none) (hi := some (.tmp 24)) (l := 0) (h := 0) Tryz.underlying23 Tryz.sizeOf35 rfl rfl ⟨_, rfl⟩ (.inr rfl) (by omega) (by omega)).cast (v' := .slice (some ⟨b, 0, none⟩) 0 C) (by simp)) <| lp rfl (qp (v := .slice (some ⟨b, 0, none⟩) 0 C) rfl) <| nx <|
      wr <| lp rfl (qb (v := .slice (some ⟨b, 0, none⟩) 0 C) rfl) <| lp rfl (qp (v := .slice (some ⟨b, 0, none⟩) 0 C) rfl) <| nx <| qr <| qu ?_
    exact jI rfl e1 (Ow.of_row (B := w.heap.size) (ys := ([] : List Value)) (R := [] ++ zs) (Nat.le_of_eq hb) hk (by simp) (fun y hy => by cases hy) (Nat.zero_le _) hC2 hl) (Nat.le_refl _)
  · refine qj (cb (decide_eq_false (by omega))) <| qq <| qf <| wr <| lp rfl (qb (v := .slice none 0 0) rfl) <| lp rfl (qp (v := .slice none 0 0) rfl) <| nx <| qr <| qu ?_
    exact jI rfl er (Ow.zero (base := w.heap.size)) (Nat.le_refl _)

/-! slices.Concat(()()impl.Record,()impl.Record), by text -/
theorem VR.raw {w : World} {v : Value} {vss : List (List Value)} (f : Rd2 1 Qh w v vss) (h1 : ∀ xs ∈ vss, ∀ y ∈ xs, y.oneCell' = true) (hn : vss.length ≤ 1000) (hT : vss.flatten.length ≤ 1000) :
    Calls Tryz.prog 121 #[v] w (Rt (RO 35 1 Qh w vss.flatten)) := by
  have htk : ∀ i, (vss.take i).flatten.length ≤ 1000 := fun i => Nat.le_trans (take_flat_len vss i) hT
  refine qg Tryz.func121 rfl (Nat.le_of_ble_eq_true rfl) Tryz.ntmps121 rfl ?_
  refine wr <| lp rfl (qp (v := .slice none 0 0) rfl) <| nx <| wr <| lp rfl (qp (v := .int .i64 0) rfl) <| nx <| qi <| wr <| lp rfl (xm v rfl) <| lp rfl (yK Tryz.underlying175 rfl f) <| lp rfl (qb (v := .int .i64 0) rfl) <| nx ?_
  refine vq (fun s0 σ W => σ 0 = v ∧ σ 3 = .int .i64 (vss.flatten.length : Int) ∧ W = w) ?_ ?_
  · refine qx <| vc (fun s0 m σ W => ∃ i : Nat, i + m = vss.length ∧ σ 0 = v ∧ σ 9 = v ∧ σ 10 = .int .i64 (vss.length : Int) ∧ σ 11 = .int .i64 (i : Int) ∧ σ 3 = .int .i64 ((vss.take i).flatten.length : Int) ∧ W = w) vss.length ⟨0, by omega, rfl, rfl, rfl, rfl, rfl, rfl⟩ ?_
    rintro m s1 W1 ⟨i, him, q0, q9, q10, q11, q3, rfl⟩
    refine wr <| lp rfl (vW q11 q10) <| nx ?_
    by_cases hi : i < vss.length
    · have hk := htk i
      have hk2 := htk (i + 1)
      have hfl := congrArg List.length (Y4 hi)
      rw [List.length_append] at hfl
      have hw : IntKind.wrap .i64 ((i : Int) + 1) = ((i + 1 : Nat) : Int) := by rw [Go.UL.wrap_small (by omega) (by omega)]; omega
      have hw2 : IntKind.wrap .i64 ((((vss.take i).flatten.length : Nat) : Int) + (((gt vss (i : Int)).length : Nat) : Int)) = (((vss.take (i + 1)).flatten.length : Nat) : Int) := by rw [Go.UL.wrap_small (by omega) (by omega)]; omega
      refine qi <| qo (cb (decide_eq_true (by omega))) <| qq <| qf <| qi <| qx <| wr <| Vt (.plain rfl) rfl (ltb rfl) rfl Tryz.underlying175 Tryz.sizeOf23 q9 f q11 (qP hi) <| fun p u hA hR => lp rfl (vy (v := u) Tryz.isAgg23 rfl hA rfl) <| lp rfl (xa u rfl) <| nx <|
        wr <| lp rfl (qb q3) <| lp rfl (xm u rfl) <| lp rfl (va Tryz.underlying23 rfl hR) <| lp rfl (qU rfl rfl) <| lp rfl (qp (v := .int .i64 (((vss.take (i + 1)).flatten.length : Nat) : Int)) (congrArg (Value.int .i64) hw2)) <| nx <|
        wr <| lp rfl (qb (v := .int .i64 (((vss.take (i + 1)).flatten.length : Nat) : Int)) rfl) <| lp rfl (vW rfl rfl) <| nx <| qj (cb (decide_eq_false (by omega))) <| qq <| vj <| qf <|
        qG <| lp rfl (qU q11 rfl) <| lp rfl (qb (v := .int .i64 ((i + 1 : Nat) : Int)) (congrArg (Value.int .i64) hw)) <| nx ?_
      exact ⟨m - 1, by omega, i + 1, by omega, q0, q9, q10, rfl, rfl, rfl⟩
    · have hie : i = vss.length := by omega
      rw [hie, List.take_length] at q3
      refine qi <| qj (cb (decide_eq_false (by omega))) <| vt <| qN <| qN <| yu ?_
      exact ⟨q0, q3, rfl⟩
  · rintro s2 W2 ⟨q0, q3, rfl⟩
    refine qf <| wr <| lp rfl (qb q3) <| vE (.plain rfl) rfl (ltb rfl) rfl Tryz.call182 (X8.calls (w := W2) (n := vss.flatten.length) (by omega)) rfl <| fun v1 w1 e1 o1 => lp rfl (xa v1 rfl) <| nx <| qi <| wr <| lp rfl (qb q0) <| lp rfl (yK Tryz.underlying175 rfl (f.ext e1)) <| lp rfl (qb (v := .int .i64 0) rfl) <| nx ?_
    refine vq (fun s0 σ W => ∃ u, σ 6 = u ∧ Ow 35 1 Qh W2.heap.size W u vss.flatten ∧ Ext W2 W) ?_ ?_
    · refine qx <| vc (fun s0 m σ W => ∃ (i : Nat) (u : Value), i + m = vss.length ∧ σ 25 = v ∧ σ 26 = .int .i64 (vss.length : Int) ∧ σ 27 = .int .i64 (i : Int) ∧ σ 6 = u ∧ Ow 35 1 Qh W2.heap.size W u (vss.take i).flatten ∧ Ext W2 W) vss.length ⟨0, v1, by omega, rfl, rfl, rfl, rfl, o1, e1⟩ ?_
      rintro m s1 W1 ⟨i, u, him, q25, q26, q27, q6, hO, hE⟩
      refine wr <| lp rfl (vW q27 q26) <| nx ?_
      by_cases hi : i < vss.length
      · have hk := htk i
        have hk2 := htk (i + 1)
        have hfe := Y4 hi
        have hfl := congrArg List.length hfe
        rw [List.length_append] at hfl
        have hmem : gt vss (i : Int) ∈ vss := by rw [vK, vr hi]; exact List.getElem_mem hi
        have hw : IntKind.wrap .i64 ((i : Int) + 1) = ((i + 1 : Nat) : Int) := by rw [Go.UL.wrap_small (by omega) (by omega)]; omega
        refine qi <| qo (cb (decide_eq_true (by omega))) <| qq <| qf <| qi <| qx <| wr <| Vt (.plain rfl) rfl (ltb rfl) rfl Tryz.underlying175 Tryz.sizeOf23 q25 (f.ext hE) q27 (qP hi) <| fun p x hA hR => lp rfl (vy (v := x) Tryz.isAgg23 rfl hA rfl) <| lp rfl (xa x rfl) <| nx <|
          qG <| lp rfl (xm u q6) <| lp rfl (xm x rfl) <|
          vP (enc := Qh) (.plain rfl) rfl (ltb rfl) rfl El.t23 rfl rfl hO hR (fun y hy c hc => by simp [Qh] at hc; subst hc; exact h1 _ hmem _ hy) (by omega) hE.size <| fun v9 w9 o9 z9 g9 => lp rfl (xa v9 rfl) <| qH <| vj <| qf <|
          qG <| lp rfl (qU q27 rfl) <| lp rfl (qb (v := .int .i64 ((i + 1 : Nat) : Int)) (congrArg (Value.int .i64) hw)) <| nx ?_
        exact ⟨m - 1, by omega, i + 1, v9, by omega, q25, q26, rfl, rfl, by rw [hfe]; exact o9, g9 _ hE⟩
      · have hie : i = vss.length := by omega
        rw [hie, List.take_length] at hO
        refine qi <| qj (cb (decide_eq_false (by omega))) <| vt <| qN <| qN <| yu ?_
        exact ⟨u, q6, hO, hE⟩
    · rintro s3 W3 ⟨u, q6, hO, hE⟩
      refine qf <| wr <| lp rfl (qb q6) <| lp rfl (xa u rfl) <| nx <| qr <| qu ?_
      exact jI rfl hE hO (Nat.le_refl _)
theorem VR.calls {w : World} {v : Value} {X : List (List (List Rec))} (f : Rd3 5 qc w v X) (h0 : X.length ≤ 1000) (h1 : X.flatten.length ≤ 1000) :
    Calls Tryz.prog 121 #[v] w (Rt (fun r w' => Ext w w' ∧ Rd2 5 qc w' r X.flatten)) := by
  obtain ⟨vss, f1, f2, f3, f4, f5⟩ := f.flat
  refine Calls.mono (VR.raw f1 f4 (by omega) (by omega)) ?_
  rintro e w' ⟨r, rfl, hE, hO⟩
  exact ⟨r, rfl, hE, vss.flatten, f3, hO.rd, fun i u xs a b => (f5 i u xs a b).ext hE⟩

/-! impl.replaced -/
abbrev vl.e1 (a0 : List (List Rec)) (a1 : Int) (a2 : Int) := ([sub a0 0 a1, ([(YW (qD (sub a0 a1 a2)))] : List (List Rec)), sub a0 a2 (a0.length : Int)] : List (List (List Rec)))
theorem vl.walk {w : World} {a0 : List (List Rec)} {a1 : Int} {a2 : Int} (gv : GV 0 w) {v_a0 : Value} (f_a0 : Rd2 5 qc w v_a0 a0) {r : List (List Rec) × Int} (H : vl.sh a0 a1 a2 = some r) :
  Calls Tryz.prog 59 #[v_a0, .int .i64 a1, .int .i64 a2] w (Rt (RTS 35 52 5 qc w r.1 (.int .i64 r.2))) := by
 unfold vl.sh at H
 refine qg Tryz.func59 rfl (Nat.le_of_ble_eq_true rfl) Tryz.ntmps59 rfl ?_
 refine wr <| lp rfl (xa (.slice none 0 0) rfl) <| lp rfl (xa (.int .i64 0) rfl) <| nx <| qi <| wr <| lp rfl (xm (.int .i64 a1) rfl) <| lp rfl (xm v_a0 rfl) <| lp rfl (yK Tryz.underlying23 rfl f_a0) <| lc rfl rfl Tryz.call117 (jB.calls (w := w) (a0 := a1) (a1 := 0) (a2 := (a0.length : Int))) rfl <| fun w1 e2 => lp rfl (jm rfl) <| lp rfl (xm (.bool (!(within a1 0 (a0.length : Int)))) rfl) <| jN 7 [(17, 24)] 23 (.bool ((!(within a1 0 (a0.length : Int))) || (!(within a2 a1 (a0.length : Int))))) ?_ ?_
 ·rcases ql (!(within a1 0 (a0.length : Int))) with b2_ | b2_
  ·exact ls rfl rfl rfl (cb b2_) rfl <| ls rfl rfl rfl (cb b2_) rfl <| ls rfl rfl rfl (cb b2_) rfl <| ls rfl rfl rfl (cb b2_) rfl <| ls rfl rfl rfl (cb b2_) rfl <| ls rfl rfl rfl (cb b2_) rfl <| lp rfl (qy (b := true) (v := (.bool true)) (cb b2_) rfl) <| nx ⟨(ku3 (ku4 kz rfl) rfl), (J9 b2_), er⟩
  ·exact lg rfl rfl rfl rfl (cb b2_) (xm (.int .i64 a2) rfl) <| lg rfl rfl rfl rfl (cb b2_) (xm (.int .i64 a1) rfl) <| lg rfl rfl rfl rfl (cb b2_) (xm v_a0 rfl) <| lg rfl rfl rfl rfl (cb b2_) (yK Tryz.underlying23 rfl (Rd2.ext f_a0 e2)) <| yW (tg rfl rfl rfl (cb b2_)) rfl (ltb rfl) rfl Tryz.call117 (jB.calls (w := w1) (a0 := a2) (a1 := a1) (a2 := (a0.length : Int))) rfl <| fun w4 e5 => lg rfl rfl rfl rfl (cb b2_) (jm rfl) <| lp rfl (qy (b := false) (v := (.bool (!(within a2 a1 (a0.length : Int))))) (cb b2_) rfl) <| nx ⟨(ku3 (ku4 kz rfl) rfl), (JY b2_), e5⟩
 intro s8 w4 K5 h6 e7
 refine lp rfl (vn Tryz.underlying4 rfl h6) <| lp rfl (vn Tryz.underlying3 rfl rfl) <| lp rfl (xm v_a0 (K5 0 rfl)) <| lp rfl (yK Tryz.underlying23 rfl (Rd2.ext f_a0 (e2.t e7))) <| lp rfl (xm (.int .i64 a2) (K5 2 rfl)) <| lp rfl (xm (.int .i64 a1) (K5 1 rfl)) <| lp rfl (QS rfl rfl) <| lp rfl (QS rfl rfl) <| lp rfl (qU rfl rfl) <| lp rfl (Qp rfl rfl) <| lp rfl (vn Tryz.underlying4 rfl rfl) <| lp rfl (vn Tryz.underlying3 rfl rfl) <| vC (.plain rfl) rfl (ltb rfl) rfl Tryz.underlying142 Tryz.sizeOf20 Tryz.zeroValue20 rfl rfl rfl (vs := [(.iface 4 (.bool ((!(within a1 0 (a0.length : Int))) || (!(within a2 a1 (a0.length : Int)))))), (.iface 3 (.int .i64 4)), (.iface 4 (.bool (decide (5 < (IntKind.wrap .i64 ((IntKind.wrap .i64 ((a0.length : Int) - (IntKind.wrap .i64 (a2 - a1)))) + 1)))))), (.iface 3 (.int .i64 6))]) rfl (qO rfl) <| fun b9 w10 z11 z12 e13 k14 => ?_
 obtain ⟨c15, H⟩ := qa H
 obtain ⟨z18, x19, H⟩ := bind_some H
 replace x19 := si x19
 refine lc rfl rfl Tryz.call77 (yM.calls (w := w10) (a0 := ([.inl ((!(within a1 0 (a0.length : Int))) || (!(within a2 a1 (a0.length : Int)))), .inr 4, .inl (decide (5 < (IntKind.wrap .i64 ((IntKind.wrap .i64 ((a0.length : Int) - (IntKind.wrap .i64 (a2 - a1)))) + 1)))), .inr 6] : List (Bool ⊕ Int))) (Ow.rd (Ow.new (xs := [.inl ((!(within a1 0 (a0.length : Int))) || (!(within a2 a1 (a0.length : Int)))), .inr 4, .inl (decide (5 < (IntKind.wrap .i64 ((IntKind.wrap .i64 ((a0.length : Int) - (IntKind.wrap .i64 (a2 - a1)))) + 1)))), .inr 6]) (sz := 1) (enc := (Ve 4 3)) (base := w4.heap.size) k14 (Nat.le_of_eq z11) rfl (fun _ _ => by first | rfl | exact V9 _ _ _) (Nat.le_of_ble_eq_true rfl))) (od c15)) rfl <| fun w16 e17 => lp rfl (xa (.int .i64 z18) (congrArg (Value.int .i64) x19)) <| nx <| wr <| lp rfl (xm (.int .i64 z18) rfl) <| lp rfl (Qo rfl rfl) <| nx ?_
 rcases qh H with ⟨q20, H⟩ | ⟨q20, H⟩
 ·refine qo (cb q20) <| wr <| lp rfl (xm (.int .i64 z18) rfl) <| lp rfl (xa (.slice none 0 0) rfl) <| lp rfl (xa (.int .i64 z18) rfl) <| nx <| qr <| qw <| qu ?_
  obtain rfl := si H
  exact Ya rfl rfl (((e2.t e7).t e13).t e17) (vv.zero (base := w.heap.size)) (Nat.le_refl _)
 ·refine qj (cb q20) <| qq <| qf <| wr <| lp rfl (xm v_a0 (K5 0 rfl)) <| lp rfl (xm (.int .i64 a1) (K5 1 rfl)) <| lp rfl (xm (.int .i64 a2) (K5 2 rfl)) ?_
  obtain ⟨c21, H⟩ := qa H
  refine L_sub2 (.plain rfl) rfl (ltb rfl) rfl Tryz.underlying23 Tryz.sizeOf35 rfl (Rd2.ext f_a0 (((e2.t e7).t e13).t e17)) (l := a1) (h := a2) ⟨_, rfl⟩ ⟨_, rfl⟩ c21 <| fun v22 h23 => ?_
  obtain ⟨c24, H⟩ := qa H
  refine vE (.plain rfl) rfl (ltb rfl) rfl Tryz.call119 (ya.calls (w := w16) (a0 := sub a0 a1 a2) (GV.ext gv (((e2.t e7).t e13).t e17)) h23 (od c24)) rfl <| fun v27 w25 e26 o28 => jL (.plain rfl) rfl (ltb rfl) rfl Tryz.call118 (impl_fitting.calls (w := w25) (Ow.rd o28)) rfl <| fun _ w29 hA9 => ?_
  obtain ⟨rfl, e30⟩ := hA9
  refine lp rfl (qb rfl) <| lp rfl (vV (v := (XU v27 (qD (sub a0 a1 a2)))) rfl rfl) <| lp rfl (vV (v := (.int .i64 (VW (qD (sub a0 a1 a2))))) rfl rfl) <| lp rfl (xa (XU v27 (qD (sub a0 a1 a2))) rfl) <| lp rfl (xa (.int .i64 (VW (qD (sub a0 a1 a2)))) rfl) <| nx <| qi <| wr <| lp rfl (xm (.int .i64 (VW (qD (sub a0 a1 a2)))) rfl) <| lp rfl (Qo rfl rfl) <| nx ?_
  rcases qh H with ⟨q31, H⟩ | ⟨q31, H⟩
  ·refine qo (cb q31) <| wr <| lp rfl (xm (.int .i64 (VW (qD (sub a0 a1 a2)))) rfl) <| lp rfl (xa (.slice none 0 0) rfl) <| lp rfl (xa (.int .i64 (VW (qD (sub a0 a1 a2)))) rfl) <| nx <| qr <| qw <| qu ?_
   obtain rfl := si H
   exact Ya rfl rfl (((((e2.t e7).t e13).t e17).t e26).t e30) (vv.zero (base := w.heap.size)) (Nat.le_refl _)
  ·refine qj (cb q31) <| qq <| qf <| qi ?_
   obtain ⟨c32, H⟩ := qa H
   obtain ⟨c41, H⟩ := qa H
   obtain ⟨c50, H⟩ := qa H
   obtain ⟨c51, H⟩ := qa H
   obtain ⟨c56, H⟩ := qa H
   obtain ⟨c57, H⟩ := qa H
   refine Yc [LEq v_a0, LEq (.int .i64 a1), X6 5 qc (sub a0 0 a1), LEq (XU v27 (qD (sub a0 a1 a2))), X6 5 qc ([(YW (qD (sub a0 a1 a2)))] : List (List Rec)), LEq v_a0, LEq (.int .i64 a2), X6 5 qc (sub a0 a2 (a0.length : Int)), LRd3 5 qc (vl.e1 a0 a1 a2), X6 5 qc ((vl.e1 a0 a1 a2).flatten), LOw2 35 52 5 qc w29.heap.size ((vl.e1 a0 a1 a2).flatten), LOw2 35 52 5 qc w29.heap.size ((vl.e1 a0 a1 a2).flatten), LEq (.int .i64 0)] (by kernel_rfl) (by kernel_rfl) ⟨qm, qm, X6.mono, qm, X6.mono, qm, qm, X6.mono, LRd3.mono, X6.mono, LOw2.mono, LOw2.mono, qm, trivial⟩ ⟨?_, ?_, ?_, ?_, ?_, ?_, ?_, ?_, ?_, ?_, ?_, ?_, ?_, trivial⟩ ?_
   ·exact fun s x e f d u => lp rfl (xm v_a0 ((f 0 rfl).trans (K5 0 rfl))) <| se rfl rfl
   ·exact fun s x e f d u => lp rfl (xm (.int .i64 a1) ((f 1 rfl).trans (K5 1 rfl))) <| se rfl rfl
   ·exact fun s x e f d u => L_sub2 (.plain rfl) rfl (ltb rfl) rfl Tryz.underlying23 Tryz.sizeOf35 (d 0 rfl) (Rd2.ext f_a0 ((((((e2.t e7).t e13).t e17).t e26).t e30).t e)) (l := 0) (h := a1) rfl ⟨_, (d 1 rfl)⟩ c32 <| fun v63 h64 => se rfl h64
   ·exact fun s x e f d u => lp rfl (xm (XU v27 (qD (sub a0 a1 a2))) (f 9 rfl)) <| se rfl rfl
   ·exact fun s x e f d u => vC (.plain rfl) rfl (ltb rfl) rfl Tryz.underlying23 Tryz.sizeOf35 Tryz.zeroValue35 rfl rfl rfl (vs := [(XU v27 (qD (sub a0 a1 a2)))]) (vu (d 3 rfl) rfl) (by simp; exact (Rd.one (Ow.rd (Ow.ext (Ow.fit (Ow.ext o28 e30)) e)))) <| fun b65 w66 z67 z68 e69 k70 => sx rfl e69 (Rd2.new (vs := [(XU v27 (qD (sub a0 a1 a2)))]) k70 ⟨(Ow.rd (Ow.ext (Ow.fit (Ow.ext o28 e30)) (e.t e69))), trivial⟩ (Nat.le_of_ble_eq_true rfl))
   ·exact fun s x e f d u => lp rfl (xm v_a0 ((f 0 rfl).trans (K5 0 rfl))) <| se rfl rfl
   ·exact fun s x e f d u => lp rfl (xm (.int .i64 a2) ((f 2 rfl).trans (K5 2 rfl))) <| se rfl rfl
   ·exact fun s x e f d u => L_sub2 (.plain rfl) rfl (ltb rfl) rfl Tryz.underlying23 Tryz.sizeOf35 (d 5 rfl) (Rd2.ext f_a0 ((((((e2.t e7).t e13).t e17).t e26).t e30).t e)) (l := a2) (h := (a0.length : Int)) ⟨_, (d 6 rfl)⟩ rfl c41 <| fun v72 h73 => se rfl h73
   ·intro s x e f d u
    have d74 : Rd2 5 qc x (s 55) (sub a0 0 a1) := (d 2 rfl)
    have d75 : Rd2 5 qc x (s 57) ([(YW (qD (sub a0 a1 a2)))] : List (List Rec)) := (d 4 rfl)
    have d76 : Rd2 5 qc x (s 60) (sub a0 a2 (a0.length : Int)) := (d 7 rfl)
    exact vC (.plain rfl) rfl (ltb rfl) rfl Tryz.underlying175 Tryz.sizeOf23 Tryz.zeroValue23 rfl rfl rfl (vs := [(s 55), (s 57), (s 60)]) rfl (by simp; exact ⟨(Rd2.one d74), (Rd2.one d75), (Rd2.one d76)⟩) <| fun b77 w78 z79 z80 e81 k82 => sx rfl e81 (Rd3.new (vs := [(s 55), (s 57), (s 60)]) k82 ⟨(Rd2.ext d74 e81), (Rd2.ext d75 e81), (Rd2.ext d76 e81), trivial⟩ (Nat.le_of_ble_eq_true rfl))
   ·intro s x e f d u
    have d83 : Rd3 5 qc x (s 61) (vl.e1 a0 a1 a2) := (d 8 rfl)
    exact jL (.plain rfl) rfl (ltb rfl) rfl Tryz.call121 (VR.calls (w := x) d83 (od c50) (od c51)) rfl <| fun v86 w87 q9 => andE q9 fun e88 h89 => sx rfl e88 h89
   ·intro s x e f d u
    have d90 : Rd2 5 qc x (s 62) ((vl.e1 a0 a1 a2).flatten) := (d 9 rfl)
    exact L_callOS (.plain rfl) rfl (ltb rfl) rfl Tryz.call120 (vx.calls (w := x) (a0 := (vl.e1 a0 a1 a2).flatten) d90 (od c56) (od c57)) rfl <| fun v95 w93 e94 o96 => sx rfl e94 (vv.base o96 (e).size)
   ·intro s x e f d u
    have d97 : vv 35 52 5 qc w29.heap.size x (s 63) ((vl.e1 a0 a1 a2).flatten) := (d 10 rfl)
    exact lp rfl (xa (s 63) rfl) <| se rfl d97
   ·exact fun s x e f d u => lp rfl (xa (.int .i64 0) rfl) <| se rfl rfl
   intro s98 w99 e100 hf101 ha102
   have K103 := Kp.ofD (kp := [(6, 8), (53, 64)]) rfl hf101
   have d104 : vv 35 52 5 qc w29.heap.size w99 (s98 6) ((vl.e1 a0 a1 a2).flatten) := ha102 11 rfl
   have d105 : s98 7 = (.int .i64 0) := ha102 12 rfl
   clear ha102 hf101
   refine qf <| qr <| qu ?_
   obtain rfl := si H
   exact Ya rfl d105 ((((((e2.t e7).t e13).t e17).t e26).t e30).t e100) d104 ((((((e2.t e7).t e13).t e17).t e26).t e30)).size
theorem vl.calls {w : World} {a0 : List (List Rec)} {a1 : Int} {a2 : Int} (gv : GV 0 w) {v_a0 : Value} (f_a0 : Rd2 5 qc w v_a0 a0) (h0 : vi a0 = true) :
  Calls Tryz.prog 59 #[v_a0, .int .i64 a1, .int .i64 a2] w (Rt (RTS 35 52 5 qc w ((VU a0 a1 a2).1) (.int .i64 ((VU a0 a1 a2).2)))) := vl.walk gv f_a0 (vl.eq a0 a1 a2 h0)
/-! impl.Replaced -/
theorem jd.walk {w : World} {a0 : List (List Rec)} {a1 : Int} {a2 : Int} (gv : GV 0 w) {v_a0 : Value} (f_a0 : Rd2 5 qc w v_a0 a0) {r : List (List Rec) × Int} (H : jd.sh a0 a1 a2 = some r) :
  Calls Tryz.prog 11 #[v_a0, .int .i64 a1, .int .i64 a2] w (Rt (RTS 35 52 5 qc w r.1 (.int .i64 r.2))) := by
 unfold jd.sh at H
 refine qg Tryz.func11 rfl (Nat.le_of_ble_eq_true rfl) Tryz.ntmps11 rfl ?_
 refine wr <| lp rfl (xa (.slice none 0 0) rfl) <| lp rfl (xa (.int .i64 0) rfl) <| nx <| qi <| wr <| lp rfl (xm v_a0 rfl) ?_
 obtain ⟨c1, H⟩ := qa H
 obtain ⟨c2, H⟩ := qa H
 obtain ⟨c3, H⟩ := qa H
 refine lc rfl rfl Tryz.call58 (jz.calls (w := w) (a0 := a0) gv f_a0 (od c1) (od c2) (od c3)) rfl <| fun w4 e5 => lp rfl (xa (.int .i64 (stackCode a0)) rfl) <| nx <| wr <| lp rfl (xm (.int .i64 (stackCode a0)) rfl) <| lp rfl (Qo rfl rfl) <| nx ?_
 rcases qh H with ⟨q6, H⟩ | ⟨q6, H⟩
 ·refine qo (cb q6) <| wr <| lp rfl (xm (.int .i64 (stackCode a0)) rfl) <| lp rfl (xa (.slice none 0 0) rfl) <| lp rfl (xa (.int .i64 (stackCode a0)) rfl) <| nx <| qr <| qw <| qu ?_
  obtain rfl := si H
  exact Ya rfl rfl e5 (vv.zero (base := w.heap.size)) (Nat.le_refl _)
 ·refine qj (cb q6) <| qq <| qf <| wr <| lp rfl (xm v_a0 rfl) <| lp rfl (xm (.int .i64 a1) rfl) <| lp rfl (xm (.int .i64 a2) rfl) ?_
  obtain ⟨c7, H⟩ := qa H
  refine XH (.plain rfl) rfl (ltb rfl) rfl Tryz.call59 (vl.calls (w := w4) (a0 := a0) (a1 := a1) (a2 := a2) (GV.ext gv e5) (Rd2.ext f_a0 e5) (od c7)) rfl <| fun v10 w8 e9 o11 => lp rfl (vV (v := v10) rfl rfl) <| lp rfl (vV (v := (.int .i64 ((VU a0 a1 a2).2))) rfl rfl) <| lp rfl (xa v10 rfl) <| lp rfl (xa (.int .i64 ((VU a0 a1 a2).2)) rfl) <| nx <| qr <| qu ?_
  obtain rfl := si H
  exact Ya rfl rfl (e5.t e9) o11 (e5).size
theorem jd.calls {w : World} {a0 : List (List Rec)} {a1 : Int} {a2 : Int} (gv : GV 0 w) {v_a0 : Value} (f_a0 : Rd2 5 qc w v_a0 a0) (h0 : a0.length ≤ 1048576) (h1 : ∀ l ∈ a0, l.length ≤ 1048576) (h2 : ∀ l ∈ a0, ∀ x ∈ l, x.path.length ≤ 1048576) :
  Calls Tryz.prog 11 #[v_a0, .int .i64 a1, .int .i64 a2] w (Rt (RTS 35 52 5 qc w ((qQ a0 a1 a2).1) (.int .i64 ((qQ a0 a1 a2).2)))) := jd.walk gv f_a0 (jd.eq a0 a1 a2 h0 h1 h2)
/-! spec.l06Put, by text -/
theorem YZ.calls {w : World} {a0 : List (List Rec)} {a1 a2 : Nat} {a3 : List Rec} {v_a0 v_a3 : Value} {B : Nat} (f_a0 : Rd2 5 qc w v_a0 a0) (o_a3 : Ow 52 5 qc B w v_a3 a3) (hB : B ≤ w.heap.size) (h0 : a0.length ≤ 100) (h1 : ∀ l ∈ a0, l.length ≤ 1048576) (h2 : a1 ≤ a0.length) (h3 : a2 ≤ a0.length) :
    Calls Tryz.prog 63 #[v_a0, .int .i64 (a1 : Int), .int .i64 (a2 : Int), v_a3] w (Rt (fun v w' => Ext w w' ∧ vv 35 52 5 qc B w' v (Yd a0 a1 a2 a3))) := by
  have hmem : ∀ i, i < a0.length → (gt a0 (i : Int)).length ≤ 1048576 := fun i hi => h1 _ (by rw [vK, vr hi]; exact List.getElem_mem hi)
  have htk : ∀ i, i < a0.length → a0.take (i + 1) = a0.take i ++ [gt a0 (i : Int)] := fun i hi => by rw [List.take_succ_eq_append_getElem hi, vK, vr hi]
  have hdr : ∀ i, i < a0.length → (a0.take (i + 1)).drop a2 = (a0.take i).drop a2 ++ (if a2 ≤ i then [gt a0 (i : Int)] else []) := fun i hi => by
    rw [htk i hi]
    by_cases h : a2 ≤ i
    · rw [if_pos h, List.drop_append_of_le_length (by simp; omega)]
    · rw [if_neg h, List.append_nil, List.drop_eq_nil_of_le (by simp; omega), List.drop_eq_nil_of_le (by simp; omega)]
  refine qg Tryz.func63 rfl (Nat.le_of_ble_eq_true rfl) Tryz.ntmps63 rfl ?_
  refine wr <| lp rfl (qp (v := .slice none 0 0) rfl) <| nx <| wr <| vC (.plain rfl) rfl (ltb rfl) rfl Tryz.underlying23 Tryz.sizeOf35 Tryz.zeroValue35 rfl rfl rfl (vs := []) rfl (qO rfl) <| fun b0 w1 z1 z2 e1 k1 => lp rfl (qp (v := .slice (some ⟨b0, 0, none⟩) 0 0) rfl) <| nx <|
    qi <| wr <| lp rfl (qp (v := .int .i64 0) rfl) <| nx ?_
  refine vq (fun s0 σ W => ∃ u, σ 0 = v_a0 ∧ σ 2 = .int .i64 (a2 : Int) ∧ σ 3 = v_a3 ∧ σ 9 = u ∧ vv 35 52 5 qc w.heap.size W u (a0.take a1) ∧ HB2 W u W.heap.size ∧ Ext w W) ?_ ?_
  · refine qx <| vc (fun s0 m σ W => ∃ (i : Nat) (u : Value), i + m = a1 ∧ σ 0 = v_a0 ∧ σ 1 = .int .i64 (a1 : Int) ∧ σ 2 = .int .i64 (a2 : Int) ∧ σ 3 = v_a3 ∧ σ 10 = .int .i64 (i : Int) ∧ σ 9 = u ∧ vv 35 52 5 qc w.heap.size W u (a0.take i) ∧ HB2 W u W.heap.size ∧ Ext w W) a1 ⟨0, _, by omega, rfl, rfl, rfl, rfl, rfl, rfl, vv.zero, HB2.zero, e1⟩ ?_
    rintro m s1 W1 ⟨i, u, him, q0, q1, q2, q3, q10, q9, hO, hH, hE⟩
    refine qi <| wr <| lp rfl (qb q10) <| lp rfl (qb q1) <| lp rfl (vW rfl rfl) <| nx ?_
    by_cases hi : i < a1
    · have hm := hmem i (by omega)
      have hw : IntKind.wrap .i64 ((i : Int) + 1) = ((i + 1 : Nat) : Int) := by rw [Go.UL.wrap_small (by omega) (by omega)]; omega
      refine qo (cb (decide_eq_true (by omega))) <| qq <| qf <| qi <| qx <| qG <| lp rfl (xm u q9) <| vC (.plain rfl) rfl (ltb rfl) rfl Tryz.underlying35 Tryz.sizeOf52 Tryz.zeroValue52 rfl rfl rfl (vs := []) rfl (qO rfl) <| fun b3 w3 z3 z4 e3 k3 => lp rfl (qb q0) <| lp rfl (qb q10) <|
        Vt (.plain rfl) rfl (ltb rfl) rfl Tryz.underlying23 Tryz.sizeOf35 rfl (f_a0.ext (hE.trans e3)) rfl (qP (by omega)) <| fun p x hA hR => lp rfl (vy (v := x) Tryz.isAgg35 rfl hA rfl) <|
        vP (enc := qc) (.plain rfl) rfl (ltb rfl) rfl El.t35 rfl rfl (Ow.zero (base := W1.heap.size)) hR (jJ _) (by simp only [List.length_nil]; omega) e3.size <| fun v5 w5 o5 z5 g5 => ?_
      have e5 : Ext W1 w5 := g5 _ e3
      rw [List.nil_append] at o5
      refine vC (.plain rfl) rfl (ltb rfl) rfl Tryz.underlying23 Tryz.sizeOf35 Tryz.zeroValue35 rfl rfl rfl (vs := [v5]) rfl (by simp; exact Rd.one o5.rd) <| fun b6 w6 z6 z7 e6 k6 => ?_
      have hl6 : Rd 1 Qh w6 (.slice (some ⟨b6, 0, none⟩) 1 1) [v5] := Ow.rd (Ow.new (xs := [v5]) (sz := 1) (enc := Qh) (base := w5.heap.size) k6 (Nat.le_of_eq z6) (by obtain ⟨A9, c9, e9⟩ := Rd.shape o5.rd; rw [e9]; rfl) (fun _ _ => rfl) (Nat.le_of_ble_eq_true rfl))
      have e7 := e5.trans e6
      refine Gp (e2 := 52) (enc := qc) (.plain rfl) rfl (ltb rfl) rfl El.t23 rfl rfl (hO.ext e7) (vv.hbe hO e7) (o5.ext e6) hl6 (by obtain ⟨A9, c9, e9⟩ := Rd.shape o5.rd; rw [e9]; rfl) hE.size (by simp; omega) (Nat.le_trans hE.size e7.size) <| fun v8 w8 o8 z8 g8 => lp rfl (xa v8 rfl) <| qH <| vj <| qf <|
        qG <| lp rfl (qb q10) <| lp rfl (qU rfl rfl) <| lp rfl (qp (v := .int .i64 ((i + 1 : Nat) : Int)) (congrArg (Value.int .i64) hw)) <| nx ?_
      exact ⟨m - 1, by omega, i + 1, v8, by omega, q0, q1, q2, q3, rfl, rfl, by rw [htk i (by omega)]; exact o8, o8.hb, g8 _ (hE.trans e7)⟩
    · have hie : i = a1 := by omega
      rw [hie] at hO
      refine qj (cb (decide_eq_false (by omega))) <| vt <| qN <| qN <| yu ?_
      exact ⟨u, q0, q2, q3, q9, hO, hH, hE⟩
  · rintro s2 W2 ⟨u, q0, q2, q3, q9, hO, hH, hE⟩
    have o3 := o_a3.ext hE
    refine qf <| wr <| lp rfl (xm u q9) <| lp rfl (xm v_a3 q3) <| vC (.plain rfl) rfl (ltb rfl) rfl Tryz.underlying23 Tryz.sizeOf35 Tryz.zeroValue35 rfl rfl rfl (vs := [v_a3]) rfl (by simp; exact Rd.one o3.rd) <| fun b6 w6 z6 z7 e6 k6 => ?_
    have hl6 : Rd 1 Qh w6 (.slice (some ⟨b6, 0, none⟩) 1 1) [v_a3] := Ow.rd (Ow.new (xs := [v_a3]) (sz := 1) (enc := Qh) (base := W2.heap.size) k6 (Nat.le_of_eq z6) (by obtain ⟨A9, c9, e9⟩ := Rd.shape o3.rd; rw [e9]; rfl) (fun _ _ => rfl) (Nat.le_of_ble_eq_true rfl))
    have hold := Jr.old (hO.ext e6) o_a3.hb
    refine L_appendB (e2 := 52) (enc := qc) (bi := B) (.plain rfl) rfl (ltb rfl) rfl El.t23 rfl rfl (Jr.of (hO.ext e6) hB) (o3.ext e6) hold.1 hold.2 hl6 (by simp; omega) (Nat.le_trans hE.size e6.size) <| fun v8 w8 o8 z8 g8 => lp rfl (xa v8 rfl) <| nx <|
      qi <| wr <| lp rfl (qb q2) <| lp rfl (qp (v := .int .i64 (a2 : Int)) rfl) <| nx ?_
    have e8 : Ext w w8 := g8 _ (hE.trans e6)
    refine vq (fun s0 σ W => ∃ u, σ 9 = u ∧ Jr 35 52 5 qc w.heap.size B W u (Yd a0 a1 a2 a3) ∧ Ext w W) ?_ ?_
    · refine qx <| vc (fun s0 m σ W => ∃ (i : Nat) (u : Value), i + m = a0.length ∧ a2 ≤ i ∧ σ 0 = v_a0 ∧ σ 11 = .int .i64 (i : Int) ∧ σ 9 = u ∧ Jr 35 52 5 qc w.heap.size B W u ((a0.take a1 ++ [a3]) ++ (a0.take i).drop a2) ∧ Ext w W) (a0.length - a2) ⟨a2, _, by omega, Nat.le_refl _, q0, rfl, rfl, by rw [List.drop_eq_nil_of_le (by simp; omega), List.append_nil]; exact o8, e8⟩ ?_
      rintro m s1 W1 ⟨i, u, him, ha2, q0, q11, q9, hO, hE⟩
      refine qi <| wr <| lp rfl (qb q11) <| lp rfl (qb q0) <| lp rfl (yK Tryz.underlying23 rfl (f_a0.ext hE)) <| lp rfl (vW rfl rfl) <| nx ?_
      by_cases hi : i < a0.length
      · have hm := hmem i hi
        have hd := hdr i hi
        rw [if_pos ha2] at hd
        have hw : IntKind.wrap .i64 ((i : Int) + 1) = ((i + 1 : Nat) : Int) := by rw [Go.UL.wrap_small (by omega) (by omega)]; omega
        refine qo (cb (decide_eq_true (by omega))) <| qq <| qf <| qi <| qx <| qG <| lp rfl (xm u q9) <| vC (.plain rfl) rfl (ltb rfl) rfl Tryz.underlying35 Tryz.sizeOf52 Tryz.zeroValue52 rfl rfl rfl (vs := []) rfl (qO rfl) <| fun b3 w3 z3 z4 e3 k3 => lp rfl (qb q0) <| lp rfl (qb q11) <|
          Vt (.plain rfl) rfl (ltb rfl) rfl Tryz.underlying23 Tryz.sizeOf35 rfl (f_a0.ext (hE.trans e3)) rfl (qP hi) <| fun p x hA hR => lp rfl (vy (v := x) Tryz.isAgg35 rfl hA rfl) <|
          vP (enc := qc) (.plain rfl) rfl (ltb rfl) rfl El.t35 rfl rfl (Ow.zero (base := W1.heap.size)) hR (jJ _) (by simp only [List.length_nil]; omega) e3.size <| fun v5 w5 o5 z5 g5 => ?_
        have e5 : Ext W1 w5 := g5 _ e3
        rw [List.nil_append] at o5
        refine vC (.plain rfl) rfl (ltb rfl) rfl Tryz.underlying23 Tryz.sizeOf35 Tryz.zeroValue35 rfl rfl rfl (vs := [v5]) rfl (by simp; exact Rd.one o5.rd) <| fun b6 w6 z6 z7 e6 k6 => ?_
        have hl6 : Rd 1 Qh w6 (.slice (some ⟨b6, 0, none⟩) 1 1) [v5] := Ow.rd (Ow.new (xs := [v5]) (sz := 1) (enc := Qh) (base := w5.heap.size) k6 (Nat.le_of_eq z6) (by obtain ⟨A9, c9, e9⟩ := Rd.shape o5.rd; rw [e9]; rfl) (fun _ _ => rfl) (Nat.le_of_ble_eq_true rfl))
        have e7 := e5.trans e6
        have hnew := Jr.new (vv.hbe (hO.to (Nat.zero_le _) (Nat.zero_le _)) e7) (o5.ext e6)
        refine L_appendB (e2 := 52) (enc := qc) (bi := B) (.plain rfl) rfl (ltb rfl) rfl El.t23 rfl rfl (hO.ext e7) ((o5.ext e6).base (Nat.le_trans hB hE.size)) hnew.1 hnew.2 hl6 (by simp; omega) (Nat.le_trans hE.size e7.size) <| fun v8 w8 o8 z8 g8 => ?_
        refine lp rfl (xa v8 rfl) <| qH <| vj <| qf <| qG <| lp rfl (qb q11) <| lp rfl (qU rfl rfl) <| lp rfl (qp (v := .int .i64 ((i + 1 : Nat) : Int)) (congrArg (Value.int .i64) hw)) <| nx ?_
        exact ⟨m - 1, by omega, i + 1, v8, by omega, by omega, q0, rfl, rfl, by rw [hd, ← List.append_assoc]; exact o8, g8 _ (hE.trans e7)⟩
      · have hie : i = a0.length := by omega
        rw [hie, List.take_length] at hO
        refine qj (cb (decide_eq_false (by omega))) <| vt <| qN <| qN <| yu ?_
        exact ⟨u, q9, by unfold Yd; rw [← List.append_cons] at hO; exact hO, hE⟩
    · rintro s3 W3 ⟨u, q9, hO, hE⟩
      refine qf <| wr <| lp rfl (qb q9) <| lp rfl (xa u rfl) <| nx <| qr <| qu ?_
      exact ⟨_, rfl, hE, hO.to hB (Nat.le_refl _)⟩
theorem YZ.callsI {w : World} {a0 : List (List Rec)} {a1 a2 : Int} {a3 : List Rec} {v_a0 v_a3 : Value} {B : Nat} (f_a0 : Rd2 5 qc w v_a0 a0) (o_a3 : Ow 52 5 qc B w v_a3 a3) (hB : B ≤ w.heap.size) (h0 : a0.length ≤ 100) (h1 : ∀ l ∈ a0, l.length ≤ 1048576) (h2 : (0 : Int) ≤ a1) (h3 : a1 ≤ (a0.length : Int)) (h4 : (0 : Int) ≤ a2) (h5 : a2 ≤ (a0.length : Int)) :
    Calls Tryz.prog 63 #[v_a0, .int .i64 a1, .int .i64 a2, v_a3] w (Rt (fun v w' => Ext w w' ∧ vv 35 52 5 qc B w' v (Yd a0 a1.toNat a2.toNat a3))) := by
  obtain ⟨i, rfl⟩ := Int.eq_ofNat_of_zero_le h2
  obtain ⟨j, rfl⟩ := Int.eq_ofNat_of_zero_le h4
  exact YZ.calls f_a0 o_a3 hB h0 h1 (by omega) (by omega)

/-! spec.Replaced -/
theorem je.walk {w : World} {a0 : List (List Rec)} {a1 : Int} {a2 : Int} {v_a0 : Value} (f_a0 : Rd2 5 qc w v_a0 a0) {r : List (List Rec) × Int} (H : je.sh a0 a1 a2 = some r) :
  Calls Tryz.prog 12 #[v_a0, .int .i64 a1, .int .i64 a2] w (Rt (RTS 35 52 5 qc w r.1 (.int .i64 r.2))) := by
 unfold je.sh at H
 refine qg Tryz.func12 rfl (Nat.le_of_ble_eq_true rfl) Tryz.ntmps12 rfl ?_
 refine wr <| lp rfl (xa (.slice none 0 0) rfl) <| lp rfl (xa (.int .i64 0) rfl) <| nx <| qi <| wr <| lp rfl (xm v_a0 rfl) <| lp rfl (yK Tryz.underlying23 rfl f_a0) <| lp rfl (Qp rfl rfl) <| nx ?_
 rcases qh H with ⟨q1, H⟩ | ⟨q1, H⟩
 ·refine qo (cb q1) <| wr <| vC (.plain rfl) rfl (ltb rfl) rfl Tryz.underlying23 Tryz.sizeOf35 Tryz.zeroValue35 rfl rfl rfl (vs := []) rfl (qO rfl) <| fun b2 w3 z4 z5 e6 k7 => lp rfl (xa (.slice (some ⟨b2, 0, none⟩) 0 0) rfl) <| lp rfl (xa (.int .i64 2) rfl) <| nx <| qr <| qw <| qu ?_
  obtain rfl := si H
  exact Ya rfl rfl e6 (vv.zero (base := w.heap.size)) (Nat.le_refl _)
 ·refine qj (cb q1) <| qq <| qf <| qi <| wr <| lp rfl (xm v_a0 rfl) ?_
  obtain ⟨c8, H⟩ := qa H
  obtain ⟨c9, H⟩ := qa H
  obtain ⟨c10, H⟩ := qa H
  refine lc rfl rfl Tryz.call60 (ye.calls (w := w) (a0 := a0) f_a0 (od c8) (od c9) (od c10)) rfl <| fun w11 e12 => lp rfl (jm rfl) <| nx ?_
  rcases qh H with ⟨q13, H⟩ | ⟨q13, H⟩
  ·refine qo (cb q13) <| wr <| vC (.plain rfl) rfl (ltb rfl) rfl Tryz.underlying23 Tryz.sizeOf35 Tryz.zeroValue35 rfl rfl rfl (vs := []) rfl (qO rfl) <| fun b14 w15 z16 z17 e18 k19 => lp rfl (xa (.slice (some ⟨b14, 0, none⟩) 0 0) rfl) <| lp rfl (xa (.int .i64 1) rfl) <| nx <| qr <| qw <| qu ?_
   obtain rfl := si H
   exact Ya rfl rfl (e12.t e18) (vv.zero (base := w.heap.size)) (Nat.le_refl _)
  ·refine qj (cb q13) <| qq <| qf <| qi <| wr <| lp rfl (xm (.int .i64 a1) rfl) <| lp rfl (xm v_a0 rfl) <| lp rfl (yK Tryz.underlying23 rfl (Rd2.ext f_a0 e12)) <| lc rfl rfl Tryz.call61 (Qc.calls (w := w11) (a0 := a1) (a1 := 0) (a2 := (a0.length : Int))) rfl <| fun w20 e21 => lp rfl (jm rfl) <| lp rfl (xm (.bool (!(within a1 0 (a0.length : Int)))) rfl) <| jN 7 [(23, 30)] 29 (.bool ((!(within a1 0 (a0.length : Int))) || (!(within a2 a1 (a0.length : Int))))) ?_ ?_
   ·rcases ql (!(within a1 0 (a0.length : Int))) with b21_ | b21_
    ·exact ls rfl rfl rfl (cb b21_) rfl <| ls rfl rfl rfl (cb b21_) rfl <| ls rfl rfl rfl (cb b21_) rfl <| ls rfl rfl rfl (cb b21_) rfl <| ls rfl rfl rfl (cb b21_) rfl <| ls rfl rfl rfl (cb b21_) rfl <| lp rfl (qy (b := true) (v := (.bool true)) (cb b21_) rfl) <| nx ⟨(ku3 (ku4 kz rfl) rfl), (J9 b21_), er⟩
    ·exact lg rfl rfl rfl rfl (cb b21_) (xm (.int .i64 a2) rfl) <| lg rfl rfl rfl rfl (cb b21_) (xm (.int .i64 a1) rfl) <| lg rfl rfl rfl rfl (cb b21_) (xm v_a0 rfl) <| lg rfl rfl rfl rfl (cb b21_) (yK Tryz.underlying23 rfl (Rd2.ext f_a0 (e12.t e21))) <| yW (tg rfl rfl rfl (cb b21_)) rfl (ltb rfl) rfl Tryz.call61 (Qc.calls (w := w20) (a0 := a2) (a1 := a1) (a2 := (a0.length : Int))) rfl <| fun w23 e24 => lg rfl rfl rfl rfl (cb b21_) (jm rfl) <| lp rfl (qy (b := false) (v := (.bool (!(within a2 a1 (a0.length : Int))))) (cb b21_) rfl) <| nx ⟨(ku3 (ku4 kz rfl) rfl), (JY b21_), e24⟩
   intro s27 w23 K24 h25 e26
   refine nx ?_
   rcases qh H with ⟨q28, H⟩ | ⟨q28, H⟩
   ·refine qo (h25.trans (cb q28)) <| wr <| vC (.plain rfl) rfl (ltb rfl) rfl Tryz.underlying23 Tryz.sizeOf35 Tryz.zeroValue35 rfl rfl rfl (vs := []) rfl (qO rfl) <| fun b29 w30 z31 z32 e33 k34 => lp rfl (xa (.slice (some ⟨b29, 0, none⟩) 0 0) rfl) <| lp rfl (xa (.int .i64 4) rfl) <| nx <| qr <| qw <| qu ?_
    obtain rfl := si H
    exact Ya rfl rfl (((e12.t e21).t e26).t e33) (vv.zero (base := w.heap.size)) (Nat.le_refl _)
   ·refine qj (h25.trans (cb q28)) <| qq <| qf <| qi <| wr <| lp rfl (xm (.int .i64 a1) (K24 1 rfl)) <| lp rfl (xm (.int .i64 a2) (K24 2 rfl)) <| lp rfl (yL rfl rfl) <| lp rfl (xm (.bool (decide (a1 = a2))) rfl) <| jN 4 [(35, 39)] 38 (.bool ((decide (a1 = a2)) && (decide ((a0.length : Int) = 5)))) ?_ ?_
    ·rcases ql (decide (a1 = a2)) with b34_ | b34_
     ·exact lg rfl rfl rfl rfl (cb b34_) (xm v_a0 (K24 0 rfl)) <| lg rfl rfl rfl rfl (cb b34_) (yK Tryz.underlying23 rfl (Rd2.ext f_a0 ((e12.t e21).t e26))) <| lg rfl rfl rfl rfl (cb b34_) (yL rfl rfl) <| lp rfl (qy (b := true) (v := (.bool (decide ((a0.length : Int) = 5)))) (cb b34_) rfl) <| nx ⟨(ku4 kz rfl), (Vm b34_), er⟩
     ·exact ls rfl rfl rfl (cb b34_) rfl <| ls rfl rfl rfl (cb b34_) rfl <| ls rfl rfl rfl (cb b34_) rfl <| lp rfl (qy (b := false) (v := (.bool false)) (cb b34_) rfl) <| nx ⟨(ku4 kz rfl), (Vn b34_), er⟩
    intro s40 w36 K37 h38 e39
    refine nx ?_
    rcases qh H with ⟨q41, H⟩ | ⟨q41, H⟩
    ·refine qo (h38.trans (cb q41)) <| wr <| vC (.plain rfl) rfl (ltb rfl) rfl Tryz.underlying23 Tryz.sizeOf35 Tryz.zeroValue35 rfl rfl rfl (vs := []) rfl (qO rfl) <| fun b42 w43 z44 z45 e46 k47 => lp rfl (xa (.slice (some ⟨b42, 0, none⟩) 0 0) rfl) <| lp rfl (xa (.int .i64 6) rfl) <| nx <| qr <| qw <| qu ?_
     obtain rfl := si H
     exact Ya rfl rfl ((((e12.t e21).t e26).t e39).t e46) (vv.zero (base := w.heap.size)) (Nat.le_refl _)
    ·refine qj (h38.trans (cb q41)) <| qq <| qf <| wr <| lp rfl (xm v_a0 ((K37 0 rfl).trans (K24 0 rfl))) <| lp rfl (xm (.int .i64 a1) ((K37 1 rfl).trans (K24 1 rfl))) <| lp rfl (xm (.int .i64 a2) ((K37 2 rfl).trans (K24 2 rfl))) ?_
     obtain ⟨c48, H⟩ := qa H
     refine L_sub2 (.plain rfl) rfl (ltb rfl) rfl Tryz.underlying23 Tryz.sizeOf35 rfl (Rd2.ext f_a0 (((e12.t e21).t e26).t e39)) (l := a1) (h := a2) ⟨_, rfl⟩ ⟨_, rfl⟩ c48 <| fun v49 h50 => ?_
     obtain ⟨c51, H⟩ := qa H
     refine vE (.plain rfl) rfl (ltb rfl) rfl Tryz.call62 (y2.calls (w := w36) (a0 := sub a0 a1 a2) h50 (od c51)) rfl <| fun v54 w52 e53 o55 => lp rfl (xa v54 rfl) <| nx <| qi <| wr <| lp rfl (xm v54 rfl) <| lp rfl (va Tryz.underlying35 rfl (Ow.rd o55)) <| lp rfl (Qp rfl rfl) <| nx ?_
     rcases qh H with ⟨q56, H⟩ | ⟨q56, H⟩
     ·refine qo (cb q56) <| wr <| vC (.plain rfl) rfl (ltb rfl) rfl Tryz.underlying23 Tryz.sizeOf35 Tryz.zeroValue35 rfl rfl rfl (vs := []) rfl (qO rfl) <| fun b57 w58 z59 z60 e61 k62 => lp rfl (xa (.slice (some ⟨b57, 0, none⟩) 0 0) rfl) <| lp rfl (xa (.int .i64 7) rfl) <| nx <| qr <| qw <| qu ?_
      obtain rfl := si H
      exact Ya rfl rfl (((((e12.t e21).t e26).t e39).t e53).t e61) (vv.zero (base := w.heap.size)) (Nat.le_refl _)
     ·refine qj (cb q56) <| qq <| qf <| wr <| lp rfl (xm v_a0 ((K37 0 rfl).trans (K24 0 rfl))) <| lp rfl (xm (.int .i64 a1) ((K37 1 rfl).trans (K24 1 rfl))) <| lp rfl (xm (.int .i64 a2) ((K37 2 rfl).trans (K24 2 rfl))) <| lp rfl (xm v54 rfl) ?_
      obtain ⟨c63, H⟩ := qa H
      obtain ⟨c64, H⟩ := qa H
      obtain ⟨c65, H⟩ := qa H
      obtain ⟨c66, H⟩ := qa H
      obtain ⟨c67, H⟩ := qa H
      obtain ⟨c68, H⟩ := qa H
      refine jL (.plain rfl) rfl (ltb rfl) rfl Tryz.call63 (YZ.callsI (w := w52) (a1 := a1) (a2 := a2) (Rd2.ext f_a0 ((((e12.t e21).t e26).t e39).t e53)) o55 (e53).size (od c63) (od c64) (od c65) (od c66) (od c67) (od c68)) rfl <| fun v69 w70 q9 => andE q9 fun e71 o72 => lp rfl (xa v69 rfl) <| lp rfl (xa (.int .i64 0) rfl) <| nx <| qr <| qu ?_
      obtain rfl := si H
      exact Ya rfl rfl (((((e12.t e21).t e26).t e39).t e53).t e71) o72 ((((e12.t e21).t e26).t e39)).size
theorem je.calls {w : World} {a0 : List (List Rec)} {a1 : Int} {a2 : Int} {v_a0 : Value} (f_a0 : Rd2 5 qc w v_a0 a0) (h0 : a0.length ≤ 1048576) (h1 : ∀ l ∈ a0, l.length ≤ 1048576) (h2 : ∀ l ∈ a0, ∀ x ∈ l, x.path.length ≤ 1048576) :
  Calls Tryz.prog 12 #[v_a0, .int .i64 a1, .int .i64 a2] w (Rt (RTS 35 52 5 qc w ((qQ a0 a1 a2).1) (.int .i64 ((qQ a0 a1 a2).2)))) := je.walk f_a0 (je.eq a0 a1 a2 h0 h1 h2)
/-! laws.FnReplaced -/
theorem law_FnReplaced.walk {w : World} {a0 : List Int} {a1 : List Int} (gv : GV 0 w) {v_a0 : Value} (f_a0 : Rd 1 (Go.UL.encI .u8) w v_a0 a0) {v_a1 : Value} (f_a1 : Rd 1 (Go.UL.encI .u8) w v_a1 a1) {r : Bool} (H : law_FnReplaced.sh a0 a1 = some r) :
  Calls Tryz.prog 3 #[v_a0, v_a1] w (Rt (RP w (.bool r))) := by
 unfold law_FnReplaced.sh at H
 refine qg Tryz.func3 rfl (Nat.le_of_ble_eq_true rfl) Tryz.ntmps3 rfl ?_
 refine wr <| lp rfl (xa (.bool false) rfl) <| nx <| qi <| wr <| lp rfl (xm v_a0 rfl) <| lp rfl (va Tryz.underlying22 rfl f_a0) <| lp rfl (Qp rfl rfl) <| lp rfl (xm (.bool (decide (1048576 < (a0.length : Int)))) rfl) ?_
 obtain ⟨z2, x3, H⟩ := bind_some H
 refine ja 4 [(22, 26)] 25 (fun q => q = z2) ?_ ?_
 ·rcases qh x3 with ⟨b0_, H⟩ | ⟨b0_, H⟩
  ·refine ls rfl rfl rfl (cb b0_) rfl <| ls rfl rfl rfl (cb b0_) rfl <| ls rfl rfl rfl (cb b0_) rfl <| lp rfl (qy (b := true) (v := (.bool true)) (cb b0_) rfl) ?_
   obtain rfl := si H
   exact nx ⟨(ku4 kz rfl), ⟨_, rfl, rfl⟩, er⟩
  ·refine lg rfl rfl rfl rfl (cb b0_) (xm v_a1 rfl) <| lg rfl rfl rfl rfl (cb b0_) (va Tryz.underlying22 rfl f_a1) <| lg rfl rfl rfl rfl (cb b0_) (Qp rfl rfl) <| lp rfl (qy (b := false) (v := (.bool (decide (1048576 < (a1.length : Int))))) (cb b0_) rfl) ?_
   obtain rfl := si H
   exact nx ⟨(ku4 kz rfl), ⟨_, rfl, rfl⟩, er⟩
 intro s8 w4 z9 K5 hq h6 e7
 rw [hq] at h6; clear hq
 refine nx ?_
 rcases qh H with ⟨q10, H⟩ | ⟨q10, H⟩
 ·refine qo (h6.trans (cb q10)) <| wr <| lp rfl (xa (.bool true) rfl) <| nx <| qr <| qw <| qu ?_
  obtain rfl := si H
  exact vh rfl e7
 ·refine qj (h6.trans (cb q10)) <| qq <| qf <| wr <| lp rfl (xm v_a0 (K5 0 rfl)) ?_
  obtain ⟨z11, x12, H⟩ := bind_some H
  refine L_callOS (.plain rfl) rfl (ltb rfl) rfl Tryz.call9 (vQ.calls (w := w4) (a0 := a0) (Rd.ext f_a0 e7) x12) rfl <| fun v15 w13 e14 o16 => lp rfl (xa v15 rfl) <| nx <| wr <| lp rfl (xm v_a1 (K5 1 rfl)) <| lp rfl (xm v15 rfl) <| lp rfl (yK Tryz.underlying23 rfl (vv.rd o16)) <| lp rfl (qU rfl rfl) ?_
  obtain ⟨z17, x18, H⟩ := bind_some H
  refine lc rfl rfl Tryz.call10 (jv.calls (w := w13) (a0 := a1) (a1 := 0) (a2 := IntKind.wrap .i64 ((z11.length : Int) + 1)) (Rd.ext f_a1 (e7.t e14)) x18) rfl <| fun w19 e20 => lp rfl (xa (.int .i64 z17) rfl) <| nx <| wr <| lp rfl (xm (.int .i64 z17) rfl) <| lp rfl (xm v_a1 (K5 1 rfl)) <| lp rfl (xm v15 rfl) <| lp rfl (yK Tryz.underlying23 rfl (vv.rd (vv.ext o16 e20))) <| lp rfl (xm (.int .i64 z17) rfl) <| lp rfl (QS rfl rfl) <| lp rfl (qU rfl rfl) ?_
  obtain ⟨z21, x22, H⟩ := bind_some H
  refine lc rfl rfl Tryz.call10 (jv.calls (w := w19) (a0 := a1) (a1 := 1) (a2 := IntKind.wrap .i64 ((IntKind.wrap .i64 ((z11.length : Int) - z17)) + 1)) (Rd.ext f_a1 ((e7.t e14).t e20)) x22) rfl <| fun w23 e24 => lp rfl (qU rfl rfl) <| lp rfl (xa (.int .i64 (IntKind.wrap .i64 (z17 + z21))) rfl) <| nx <| wr <| lp rfl (xm v15 rfl) <| lp rfl (xm (.int .i64 z17) rfl) <| lp rfl (xm (.int .i64 (IntKind.wrap .i64 (z17 + z21))) rfl) ?_
  obtain ⟨c25, H⟩ := qa H
  obtain ⟨c26, H⟩ := qa H
  obtain ⟨c27, H⟩ := qa H
  obtain ⟨z30, x31, H⟩ := bind_some H
  replace x31 := si x31
  refine XH (.plain rfl) rfl (ltb rfl) rfl Tryz.call11 (jd.calls (w := w23) (a0 := z11) (a1 := z17) (a2 := IntKind.wrap .i64 (z17 + z21)) (GV.ext gv (((e7.t e14).t e20).t e24)) (vv.rd (vv.ext o16 (e20.t e24))) (od c25) (od c26) (od c27)) rfl <| fun v32 w28 e29 o33 => lp rfl (qb rfl) <| lp rfl (vV (v := v32) rfl rfl) <| lp rfl (vV (v := (.int .i64 ((qQ z11 z17 (IntKind.wrap .i64 (z17 + z21))).2))) rfl rfl) <| lp rfl (xa v32 rfl) <| lp rfl (xa (.int .i64 z30) (congrArg (Value.int .i64) x31)) <| nx <| wr <| lp rfl (xm v15 rfl) <| lp rfl (xm (.int .i64 z17) rfl) <| lp rfl (xm (.int .i64 (IntKind.wrap .i64 (z17 + z21))) rfl) ?_
  obtain ⟨c34, H⟩ := qa H
  obtain ⟨c35, H⟩ := qa H
  obtain ⟨c36, H⟩ := qa H
  obtain ⟨z39, x40, H⟩ := bind_some H
  replace x40 := si x40
  refine XH (.plain rfl) rfl (ltb rfl) rfl Tryz.call12 (je.calls (w := w28) (a0 := z11) (a1 := z17) (a2 := IntKind.wrap .i64 (z17 + z21)) (vv.rd (vv.ext o16 ((e20.t e24).t e29))) (od c34) (od c35) (od c36)) rfl <| fun v41 w37 e38 o42 => lp rfl (qb rfl) <| lp rfl (vV (v := v41) rfl rfl) <| lp rfl (vV (v := (.int .i64 ((qQ z11 z17 (IntKind.wrap .i64 (z17 + z21))).2))) rfl rfl) <| lp rfl (xa v41 rfl) <| lp rfl (xa (.int .i64 z39) (congrArg (Value.int .i64) x40)) <| nx <| qi <| wr <| lp rfl (xm (.int .i64 z30) rfl) <| lp rfl (xm (.int .i64 z39) rfl) <| lp rfl (Qo rfl rfl) <| lp rfl (xm (.bool (!decide (z30 = z39))) rfl) ?_
  obtain ⟨z44, x45, H⟩ := bind_some H
  refine ja 5 [(60, 65)] 64 (fun q => q = z44) ?_ ?_
  ·rcases qh x45 with ⟨b42_, H⟩ | ⟨b42_, H⟩
   ·refine ls rfl rfl rfl (cb b42_) rfl <| ls rfl rfl rfl (cb b42_) rfl <| ls rfl rfl rfl (cb b42_) rfl <| ls rfl rfl rfl (cb b42_) rfl <| lp rfl (qy (b := true) (v := (.bool true)) (cb b42_) rfl) ?_
    obtain rfl := si H
    exact nx ⟨(ku1 (ku4 kz rfl) rfl), ⟨_, rfl, rfl⟩, er⟩
   ·refine lg rfl rfl rfl rfl (cb b42_) (xm v32 rfl) <| lg rfl rfl rfl rfl (cb b42_) (xm v41 rfl) ?_
    obtain ⟨c44, H⟩ := qa H
    obtain ⟨c45, H⟩ := qa H
    refine yW (tg rfl rfl rfl (cb b42_)) rfl (ltb rfl) rfl Tryz.call13 (yk.calls (w := w37) (a0 := (qQ z11 z17 (IntKind.wrap .i64 (z17 + z21))).1) (a1 := (qQ z11 z17 (IntKind.wrap .i64 (z17 + z21))).1) (vv.rd (vv.ext o33 e38)) (vv.rd o42) (od c44) (od c45)) rfl <| fun w46 e47 => lg rfl rfl rfl rfl (cb b42_) (jm rfl) <| lp rfl (qy (b := false) (v := (.bool (!(decide (((qQ z11 z17 (IntKind.wrap .i64 (z17 + z21))).1) = ((qQ z11 z17 (IntKind.wrap .i64 (z17 + z21))).1)))))) (cb b42_) rfl) ?_
    obtain rfl := si H
    exact nx ⟨(ku1 (ku4 kz rfl) rfl), ⟨_, rfl, rfl⟩, e47⟩
  intro s50 w46 z51 K47 hq h48 e49
  rw [hq] at h48; clear hq
  refine nx ?_
  rcases qh H with ⟨q52, H⟩ | ⟨q52, H⟩
  ·refine qo (h48.trans (cb q52)) <| wr <| lp rfl (xa (.bool false) rfl) <| nx <| qr <| qw <| qu ?_
   obtain rfl := si H
   exact vh rfl ((((((e7.t e14).t e20).t e24).t e29).t e38).t e49)
  ·refine qj (h48.trans (cb q52)) <| qq <| qf <| qi <| wr <| lp rfl (xm (.int .i64 z39) (K47 11 rfl)) <| lp rfl (Qo rfl rfl) <| nx ?_
   rcases qh H with ⟨q53, H⟩ | ⟨q53, H⟩
   ·refine qo (cb q53) <| wr <| lp rfl (xm (.int .i64 z39) (K47 11 rfl)) <| lp rfl (yL rfl rfl) <| lp rfl (xa (.bool (decide (z39 = 7))) rfl) <| nx <| qr <| qw <| qu ?_
    obtain rfl := si H
    exact vh rfl ((((((e7.t e14).t e20).t e24).t e29).t e38).t e49)
   ·refine qj (cb q53) <| qq <| qf <| wr <| lp rfl (xm v32 (K47 8 rfl)) ?_
    obtain ⟨c54, H⟩ := qa H
    obtain ⟨c55, H⟩ := qa H
    obtain ⟨c56, H⟩ := qa H
    obtain ⟨z59, x60, H⟩ := bind_some H
    replace x60 := si x60
    obtain ⟨z61, x62, H⟩ := bind_some H
    replace x62 := si x62
    refine L_callT (.plain rfl) rfl (ltb rfl) rfl Tryz.call14 (jy.calls (w := w46) (a0 := (qQ z11 z17 (IntKind.wrap .i64 (z17 + z21))).1) (GV.ext gv ((((((e7.t e14).t e20).t e24).t e29).t e38).t e49)) (vv.rd (vv.ext o33 (e38.t e49))) (od c54) (od c55) (od c56)) rfl <| fun v63 w57 e58 o64 => lp rfl (qb rfl) <| lp rfl (vV (v := v63) rfl rfl) <| lp rfl (vV rfl rfl) <| lp rfl (xa v63 rfl) <| lp rfl (xa (.int .i64 z61) (congrArg (Value.int .i64) x62)) <| nx <| wr <| lp rfl (xm v15 (K47 5 rfl)) ?_
    obtain ⟨c65, H⟩ := qa H
    obtain ⟨c66, H⟩ := qa H
    obtain ⟨c67, H⟩ := qa H
    refine L_callT (.plain rfl) rfl (ltb rfl) rfl Tryz.call14 (jy.calls (w := w57) (a0 := z11) (GV.ext gv (((((((e7.t e14).t e20).t e24).t e29).t e38).t e49).t e58)) (vv.rd (vv.ext o16 (((((e20.t e24).t e29).t e38).t e49).t e58))) (od c65) (od c66) (od c67)) rfl <| fun v70 w68 e69 o71 => lp rfl (xm (.tuple #[v70, (.int .i64 ((yy z11).2))]) rfl) <| lp rfl (vV (v := v70) rfl rfl) <| lp rfl (vV (v := (.int .i64 ((yy z11).2))) rfl rfl) <| lp rfl (xa v70 rfl) <| lp rfl (xa (.int .i64 ((yy z11).2)) rfl) <| nx <| wr <| lp rfl (xm v15 (K47 5 rfl)) ?_
    obtain ⟨c72, H⟩ := qa H
    obtain ⟨c73, H⟩ := qa H
    obtain ⟨c74, H⟩ := qa H
    refine L_callT (.plain rfl) rfl (ltb rfl) rfl Tryz.call15 (jP.calls (w := w68) (a0 := z11) (vv.rd (vv.ext o16 ((((((e20.t e24).t e29).t e38).t e49).t e58).t e69))) (od c72) (od c73) (od c74)) rfl <| fun v77 w75 e76 o78 => lp rfl (xm (.tuple #[v77, (.int .i64 ((yy z11).2))]) rfl) <| lp rfl (vV (v := v77) rfl rfl) <| lp rfl (vV (v := (.int .i64 ((yy z11).2))) rfl rfl) <| lp rfl (xa v77 rfl) <| lp rfl (xa (.int .i64 ((yy z11).2)) rfl) <| nx <| wr <| lp rfl (xm v32 (K47 8 rfl)) ?_
    obtain ⟨c79, H⟩ := qa H
    obtain ⟨c80, H⟩ := qa H
    obtain ⟨c81, H⟩ := qa H
    obtain ⟨z84, x85, H⟩ := bind_some H
    replace x85 := si x85
    refine lc rfl rfl Tryz.call16 (j6.calls (w := w75) (a0 := (qQ z11 z17 (IntKind.wrap .i64 (z17 + z21))).1) (GV.ext gv (((((((((e7.t e14).t e20).t e24).t e29).t e38).t e49).t e58).t e69).t e76)) (vv.rd (vv.ext o33 ((((e38.t e49).t e58).t e69).t e76))) (od c79) (od c80) (od c81)) rfl <| fun w82 e83 => lp rfl (xm (.bool z84) (cb x85)) ?_
    obtain ⟨z87, x88, H⟩ := bind_some H
    refine ja 11 [(87, 98)] 97 (fun q => q = z87) ?_ ?_
    ·rcases qh x88 with ⟨b85_, H⟩ | ⟨b85_, H⟩
     ·refine lg rfl rfl rfl rfl (cb b85_) (xm v32 (K47 8 rfl)) <| lg rfl rfl rfl rfl (cb b85_) (yK Tryz.underlying23 rfl (vv.rd (vv.ext o33 (((((e38.t e49).t e58).t e69).t e76).t e83)))) <| lg rfl rfl rfl rfl (cb b85_) (xm v15 (K47 5 rfl)) <| lg rfl rfl rfl rfl (cb b85_) (yK Tryz.underlying23 rfl (vv.rd (vv.ext o16 ((((((((e20.t e24).t e29).t e38).t e49).t e58).t e69).t e76).t e83)))) <| lg rfl rfl rfl rfl (cb b85_) (xm (.int .i64 (IntKind.wrap .i64 (z17 + z21))) (K47 7 rfl)) <| lg rfl rfl rfl rfl (cb b85_) (xm (.int .i64 z17) (K47 6 rfl)) <| lg rfl rfl rfl rfl (cb b85_) (QS rfl rfl) <| lg rfl rfl rfl rfl (cb b85_) (QS rfl rfl) <| lg rfl rfl rfl rfl (cb b85_) (qU rfl rfl) <| lg rfl rfl rfl rfl (cb b85_) (yL rfl rfl) <| lp rfl (qy (b := true) (v := (.bool (decide ((((qQ z11 z17 (IntKind.wrap .i64 (z17 + z21))).1).length : Int) = (IntKind.wrap .i64 ((IntKind.wrap .i64 ((z11.length : Int) - (IntKind.wrap .i64 ((IntKind.wrap .i64 (z17 + z21)) - z17)))) + 1)))))) (cb b85_) rfl) ?_
      obtain rfl := si H
      exact nx ⟨(ku3 (ku8 kz rfl) rfl), ⟨_, rfl, rfl⟩, er⟩
     ·refine ls rfl rfl rfl (cb b85_) rfl <| ls rfl rfl rfl (cb b85_) rfl <| ls rfl rfl rfl (cb b85_) rfl <| ls rfl rfl rfl (cb b85_) rfl <| ls rfl rfl rfl (cb b85_) rfl <| ls rfl rfl rfl (cb b85_) rfl <| ls rfl rfl rfl (cb b85_) rfl <| ls rfl rfl rfl (cb b85_) rfl <| ls rfl rfl rfl (cb b85_) rfl <| ls rfl rfl rfl (cb b85_) rfl <| lp rfl (qy (b := false) (v := (.bool false)) (cb b85_) rfl) ?_
      obtain rfl := si H
      exact nx ⟨(ku3 (ku8 kz rfl) rfl), ⟨_, rfl, rfl⟩, er⟩
    intro s93 w89 z94 K90 hq h91 e92
    rw [hq] at h91; clear hq
    refine lp rfl (qb h91) <| jN 3 [(99, 102)] 101 (.bool (z87 && (decide (z61 = 0)))) ?_ ?_
    ·rcases ql z87 with b94_ | b94_
     ·exact lg rfl rfl rfl rfl (cb b94_) (xm (.int .i64 z61) (K90 13 rfl)) <| lg rfl rfl rfl rfl (cb b94_) (yL rfl rfl) <| lp rfl (qy (b := true) (v := (.bool (decide (z61 = 0)))) (cb b94_) rfl) <| nx ⟨(ku3 kz rfl), (Vm b94_), er⟩
     ·exact ls rfl rfl rfl (cb b94_) rfl <| ls rfl rfl rfl (cb b94_) rfl <| lp rfl (qy (b := false) (v := (.bool false)) (cb b94_) rfl) <| nx ⟨(ku3 kz rfl), (Vn b94_), er⟩
    intro s100 w96 K97 h98 e99
    refine lp rfl (qb h98) ?_
    obtain ⟨z102, x103, H⟩ := bind_some H
    refine ja 3 [(103, 106)] 105 (fun q => q = z102) ?_ ?_
    ·rcases qh x103 with ⟨b100_, H⟩ | ⟨b100_, H⟩
     ·refine lg rfl rfl rfl rfl (cb b100_) (xm (.int .i64 ((yy z11).2)) ((K97 15 rfl).trans (K90 15 rfl))) <| lg rfl rfl rfl rfl (cb b100_) (yL rfl rfl) <| lp rfl (qy (b := true) (v := (.bool (decide (((yy z11).2) = 0)))) (cb b100_) rfl) ?_
      obtain rfl := si H
      exact nx ⟨(ku3 kz rfl), ⟨_, rfl, rfl⟩, er⟩
     ·refine ls rfl rfl rfl (cb b100_) rfl <| ls rfl rfl rfl (cb b100_) rfl <| lp rfl (qy (b := false) (v := (.bool false)) (cb b100_) rfl) ?_
      obtain rfl := si H
      exact nx ⟨(ku3 kz rfl), ⟨_, rfl, rfl⟩, er⟩
    intro s108 w104 z109 K105 hq h106 e107
    rw [hq] at h106; clear hq
    refine lp rfl (qb h106) ?_
    obtain ⟨z111, x112, H⟩ := bind_some H
    refine ja 4 [(107, 111)] 110 (fun q => q = z111) ?_ ?_
    ·rcases qh x112 with ⟨b109_, H⟩ | ⟨b109_, H⟩
     ·refine lg rfl rfl rfl rfl (cb b109_) (xm v63 ((K105 12 rfl).trans ((K97 12 rfl).trans (K90 12 rfl)))) <| lg rfl rfl rfl rfl (cb b109_) (xm v77 ((K105 16 rfl).trans ((K97 16 rfl).trans (K90 16 rfl)))) ?_
      obtain ⟨c111, H⟩ := qa H
      refine yW (tg rfl rfl rfl (cb b109_)) rfl (ltb rfl) rfl Tryz.call17 (yp.calls (w := w104) (a0 := z59) (a1 := (yy z11).1) (Ow.rd (Ow.ext (x60 ▸ o64) (((((e69.t e76).t e83).t e92).t e99).t e107))) (Ow.rd (Ow.ext o78 (((e83.t e92).t e99).t e107))) (od c111)) rfl <| fun w112 e113 => lp rfl (qy (b := true) (v := (.bool (decide (z59 = ((yy z11).1))))) (cb b109_) rfl) ?_
      obtain rfl := si H
      exact nx ⟨(ku4 kz rfl), ⟨_, rfl, rfl⟩, e113⟩
     ·refine ls rfl rfl rfl (cb b109_) rfl <| ls rfl rfl rfl (cb b109_) rfl <| ls rfl rfl rfl (cb b109_) rfl <| lp rfl (qy (b := false) (v := (.bool false)) (cb b109_) rfl) ?_
      obtain rfl := si H
      exact nx ⟨(ku4 kz rfl), ⟨_, rfl, rfl⟩, er⟩
    intro s117 w113 z118 K114 hq h115 e116
    rw [hq] at h115; clear hq
    refine lp rfl (qb h115) ?_
    obtain ⟨z120, x121, H⟩ := bind_some H
    refine ja 4 [(112, 116)] 115 (fun q => q = z120) ?_ ?_
    ·rcases qh x121 with ⟨b118_, H⟩ | ⟨b118_, H⟩
     ·refine lg rfl rfl rfl rfl (cb b118_) (xm v70 ((K114 14 rfl).trans ((K105 14 rfl).trans ((K97 14 rfl).trans (K90 14 rfl))))) <| lg rfl rfl rfl rfl (cb b118_) (xm v77 ((K114 16 rfl).trans ((K105 16 rfl).trans ((K97 16 rfl).trans (K90 16 rfl))))) ?_
      obtain ⟨c120, H⟩ := qa H
      refine yW (tg rfl rfl rfl (cb b118_)) rfl (ltb rfl) rfl Tryz.call17 (yp.calls (w := w113) (a0 := (yy z11).1) (a1 := (yy z11).1) (Ow.rd (Ow.ext o71 (((((e76.t e83).t e92).t e99).t e107).t e116))) (Ow.rd (Ow.ext o78 ((((e83.t e92).t e99).t e107).t e116))) (od c120)) rfl <| fun w121 e122 => lp rfl (qy (b := true) (v := (.bool (decide (((yy z11).1) = ((yy z11).1))))) (cb b118_) rfl) ?_
      obtain rfl := si H
      exact nx ⟨(ku4 kz rfl), ⟨_, rfl, rfl⟩, e122⟩
     ·refine ls rfl rfl rfl (cb b118_) rfl <| ls rfl rfl rfl (cb b118_) rfl <| ls rfl rfl rfl (cb b118_) rfl <| lp rfl (qy (b := false) (v := (.bool false)) (cb b118_) rfl) ?_
      obtain rfl := si H
      exact nx ⟨(ku4 kz rfl), ⟨_, rfl, rfl⟩, er⟩
    intro s126 w122 z127 K123 hq h124 e125
    rw [hq] at h124; clear hq
    refine lp rfl (qp h124) <| nx <| qr <| qu ?_
    obtain rfl := si H
    exact vh rfl (((((((((((((((e7.t e14).t e20).t e24).t e29).t e38).t e49).t e58).t e69).t e76).t e83).t e92).t e99).t e107).t e116).t e125)
theorem law_FnReplaced.calls {w : World} {a0 : List Int} {a1 : List Int} (gv : GV 0 w) {v_a0 : Value} (f_a0 : Rd 1 (Go.UL.encI .u8) w v_a0 a0) {v_a1 : Value} (f_a1 : Rd 1 (Go.UL.encI .u8) w v_a1 a1) (h0 : ∀ x ∈ a0, okB x) (h1 : a0.length ≤ 9223372036854775807) (h2 : ∀ x ∈ a1, okB x) (h3 : a1.length ≤ 9223372036854775807) :
  Calls Tryz.prog 3 #[v_a0, v_a1] w (Rt (RP w (.bool true))) := law_FnReplaced.walk gv f_a0 f_a1 (law_FnReplaced.eq a0 a1 h0 h1 h2 h3)
end Go.Proofs.YtdhmlillkbjjjaaGreatDoor
