/- The walks, by program (wip/tools). -/
import Derived.Test.YtdhmlillkbjjjaaGreatDoorProg
import Derived.Test.YtdhmlillkbjjjaaGreatDoorKJ
import Derived.Test.YtdhmlillkbjjjaaGreatDoorKL
import Derived.Test.YtdhmlillkbjjjaaGreatDoorqWA
set_option linter.unusedVariables false
set_option linter.unusedSimpArgs false
set_option maxRecDepth 10000
namespace Go.Proofs.YtdhmlillkbjjjaaGreatDoor
open Go.UL Go.RowKit
/-! slices.DeleteFunc(()impl.Node,impl.Node), by text -/
theorem JJ.calls {w wF : World} {B : Nat} {v : Value} {xs : List Nd} (hO : Ow 91 4 qv B w v xs) (kF : Ext wF w) (hF : wF.heap.size ≤ B) (hl : xs.length ≤ 1048576) {u : Value} {q : Nd → Bool}
    (hf : ∀ x, jb Tryz.prog wF u [.agg (qv x).toArray] (.bool (q x))) (hu : u.cells = #[u]) :
    Calls Tryz.prog 203 #[v, u] w (Rt (fun r w' => Ext wF w' ∧ Ow 91 4 qv B w' r (xs.filter fun x => !q x))) := by
  obtain ⟨A, c, hv⟩ := hO.rd.shape
  have hidx := VZ (p := fun x => some (q x)) (q := q) (l := xs) (fun _ _ => rfl)
  refine qg Tryz.func203 rfl (Nat.le_of_ble_eq_true rfl) Tryz.ntmps203 rfl ?_
  refine wr <| lp rfl (qp (v := .slice none 0 0) rfl) <| nx <| wr <| lp rfl (xm v rfl) <| lp rfl (xm u rfl) <|
    lc rfl rfl Tryz.call201 (qT.calls (w := w) (a0 := xs) (a1 := fun x => some (q x)) hO.rd (fun x r h => by have h := si h; subst h; exact (hf x).ext kF) hu (by omega) hidx) rfl <| fun w1 e1 => lp rfl (qp (v := .int .i64 (yT q xs)) rfl) <| nx <|
    qi <| wr <| lp rfl (qb (v := .int .i64 (yT q xs)) rfl) <| lp rfl (yL rfl rfl) <| nx ?_
  have hge := XN q xs
  by_cases hm : yT q xs = -1
  · have hnone : ∀ x ∈ xs, q x = false := by
      have := findI_any q xs
      rw [hm] at this
      intro x hx
      rcases ql (q x) with h | h
      · have h2 : xs.any q = true := List.any_eq_true.2 ⟨x, hx, h⟩
        rw [h2] at this; cases this
      · exact h
    have hfil : (xs.filter fun x => !q x) = xs := List.filter_eq_self.2 fun x hx => by rw [hnone x hx]; rfl
    refine qo (cb (decide_eq_true hm)) <| wr <| lp rfl (xm v rfl) <| lp rfl (xa v rfl) <| nx <| qr <| qw <| qu ?_
    rw [hfil]
    exact ⟨_, rfl, Ext.trans kF e1, hO.ext e1⟩
  · obtain ⟨hin, hq0⟩ := findI_get q xs (by omega)
    obtain ⟨i0, hi0⟩ : ∃ i0 : Nat, yT q xs = i0 := ⟨(yT q xs).toNat, by omega⟩
    rw [hi0] at hin hq0 ⊢
    have hlt0 : i0 < xs.length := by have := Qb hin; omega
    have hpre : (xs.take (i0 + 1)).filter (fun x => !q x) = xs.take i0 := by
      have hfst := findI_first q xs i0 hi0
      rw [List.take_succ_eq_append_getElem hlt0, List.filter_append]
      have h1 : (xs.take i0).filter (fun x => !q x) = xs.take i0 := List.filter_eq_self.2 fun x hx => by rw [hfst x hx]; rfl
      have h2 : q xs[i0] = true := by rw [vK, vr hlt0] at hq0; exact hq0
      rw [h1]; simp [h2]
    have hpl : ((xs.take (i0 + 1)).filter (fun x => !q x)).length = i0 := by rw [hpre]; simp; omega
    have hwi : IntKind.wrap .i64 ((i0 : Int) + 1) = ((i0 + 1 : Nat) : Int) := by rw [Int.natCast_add, Int.natCast_one]; exact Go.UL.wrap_small (by omega) (by omega)
    refine qj (cb (decide_eq_false (by omega))) <| qq <| qf <| qi <| wr <| lp rfl (qb (v := .int .i64 (i0 : Int)) rfl) <| lp rfl (qU rfl rfl) <|
      lp rfl (qp (v := .int .i64 ((i0 + 1 : Nat) : Int)) (congrArg (Value.int .i64) hwi)) <| nx ?_
    refine vq (fun s0 σ W' => σ 0 = v ∧ Ext wF W' ∧ ∃ ys : List Nd, ys.length = xs.length ∧ σ 5 = .int .i64 ((xs.filter fun x => !q x).length : Int) ∧ Ow 91 4 qv B W' v ys ∧ ys.take (xs.filter fun x => !q x).length = xs.filter fun x => !q x) ?_ ?_
    · refine qx <| vc (fun s0 m σ W' => σ 0 = v ∧ σ 1 = u ∧ Ext wF W' ∧ ∃ (j : Nat) (ys : List Nd), j + m = xs.length ∧ i0 < j ∧ σ 6 = .int .i64 (j : Int) ∧ ys.length = xs.length ∧ σ 5 = .int .i64 (((xs.take j).filter fun x => !q x).length : Int) ∧ ((xs.take j).filter fun x => !q x).length < j ∧ Ow 91 4 qv B W' v ys ∧ ys.take ((xs.take j).filter fun x => !q x).length = (xs.take j).filter (fun x => !q x) ∧ ys.drop j = xs.drop j) (xs.length - (i0 + 1))
        ⟨rfl, rfl, Ext.trans kF e1, i0 + 1, xs, by omega, by omega, rfl, rfl, (congrArg (fun n : Nat => Value.int .i64 (n : Int)) hpl).symm, by omega, hO.ext e1, by rw [hpl, hpre], rfl⟩ ?_
      rintro m s1 W1 ⟨h0, h1, k1, j, ys, hjm, hij, h6, hyl, h5, hlt, hO1, htk, hdr⟩
      refine qi <| wr <| lp rfl (qb h6) <| lp rfl (qb h0) <| lp rfl (va Tryz.underlying29 rfl hO1.rd) <| lp rfl (vW rfl rfl) <| nx ?_
      by_cases hjl : j < xs.length
      · have hjy : j < ys.length := by omega
        have hinj : inR (j : Int) ys.length = true := qP hjy
        have hyj : gt ys (j : Int) = xs[j] := by
          rw [vK, vr hjy]
          have h2 : (ys.drop j)[0]? = (xs.drop j)[0]? := by rw [hdr]
          simp only [List.getElem?_drop, Nat.add_zero, List.getElem?_eq_getElem hjy, List.getElem?_eq_getElem hjl] at h2
          exact si h2
        refine qo (cb (decide_eq_true (by omega))) <| qq <| qf <| qi <| qx <| wr <| lp rfl (qb h0) <| lp rfl (qb h6) <| vk (.plain rfl) rfl (ltb rfl) rfl Tryz.underlying29 Tryz.sizeOf91 rfl hO1.rd rfl hinj <| fun p hA =>
          lp rfl (qZ (cs := qv (gt ys (j : Int))) Tryz.isAgg91 Tryz.sizeOf91 rfl rfl hA) <| Vf (.plain rfl) rfl (ltb rfl) rfl Tryz.zeroValue91 <| fun b7 W2 z1 z2 e2 k2 => jK (.plain rfl) rfl rfl Tryz.sizeOf91 rfl rfl rfl rfl rfl k2 <| fun W3 hw3 k3 => nx ?_
        have e3 : Ext W1 W3 := Ext.wr e2 hw3 (Nat.le_of_eq z1) (Nat.le_refl _)
        have hO3 := hO1.ext e3
        have kF3 : Ext wF W3 := Ext.trans k1 e3
        refine wr <| lp rfl (qb h1) <| lp rfl (qZ (cs := qv (gt ys (j : Int))) Tryz.isAgg91 Tryz.sizeOf91 rfl rfl (Blk.at0 k3)) <| VG (.plain rfl) rfl (ltb rfl) rfl rfl ((hf (gt ys (j : Int))).ext kF3) rfl <| fun W4 e4 => lp rfl (jm rfl) <| nx ?_
        have hO4 := hO3.ext e4
        have kF4 := Ext.trans kF3 e4
        have hstep : (xs.take (j + 1)).filter (fun x => !q x) = (xs.take j).filter (fun x => !q x) ++ (if q xs[j] then [] else [xs[j]]) := by
          rw [List.take_succ_eq_append_getElem hjl, List.filter_append]
          congr 1
          rcases ql (q xs[j]) with h | h <;> simp [h]
        have hwj : IntKind.wrap .i64 ((j : Int) + 1) = ((j + 1 : Nat) : Int) := by rw [Int.natCast_add, Int.natCast_one]; exact Go.UL.wrap_small (by omega) (by omega)
        have hdr1 : ys.drop (j + 1) = xs.drop (j + 1) := by
          have := congrArg (List.drop 1) hdr
          simpa [List.drop_drop, Nat.add_comm] using this
        have h6' := h6
        rcases ql (q (gt ys (j : Int))) with hq | hq
        · refine qj (cb (by rw [hq]; rfl)) <| qq <| vj <| qf <| qG <| lp rfl (qb h6) <| lp rfl (qU rfl rfl) <| lp rfl (qp (v := .int .i64 ((j + 1 : Nat) : Int)) (congrArg (Value.int .i64) hwj)) <| nx ?_
          rw [hyj] at hq
          rw [hq] at hstep
          simp only [if_true, List.append_nil] at hstep
          refine ⟨m - 1, by omega, h0, h1, kF4, j + 1, ys, by omega, by omega, rfl, hyl, by rw [hstep]; exact h5, by rw [hstep]; omega, hO4, by rw [hstep]; exact htk, hdr1⟩
        · refine qo (cb (by rw [hq]; rfl)) <| wr <| lp rfl (qb h0) <| lp rfl (qb h5) <| lp rfl (qZ (cs := qv (gt ys (j : Int))) Tryz.isAgg91 Tryz.sizeOf91 rfl rfl (Blk.at0 (k3.ext e4))) <|
            L_idxO (.plain rfl) rfl (ltb rfl) rfl Tryz.underlying29 Tryz.sizeOf91 rfl hO4 rfl (qP (show ((xs.take j).filter fun x => !q x).length < ys.length by omega)) <| fun p9 h9 => ?_
          refine L_storeO (a := gt ys (j : Int)) (u := .agg (qv (gt ys (j : Int))).toArray) (vs := qv (gt ys (j : Int))) (off := 0) (.plain rfl) rfl rfl Tryz.sizeOf91 rfl h9 rfl rfl rfl rfl (by simp [qv]) rfl <| fun b9 W5 hb9 hB9 hw9 hO5 => nx ?_
          have kF5 : Ext wF W5 := Ext.wr kF4 hw9 (Nat.le_trans hF hB9) (Nat.le_refl _)
          rw [hyj] at hq
          rw [hq] at hstep
          simp only [Bool.false_eq_true, if_false] at hstep
          have hw5 : IntKind.wrap .i64 ((((xs.take j).filter fun x => !q x).length : Int) + 1) = ((((xs.take j).filter fun x => !q x).length + 1 : Nat) : Int) := by rw [Int.natCast_add, Int.natCast_one]; exact Go.UL.wrap_small (by omega) (by omega)
          refine qG <| lp rfl (qb h5) <| lp rfl (qU rfl rfl) <| lp rfl (qp (v := .int .i64 ((((xs.take j).filter fun x => !q x).length + 1 : Nat) : Int)) (congrArg (Value.int .i64) hw5)) <| qH <| vj <| qf <|
            qG <| lp rfl (qb h6') <| lp rfl (qU rfl rfl) <| lp rfl (qp (v := .int .i64 ((j + 1 : Nat) : Int)) (congrArg (Value.int .i64) hwj)) <| nx ?_
          refine ⟨m - 1, by omega, h0, h1, kF5, j + 1, _, by omega, by omega, rfl, by rw [setI_len]; exact hyl, by rw [hstep]; simp; rfl, by rw [hstep]; simp; omega, hO5, ?_, ?_⟩
          · rw [hstep, hyj]
            simp only [GQ, Int.toNat_natCast, List.length_append, List.length_cons, List.length_nil]
            rw [List.take_set_succ (by omega), htk]
          · simp only [GQ, Int.toNat_natCast]
            rw [List.drop_set_of_lt (by omega)]; exact hdr1
      · have hje : j = xs.length := by omega
        subst hje
        rw [List.take_length] at h5 htk
        refine qj (cb (decide_eq_false (by omega))) <| vt <| qN <| qN <| yu <| qf ?_
        exact ⟨h0, k1, ys, hyl, h5, hO1, htk⟩
    · rintro s2 W2 ⟨h0, k2, ys, hyl, h5, hO2, htk⟩
      have hli : (xs.filter fun x => !q x).length ≤ ys.length := by rw [hyl]; exact List.length_filter_le _ _
      have hv2 : v = .slice A ys.length c := by rw [hyl]; exact hv
      have hcap : ys.length ≤ c := by obtain ⟨A', c', hv', ⟨hn, _⟩, _⟩ := hO2.rd; rw [hv2] at hv'; injection hv' with _ _ e; omega
      refine qf <| wr <| lp rfl (qb h0) <| lp rfl (qb h5) <|
        lp rfl (VX (A := A) (n := ys.length) (c := c) (l := ((xs.filter fun x => !q x).length : Int)) (h := (ys.length : Int)) Tryz.underlying29 Tryz.sizeOf91 hv2 ⟨_, rfl⟩ rfl (by omega) (by omega) (by omega)) <|
        L_clearO (enc := qv) (zr := (⟨0, [], [], 0⟩ : Nd)) (i := (xs.filter fun x => !q x).length) (.plain rfl) rfl rfl El.t29 Tryz.zeroValue91 rfl rfl hO2 hv2 hli rfl <| fun W3 hg3 hz3 hO3 => nx ?_
      have k3 : Ext wF W3 := Below.mono (hg3 W2 (Below.refl _ _)) hF |> Below.trans k2
      have hlz : (xs.filter fun x => !q x).length ≤ (ys.take (xs.filter fun x => !q x).length ++ List.replicate (ys.length - (xs.filter fun x => !q x).length) (⟨0, [], [], 0⟩ : Nd)).length := by simp; omega
      refine wr <| lp rfl (qb h0) <| lp rfl (qb h5) <| L_takeO (.plain rfl) rfl (ltb rfl) rfl Tryz.underlying29 Tryz.sizeOf91 rfl hO3 rfl hlz <| fun r hr => lp rfl (xa r rfl) <| nx <| qr <| qu ?_
      refine ⟨_, rfl, k3, ?_⟩
      have hx : (ys.take (xs.filter fun x => !q x).length ++ List.replicate (ys.length - (xs.filter fun x => !q x).length) (⟨0, [], [], 0⟩ : Nd)).take (xs.filter fun x => !q x).length = xs.filter fun x => !q x := by
        rw [htk, List.take_left]
      rw [hx] at hr
      exact hr

/-! impl.removed, by text -/
theorem impl_removed.calls {w : World} {a0 : List Nd} {a1 : List UInt8} {v_a0 : Value} (f_a0 : Rd 4 qv w v_a0 a0) (h0 : a0.length ≤ 1048576) (h1 : a1.length ≤ 1048576) :
    Calls Tryz.prog 148 #[v_a0, S a1] w (Rt (RO 91 4 qv w (vT a0 a1 true))) := by
  refine qg Tryz.func148 rfl (Nat.le_of_ble_eq_true rfl) Tryz.ntmps148 rfl ?_
  refine wr <| Qg (.plain rfl) rfl (ltb rfl) rfl rfl <| fun b w1 z1 z2 e1 k1 => lp rfl (qp (v := .slice none 0 0) rfl) <| nx <| wr <| lp rfl (xm v_a0 rfl) <|
    vE (.plain rfl) rfl (ltb rfl) rfl Tryz.call123 (VD.calls (w := w1) (a0 := a0) (f_a0.ext e1) h0) rfl <| fun v2 w2 e2 o2 => lp rfl (VA (vs := #[]) (us := #[.pointer (some ⟨b, 0, none⟩)]) rfl rfl) <|
    jL (.plain rfl) rfl (ltb rfl) rfl Tryz.call203 (JJ.calls (w := w2) (wF := w1) (B := w1.heap.size) (xs := a0) (q := fun x => decide (x.path = a1) || (decide (a1 = []) || ve x.path a1)) o2 e2 (Nat.le_refl _) h0
      (fun x => jb.mk Tryz.call204 (by rfl) fun w9 k9 => jX.calls (w := w9) (a0 := x) (a1 := a1) (k1.ext k9) h1) rfl) rfl <| fun v3 w3 h3 => ?_
  obtain ⟨e3, o3⟩ := h3
  refine lp rfl (xa v3 rfl) <| nx <| qr <| qu ?_
  rw [without_impl]
  exact jI rfl (e1.t e3) o3 e1.size

/-! impl.paths -/
theorem vo.calls {w : World} {a0 : List (List Rec)} (gv : GV 0 w) {v_a0 : Value} (f_a0 : Rd2 5 qc w v_a0 a0) (h0 : a0.length ≤ 5) (h1 : ∀ l ∈ a0, l.length ≤ 1048576) (h2 : ∀ l ∈ a0, ∀ x ∈ l, x.path.length ≤ 1048576) :
  Calls Tryz.prog 79 #[v_a0] w (Rt (RO 9 1 jc w (vb a0))) := by
 obtain ⟨k, H⟩ := vo.eq a0 h0 h1 h2
 generalize (vb a0) = r at H ⊢
 unfold vo.sh at H
 refine qg Tryz.func79 rfl (Nat.le_of_ble_eq_true rfl) Tryz.ntmps79 rfl ?_
 refine wr <| lp rfl (xa (.slice none 0 0) rfl) <| nx <| wr <| vC (.plain rfl) rfl (ltb rfl) rfl Tryz.underlying44 Tryz.sizeOf9 Tryz.zeroValue9 rfl rfl rfl (vs := []) rfl (qO rfl) <| fun b1 w2 z3 z4 e5 k6 => lp rfl (xa (.slice (some ⟨b1, 0, none⟩) 0 0) rfl) <| nx <| qi <| wr <| lp rfl (xm v_a0 rfl) <| lp rfl (yK Tryz.underlying23 rfl (Rd2.ext f_a0 e5)) <| lp rfl (xm (.int .i64 0) rfl) <| nx ?_
 obtain ⟨z10, L11, C12⟩ := bind_some H
 clear H
 refine  vq (fun s0 sQ wQ => ∃ (x3_13 : List (List UInt8)) (v14 : Value), Kp [(3, 4), (5, 6), (7, 8), (11, 28)] s0 sQ ∧ sQ 3 = v14 ∧ Ow 9 1 jc w2.heap.size wQ v14 x3_13 ∧ Ext w2 wQ ∧ z10 = .inr x3_13) ?_ ?_
 ·refine qx <| vc (fun s0 kk sQ wQ => ∃ (x3_7 : List (List UInt8)) (v8 : Value) (x11_9 : Int), Kp [(3, 4), (5, 6), (7, 8), (11, 28)] s0 sQ ∧ sQ 3 = v8 ∧ Ow 9 1 jc w2.heap.size wQ v8 x3_7 ∧ sQ 11 = .int .i64 x11_9 ∧ Ext w2 wQ ∧ qn (vo.b1 k a0) kk (x3_7, x11_9) = some z10) k ⟨([] : List (List UInt8)), (.slice (some ⟨b1, 0, none⟩) 0 0), 0, kz, rfl, (Ow.zero), rfl, er, L11⟩ ?_
  rintro k19 s20 w21 ⟨x3_7, v8, x11_9, K22, h25, h26, h27, e23, L24⟩
  cases k19 with
  | zero => exact absurd L24 (by simp [qn])
  | succ k19 =>
   obtain ⟨t28, H, S29⟩ := qJ L24
   clear L24
   unfold vo.b1 at H
   refine wr <| lp rfl (vW h27 (K22 10 rfl)) <| nx <| qi ?_
   rcases qh H with ⟨q30, H⟩ | ⟨q30, H⟩
   ·refine qo (cb q30) <| qq <| qf <| qi <| qx <| wr ?_
    obtain ⟨c31, H⟩ := qa H
    refine L_idx2o (.plain rfl) rfl (ltb rfl) rfl Tryz.underlying23 Tryz.sizeOf35 (K22 9 rfl) f_a0 (e5.t e23) h27 c31 <| fun p32 v34 h33 h35 => lp rfl (vy Tryz.isAgg35 rfl h33 rfl) <| lp rfl (xa v34 rfl) <| nx <| wr <| lp rfl (xm v34 rfl) <| lp rfl (va Tryz.underlying35 rfl (Rd.ext h35 (e5.t e23))) <| lp rfl (xm (.int .i64 0) rfl) <| nx ?_
    obtain ⟨z39, L40, C41⟩ := bind_some H
    clear H
    refine  vq (fun s0 sQ wQ => ∃ (x3_42 : List (List UInt8)) (v43 : Value), Kp [(3, 4), (7, 8), (17, 27)] s0 sQ ∧ sQ 3 = v43 ∧ Ow 9 1 jc w2.heap.size wQ v43 x3_42 ∧ Ext w2 wQ ∧ z39 = .inr x3_42) ?_ ?_
    ·refine qx <| vc (fun s0 kk sQ wQ => ∃ (x3_36 : List (List UInt8)) (v37 : Value) (x17_38 : Int), Kp [(3, 4), (7, 8), (17, 27)] s0 sQ ∧ sQ 3 = v37 ∧ Ow 9 1 jc w2.heap.size wQ v37 x3_36 ∧ sQ 17 = .int .i64 x17_38 ∧ Ext w2 wQ ∧ qn (vo.b2 a0 x11_9) kk (x3_36, x17_38) = some z39) k ⟨x3_7, v8, 0, kz, h25, h26, rfl, e23, L40⟩ ?_
     rintro k48 s49 w50 ⟨x3_36, v37, x17_38, K51, h54, h55, h56, e52, L53⟩
     cases k48 with
     | zero => exact absurd L53 (by simp [qn])
     | succ k48 =>
      obtain ⟨t57, H, S58⟩ := qJ L53
      clear L53
      unfold vo.b2 at H
      refine wr <| lp rfl (vW h56 (K51 16 rfl)) <| nx <| qi ?_
      rcases qh H with ⟨q59, H⟩ | ⟨q59, H⟩
      ·refine qo (cb q59) <| qq <| qf <| qi <| qx <| wr ?_
       obtain ⟨c60, H⟩ := qa H
       refine vk (.plain rfl) rfl (ltb rfl) rfl Tryz.underlying35 Tryz.sizeOf52 (K51 15 rfl) (Rd.ext h35 (e5.t e52)) h56 c60 <| fun p61 h62 => lp rfl (qZ Tryz.isAgg52 Tryz.sizeOf52 rfl rfl h62) <| Vf (.plain rfl) rfl (ltb rfl) rfl Tryz.zeroValue52 <| fun b63 w64 z65 z66 e67 k68 => jK (.plain rfl) rfl rfl Tryz.sizeOf52 rfl rfl rfl rfl rfl k68 <| fun w69 h70 k71 => nx <| qG <| lp rfl (qb h54) <| lp rfl (qd Tryz.underlying52 rfl Tryz.sizeOf9 rfl rfl) <| lp rfl (qA Tryz.isAgg9 k71 rfl rfl) <| vC (.plain rfl) rfl (ltb rfl) rfl Tryz.underlying44 Tryz.sizeOf9 Tryz.zeroValue9 rfl rfl rfl (vs := [(S ((gt (gt a0 x11_9) x17_38).path))]) rfl (qO rfl) <| fun b72 w73 z74 z75 e76 k77 => ?_
       obtain ⟨c78, H⟩ := qa H
       refine vP (enc := jc) (.plain rfl) rfl (ltb rfl) rfl El.t44 rfl rfl (Ow.ext h55 (Ext.trans (Below.trans e67 (Wr.below h70 (Nat.le_of_eq z65))) e76)) (Ow.rd (Ow.new (xs := [(gt (gt a0 x11_9) x17_38).path]) (sz := 1) (enc := jc) (base := w69.heap.size) k77 (Nat.le_of_eq z74) rfl (fun _ _ => by rfl) (Nat.le_of_ble_eq_true rfl))) (ones_S _) (od c78) (((e52.t (Below.trans e67 (Wr.below h70 (Nat.le_of_eq z65)))).t e76)).size <| fun v79 w80 o81 z82 g83 => lp rfl (xa v79 rfl) <| qH <| vj <| qf <| qG <| lp rfl (qU h56 rfl) <| lp rfl (xm (.int .i64 (IntKind.wrap .i64 (x17_38 + 1))) rfl) <| nx ?_
       obtain rfl := si H
       exact ⟨_, Nat.lt_succ_self _, x3_36 ++ ([(gt (gt a0 x11_9) x17_38).path] : List (List UInt8)), v79, IntKind.wrap .i64 (x17_38 + 1), (ku4 (ku8 K51 rfl) rfl), rfl, o81, rfl, (g83 _ ((e52.t (Below.trans e67 (Wr.below h70 (Nat.le_of_eq z65)))).t e76)), S58⟩
      ·refine qj (cb q59) <| vt <| qN <| qN <| yu <| qf ?_
       obtain rfl := si H
       obtain rfl := si S58
       exact ⟨x3_36, v37, (ku1 K51 rfl), h54, h55, e52, rfl⟩
    ·rintro s45 w44 ⟨x3_42, v43, K46, h84, h85, e47, y86⟩
     rw [y86] at C41
     have H := C41
     replace H : _ = some _ := H
     refine vj <| qf <| qG <| lp rfl (qU ((K46 11 rfl).trans h27) rfl) <| lp rfl (xm (.int .i64 (IntKind.wrap .i64 (x11_9 + 1))) rfl) <| nx ?_
     obtain rfl := si H
     exact ⟨_, Nat.lt_succ_self _, x3_42, v43, IntKind.wrap .i64 (x11_9 + 1), (ku2 (Kp.cut (ku3 (ku4 K22 rfl) rfl) K46 rfl) rfl), h84, h85, rfl, e47, S29⟩
   ·refine qj (cb q30) <| vt <| qN <| qN <| yu <| qf ?_
    obtain rfl := si H
    obtain rfl := si S29
    exact ⟨x3_7, v8, (ku1 K22 rfl), h25, h26, e23, rfl⟩
 ·rintro s16 w15 ⟨x3_13, v14, K17, h87, h88, e18, y89⟩
  rw [y89] at C12
  have H := C12
  replace H : _ = some _ := H
  refine qf <| wr <| lp rfl (qb h87) ?_
  obtain ⟨c90, H⟩ := qa H
  obtain ⟨c91, H⟩ := qa H
  refine jL (.plain rfl) rfl (ltb rfl) rfl Tryz.call136 (GA.calls (w := w15) h88 (GV.ext gv (e5.t e18)) (GV.pos (GV.ext gv e5)) (od c90) (od c91)) rfl <| fun _ w92 A93 => ?_
  obtain ⟨rfl, B94, ys95, p96, q97, o98⟩ := A93
  refine nx <| wr <| lp rfl (qb h87) <| jL (.plain rfl) rfl (ltb rfl) rfl Tryz.call137 (GW.calls (w := w92) o98 p96 q97) rfl <| fun v103 w99 A100 => ?_
  obtain ⟨B101, o102⟩ := A100
  refine lp rfl (xa v103 rfl) <| nx <| qr <| qu ?_
  obtain rfl := si H
  exact jI rfl (e5.t (B101 _ (B94 _ e18))) o102 (e5).size
/-! spec.l06Over -/
theorem Qx.calls {w : World} {a0 : Rec} {a1 : Rec} :
  Calls Tryz.prog 183 #[.agg (qc a0).toArray, .agg (qc a1).toArray] w (Rt (RP w (.agg (qc (y0 a0 a1)).toArray))) := by
 have H := Qx.eq a0 a1
 generalize (y0 a0 a1) = r at H ⊢
 unfold Qx.sh at H
 refine Yg Tryz.func183 rfl (Nat.le_of_ble_eq_true rfl) Tryz.ntmps183 ?_
 refine wr <| Qg (.plain rfl) rfl (ltb rfl) rfl rfl <| fun b1 w2 z3 z4 e5 k6 => Qg (.plain rfl) rfl (ltb rfl) rfl rfl <| fun b7 w8 z9 z10 e11 k12 => Vf (.plain rfl) rfl (ltb rfl) rfl Tryz.zeroValue52 <| fun b13 w14 z15 z16 e17 k18 => nx <| qi <| wr <| lp rfl (qd Tryz.underlying52 rfl Tryz.sizeOf3 rfl rfl) <| lp rfl (qA Tryz.isAgg3 (Blk.ext k12 e17) rfl rfl) <| lp rfl (yL rfl rfl) <| lp rfl (xm (.bool (decide (a1.kind = 3))) rfl) <| jN 3 [(9, 12)] 11 (.bool ((decide (a1.kind = 3)) && (vB a0))) ?_ ?_
 ·rcases ql (decide (a1.kind = 3)) with b18_ | b18_
  ·exact lg rfl rfl rfl rfl (cb b18_) (qZ Tryz.isAgg52 Tryz.sizeOf52 rfl rfl (Blk.at0 (Blk.ext k6 (e11.t e17)))) <| yW (tg rfl rfl rfl (cb b18_)) rfl (ltb rfl) rfl Tryz.call163 (Qf.calls (w := w14) (a0 := a0)) rfl <| fun w20 e21 => lp rfl (qy (b := true) (v := (.bool (vB a0))) (cb b18_) rfl) <| nx ⟨(ku3 kz rfl), (Vm b18_), e21⟩
  ·exact ls rfl rfl rfl (cb b18_) rfl <| ls rfl rfl rfl (cb b18_) rfl <| lp rfl (qy (b := false) (v := (.bool false)) (cb b18_) rfl) <| nx ⟨(ku3 kz rfl), (Vn b18_), er⟩
 intro s24 w20 K21 h22 e23
 refine nx ?_
 rcases qh H with ⟨q25, H⟩ | ⟨q25, H⟩
 ·refine qo (h22.trans (cb q25)) <| qG <| lp rfl (qd Tryz.underlying52 rfl Tryz.sizeOf4 rfl (K21 3 rfl)) <| VI (.plain rfl) rfl rfl Tryz.sizeOf4 rfl rfl rfl (Blk.ext k12 (e17.t e23)) (ltb rfl) <| fun w26 h27 k28 => nx <| wr <| lp rfl (qZ Tryz.isAgg52 Tryz.sizeOf52 rfl (K21 3 rfl) (Blk.at0 k28)) <| jK (.plain rfl) rfl rfl Tryz.sizeOf52 (K21 4 rfl) rfl rfl rfl rfl (Wr.blk h27 (Blk.ext k18 e23) (fun e9 => by have e8 : b13 = b7 := e9; clear e9; have h9 := Blk.lt k12; have h8 := z15; omega)) <| fun w29 h30 k31 => nx <| qr <| YJ ?_
  obtain rfl := si H
  exact finC1 rfl (K21 4 rfl) k31 Tryz.isAgg52 Tryz.sizeOf52 rfl (e5.t (Below.trans (Below.trans ((e11.t e17).t e23) (Wr.below h27 (Nat.le_of_eq z9))) (Wr.below h30 (Nat.le_trans e11.size (Nat.le_of_eq z15)))))
 ·refine qj (h22.trans (cb q25)) <| qq <| qf <| wr <| lp rfl (qZ Tryz.isAgg52 Tryz.sizeOf52 rfl (K21 3 rfl) (Blk.at0 (Blk.ext k12 (e17.t e23)))) <| jK (.plain rfl) rfl rfl Tryz.sizeOf52 (K21 4 rfl) rfl rfl rfl rfl (Blk.ext k18 e23) <| fun w32 h33 k34 => nx <| qr <| YJ ?_
  obtain rfl := si H
  exact finC1 rfl (K21 4 rfl) k34 Tryz.isAgg52 Tryz.sizeOf52 rfl ((e5.t e11).t (Below.trans (e17.t e23) (Wr.below h33 (Nat.le_of_eq z15))))
/-! spec.l06Two -/
abbrev qL.e1 (a0 : List Rec) (a1 : List Rec) (x6_9 : Int) (x7_10 : Int) := ((!(decide (x7_10 = (a1.length : Int)))) && (decide (x6_9 < (a0.length : Int))))
abbrev qL.e2 (a0 : List Rec) (a1 : List Rec) (x6_9 : Int) (x7_10 : Int) := ((decide (x7_10 = (a1.length : Int))) || ((decide (x6_9 < (a0.length : Int))) && (vA (cut 47 ((gt a0 x6_9).path)) (cut 47 ((gt a1 x7_10).path)))))
theorem qL.walk {k : Nat} {w : World} {a0 : List Rec} {a1 : List Rec} {v_a0 : Value} (f_a0 : Rd 5 qc w v_a0 a0) {v_a1 : Value} (f_a1 : Rd 5 qc w v_a1 a1) {r : List Rec} (H : qL.sh k a0 a1 = some r) :
  Calls Tryz.prog 122 #[v_a0, v_a1] w (Rt (RO 52 5 qc w r)) := by
 unfold qL.sh at H
 refine qg Tryz.func122 rfl (Nat.le_of_ble_eq_true rfl) Tryz.ntmps122 rfl ?_
 refine wr <| lp rfl (xa (.slice none 0 0) rfl) <| nx <| wr <| vC (.plain rfl) rfl (ltb rfl) rfl Tryz.underlying35 Tryz.sizeOf52 Tryz.zeroValue52 rfl rfl rfl (vs := []) rfl (qO rfl) <| fun b1 w2 z3 z4 e5 k6 => lp rfl (xa (.slice (some ⟨b1, 0, none⟩) 0 0) rfl) <| nx <| wr <| lp rfl (xa (.int .i64 0) rfl) <| nx <| wr <| lp rfl (xa (.int .i64 0) rfl) <| nx <| qi ?_
 obtain ⟨z11, L12, C13⟩ := bind_some H
 clear H
 refine  vq (fun s0 sQ wQ => ∃ (x5_14 : List Rec) (v15 : Value), Kp [(5, 8), (9, 103)] s0 sQ ∧ sQ 5 = v15 ∧ Ow 52 5 qc w2.heap.size wQ v15 x5_14 ∧ Ext w2 wQ ∧ z11 = .inr x5_14) ?_ ?_
 ·refine qx <| vc (fun s0 kk sQ wQ => ∃ (x5_7 : List Rec) (v8 : Value) (x6_9 : Int) (x7_10 : Int), Kp [(5, 8), (9, 103)] s0 sQ ∧ sQ 5 = v8 ∧ Ow 52 5 qc w2.heap.size wQ v8 x5_7 ∧ sQ 6 = .int .i64 x6_9 ∧ sQ 7 = .int .i64 x7_10 ∧ Ext w2 wQ ∧ qn (qL.b1 a0 a1) kk (x5_7, x6_9, x7_10) = some z11) k ⟨([] : List Rec), (.slice (some ⟨b1, 0, none⟩) 0 0), 0, 0, kz, rfl, (Ow.zero), rfl, rfl, er, L12⟩ ?_
  rintro k20 s21 w22 ⟨x5_7, v8, x6_9, x7_10, K23, h26, h27, h28, h29, e24, L25⟩
  cases k20 with
  | zero => exact absurd L25 (by simp [qn])
  | succ k20 =>
   obtain ⟨t30, H, S31⟩ := qJ L25
   clear L25
   unfold qL.b1 at H
   refine qi <| wr <| lp rfl (qb h28) <| lp rfl (xm v_a0 (K23 0 rfl)) <| lp rfl (va Tryz.underlying35 rfl (Rd.ext f_a0 (e5.t e24))) <| lp rfl (vW rfl rfl) <| lp rfl (xm (.bool (decide (x6_9 < (a0.length : Int)))) rfl) <| jN 5 [(14, 19)] 18 (.bool ((decide (x6_9 < (a0.length : Int))) || (decide (x7_10 < (a1.length : Int))))) ?_ ?_
   ·rcases ql (decide (x6_9 < (a0.length : Int))) with b31_ | b31_
    ·exact ls rfl rfl rfl (cb b31_) rfl <| ls rfl rfl rfl (cb b31_) rfl <| ls rfl rfl rfl (cb b31_) rfl <| ls rfl rfl rfl (cb b31_) rfl <| lp rfl (qy (b := true) (v := (.bool true)) (cb b31_) rfl) <| nx ⟨(ku1 (ku4 kz rfl) rfl), (J9 b31_), er⟩
    ·exact lg rfl rfl rfl rfl (cb b31_) (qb h29) <| lg rfl rfl rfl rfl (cb b31_) (xm v_a1 (K23 1 rfl)) <| lg rfl rfl rfl rfl (cb b31_) (va Tryz.underlying35 rfl (Rd.ext f_a1 (e5.t e24))) <| lg rfl rfl rfl rfl (cb b31_) (vW rfl rfl) <| lp rfl (qy (b := false) (v := (.bool (decide (x7_10 < (a1.length : Int))))) (cb b31_) rfl) <| nx ⟨(ku1 (ku4 kz rfl) rfl), (JY b31_), er⟩
   intro s37 w33 K34 h35 e36
   refine nx ?_
   rcases qh H with ⟨q38, H⟩ | ⟨q38, H⟩
   ·refine qo (h35.trans (cb q38)) <| qq <| qf <| qx <| qx <| qi ?_
    obtain ⟨c39, H⟩ := qa H
    obtain ⟨c42, H⟩ := qa H
    obtain ⟨c45, H⟩ := qa H
    obtain ⟨c46, H⟩ := qa H
    refine Yc [LEq (.int .i64 x7_10), LEq v_a1, LEq (.int .i64 (a1.length : Int)), LEq (.bool (decide (x7_10 = (a1.length : Int)))), LEq (.bool (decide (x7_10 = (a1.length : Int)))), LIf (!(decide (x7_10 = (a1.length : Int)))) (LEq (.int .i64 x6_9)), LIf (!(decide (x7_10 = (a1.length : Int)))) (LEq v_a0), LIf (!(decide (x7_10 = (a1.length : Int)))) (LEq (.int .i64 (a0.length : Int))), LIf (!(decide (x7_10 = (a1.length : Int)))) (LEq (.bool (decide (x6_9 < (a0.length : Int))))), LIf (!(decide (x7_10 = (a1.length : Int)))) (LEq (.bool (decide (x6_9 < (a0.length : Int))))), LIf (qL.e1 a0 a1 x6_9 x7_10) (LEq v_a0), LIf (qL.e1 a0 a1 x6_9 x7_10) (LEq (.int .i64 x6_9)), LIf (qL.e1 a0 a1 x6_9 x7_10) (yY (qc (gt a0 x6_9))), LIf (qL.e1 a0 a1 x6_9 x7_10) (LAt 1 (qc (gt a0 x6_9))), LIf (qL.e1 a0 a1 x6_9 x7_10) (LEq (S ((gt a0 x6_9).path))), LIf (qL.e1 a0 a1 x6_9 x7_10) (LEq v_a1), LIf (qL.e1 a0 a1 x6_9 x7_10) (LEq (.int .i64 x7_10)), LIf (qL.e1 a0 a1 x6_9 x7_10) (yY (qc (gt a1 x7_10))), LIf (qL.e1 a0 a1 x6_9 x7_10) (LAt 1 (qc (gt a1 x7_10))), LIf (qL.e1 a0 a1 x6_9 x7_10) (LEq (S ((gt a1 x7_10).path))), LIf (qL.e1 a0 a1 x6_9 x7_10) (LEq (.bool (vA (cut 47 ((gt a0 x6_9).path)) (cut 47 ((gt a1 x7_10).path))))), LIf (!(decide (x7_10 = (a1.length : Int)))) (LEq (.bool ((decide (x6_9 < (a0.length : Int))) && (vA (cut 47 ((gt a0 x6_9).path)) (cut 47 ((gt a1 x7_10).path)))))), LEq (.bool (qL.e2 a0 a1 x6_9 x7_10)), LEq (.bool (qL.e2 a0 a1 x6_9 x7_10))] (by kernel_rfl) (by kernel_rfl) ⟨qm, qm, qm, qm, qm, lm, lm, lm, lm, lm, lm, lm, (LIf.mono yY.mono), (LIf.mono LAt.mono), lm, lm, lm, (LIf.mono yY.mono), (LIf.mono LAt.mono), lm, lm, lm, qm, qm, trivial⟩ ⟨?_, ?_, ?_, ?_, ?_, ?_, ?_, ?_, ?_, ?_, ?_, ?_, ?_, ?_, ?_, ?_, ?_, ?_, ?_, ?_, ?_, ?_, ?_, ?_, trivial⟩ ?_
    ·exact fun s x e f d u => lp rfl (xm (.int .i64 x7_10) ((f 7 rfl).trans ((K34 7 rfl).trans h29))) <| se rfl rfl
    ·exact fun s x e f d u => lp rfl (xm v_a1 ((f 1 rfl).trans ((K34 1 rfl).trans (K23 1 rfl)))) <| se rfl rfl
    ·exact fun s x e f d u => lp rfl (va Tryz.underlying35 (d 1 rfl) (Rd.ext f_a1 (((e5.t e24).t e36).t e))) <| se rfl rfl
    ·exact fun s x e f d u => lp rfl (yL (d 0 rfl) (d 2 rfl)) <| se rfl rfl
    ·exact fun s x e f d u => lp rfl (qb (d 3 rfl)) <| se rfl rfl
    ·exact fun s x e f d u => gF rfl rfl rfl rfl (d 4 rfl) rfl fun b t => lt t rfl rfl (xm (.int .i64 x6_9) ((f 6 rfl).trans ((K34 6 rfl).trans h28))) <| sg rfl rfl b rfl
    ·exact fun s x e f d u => gF rfl rfl rfl rfl (d 4 rfl) rfl fun b t => lt t rfl rfl (xm v_a0 ((f 0 rfl).trans ((K34 0 rfl).trans (K23 0 rfl)))) <| sg rfl rfl b rfl
    ·exact fun s x e f d u => gF rfl rfl rfl rfl (d 4 rfl) rfl fun b t => lt t rfl rfl (va Tryz.underlying35 ((d 6 rfl).1 (qV (vX b))) (Rd.ext f_a0 (((e5.t e24).t e36).t e))) <| sg rfl rfl b rfl
    ·exact fun s x e f d u => gF rfl rfl rfl rfl (d 4 rfl) rfl fun b t => lt t rfl rfl (vW ((d 5 rfl).1 (qV (vX b))) ((d 7 rfl).1 (qV (vX b)))) <| sg rfl rfl b rfl
    ·exact fun s x e f d u => gF rfl rfl rfl rfl (d 4 rfl) rfl fun b t => lt t rfl rfl (xm (.bool (decide (x6_9 < (a0.length : Int)))) ((d 8 rfl).1 (qV (vX b)))) <| sg rfl rfl b rfl
    ·exact fun s x e f d u => hT rfl rfl rfl rfl (d 9 rfl) rfl fun b t => lt t rfl rfl (xm v_a0 ((f 0 rfl).trans ((K34 0 rfl).trans (K23 0 rfl)))) <| sg rfl rfl b rfl
    ·exact fun s x e f d u => hT rfl rfl rfl rfl (d 9 rfl) rfl fun b t => lt t rfl rfl (xm (.int .i64 x6_9) ((f 6 rfl).trans ((K34 6 rfl).trans h28))) <| sg rfl rfl b rfl
    ·exact fun s x e f d u => hT rfl rfl rfl rfl (d 9 rfl) rfl fun b t => vk t rfl (ltb rfl) rfl Tryz.underlying35 Tryz.sizeOf52 ((d 10 rfl).1 (vd (qV (vX (QA b))) (QB b))) (Rd.ext f_a0 (((e5.t e24).t e36).t e)) ((d 11 rfl).1 (vd (qV (vX (QA b))) (QB b))) (yl b c39) <| fun p50 h51 => sg rfl rfl b ⟨_, rfl, h51⟩
    ·intro s x e f d u
     refine hT rfl rfl rfl rfl (d 9 rfl) rfl fun b t => ?_
     obtain ⟨p52, h53, h54⟩ := ((d 12 rfl).1 (vd (qV (vX (QA b))) (QB b)))
     exact lt t rfl rfl (qd Tryz.underlying52 rfl Tryz.sizeOf9 rfl h53) <| sg rfl rfl b ⟨_, rfl, h54⟩
    ·intro s x e f d u
     refine hT rfl rfl rfl rfl (d 9 rfl) rfl fun b t => ?_
     obtain ⟨p55, h56, h57⟩ := ((d 13 rfl).1 (vd (qV (vX (QA b))) (QB b)))
     exact lt t rfl rfl (yU Tryz.isAgg9 (j := 1) h57 h56 rfl) <| sg rfl rfl b rfl
    ·exact fun s x e f d u => hT rfl rfl rfl rfl (d 9 rfl) rfl fun b t => lt t rfl rfl (xm v_a1 ((f 1 rfl).trans ((K34 1 rfl).trans (K23 1 rfl)))) <| sg rfl rfl b rfl
    ·exact fun s x e f d u => hT rfl rfl rfl rfl (d 9 rfl) rfl fun b t => lt t rfl rfl (xm (.int .i64 x7_10) ((f 7 rfl).trans ((K34 7 rfl).trans h29))) <| sg rfl rfl b rfl
    ·exact fun s x e f d u => hT rfl rfl rfl rfl (d 9 rfl) rfl fun b t => vk t rfl (ltb rfl) rfl Tryz.underlying35 Tryz.sizeOf52 ((d 15 rfl).1 (vd (qV (vX (QA b))) (QB b))) (Rd.ext f_a1 (((e5.t e24).t e36).t e)) ((d 16 rfl).1 (vd (qV (vX (QA b))) (QB b))) (yl b c42) <| fun p59 h60 => sg rfl rfl b ⟨_, rfl, h60⟩
    ·intro s x e f d u
     refine hT rfl rfl rfl rfl (d 9 rfl) rfl fun b t => ?_
     obtain ⟨p61, h62, h63⟩ := ((d 17 rfl).1 (vd (qV (vX (QA b))) (QB b)))
     exact lt t rfl rfl (qd Tryz.underlying52 rfl Tryz.sizeOf9 rfl h62) <| sg rfl rfl b ⟨_, rfl, h63⟩
    ·intro s x e f d u
     refine hT rfl rfl rfl rfl (d 9 rfl) rfl fun b t => ?_
     obtain ⟨p64, h65, h66⟩ := ((d 18 rfl).1 (vd (qV (vX (QA b))) (QB b)))
     exact lt t rfl rfl (yU Tryz.isAgg9 (j := 1) h66 h65 rfl) <| sg rfl rfl b rfl
    ·exact fun s x e f d u => hT rfl rfl rfl rfl (d 9 rfl) rfl fun b t => yW t rfl (ltb rfl) rfl Tryz.call153 (vM.calls (w := x) (a0 := (gt a0 x6_9).path) (a1 := (gt a1 x7_10).path) (od (yl b c45)) (od (yl b c46))) (vu ((d 14 rfl).1 (vd (qV (vX (QA b))) (QB b))) (vu ((d 19 rfl).1 (vd (qV (vX (QA b))) (QB b))) rfl)) <| fun w69 e70 => sgx rfl rfl b e70 rfl
    ·exact fun s x e f d u => gF rfl rfl rfl rfl (d 4 rfl) rfl fun b t => lt t rfl rfl (Qk ((d 9 rfl).1 (qV (vX b))) rfl fun h => ((d 20 rfl).1 (vd (qV (vX b)) h))) <| sg rfl rfl b rfl
    ·exact fun s x e f d u => lp rfl (YO (d 4 rfl) rfl fun h => ((d 21 rfl).1 (qV h))) <| se rfl rfl
    ·exact fun s x e f d u => lp rfl (qp (d 22 rfl)) <| se rfl rfl
    intro s71 w72 e73 hf74 ha75
    have K76 := Kp.ofD (kp := [(35, 59)]) rfl hf74
    have d77 : s71 35 = (.bool (qL.e2 a0 a1 x6_9 x7_10)) := ha75 23 rfl
    clear ha75 hf74
    refine qf ?_
    rcases qh H with ⟨q78, H⟩ | ⟨q78, H⟩
    ·refine qo (d77.trans (cb q78)) <| qi <| wr <| lp rfl (xm v_a1 ((K76 1 rfl).trans ((K34 1 rfl).trans (K23 1 rfl)))) <| lp rfl (xm v_a0 ((K76 0 rfl).trans ((K34 0 rfl).trans (K23 0 rfl)))) <| lp rfl (xm (.int .i64 x6_9) ((K76 6 rfl).trans ((K34 6 rfl).trans h28))) ?_
     obtain ⟨c79, H⟩ := qa H
     refine vk (.plain rfl) rfl (ltb rfl) rfl Tryz.underlying35 Tryz.sizeOf52 rfl (Rd.ext f_a0 (((e5.t e24).t e36).t e73)) rfl c79 <| fun p80 h81 => lp rfl (qd Tryz.underlying52 rfl Tryz.sizeOf9 rfl rfl) <| lp rfl (yU Tryz.isAgg9 (j := 1) h81 rfl rfl) ?_
     obtain ⟨c82, H⟩ := qa H
     obtain ⟨c83, H⟩ := qa H
     refine lc rfl rfl Tryz.call166 (yI.calls (w := w72) (a0 := a1) (a1 := (gt a0 x6_9).path) (Rd.ext f_a1 (((e5.t e24).t e36).t e73)) (od c82) (od c83)) rfl <| fun w84 e85 => lp rfl (jm rfl) <| nx ?_
     rcases qh H with ⟨q86, H⟩ | ⟨q86, H⟩
     ·refine qo (cb q86) <| qG <| lp rfl (xm v8 ((K76 5 rfl).trans ((K34 5 rfl).trans h26))) <| lp rfl (xm v_a0 ((K76 0 rfl).trans ((K34 0 rfl).trans (K23 0 rfl)))) <| lp rfl (xm (.int .i64 x6_9) ((K76 6 rfl).trans ((K34 6 rfl).trans h28))) ?_
      obtain ⟨c87, H⟩ := qa H
      refine vk (.plain rfl) rfl (ltb rfl) rfl Tryz.underlying35 Tryz.sizeOf52 rfl (Rd.ext f_a0 ((((e5.t e24).t e36).t e73).t e85)) rfl c87 <| fun p88 h89 => lp rfl (qZ Tryz.isAgg52 Tryz.sizeOf52 rfl rfl h89) <| vC (.plain rfl) rfl (ltb rfl) rfl Tryz.underlying35 Tryz.sizeOf52 Tryz.zeroValue52 rfl rfl rfl (vs := [(.agg (qc (gt a0 x6_9)).toArray)]) rfl (qO rfl) <| fun b90 w91 z92 z93 e94 k95 => ?_
      obtain ⟨c96, H⟩ := qa H
      refine vP (enc := qc) (.plain rfl) rfl (ltb rfl) rfl El.t35 rfl rfl (Ow.ext h27 (((e36.t e73).t e85).t e94)) (Ow.rd (Ow.new (xs := [gt a0 x6_9]) (sz := 5) (enc := qc) (base := w84.heap.size) k95 (Nat.le_of_eq z92) rfl (fun _ _ => by rfl) (Nat.le_of_ble_eq_true rfl))) (jJ _) (od c96) (((((e24.t e36).t e73).t e85).t e94)).size <| fun v97 w98 o99 z100 g101 => lp rfl (xa v97 rfl) <| nx <| qG <| lp rfl (xm (.int .i64 x6_9) ((K76 6 rfl).trans ((K34 6 rfl).trans h28))) <| lp rfl (qU rfl rfl) <| lp rfl (xa (.int .i64 (IntKind.wrap .i64 (x6_9 + 1))) rfl) <| qH <| vj <| vj <| qf ?_
      obtain rfl := si H
      exact ⟨_, Nat.lt_succ_self _, x5_7 ++ ([gt a0 x6_9] : List Rec), v97, IntKind.wrap .i64 (x6_9 + 1), x7_10, (ku3 (ku8 (ku8 (Kp.cut (Kp.cut (ku1 (ku4 K23 rfl) rfl) K34 rfl) K76 rfl) rfl) rfl) rfl), rfl, o99, rfl, ((K76 7 rfl).trans ((K34 7 rfl).trans h29)), (g101 _ ((((e24.t e36).t e73).t e85).t e94)), S31⟩
     ·refine qj (cb q86) <| qq <| qf <| qG <| lp rfl (xm (.int .i64 x6_9) ((K76 6 rfl).trans ((K34 6 rfl).trans h28))) <| lp rfl (qU rfl rfl) <| lp rfl (xa (.int .i64 (IntKind.wrap .i64 (x6_9 + 1))) rfl) <| qH <| vj <| vj <| qf ?_
      obtain rfl := si H
      exact ⟨_, Nat.lt_succ_self _, x5_7, v8, IntKind.wrap .i64 (x6_9 + 1), x7_10, (ku3 (ku8 (Kp.cut (Kp.cut (ku1 (ku4 K23 rfl) rfl) K34 rfl) K76 rfl) rfl) rfl), ((K76 5 rfl).trans ((K34 5 rfl).trans h26)), (Ow.ext h27 ((e36.t e73).t e85)), rfl, ((K76 7 rfl).trans ((K34 7 rfl).trans h29)), (((e24.t e36).t e73).t e85), S31⟩
    ·refine qj (d77.trans (cb q78)) <| qi ?_
     obtain ⟨c102, H⟩ := qa H
     obtain ⟨c105, H⟩ := qa H
     obtain ⟨c108, H⟩ := qa H
     obtain ⟨c109, H⟩ := qa H
     refine Yc [LEq (.int .i64 x6_9), LEq v_a0, LEq (.int .i64 (a0.length : Int)), LEq (.bool (decide (x6_9 = (a0.length : Int)))), LEq (.bool (decide (x6_9 = (a0.length : Int)))), LIf (!(decide (x6_9 = (a0.length : Int)))) (LEq v_a1), LIf (!(decide (x6_9 = (a0.length : Int)))) (LEq (.int .i64 x7_10)), LIf (!(decide (x6_9 = (a0.length : Int)))) (yY (qc (gt a1 x7_10))), LIf (!(decide (x6_9 = (a0.length : Int)))) (LAt 1 (qc (gt a1 x7_10))), LIf (!(decide (x6_9 = (a0.length : Int)))) (LEq (S ((gt a1 x7_10).path))), LIf (!(decide (x6_9 = (a0.length : Int)))) (LEq v_a0), LIf (!(decide (x6_9 = (a0.length : Int)))) (LEq (.int .i64 x6_9)), LIf (!(decide (x6_9 = (a0.length : Int)))) (yY (qc (gt a0 x6_9))), LIf (!(decide (x6_9 = (a0.length : Int)))) (LAt 1 (qc (gt a0 x6_9))), LIf (!(decide (x6_9 = (a0.length : Int)))) (LEq (S ((gt a0 x6_9).path))), LIf (!(decide (x6_9 = (a0.length : Int)))) (LEq (.bool (vA (cut 47 ((gt a1 x7_10).path)) (cut 47 ((gt a0 x6_9).path))))), LEq (.bool ((decide (x6_9 = (a0.length : Int))) || (vA (cut 47 ((gt a1 x7_10).path)) (cut 47 ((gt a0 x6_9).path))))), LEq (.bool ((decide (x6_9 = (a0.length : Int))) || (vA (cut 47 ((gt a1 x7_10).path)) (cut 47 ((gt a0 x6_9).path)))))] (by kernel_rfl) (by kernel_rfl) ⟨qm, qm, qm, qm, qm, lm, lm, (LIf.mono yY.mono), (LIf.mono LAt.mono), lm, lm, lm, (LIf.mono yY.mono), (LIf.mono LAt.mono), lm, lm, qm, qm, trivial⟩ ⟨?_, ?_, ?_, ?_, ?_, ?_, ?_, ?_, ?_, ?_, ?_, ?_, ?_, ?_, ?_, ?_, ?_, ?_, trivial⟩ ?_
     ·exact fun s x e f d u => lp rfl (xm (.int .i64 x6_9) ((f 6 rfl).trans ((K76 6 rfl).trans ((K34 6 rfl).trans h28)))) <| se rfl rfl
     ·exact fun s x e f d u => lp rfl (xm v_a0 ((f 0 rfl).trans ((K76 0 rfl).trans ((K34 0 rfl).trans (K23 0 rfl))))) <| se rfl rfl
     ·exact fun s x e f d u => lp rfl (va Tryz.underlying35 (d 1 rfl) (Rd.ext f_a0 ((((e5.t e24).t e36).t e73).t e))) <| se rfl rfl
     ·exact fun s x e f d u => lp rfl (yL (d 0 rfl) (d 2 rfl)) <| se rfl rfl
     ·exact fun s x e f d u => lp rfl (qb (d 3 rfl)) <| se rfl rfl
     ·exact fun s x e f d u => gF rfl rfl rfl rfl (d 4 rfl) rfl fun b t => lt t rfl rfl (xm v_a1 ((f 1 rfl).trans ((K76 1 rfl).trans ((K34 1 rfl).trans (K23 1 rfl))))) <| sg rfl rfl b rfl
     ·exact fun s x e f d u => gF rfl rfl rfl rfl (d 4 rfl) rfl fun b t => lt t rfl rfl (xm (.int .i64 x7_10) ((f 7 rfl).trans ((K76 7 rfl).trans ((K34 7 rfl).trans h29)))) <| sg rfl rfl b rfl
     ·exact fun s x e f d u => gF rfl rfl rfl rfl (d 4 rfl) rfl fun b t => vk t rfl (ltb rfl) rfl Tryz.underlying35 Tryz.sizeOf52 ((d 5 rfl).1 (qV (vX b))) (Rd.ext f_a1 ((((e5.t e24).t e36).t e73).t e)) ((d 6 rfl).1 (qV (vX b))) (yl b c102) <| fun p113 h114 => sg rfl rfl b ⟨_, rfl, h114⟩
     ·intro s x e f d u
      refine gF rfl rfl rfl rfl (d 4 rfl) rfl fun b t => ?_
      obtain ⟨p115, h116, h117⟩ := ((d 7 rfl).1 (qV (vX b)))
      exact lt t rfl rfl (qd Tryz.underlying52 rfl Tryz.sizeOf9 rfl h116) <| sg rfl rfl b ⟨_, rfl, h117⟩
     ·intro s x e f d u
      refine gF rfl rfl rfl rfl (d 4 rfl) rfl fun b t => ?_
      obtain ⟨p118, h119, h120⟩ := ((d 8 rfl).1 (qV (vX b)))
      exact lt t rfl rfl (yU Tryz.isAgg9 (j := 1) h120 h119 rfl) <| sg rfl rfl b rfl
     ·exact fun s x e f d u => gF rfl rfl rfl rfl (d 4 rfl) rfl fun b t => lt t rfl rfl (xm v_a0 ((f 0 rfl).trans ((K76 0 rfl).trans ((K34 0 rfl).trans (K23 0 rfl))))) <| sg rfl rfl b rfl
     ·exact fun s x e f d u => gF rfl rfl rfl rfl (d 4 rfl) rfl fun b t => lt t rfl rfl (xm (.int .i64 x6_9) ((f 6 rfl).trans ((K76 6 rfl).trans ((K34 6 rfl).trans h28)))) <| sg rfl rfl b rfl
     ·exact fun s x e f d u => gF rfl rfl rfl rfl (d 4 rfl) rfl fun b t => vk t rfl (ltb rfl) rfl Tryz.underlying35 Tryz.sizeOf52 ((d 10 rfl).1 (qV (vX b))) (Rd.ext f_a0 ((((e5.t e24).t e36).t e73).t e)) ((d 11 rfl).1 (qV (vX b))) (yl b c105) <| fun p122 h123 => sg rfl rfl b ⟨_, rfl, h123⟩
     ·intro s x e f d u
      refine gF rfl rfl rfl rfl (d 4 rfl) rfl fun b t => ?_
      obtain ⟨p124, h125, h126⟩ := ((d 12 rfl).1 (qV (vX b)))
      exact lt t rfl rfl (qd Tryz.underlying52 rfl Tryz.sizeOf9 rfl h125) <| sg rfl rfl b ⟨_, rfl, h126⟩
     ·intro s x e f d u
      refine gF rfl rfl rfl rfl (d 4 rfl) rfl fun b t => ?_
      obtain ⟨p127, h128, h129⟩ := ((d 13 rfl).1 (qV (vX b)))
      exact lt t rfl rfl (yU Tryz.isAgg9 (j := 1) h129 h128 rfl) <| sg rfl rfl b rfl
     ·exact fun s x e f d u => gF rfl rfl rfl rfl (d 4 rfl) rfl fun b t => yW t rfl (ltb rfl) rfl Tryz.call153 (vM.calls (w := x) (a0 := (gt a1 x7_10).path) (a1 := (gt a0 x6_9).path) (od (yl b c108)) (od (yl b c109))) (vu ((d 9 rfl).1 (qV (vX b))) (vu ((d 14 rfl).1 (qV (vX b))) rfl)) <| fun w132 e133 => sgx rfl rfl b e133 rfl
     ·exact fun s x e f d u => lp rfl (YO (d 4 rfl) rfl fun h => ((d 15 rfl).1 (qV h))) <| se rfl rfl
     ·exact fun s x e f d u => lp rfl (qp (d 16 rfl)) <| se rfl rfl
     intro s134 w135 e136 hf137 ha138
     have K139 := Kp.ofD (kp := [(76, 94)]) rfl hf137
     have d140 : s134 76 = (.bool ((decide (x6_9 = (a0.length : Int))) || (vA (cut 47 ((gt a1 x7_10).path)) (cut 47 ((gt a0 x6_9).path))))) := ha138 17 rfl
     clear ha138 hf137
     refine qf ?_
     rcases qh H with ⟨q141, H⟩ | ⟨q141, H⟩
     ·refine qo (d140.trans (cb q141)) <| wr <| lp rfl (xm v8 ((K139 5 rfl).trans ((K76 5 rfl).trans ((K34 5 rfl).trans h26)))) <| lp rfl (xm v_a1 ((K139 1 rfl).trans ((K76 1 rfl).trans ((K34 1 rfl).trans (K23 1 rfl))))) <| lp rfl (xm (.int .i64 x7_10) ((K139 7 rfl).trans ((K76 7 rfl).trans ((K34 7 rfl).trans h29)))) ?_
      obtain ⟨c142, H⟩ := qa H
      refine vk (.plain rfl) rfl (ltb rfl) rfl Tryz.underlying35 Tryz.sizeOf52 rfl (Rd.ext f_a1 ((((e5.t e24).t e36).t e73).t e136)) rfl c142 <| fun p143 h144 => lp rfl (qZ Tryz.isAgg52 Tryz.sizeOf52 rfl rfl h144) <| vC (.plain rfl) rfl (ltb rfl) rfl Tryz.underlying35 Tryz.sizeOf52 Tryz.zeroValue52 rfl rfl rfl (vs := [(.agg (qc (gt a1 x7_10)).toArray)]) rfl (qO rfl) <| fun b145 w146 z147 z148 e149 k150 => ?_
      obtain ⟨c151, H⟩ := qa H
      refine vP (enc := qc) (.plain rfl) rfl (ltb rfl) rfl El.t35 rfl rfl (Ow.ext h27 (((e36.t e73).t e136).t e149)) (Ow.rd (Ow.new (xs := [gt a1 x7_10]) (sz := 5) (enc := qc) (base := w135.heap.size) k150 (Nat.le_of_eq z147) rfl (fun _ _ => by rfl) (Nat.le_of_ble_eq_true rfl))) (jJ _) (od c151) (((((e24.t e36).t e73).t e136).t e149)).size <| fun v152 w153 o154 z155 g156 => lp rfl (xa v152 rfl) <| nx <| qG <| lp rfl (xm (.int .i64 x7_10) ((K139 7 rfl).trans ((K76 7 rfl).trans ((K34 7 rfl).trans h29)))) <| lp rfl (qU rfl rfl) <| lp rfl (xa (.int .i64 (IntKind.wrap .i64 (x7_10 + 1))) rfl) <| qH <| vj <| vj <| qf ?_
      obtain rfl := si H
      exact ⟨_, Nat.lt_succ_self _, x5_7 ++ ([gt a1 x7_10] : List Rec), v152, x6_9, IntKind.wrap .i64 (x7_10 + 1), (ku3 (ku8 (Kp.cut (Kp.cut (Kp.cut (ku1 (ku4 K23 rfl) rfl) K34 rfl) K76 rfl) K139 rfl) rfl) rfl), rfl, o154, ((K139 6 rfl).trans ((K76 6 rfl).trans ((K34 6 rfl).trans h28))), rfl, (g156 _ ((((e24.t e36).t e73).t e136).t e149)), S31⟩
     ·refine qj (d140.trans (cb q141)) <| qi ?_
      obtain ⟨c157, H⟩ := qa H
      obtain ⟨c160, H⟩ := qa H
      obtain ⟨c171, H⟩ := qa H
      refine JQ (B := w2.heap.size) [LEq v8, LEq v_a0, LEq (.int .i64 x6_9), JN w135 (qc (gt a0 x6_9)), LEq (.agg (qc (gt a0 x6_9)).toArray), LEq v_a1, LEq (.int .i64 x7_10), JN w135 (qc (gt a1 x7_10)), LEq (.agg (qc (gt a1 x7_10)).toArray), LEq (.agg (qc (y0 (gt a0 x6_9) (gt a1 x7_10))).toArray), LRd 5 qc ([(y0 (gt a0 x6_9) (gt a1 x7_10))] : List Rec), LOw 52 5 qc w2.heap.size (x5_7 ++ ([(y0 (gt a0 x6_9) (gt a1 x7_10))] : List Rec)), LOw 52 5 qc w2.heap.size (x5_7 ++ ([(y0 (gt a0 x6_9) (gt a1 x7_10))] : List Rec))] [⟨true, true, true, false, []⟩, ⟨true, true, true, false, []⟩, ⟨true, true, true, false, []⟩, ⟨true, true, true, false, [1, 2]⟩, ⟨true, true, true, false, [3]⟩, ⟨true, true, true, false, []⟩, ⟨true, true, true, false, []⟩, ⟨true, true, true, false, [5, 6]⟩, ⟨true, true, true, false, [7]⟩, ⟨true, true, true, false, [4, 8]⟩, ⟨true, false, true, false, [9]⟩, ⟨false, false, true, false, [0, 10]⟩, ⟨true, false, false, true, [11]⟩] [(11, 0, []), (11, 1, [9, 4, 3]), (11, 2, [9, 4, 3]), (11, 3, [9, 4]), (11, 4, [9]), (11, 5, [9, 8, 7]), (11, 6, [9, 8, 7]), (11, 7, [9, 8]), (11, 8, [9]), (11, 9, []), (11, 10, []), (12, 11, [])] (by kernel_rfl) (by kernel_rfl) (((e24.t e36).t e73).t e136).size ⟨⟨LEq.rig.mono, fun _ => LEq.rig⟩, ⟨LEq.rig.mono, fun _ => LEq.rig⟩, ⟨LEq.rig.mono, fun _ => LEq.rig⟩, ⟨JN.rig.mono, fun _ => JN.rig⟩, ⟨LEq.rig.mono, fun _ => LEq.rig⟩, ⟨LEq.rig.mono, fun _ => LEq.rig⟩, ⟨LEq.rig.mono, fun _ => LEq.rig⟩, ⟨JN.rig.mono, fun _ => JN.rig⟩, ⟨LEq.rig.mono, fun _ => LEq.rig⟩, ⟨LEq.rig.mono, fun _ => LEq.rig⟩, ⟨LRd.mono, noR⟩, ⟨LOw.mono, noR⟩, ⟨LOw.mono, noR⟩, trivial⟩ ⟨?_, ?_, ?_, ?_, ?_, ?_, ?_, ?_, ?_, ?_, ?_, ?_, ?_, trivial⟩ ?_
      ·intro s177 w178 hb179 hx180 hf181 hd182 hu183
       have e184 : Ext w135 w178 := hx180 rfl
       exact lp rfl (xm v8 ((hu183 12 rfl).trans ((K139 5 rfl).trans ((K76 5 rfl).trans ((K34 5 rfl).trans h26))))) <| qH <| yS rfl rfl rfl er rfl
      ·intro s185 w186 hb187 hx188 hf189 hd190 hu191
       have e192 : Ext w135 w186 := hx188 rfl
       exact lp rfl (xm v_a0 ((hf189 0 rfl).trans ((K139 0 rfl).trans ((K76 0 rfl).trans ((K34 0 rfl).trans (K23 0 rfl)))))) <| qH <| yS rfl rfl rfl er rfl
      ·intro s193 w194 hb195 hx196 hf197 hd198 hu199
       have e200 : Ext w135 w194 := hx196 rfl
       exact lp rfl (xm (.int .i64 x6_9) ((hf197 6 rfl).trans ((K139 6 rfl).trans ((K76 6 rfl).trans ((K34 6 rfl).trans h28))))) <| qH <| yS rfl rfl rfl er rfl
      ·intro s201 w202 hb203 hx204 hf205 hd206 hu207
       have e208 : Ext w135 w202 := hx204 rfl
       have d209 : s201 20 = v_a0 := (hd206 1 rfl)
       have d210 : s201 21 = (.int .i64 x6_9) := (hd206 2 rfl)
       have c211 := c157
       exact vk (.plain rfl) rfl (ltb rfl) rfl Tryz.underlying35 Tryz.sizeOf52 d209 (Rd.ext f_a0 ((((e5.t e24).t e36).t e73).t e136)) d210 c211 <| fun p212 h213 => qH <| yS rfl rfl rfl er ⟨_, rfl, h213⟩
      ·intro s214 w215 hb216 hx217 hf218 hd219 hu220
       have e221 : Ext w135 w215 := hx217 rfl
       obtain ⟨p222, h223, h224⟩ := (hd219 3 rfl)
       exact lp rfl (qZ Tryz.isAgg52 Tryz.sizeOf52 rfl h223 (At.ext h224 e221)) <| qH <| yS rfl rfl rfl er rfl
      ·intro s225 w226 hb227 hx228 hf229 hd230 hu231
       have e232 : Ext w135 w226 := hx228 rfl
       exact lp rfl (xm v_a1 ((hf229 1 rfl).trans ((K139 1 rfl).trans ((K76 1 rfl).trans ((K34 1 rfl).trans (K23 1 rfl)))))) <| qH <| yS rfl rfl rfl er rfl
      ·intro s233 w234 hb235 hx236 hf237 hd238 hu239
       have e240 : Ext w135 w234 := hx236 rfl
       exact lp rfl (xm (.int .i64 x7_10) ((hf237 7 rfl).trans ((K139 7 rfl).trans ((K76 7 rfl).trans ((K34 7 rfl).trans h29))))) <| qH <| yS rfl rfl rfl er rfl
      ·intro s241 w242 hb243 hx244 hf245 hd246 hu247
       have e248 : Ext w135 w242 := hx244 rfl
       have d249 : s241 24 = v_a1 := (hd246 5 rfl)
       have d250 : s241 25 = (.int .i64 x7_10) := (hd246 6 rfl)
       have c251 := c160
       exact vk (.plain rfl) rfl (ltb rfl) rfl Tryz.underlying35 Tryz.sizeOf52 d249 (Rd.ext f_a1 ((((e5.t e24).t e36).t e73).t e136)) d250 c251 <| fun p252 h253 => qH <| yS rfl rfl rfl er ⟨_, rfl, h253⟩
      ·intro s254 w255 hb256 hx257 hf258 hd259 hu260
       have e261 : Ext w135 w255 := hx257 rfl
       obtain ⟨p262, h263, h264⟩ := (hd259 7 rfl)
       exact lp rfl (qZ Tryz.isAgg52 Tryz.sizeOf52 rfl h263 (At.ext h264 e261)) <| qH <| yS rfl rfl rfl er rfl
      ·intro s265 w266 hb267 hx268 hf269 hd270 hu271
       have e272 : Ext w135 w266 := hx268 rfl
       have d273 : s265 23 = (.agg (qc (gt a0 x6_9)).toArray) := (hd270 4 rfl)
       have d274 : s265 27 = (.agg (qc (gt a1 x7_10)).toArray) := (hd270 8 rfl)
       exact lc rfl rfl Tryz.call183 (Qx.calls (w := w266) (a0 := gt a0 x6_9) (a1 := gt a1 x7_10)) (vu d273 (vu d274 rfl)) <| fun w275 e276 => qH <| yS rfl rfl rfl e276 rfl
      ·intro s277 w278 hb279 hx280 hf281 hd282 hu283
       have e284 : Ext w135 w278 := hx280 rfl
       have d285 : s277 28 = (.agg (qc (y0 (gt a0 x6_9) (gt a1 x7_10))).toArray) := (hd282 9 rfl)
       exact vC (.plain rfl) rfl (ltb rfl) rfl Tryz.underlying35 Tryz.sizeOf52 Tryz.zeroValue52 rfl rfl rfl (vs := [(.agg (qc (y0 (gt a0 x6_9) (gt a1 x7_10))).toArray)]) (vu d285 rfl) (qO rfl) <| fun b286 w287 z288 z289 e290 k291 => qH <| yS rfl rfl rfl e290 (Ow.rd (Ow.new (xs := [(y0 (gt a0 x6_9) (gt a1 x7_10))]) (sz := 5) (enc := qc) (base := w278.heap.size) k291 (Nat.le_of_eq z288) rfl (fun _ _ => by rfl) (Nat.le_of_ble_eq_true rfl)))
      ·intro s292 w293 hb294 hx295 hf296 hd297 hu298
       have e299 : Ext w135 w293 := hx295 rfl
       have d300 : s292 19 = v8 := (hd297 0 rfl)
       have d301 : Rd 5 qc w293 (s292 29) ([(y0 (gt a0 x6_9) (gt a1 x7_10))] : List Rec) := (hd297 10 rfl)
       have c302 := c171
       exact vP (enc := qc) (.plain rfl) rfl (ltb rfl) rfl El.t35 d300 rfl (Ow.ext h27 (((e36.t e73).t e136).t e299)) d301 (jJ _) (od c302) (((((e24.t e36).t e73).t e136).t e299)).size <| fun v303 w304 o305 z306 g307 => qH <| X2 rfl rfl rfl (g307 _ (Below.refl _ _)) o305
      ·intro s308 w309 hb310 hx311 hf312 hd313 hu314
       have e315 : Ext w2 w309 := Below.trans (((e24.t e36).t e73).t e136) hb310
       have d316 : Ow 52 5 qc w2.heap.size w309 (s308 30) (x5_7 ++ ([(y0 (gt a0 x6_9) (gt a1 x7_10))] : List Rec)) := (hd313 11 rfl)
       exact lp rfl (xa (s308 30) rfl) <| qH <| yS rfl rfl rfl er d316
      intro s317 w318 hb319 hf321 ha322
      have K323 := Kp.ofD (kp := [(5, 6), (19, 31)]) rfl hf321
      have e320 : Ext w2 w318 := Below.trans (((e24.t e36).t e73).t e136) hb319
      have d324 : Ow 52 5 qc w2.heap.size w318 (s317 5) (x5_7 ++ ([(y0 (gt a0 x6_9) (gt a1 x7_10))] : List Rec)) := ha322 12 rfl rfl
      clear ha322 hf321
      refine qf <| wr <| lp rfl (xm (.int .i64 x6_9) ((K323 6 rfl).trans ((K139 6 rfl).trans ((K76 6 rfl).trans ((K34 6 rfl).trans h28))))) <| lp rfl (qU rfl rfl) <| lp rfl (xa (.int .i64 (IntKind.wrap .i64 (x6_9 + 1))) rfl) <| nx <| qG <| lp rfl (xm (.int .i64 x7_10) ((K323 7 rfl).trans ((K139 7 rfl).trans ((K76 7 rfl).trans ((K34 7 rfl).trans h29))))) <| lp rfl (qU rfl rfl) <| lp rfl (xa (.int .i64 (IntKind.wrap .i64 (x7_10 + 1))) rfl) <| qH <| vj <| vj <| qf ?_
      obtain rfl := si H
      exact ⟨_, Nat.lt_succ_self _, x5_7 ++ ([(y0 (gt a0 x6_9) (gt a1 x7_10))] : List Rec), (s317 5), IntKind.wrap .i64 (x6_9 + 1), IntKind.wrap .i64 (x7_10 + 1), (ku2 (ku4 (Kp.cut (Kp.cut (Kp.cut (Kp.cut (ku1 (ku4 K23 rfl) rfl) K34 rfl) K76 rfl) K139 rfl) K323 rfl) rfl) rfl), rfl, d324, rfl, rfl, e320, S31⟩
   ·refine qj (h35.trans (cb q38)) <| vt <| qN <| qN <| yu <| qf ?_
    obtain rfl := si H
    obtain rfl := si S31
    exact ⟨x5_7, v8, (Kp.cut (ku1 (ku4 K23 rfl) rfl) K34 rfl), ((K34 5 rfl).trans h26), (Ow.ext h27 e36), (e24.t e36), rfl⟩
 ·rintro s17 w16 ⟨x5_14, v15, K18, h325, h326, e19, y327⟩
  rw [y327] at C13
  have H := C13
  replace H : _ = some _ := H
  refine qf <| wr <| lp rfl (qb h325) ?_
  obtain ⟨c328, H⟩ := qa H
  obtain ⟨c329, H⟩ := qa H
  refine vE (.plain rfl) rfl (ltb rfl) rfl Tryz.call76 (yt.calls (w := w16) (a0 := x5_14) (Ow.rd h326) (od c328) (od c329)) rfl <| fun v332 w330 e331 o333 => lp rfl (xa v332 rfl) <| nx <| qr <| qu ?_
  obtain rfl := si H
  exact jI rfl ((e5.t e19).t e331) o333 ((e5.t e19)).size
theorem qL.calls {w : World} {a0 : List Rec} {a1 : List Rec} {v_a0 : Value} (f_a0 : Rd 5 qc w v_a0 a0) {v_a1 : Value} (f_a1 : Rd 5 qc w v_a1 a1) (h0 : a0.length ≤ 500000) (h1 : a1.length ≤ 500000) (h2 : yA a0 = true) (h3 : yA a1 = true) :
  Calls Tryz.prog 122 #[v_a0, v_a1] w (Rt (RO 52 5 qc w (jF a0 a1))) := by
 obtain ⟨k, h⟩ := qL.eq a0 a1 h0 h1 h2 h3
 exact qL.walk f_a0 f_a1 h
/-! impl.squash -/
abbrev qK.e1 (a0 : List Rec) (a1 : List Rec) (x17_22 : Int) := (gt a1 (qB a1 (gt (vb ([a0, a1] : List (List Rec))) x17_22)))
theorem qK.walk {k : Nat} {w : World} {a0 : List Rec} {a1 : List Rec} (gv : GV 0 w) {v_a0 : Value} (f_a0 : Rd 5 qc w v_a0 a0) {v_a1 : Value} (f_a1 : Rd 5 qc w v_a1 a1) {r : List Rec} (H : qK.sh k a0 a1 = some r) :
  Calls Tryz.prog 180 #[v_a0, v_a1] w (Rt (RO 52 5 qc w r)) := by
 unfold qK.sh at H
 refine qg Tryz.func180 rfl (Nat.le_of_ble_eq_true rfl) Tryz.ntmps180 rfl ?_
 refine wr <| lp rfl (xa (.slice none 0 0) rfl) <| nx <| wr <| vC (.plain rfl) rfl (ltb rfl) rfl Tryz.underlying35 Tryz.sizeOf52 Tryz.zeroValue52 rfl rfl rfl (vs := []) rfl (qO rfl) <| fun b1 w2 z3 z4 e5 k6 => lp rfl (xa (.slice (some ⟨b1, 0, none⟩) 0 0) rfl) <| nx <| qi <| wr <| lp rfl (xm v_a0 rfl) <| lp rfl (xm v_a1 rfl) <| vC (.plain rfl) rfl (ltb rfl) rfl Tryz.underlying23 Tryz.sizeOf35 Tryz.zeroValue35 rfl rfl rfl (vs := [v_a0, v_a1]) rfl (by simp; exact ⟨(Rd.one (Rd.ext f_a0 e5)), (Rd.one (Rd.ext f_a1 e5))⟩) <| fun b7 w8 z9 z10 e11 k12 => ?_
 obtain ⟨c13, H⟩ := qa H
 obtain ⟨c14, H⟩ := qa H
 obtain ⟨c15, H⟩ := qa H
 refine vE (.plain rfl) rfl (ltb rfl) rfl Tryz.call79 (vo.calls (w := w8) (a0 := ([a0, a1] : List (List Rec))) (GV.ext gv (e5.t e11)) (Rd2.new (vs := [v_a0, v_a1]) k12 ⟨(Rd.ext f_a0 (e5.t e11)), (Rd.ext f_a1 (e5.t e11)), trivial⟩ (Nat.le_of_ble_eq_true rfl)) (od c13) (od c14) (od c15)) rfl <| fun v18 w16 e17 o19 => lp rfl (va Tryz.underlying44 rfl (Ow.rd o19)) <| lp rfl (xm (.int .i64 0) rfl) <| nx ?_
 obtain ⟨z23, L24, C25⟩ := bind_some H
 clear H
 refine  vq (fun s0 sQ wQ => ∃ (x5_26 : List Rec) (v27 : Value), Kp [(5, 6), (7, 11), (17, 66)] s0 sQ ∧ sQ 5 = v27 ∧ Ow 52 5 qc w16.heap.size wQ v27 x5_26 ∧ Ext w16 wQ ∧ z23 = .inr x5_26) ?_ ?_
 ·refine qx <| vc (fun s0 kk sQ wQ => ∃ (x5_20 : List Rec) (v21 : Value) (x17_22 : Int), Kp [(5, 6), (7, 11), (17, 66)] s0 sQ ∧ sQ 5 = v21 ∧ Ow 52 5 qc w16.heap.size wQ v21 x5_20 ∧ sQ 17 = .int .i64 x17_22 ∧ Ext w16 wQ ∧ qn (qK.b1 a0 a1) kk (x5_20, x17_22) = some z23) k ⟨([] : List Rec), (.slice (some ⟨b1, 0, none⟩) 0 0), 0, kz, rfl, (Ow.zero), rfl, er, L24⟩ ?_
  rintro k32 s33 w34 ⟨x5_20, v21, x17_22, K35, h38, h39, h40, e36, L37⟩
  cases k32 with
  | zero => exact absurd L37 (by simp [qn])
  | succ k32 =>
   obtain ⟨t41, H, S42⟩ := qJ L37
   clear L37
   unfold qK.b1 at H
   refine wr <| lp rfl (vW h40 (K35 16 rfl)) <| nx <| qi ?_
   rcases qh H with ⟨q43, H⟩ | ⟨q43, H⟩
   ·refine qo (cb q43) <| qq <| qf <| qi <| qx <| wr ?_
    obtain ⟨c44, H⟩ := qa H
    refine vk (.plain rfl) rfl (ltb rfl) rfl Tryz.underlying44 Tryz.sizeOf9 (K35 15 rfl) (Ow.rd (Ow.ext o19 e36)) h40 c44 <| fun p45 h46 => lp rfl (vy Tryz.isAgg9 rfl h46 rfl) <| lp rfl (xa (S (gt (vb ([a0, a1] : List (List Rec))) x17_22)) rfl) <| nx <| wr <| lp rfl (xm v_a0 (K35 0 rfl)) <| lp rfl (xm (S (gt (vb ([a0, a1] : List (List Rec))) x17_22)) rfl) ?_
    obtain ⟨c47, H⟩ := qa H
    refine lc rfl rfl Tryz.call80 (QE.calls (w := w34) (a0 := a0) (a1 := gt (vb ([a0, a1] : List (List Rec))) x17_22) (Rd.ext f_a0 (((e5.t e11).t e17).t e36)) (od c47)) rfl <| fun w48 e49 => lp rfl (xm v_a1 (K35 1 rfl)) <| lp rfl (xm (S (gt (vb ([a0, a1] : List (List Rec))) x17_22)) rfl) ?_
    obtain ⟨c50, H⟩ := qa H
    refine lc rfl rfl Tryz.call80 (QE.calls (w := w48) (a0 := a1) (a1 := gt (vb ([a0, a1] : List (List Rec))) x17_22) (Rd.ext f_a1 ((((e5.t e11).t e17).t e36).t e49)) (od c50)) rfl <| fun w51 e52 => lp rfl (qp rfl) <| lp rfl (qp rfl) <| nx <| qx <| wr <| lp rfl (qb rfl) <| lp rfl (VS rfl rfl) <| lp rfl (qp rfl) <| nx ?_
    rcases qh H with ⟨q53, H⟩ | ⟨q53, H⟩
    ·refine qo (cb q53) <| wr <| lp rfl (xm v_a1 (K35 1 rfl)) <| lp rfl (qb rfl) ?_
     obtain ⟨c54, H⟩ := qa H
     refine vk (.plain rfl) rfl (ltb rfl) rfl Tryz.underlying35 Tryz.sizeOf52 rfl (Rd.ext f_a1 (((((e5.t e11).t e17).t e36).t e49).t e52)) rfl c54 <| fun p55 h56 => lp rfl (qZ Tryz.isAgg52 Tryz.sizeOf52 rfl rfl h56) <| Vf (.plain rfl) rfl (ltb rfl) rfl Tryz.zeroValue52 <| fun b57 w58 z59 z60 e61 k62 => jK (.plain rfl) rfl rfl Tryz.sizeOf52 rfl rfl rfl rfl rfl k62 <| fun w63 h64 k65 => nx <| qi <| wr <| lp rfl (qb rfl) <| lp rfl (VS rfl rfl) <| lp rfl (qb rfl) <| jN 4 [(37, 41)] 40 (.bool ((decide (0 ≤ (qB a0 (gt (vb ([a0, a1] : List (List Rec))) x17_22)))) && (decide (((qK.e1 a0 a1 x17_22).kind) = 3)))) ?_ ?_
     ·rcases ql (decide (0 ≤ (qB a0 (gt (vb ([a0, a1] : List (List Rec))) x17_22)))) with b65_ | b65_
      ·exact lg rfl rfl rfl rfl (cb b65_) (qd Tryz.underlying52 rfl Tryz.sizeOf3 rfl rfl) <| lg rfl rfl rfl rfl (cb b65_) (qA Tryz.isAgg3 k65 rfl rfl) <| lg rfl rfl rfl rfl (cb b65_) (yL rfl rfl) <| lp rfl (qy (b := true) (v := (.bool (decide (((qK.e1 a0 a1 x17_22).kind) = 3)))) (cb b65_) rfl) <| nx ⟨(ku4 kz rfl), (Vm b65_), er⟩
      ·exact ls rfl rfl rfl (cb b65_) rfl <| ls rfl rfl rfl (cb b65_) rfl <| ls rfl rfl rfl (cb b65_) rfl <| lp rfl (qy (b := false) (v := (.bool false)) (cb b65_) rfl) <| nx ⟨(ku4 kz rfl), (Vn b65_), er⟩
     intro s71 w67 K68 h69 e70
     refine lp rfl (qb h69) ?_
     obtain ⟨z73, x74, H⟩ := bind_some H
     refine ja 6 [(42, 48)] 47 (fun q => q = z73) ?_ ?_
     ·rcases qh x74 with ⟨b71_, H⟩ | ⟨b71_, H⟩
      ·refine lg rfl rfl rfl rfl (cb b71_) (xm v_a0 ((K68 0 rfl).trans (K35 0 rfl))) <| lg rfl rfl rfl rfl (cb b71_) (qb (K68 8 rfl)) ?_
       obtain ⟨c73, H⟩ := qa H
       refine vk (tg rfl rfl rfl (cb b71_)) rfl (ltb rfl) rfl Tryz.underlying35 Tryz.sizeOf52 rfl (Rd.ext f_a0 (((((((e5.t e11).t e17).t e36).t e49).t e52).t (Below.trans e61 (Wr.below h64 (Nat.le_of_eq z59)))).t e70)) rfl c73 <| fun p74 h75 => lg rfl rfl rfl rfl (cb b71_) (qZ Tryz.isAgg52 Tryz.sizeOf52 rfl rfl h75) <| yW (tg rfl rfl rfl (cb b71_)) rfl (ltb rfl) rfl Tryz.call160 (QW.calls (w := w67) (a0 := gt a0 (qB a0 (gt (vb ([a0, a1] : List (List Rec))) x17_22)))) rfl <| fun w76 e77 => lp rfl (qy (b := true) (v := (.bool (vB (gt a0 (qB a0 (gt (vb ([a0, a1] : List (List Rec))) x17_22)))))) (cb b71_) rfl) ?_
       obtain rfl := si H
       exact nx ⟨(ku2 (ku4 kz rfl) rfl), ⟨_, rfl, rfl⟩, e77⟩
      ·refine ls rfl rfl rfl (cb b71_) rfl <| ls rfl rfl rfl (cb b71_) rfl <| ls rfl rfl rfl (cb b71_) rfl <| ls rfl rfl rfl (cb b71_) rfl <| ls rfl rfl rfl (cb b71_) rfl <| lp rfl (qy (b := false) (v := (.bool false)) (cb b71_) rfl) ?_
       obtain rfl := si H
       exact nx ⟨(ku2 (ku4 kz rfl) rfl), ⟨_, rfl, rfl⟩, er⟩
     intro s79 w75 z80 K76 hq h77 e78
     rw [hq] at h77; clear hq
     refine nx ?_
     rcases qh H with ⟨q81, H⟩ | ⟨q81, H⟩
     ·refine qo (h77.trans (cb q81)) <| qG <| lp rfl (qd Tryz.underlying52 rfl Tryz.sizeOf4 rfl ((K76 10 rfl).trans (K68 10 rfl))) <| VI (.plain rfl) rfl rfl Tryz.sizeOf4 rfl rfl rfl (Blk.ext k65 (e70.t e78)) (ltb rfl) <| fun w82 h83 k84 => nx <| qG <| lp rfl (xm v21 ((K76 5 rfl).trans ((K68 5 rfl).trans h38))) <| lp rfl (qZ Tryz.isAgg52 Tryz.sizeOf52 rfl ((K76 10 rfl).trans (K68 10 rfl)) (Blk.at0 k84)) <| vC (.plain rfl) rfl (ltb rfl) rfl Tryz.underlying35 Tryz.sizeOf52 Tryz.zeroValue52 rfl rfl rfl (vs := [(.agg #[(.int .i64 ((qK.e1 a0 a1 x17_22).kind)), (S ((qK.e1 a0 a1 x17_22).path)), (S ((qK.e1 a0 a1 x17_22).body)), (.int .i64 ((qK.e1 a0 a1 x17_22).mode)), (.bool true)])]) rfl (qO rfl) <| fun b85 w86 z87 z88 e89 k90 => ?_
      obtain ⟨c91, H⟩ := qa H
      refine vP (enc := qc) (.plain rfl) rfl (ltb rfl) rfl El.t35 rfl rfl (Ow.ext h39 (((e49.t e52).t (Below.trans (Ext.trans (Ext.trans (Below.trans e61 (Wr.below h64 (Nat.le_of_eq z59))) e70) e78) (Wr.below h83 (Nat.le_of_eq z59)))).t e89)) (Ow.rd (Ow.new (xs := [(⟨(qK.e1 a0 a1 x17_22).kind, (qK.e1 a0 a1 x17_22).path, (qK.e1 a0 a1 x17_22).body, (qK.e1 a0 a1 x17_22).mode, true⟩ : Rec)]) (sz := 5) (enc := qc) (base := w82.heap.size) k90 (Nat.le_of_eq z87) rfl (fun _ _ => by rfl) (Nat.le_of_ble_eq_true rfl))) (jJ _) (od c91) (((((e36.t e49).t e52).t (Below.trans (Ext.trans (Ext.trans (Below.trans e61 (Wr.below h64 (Nat.le_of_eq z59))) e70) e78) (Wr.below h83 (Nat.le_of_eq z59)))).t e89)).size <| fun v92 w93 o94 z95 g96 => lp rfl (xa v92 rfl) <| qH <| vj <| vj <| qf <| qG <| lp rfl (qU ((K76 17 rfl).trans ((K68 17 rfl).trans h40)) rfl) <| lp rfl (xm (.int .i64 (IntKind.wrap .i64 (x17_22 + 1))) rfl) <| nx ?_
      obtain rfl := si H
      exact ⟨_, Nat.lt_succ_self _, x5_20 ++ ([(⟨(qK.e1 a0 a1 x17_22).kind, (qK.e1 a0 a1 x17_22).path, (qK.e1 a0 a1 x17_22).body, (qK.e1 a0 a1 x17_22).mode, true⟩ : Rec)] : List Rec), v92, IntKind.wrap .i64 (x17_22 + 1), (ku8 (Kp.cut (ku1 (Kp.cut (ku3 (ku4 (ku8 (ku8 K35 rfl) rfl) rfl) rfl) K68 rfl) rfl) K76 rfl) rfl), rfl, o94, rfl, (g96 _ ((((e36.t e49).t e52).t (Below.trans (Ext.trans (Ext.trans (Below.trans e61 (Wr.below h64 (Nat.le_of_eq z59))) e70) e78) (Wr.below h83 (Nat.le_of_eq z59)))).t e89)), S42⟩
     ·refine qj (h77.trans (cb q81)) <| qq <| qf <| qG <| lp rfl (xm v21 ((K76 5 rfl).trans ((K68 5 rfl).trans h38))) <| lp rfl (qZ Tryz.isAgg52 Tryz.sizeOf52 rfl ((K76 10 rfl).trans (K68 10 rfl)) (Blk.at0 (Blk.ext k65 (e70.t e78)))) <| vC (.plain rfl) rfl (ltb rfl) rfl Tryz.underlying35 Tryz.sizeOf52 Tryz.zeroValue52 rfl rfl rfl (vs := [(.agg #[(.int .i64 ((qK.e1 a0 a1 x17_22).kind)), (S ((qK.e1 a0 a1 x17_22).path)), (S ((qK.e1 a0 a1 x17_22).body)), (.int .i64 ((qK.e1 a0 a1 x17_22).mode)), (.bool ((qK.e1 a0 a1 x17_22).opq))])]) rfl (qO rfl) <| fun b97 w98 z99 z100 e101 k102 => ?_
      obtain ⟨c103, H⟩ := qa H
      refine vP (enc := qc) (.plain rfl) rfl (ltb rfl) rfl El.t35 rfl rfl (Ow.ext h39 (((((e49.t e52).t (Below.trans e61 (Wr.below h64 (Nat.le_of_eq z59)))).t e70).t e78).t e101)) (Ow.rd (Ow.new (xs := [(qK.e1 a0 a1 x17_22)]) (sz := 5) (enc := qc) (base := w75.heap.size) k102 (Nat.le_of_eq z99) rfl (fun _ _ => by rfl) (Nat.le_of_ble_eq_true rfl))) (jJ _) (od c103) (((((((e36.t e49).t e52).t (Below.trans e61 (Wr.below h64 (Nat.le_of_eq z59)))).t e70).t e78).t e101)).size <| fun v104 w105 o106 z107 g108 => lp rfl (xa v104 rfl) <| qH <| vj <| vj <| qf <| qG <| lp rfl (qU ((K76 17 rfl).trans ((K68 17 rfl).trans h40)) rfl) <| lp rfl (xm (.int .i64 (IntKind.wrap .i64 (x17_22 + 1))) rfl) <| nx ?_
      obtain rfl := si H
      exact ⟨_, Nat.lt_succ_self _, x5_20 ++ ([(qK.e1 a0 a1 x17_22)] : List Rec), v104, IntKind.wrap .i64 (x17_22 + 1), (ku3 (ku4 (Kp.cut (ku1 (Kp.cut (ku3 (ku4 (ku8 (ku8 K35 rfl) rfl) rfl) rfl) K68 rfl) rfl) K76 rfl) rfl) rfl), rfl, o106, rfl, (g108 _ ((((((e36.t e49).t e52).t (Below.trans e61 (Wr.below h64 (Nat.le_of_eq z59)))).t e70).t e78).t e101)), S42⟩
    ·refine qj (cb q53) <| wr <| lp rfl (xm v_a1 (K35 1 rfl)) <| lp rfl (xm (S (gt (vb ([a0, a1] : List (List Rec))) x17_22)) rfl) ?_
     obtain ⟨c109, H⟩ := qa H
     obtain ⟨c110, H⟩ := qa H
     refine lc rfl rfl Tryz.call165 (Vz.calls (w := w51) (a0 := a1) (a1 := gt (vb ([a0, a1] : List (List Rec))) x17_22) (Rd.ext f_a1 (((((e5.t e11).t e17).t e36).t e49).t e52)) (od c109) (od c110)) rfl <| fun w111 e112 => lp rfl (jm rfl) <| lp rfl (qp rfl) <| nx ?_
     rcases qh H with ⟨q113, H⟩ | ⟨q113, H⟩
     ·refine qo (cb q113) <| qG <| lp rfl (qb h38) <| lp rfl (xm v_a0 (K35 0 rfl)) <| lp rfl (qb rfl) ?_
      obtain ⟨c114, H⟩ := qa H
      refine vk (.plain rfl) rfl (ltb rfl) rfl Tryz.underlying35 Tryz.sizeOf52 rfl (Rd.ext f_a0 ((((((e5.t e11).t e17).t e36).t e49).t e52).t e112)) rfl c114 <| fun p115 h116 => lp rfl (qZ Tryz.isAgg52 Tryz.sizeOf52 rfl rfl h116) <| vC (.plain rfl) rfl (ltb rfl) rfl Tryz.underlying35 Tryz.sizeOf52 Tryz.zeroValue52 rfl rfl rfl (vs := [(.agg (qc (gt a0 (qB a0 (gt (vb ([a0, a1] : List (List Rec))) x17_22)))).toArray)]) rfl (qO rfl) <| fun b117 w118 z119 z120 e121 k122 => ?_
      obtain ⟨c123, H⟩ := qa H
      refine vP (enc := qc) (.plain rfl) rfl (ltb rfl) rfl El.t35 rfl rfl (Ow.ext h39 (((e49.t e52).t e112).t e121)) (Ow.rd (Ow.new (xs := [gt a0 (qB a0 (gt (vb ([a0, a1] : List (List Rec))) x17_22))]) (sz := 5) (enc := qc) (base := w111.heap.size) k122 (Nat.le_of_eq z119) rfl (fun _ _ => by rfl) (Nat.le_of_ble_eq_true rfl))) (jJ _) (od c123) (((((e36.t e49).t e52).t e112).t e121)).size <| fun v124 w125 o126 z127 g128 => lp rfl (xa v124 rfl) <| qH <| vj <| vj <| qf <| qG <| lp rfl (qU h40 rfl) <| lp rfl (xm (.int .i64 (IntKind.wrap .i64 (x17_22 + 1))) rfl) <| nx ?_
      obtain rfl := si H
      exact ⟨_, Nat.lt_succ_self _, x5_20 ++ ([gt a0 (qB a0 (gt (vb ([a0, a1] : List (List Rec))) x17_22))] : List Rec), v124, IntKind.wrap .i64 (x17_22 + 1), (ku2 (ku4 (ku8 (ku8 (ku8 K35 rfl) rfl) rfl) rfl) rfl), rfl, o126, rfl, (g128 _ ((((e36.t e49).t e52).t e112).t e121)), S42⟩
     ·refine qj (cb q113) <| qq <| vj <| vj <| qf <| qG <| lp rfl (qU h40 rfl) <| lp rfl (xm (.int .i64 (IntKind.wrap .i64 (x17_22 + 1))) rfl) <| nx ?_
      obtain rfl := si H
      exact ⟨_, Nat.lt_succ_self _, x5_20, v21, IntKind.wrap .i64 (x17_22 + 1), (ku2 (ku4 (ku8 (ku8 K35 rfl) rfl) rfl) rfl), h38, (Ow.ext h39 ((e49.t e52).t e112)), rfl, (((e36.t e49).t e52).t e112), S42⟩
   ·refine qj (cb q43) <| vt <| qN <| qN <| yu <| qf ?_
    obtain rfl := si H
    obtain rfl := si S42
    exact ⟨x5_20, v21, (ku1 K35 rfl), h38, h39, e36, rfl⟩
 ·rintro s29 w28 ⟨x5_26, v27, K30, h129, h130, e31, y131⟩
  rw [y131] at C25
  have H := C25
  replace H : _ = some _ := H
  refine qf <| wr <| lp rfl (qb h129) ?_
  obtain ⟨c132, H⟩ := qa H
  obtain ⟨c133, H⟩ := qa H
  refine vE (.plain rfl) rfl (ltb rfl) rfl Tryz.call73 (vZ.calls (w := w28) (a0 := x5_26) (GV.ext gv (((e5.t e11).t e17).t e31)) (Ow.rd h130) (od c132) (od c133)) rfl <| fun v136 w134 e135 o137 => lp rfl (xa v136 rfl) <| nx <| qr <| qu ?_
  obtain rfl := si H
  exact jI rfl ((((e5.t e11).t e17).t e31).t e135) o137 ((((e5.t e11).t e17).t e31)).size
theorem qK.calls {w : World} {a0 : List Rec} {a1 : List Rec} (gv : GV 0 w) {v_a0 : Value} (f_a0 : Rd 5 qc w v_a0 a0) {v_a1 : Value} (f_a1 : Rd 5 qc w v_a1 a1) (h0 : a0.length ≤ 500000) (h1 : a1.length ≤ 500000) (h2 : yA a0 = true) (h3 : yA a1 = true) :
  Calls Tryz.prog 180 #[v_a0, v_a1] w (Rt (RO 52 5 qc w (jF a0 a1))) := by
 obtain ⟨k, h⟩ := qK.eq a0 a1 h0 h1 h2 h3
 exact qK.walk gv f_a0 f_a1 h
/-! impl.fitting, by text -/
theorem impl_fitting.calls {w : World} {a : List Rec} {v : Value} (h : Rd 5 qc w v a) :
    Calls Tryz.prog 118 #[v] w (Rt (fun r w' => r = .tuple #[XU v a, .int .i64 (VW a)] ∧ Ext w w')) := by
  refine qg Tryz.func118 rfl (Nat.le_of_ble_eq_true rfl) Tryz.ntmps118 rfl ?_
  refine wr <| lp rfl (qp rfl) <| lp rfl (qp rfl) <| nx <| qi <| wr <| lp rfl (xm v rfl) <| lp rfl (va Tryz.underlying35 rfl h) <|
    lp rfl (Qp rfl rfl) <| nx ?_
  by_cases hc : 16 < a.length
  · refine qo (cb (decide_eq_true (by omega))) <| wr <| lp rfl (qp rfl) <| lp rfl (qp rfl) <| nx <| qr <| qw <| qu ?_
    exact ⟨_, rfl, by simp only [XU, VW, hc, if_true]; rfl, Ext.refl _⟩
  · refine qj (cb (decide_eq_false (by omega))) <| qq <| qf <| wr <| lp rfl (xm v rfl) <| lp rfl (xa v rfl) <| lp rfl (qp rfl) <| nx <| qr <| qu ?_
    exact ⟨_, rfl, by simp only [XU, VW, hc, if_false]; rfl, Ext.refl _⟩

/-! slices.BinarySearchFunc(()impl.Node,impl.Node,impl.Node) -/
theorem qM.walk {k : Nat} {w : World} {a0 : List Nd} {a1 : Nd} {a2 : Nd → Nd → Option Int} {v_a0 : Value} (f_a0 : Rd 4 qv w v_a0 a0) {v_a2 : Value} (f_a2 : ∀ (x0 : Nd) (x1 : Nd) (r : Int), a2 x0 x1 = some r → jb Tryz.prog w v_a2 [(.agg (qv x0).toArray), (.agg (qv x1).toArray)] (.int .i64 r)) (g_a2 : v_a2.cells = #[v_a2]) {r : Int × Bool} (H : qM.sh k a0 a1 a2 = some r) :
  Calls Tryz.prog 206 #[v_a0, .agg (qv a1).toArray, v_a2] w (Rt (RP w (.tuple #[.int .i64 r.1, .bool r.2]))) := by
 unfold qM.sh at H
 refine qg Tryz.func206 rfl (Nat.le_of_ble_eq_true rfl) Tryz.ntmps206 rfl ?_
 refine wr <| Qg (.plain rfl) rfl (ltb rfl) rfl rfl <| fun b1 w2 z3 z4 e5 k6 => lp rfl (xa (.int .i64 0) rfl) <| lp rfl (xa (.bool false) rfl) <| nx <| wr <| lp rfl (xm v_a0 rfl) <| lp rfl (va Tryz.underlying29 rfl (Rd.ext f_a0 e5)) <| lp rfl (xa (.int .i64 (a0.length : Int)) rfl) <| nx <| wr <| lp rfl (xm (.int .i64 (a0.length : Int)) rfl) <| lp rfl (xa (.int .i64 0) rfl) <| lp rfl (xa (.int .i64 (a0.length : Int)) rfl) <| nx <| qi ?_
 obtain ⟨z9, L10, C11⟩ := bind_some H
 clear H
 refine  vq (fun s0 sQ wQ => ∃ (x9_12 : Int), Kp [(9, 12), (15, 35)] s0 sQ ∧ sQ 9 = .int .i64 x9_12 ∧ Ext w2 wQ ∧ z9 = .inr x9_12) ?_ ?_
 ·refine qx <| vc (fun s0 kk sQ wQ => ∃ (x9_7 : Int) (x10_8 : Int), Kp [(9, 12), (15, 35)] s0 sQ ∧ sQ 9 = .int .i64 x9_7 ∧ sQ 10 = .int .i64 x10_8 ∧ Ext w2 wQ ∧ qn (qM.b1 a0 a1 a2) kk (x9_7, x10_8) = some z9) k ⟨0, (a0.length : Int), kz, rfl, rfl, er, L10⟩ ?_
  rintro k17 s18 w19 ⟨x9_7, x10_8, K20, h23, h24, e21, L22⟩
  cases k17 with
  | zero => exact absurd L22 (by simp [qn])
  | succ k17 =>
   obtain ⟨t25, H, S26⟩ := qJ L22
   clear L22
   unfold qM.b1 at H
   refine qi <| wr <| lp rfl (qb h23) <| lp rfl (qb h24) <| lp rfl (vW rfl rfl) <| nx ?_
   rcases qh H with ⟨q27, H⟩ | ⟨q27, H⟩
   ·refine qo (cb q27) <| qq <| qf <| qx <| wr <| lp rfl (qb h23) <| lp rfl (qb h24) <| lp rfl (qU rfl rfl) <| lp rfl (Vy Tryz.underlying3 Tryz.underlying187 rfl) <| lp rfl (X_shr (n := 1) rfl rfl rfl) <| lp rfl (Vy Tryz.underlying187 Tryz.underlying3 rfl) <| lp rfl (qp rfl) <| nx <| qi ?_
    obtain ⟨c28, H⟩ := qa H
    obtain ⟨z31, x32, H⟩ := bind_some H
    refine Yc [LEq v_a2, LEq v_a0, LEq (.int .i64 (IntKind.wrap .i64 ((IntKind.wrap .u64 (IntKind.wrap .i64 (x9_7 + x10_8))).fdiv (2 ^ 1)))), yY (qv (gt a0 (IntKind.wrap .i64 ((IntKind.wrap .u64 (IntKind.wrap .i64 (x9_7 + x10_8))).fdiv (2 ^ 1))))), LEq (.agg (qv (gt a0 (IntKind.wrap .i64 ((IntKind.wrap .u64 (IntKind.wrap .i64 (x9_7 + x10_8))).fdiv (2 ^ 1))))).toArray), LEq (.agg #[(.int .i64 a1.kind), (S a1.path), (S a1.body), (.int .i64 a1.mode)]), LEq (.int .i64 z31), LEq (.bool (decide (z31 < 0)))] (by kernel_rfl) (by kernel_rfl) ⟨qm, qm, qm, yY.mono, qm, qm, qm, qm, trivial⟩ ⟨?_, ?_, ?_, ?_, ?_, ?_, ?_, ?_, trivial⟩ ?_
    ·exact fun s x e f d u => lp rfl (xm v_a2 ((f 2 rfl).trans (K20 2 rfl))) <| se rfl rfl
    ·exact fun s x e f d u => lp rfl (xm v_a0 ((f 0 rfl).trans (K20 0 rfl))) <| se rfl rfl
    ·exact fun s x e f d u => lp rfl (qb (f 11 rfl)) <| se rfl rfl
    ·exact fun s x e f d u => vk (.plain rfl) rfl (ltb rfl) rfl Tryz.underlying29 Tryz.sizeOf91 (d 1 rfl) (Rd.ext f_a0 ((e5.t e21).t e)) (d 2 rfl) c28 <| fun p36 h37 => se rfl ⟨_, rfl, h37⟩
    ·intro s x e f d u
     obtain ⟨p38, h39, h40⟩ := (d 3 rfl)
     exact lp rfl (qZ Tryz.isAgg91 Tryz.sizeOf91 rfl h39 h40) <| se rfl rfl
    ·exact fun s x e f d u => lp rfl (qZ Tryz.isAgg91 Tryz.sizeOf91 rfl ((f 4 rfl).trans (K20 4 rfl)) (Blk.at0 (Blk.ext k6 (e21.t e)))) <| se rfl rfl
    ·exact fun s x e f d u => VG (.plain rfl) rfl (ltb rfl) rfl (d 0 rfl) (jb.ext (f_a2 _ _ _ x32) ((e5.t e21).t e)) (vu (d 4 rfl) (vu (d 5 rfl) rfl)) <| fun w43 e44 => sx rfl e44 rfl
    ·exact fun s x e f d u => lp rfl (vW (d 6 rfl) rfl) <| se rfl rfl
    intro s45 w46 e47 hf48 ha49
    have K50 := Kp.ofD (kp := [(24, 32)]) rfl hf48
    have d51 : s45 31 = (.bool (decide (z31 < 0))) := ha49 7 rfl
    clear ha49 hf48
    refine qf ?_
    rcases qh H with ⟨q52, H⟩ | ⟨q52, H⟩
    ·refine qo (d51.trans (cb q52)) <| qG <| lp rfl (qb (K50 11 rfl)) <| lp rfl (qU rfl rfl) <| lp rfl (qp rfl) <| qH <| vj <| qf ?_
     obtain rfl := si H
     exact ⟨_, Nat.lt_succ_self _, IntKind.wrap .i64 ((IntKind.wrap .i64 ((IntKind.wrap .u64 (IntKind.wrap .i64 (x9_7 + x10_8))).fdiv (2 ^ 1))) + 1), x10_8, (ku3 (Kp.cut (ku2 (ku8 K20 rfl) rfl) K50 rfl) rfl), rfl, ((K50 10 rfl).trans h24), (e21.t e47), S26⟩
    ·refine qj (d51.trans (cb q52)) <| qG <| lp rfl (qb (K50 11 rfl)) <| lp rfl (qp rfl) <| qH <| vj <| qf ?_
     obtain rfl := si H
     exact ⟨_, Nat.lt_succ_self _, x9_7, IntKind.wrap .i64 ((IntKind.wrap .u64 (IntKind.wrap .i64 (x9_7 + x10_8))).fdiv (2 ^ 1)), (ku2 (Kp.cut (ku2 (ku8 K20 rfl) rfl) K50 rfl) rfl), ((K50 9 rfl).trans h23), rfl, (e21.t e47), S26⟩
   ·refine qj (cb q27) <| vt <| qN <| qN <| yu <| qf ?_
    obtain rfl := si H
    obtain rfl := si S26
    exact ⟨x9_7, (ku3 K20 rfl), h23, e21, rfl⟩
 ·rintro s14 w13 ⟨x9_12, K15, h53, e16, y54⟩
  rw [y54] at C11
  have H := C11
  replace H : _ = some _ := H
  refine qf <| qi ?_
  obtain ⟨c55, H⟩ := qa H
  obtain ⟨z58, x59, H⟩ := bind_some H
  refine Yc [LEq (.int .i64 x9_12), LEq (.int .i64 x9_12), LEq (.int .i64 (a0.length : Int)), LEq (.bool (decide (x9_12 < (a0.length : Int)))), LEq (.bool (decide (x9_12 < (a0.length : Int)))), LIf (decide (x9_12 < (a0.length : Int))) (LEq v_a2), LIf (decide (x9_12 < (a0.length : Int))) (LEq v_a0), LIf (decide (x9_12 < (a0.length : Int))) (LEq (.int .i64 x9_12)), LIf (decide (x9_12 < (a0.length : Int))) (yY (qv (gt a0 x9_12))), LIf (decide (x9_12 < (a0.length : Int))) (LEq (.agg (qv (gt a0 x9_12)).toArray)), LIf (decide (x9_12 < (a0.length : Int))) (LEq (.agg #[(.int .i64 a1.kind), (S a1.path), (S a1.body), (.int .i64 a1.mode)])), LIf (decide (x9_12 < (a0.length : Int))) (LEq (.int .i64 z58)), LIf (decide (x9_12 < (a0.length : Int))) (LEq (.bool (decide (z58 = 0)))), LEq (.bool ((decide (x9_12 < (a0.length : Int))) && (decide (z58 = 0)))), LEq (.int .i64 x9_12), LEq (.bool ((decide (x9_12 < (a0.length : Int))) && (decide (z58 = 0))))] (by kernel_rfl) (by kernel_rfl) ⟨qm, qm, qm, qm, qm, lm, lm, lm, (LIf.mono yY.mono), lm, lm, lm, lm, qm, qm, qm, trivial⟩ ⟨?_, ?_, ?_, ?_, ?_, ?_, ?_, ?_, ?_, ?_, ?_, ?_, ?_, ?_, ?_, ?_, trivial⟩ ?_
  ·exact fun s x e f d u => lp rfl (xm (.int .i64 x9_12) ((f 9 rfl).trans h53)) <| se rfl rfl
  ·exact fun s x e f d u => lp rfl (xm (.int .i64 x9_12) ((f 9 rfl).trans h53)) <| se rfl rfl
  ·exact fun s x e f d u => lp rfl (xm (.int .i64 (a0.length : Int)) ((f 8 rfl).trans (K15 8 rfl))) <| se rfl rfl
  ·exact fun s x e f d u => lp rfl (vW (d 1 rfl) (d 2 rfl)) <| se rfl rfl
  ·exact fun s x e f d u => lp rfl (qb (d 3 rfl)) <| se rfl rfl
  ·exact fun s x e f d u => gT rfl rfl rfl rfl (d 4 rfl) rfl fun b t => lt t rfl rfl (xm v_a2 ((f 2 rfl).trans (K15 2 rfl))) <| sg rfl rfl b rfl
  ·exact fun s x e f d u => gT rfl rfl rfl rfl (d 4 rfl) rfl fun b t => lt t rfl rfl (xm v_a0 ((f 0 rfl).trans (K15 0 rfl))) <| sg rfl rfl b rfl
  ·exact fun s x e f d u => gT rfl rfl rfl rfl (d 4 rfl) rfl fun b t => lt t rfl rfl (xm (.int .i64 x9_12) ((f 9 rfl).trans h53)) <| sg rfl rfl b rfl
  ·exact fun s x e f d u => gT rfl rfl rfl rfl (d 4 rfl) rfl fun b t => vk t rfl (ltb rfl) rfl Tryz.underlying29 Tryz.sizeOf91 ((d 6 rfl).1 b) (Rd.ext f_a0 ((e5.t e16).t e)) ((d 7 rfl).1 b) (yl b c55) <| fun p63 h64 => sg rfl rfl b ⟨_, rfl, h64⟩
  ·intro s x e f d u
   refine gT rfl rfl rfl rfl (d 4 rfl) rfl fun b t => ?_
   obtain ⟨p65, h66, h67⟩ := ((d 8 rfl).1 b)
   exact lt t rfl rfl (qZ Tryz.isAgg91 Tryz.sizeOf91 rfl h66 h67) <| sg rfl rfl b rfl
  ·exact fun s x e f d u => gT rfl rfl rfl rfl (d 4 rfl) rfl fun b t => lt t rfl rfl (qZ Tryz.isAgg91 Tryz.sizeOf91 rfl ((f 4 rfl).trans (K15 4 rfl)) (Blk.at0 (Blk.ext k6 (e16.t e)))) <| sg rfl rfl b rfl
  ·exact fun s x e f d u => gT rfl rfl rfl rfl (d 4 rfl) rfl fun b t => VG t rfl (ltb rfl) rfl ((d 5 rfl).1 b) (jb.ext (f_a2 _ _ _ x59) ((e5.t e16).t e)) (vu ((d 9 rfl).1 b) (vu ((d 10 rfl).1 b) rfl)) <| fun w70 e71 => sgx rfl rfl b e71 rfl
  ·exact fun s x e f d u => gT rfl rfl rfl rfl (d 4 rfl) rfl fun b t => lt t rfl rfl (yL ((d 11 rfl).1 b) rfl) <| sg rfl rfl b rfl
  ·exact fun s x e f d u => lp rfl (Qk (d 4 rfl) rfl fun h => ((d 12 rfl).1 h)) <| se rfl rfl
  ·exact fun s x e f d u => lp rfl (qp (d 0 rfl)) <| se rfl rfl
  ·exact fun s x e f d u => lp rfl (qp (d 13 rfl)) <| se rfl rfl
  intro s72 w73 e74 hf75 ha76
  have K77 := Kp.ofD (kp := [(6, 8), (35, 49)]) rfl hf75
  have d78 : s72 6 = (.int .i64 x9_12) := ha76 14 rfl
  have d79 : s72 7 = (.bool ((decide (x9_12 < (a0.length : Int))) && (decide (z58 = 0)))) := ha76 15 rfl
  clear ha76 hf75
  refine qf <| qr <| qu ?_
  obtain rfl := si H
  exact G0 d78 d79 ((e5.t e16).t e74)
theorem qM.calls {w : World} {a0 : List Nd} {a1 : Nd} {a2 : Nd → Nd → Option Int} {r : Int × Bool} {v_a0 : Value} (f_a0 : Rd 4 qv w v_a0 a0) {v_a2 : Value} (f_a2 : ∀ (x0 : Nd) (x1 : Nd) (r : Int), a2 x0 x1 = some r → jb Tryz.prog w v_a2 [(.agg (qv x0).toArray), (.agg (qv x1).toArray)] (.int .i64 r)) (g_a2 : v_a2.cells = #[v_a2]) (H : (qM.sh 64 a0 a1 a2) = some r) :
  Calls Tryz.prog 206 #[v_a0, .agg (qv a1).toArray, v_a2] w (Rt (RP w (.tuple #[.int .i64 r.1, .bool r.2]))) := by
 obtain ⟨k, h⟩ := qM.eq a0 a1 a2 H
 exact qM.walk f_a0 f_a2 g_a2 h
/-! impl.place$1 -/
theorem Qq.calls {w : World} {a0 : Nd} {a1 : Nd} (gv : GV 0 w) (h0 : a0.path.length ≤ 1048576) (h1 : a1.path.length ≤ 1048576) :
  Calls Tryz.prog 207 #[.agg (qv a0).toArray, .agg (qv a1).toArray] w (Rt (RP w (.int .i64 (cmpL (cut 47 a0.path) (cut 47 a1.path))))) := by
 have H := Qq.eq a0 a1 h0 h1
 generalize (cmpL (cut 47 a0.path) (cut 47 a1.path)) = r at H ⊢
 unfold Qq.sh at H
 refine qg Tryz.func207 rfl (Nat.le_of_ble_eq_true rfl) Tryz.ntmps207 rfl ?_
 refine wr <| Qg (.plain rfl) rfl (ltb rfl) rfl rfl <| fun b1 w2 z3 z4 e5 k6 => Qg (.plain rfl) rfl (ltb rfl) rfl rfl <| fun b7 w8 z9 z10 e11 k12 => lp rfl (xa (.int .i64 0) rfl) <| nx <| wr <| lp rfl (qd Tryz.underlying91 rfl Tryz.sizeOf9 rfl rfl) <| lp rfl (qA Tryz.isAgg9 (Blk.ext k6 e11) rfl rfl) <| lp rfl (qd Tryz.underlying91 rfl Tryz.sizeOf9 rfl rfl) <| lp rfl (qA Tryz.isAgg9 k12 rfl rfl) ?_
 obtain ⟨c13, H⟩ := qa H
 obtain ⟨c14, H⟩ := qa H
 refine lc rfl rfl Tryz.call102 (impl_compare.calls (w := w8) (a0 := a0.path) (a1 := a1.path) (GV.ext gv (e5.t e11)) (od c13) (od c14)) rfl <| fun w15 e16 => lp rfl (xa (.int .i64 (cmpL (cut 47 a0.path) (cut 47 a1.path))) rfl) <| nx <| qr <| qu ?_
 obtain rfl := si H
 exact vh rfl ((e5.t e11).t e16)
/-! slices.Insert(()impl.Node,impl.Node), by text -/
theorem X1.calls {w : World} {B : Nat} {v : Value} {xs : List Nd} {x : Nd} {i b9 : Nat} (hO : Ow 91 4 qv B w v xs) (hi : i ≤ xs.length) (hB : B ≤ w.heap.size) (k9 : Blk w b9 (qv x).toArray 91) (hne : (∃ A, v = .slice A 0 0) ∨ ∀ g, v.ownBlock = some g → b9 ≠ g) (hn : xs.length ≤ 1048576) :
    Calls Tryz.prog 208 #[v, .int .i64 i, .slice (some ⟨b9, 0, none⟩) 1 1] w (Rt (fun r w' => (∀ W, Below B W w → Below B W w') ∧ Ow 91 4 qv B w' r (YC xs i x))) := by
  obtain ⟨A0, c0, hv0⟩ := hO.rd.shape
  have hcap : xs.length ≤ c0 := by obtain ⟨A', c', hv', ⟨hn', _⟩, _⟩ := hO.rd; rw [hv0] at hv'; injection hv' with _ _ e9; omega
  have hxl : (qv x).length = 4 := rfl
  have hR1 : Rd 4 qv w (.slice (some ⟨b9, 0, none⟩) 1 1) [x] := (Ow.new (xs := [x]) (sz := 4) (enc := qv) (base := 0) k9 (Nat.zero_le _) (by simp) (fun _ _ => rfl) (Nat.le_of_ble_eq_true rfl)).rd
  refine qg Tryz.func208 rfl (Nat.le_of_ble_eq_true rfl) Tryz.ntmps208 rfl ?_
  refine wr <| lp rfl (qp rfl) <| nx <| wr <| lp rfl (xm v rfl) <| lp rfl (qb (v := .int .i64 (i : Int)) rfl) <|
    lp rfl (VX (A := A0) (n := xs.length) (c := c0) (l := (i : Int)) (h := (xs.length : Int)) Tryz.underlying29 Tryz.sizeOf91 hv0 ⟨_, rfl⟩ rfl (by omega) (by omega) (by omega)) <| nx <|
    wr <| lp rfl (qb (v := .slice (some ⟨b9, 0, none⟩) 1 1) rfl) <| lp rfl (GP Tryz.underlying29 rfl) <| lp rfl (qp rfl) <| nx <|
    qi <| wr <| lp rfl (qb (v := .int .i64 ((1 : Nat) : Int)) rfl) <| lp rfl (yL rfl rfl) <| nx <| qj (cb (decide_eq_false (by decide))) <| qq <| qf <|
    wr <| lp rfl (xm v rfl) <| lp rfl (GP (A := A0) (n := xs.length) (c := c0) Tryz.underlying29 hv0) <| lp rfl (qp rfl) <| nx <|
    qi <| wr <| lp rfl (qb (v := .int .i64 (i : Int)) rfl) <| lp rfl (qb (v := .int .i64 (xs.length : Int)) rfl) <| lp rfl (yL rfl rfl) <| nx ?_
  by_cases hie : i = xs.length
  · refine qo (cb (decide_eq_true (by omega))) <| wr <| lp rfl (xm v rfl) <| lp rfl (qb (v := .slice (some ⟨b9, 0, none⟩) 1 1) rfl) <|
      vP (enc := qv) (.plain rfl) rfl (ltb rfl) rfl El.t29 rfl rfl hO hR1 (QM _) (by simp; omega) hB <| fun v1 w1 o1 z1 g1 => lp rfl (xa v1 rfl) <| nx <| qr <| qw <| qu ?_
    refine ⟨_, rfl, g1, ?_⟩
    have : YC xs i x = xs ++ [x] := by simp [YC, hie]
    rw [this]; exact o1
  obtain ⟨g, cap, cur, hv, hBg, hh, hnc, hcm, hsz, htk⟩ := hO.row (by omega)
  have hcc : A0 = some ⟨g, 0, none⟩ ∧ c0 = cap := by rw [hv] at hv0; injection hv0 with e1 _ e3; exact ⟨e1.symm, e3.symm⟩
  obtain ⟨rfl, rfl⟩ := hcc
  have hlen := hO.2.1
  have hT : ((xs.take i).flatMap qv).length = i * 4 := by rw [jW qv 4 _ (fun y hy => hlen y (List.mem_of_mem_take hy))]; simp; omega
  have hDl : ((xs.drop i).flatMap qv).length = (xs.length - i) * 4 := by rw [jW qv 4 _ (fun y hy => hlen y (List.mem_of_mem_drop hy))]; simp
  have hcur : cur.toList = (xs.take i).flatMap qv ++ (xs.drop i).flatMap qv ++ cur.toList.drop (xs.length * 4) := by
    rw [← List.flatMap_append, List.take_append_drop, ← htk, List.take_append_drop]
  have hcl : cur.toList.length = c0 * 4 := by simpa using hsz
  have hone1 : ∀ c ∈ qv x, c.oneCell' = true := fun c hc => QM [x] x (by simp) c hc
  have honeD : ∀ c ∈ (xs.drop i).flatMap qv, c.oneCell' = true := fun c hc => by
    obtain ⟨y, hy, hc⟩ := List.mem_flatMap.1 hc
    exact QM _ y hy c hc
  have hil : (YC xs i x).length = xs.length + 1 := insAt_len xs i x hi
  have hlen2 : ∀ y ∈ YC xs i x, (qv y).length = 4 := fun y _ => rfl
  have hsrcX : ∀ {W : World}, Blk W b9 (qv x).toArray 91 → ∀ j u, (qv x)[j]? = some u → W.cell? ((⟨b9, 0, none⟩ : Addr).add j) = some u := fun {W} k j u hj => by
    rw [Qz, Nat.zero_add, k.cell]; simpa using hj
  have hgetD : ∀ j u, ((xs.drop i).flatMap qv)[j]? = some u → cur.toList[i * 4 + j]? = some u := fun j u hj => by
    have hj' : j < ((xs.drop i).flatMap qv).length := (List.getElem?_eq_some_iff.1 hj).1
    rw [hcur, List.append_assoc, List.getElem?_append_right (by omega), hT, Nat.add_sub_cancel_left, List.getElem?_append_left hj', hj]
  have hsrcD : ∀ {W : World}, Blk W g cur 91 → ∀ j u, ((xs.drop i).flatMap qv)[j]? = some u → W.cell? ((⟨g, 0 + i * 4, none⟩ : Addr).add j) = some u := fun {W} k j u hj => by
    rw [Qz, k.cell, Nat.zero_add]
    have := hgetD j u hj
    simpa using this
  have hw : IntKind.wrap .i64 ((xs.length : Int) + ((1 : Nat) : Int)) = ((xs.length + 1 : Nat) : Int) := by rw [Int.natCast_add]; exact Go.UL.wrap_small (by omega) (by omega)
  have hwi : IntKind.wrap .i64 ((i : Int) + ((1 : Nat) : Int)) = ((i + 1 : Nat) : Int) := by rw [Int.natCast_add]; exact Go.UL.wrap_small (by omega) (by omega)
  have hgw : g < w.heap.size := (Array.getElem?_eq_some_iff.1 hh).1
  refine qj (cb (decide_eq_false (by omega))) <| qq <| qf <| qi <| wr <| lp rfl (qb (v := .int .i64 (xs.length : Int)) rfl) <| lp rfl (qb (v := .int .i64 ((1 : Nat) : Int)) rfl) <|
    lp rfl (Ex.cast (qU rfl rfl) (congrArg (Value.int .i64) hw)) <| lp rfl (xm v rfl) <| lp rfl (X_cap Tryz.underlying29 hv) <| lp rfl (Qp rfl rfl) <| nx ?_
  by_cases hroom : c0 < xs.length + 1
  · -- no room: a new block
    obtain ⟨k, hk⟩ : ∃ k, i + k = xs.length + 1 := ⟨xs.length + 1 - i, by omega⟩
    have hw2 : IntKind.wrap .i64 (((xs.length + 1 : Nat) : Int) - (i : Int)) = (k : Int) := by rw [Go.UL.wrap_small (by omega) (by omega)]; omega
    have hc0 : c0 = xs.length := by omega
    refine qo (cb (decide_eq_true (by omega))) <| wr <| lp rfl (xm v rfl) <| lp rfl (qb (v := .int .i64 (i : Int)) rfl) <|
      lp rfl (Ex.cast (v' := .slice (some ⟨g, 0, none⟩) i c0) (QR (l := 0) (h := i) Tryz.underlying29 Tryz.sizeOf91 hv rfl ⟨_, rfl⟩ (.inr rfl) (Nat.zero_le _) (by omega)) (by simp)) <|
      lp rfl (qb (v := .int .i64 (xs.length : Int)) rfl) <| lp rfl (qb (v := .int .i64 ((1 : Nat) : Int)) rfl) <| lp rfl (Ex.cast (qU rfl rfl) (congrArg (Value.int .i64) hw)) <| lp rfl (qb (v := .int .i64 (i : Int)) rfl) <|
      lp rfl (Ex.cast (QS rfl rfl) (congrArg (Value.int .i64) hw2)) <|
      L_appendZ (olds := (xs.take i).flatMap qv) (.plain rfl) rfl (ltb rfl) rfl El.t29 Tryz.underlying3 rfl rfl (run_firstCells_some w.drew 4 i ⟨g, 0, none⟩ i c0 _ hT (fun j u hj => ?_)) hT (by omega) (by omega) (by omega) <| fun b w1 C zs hb e1 hC1 hC2 hCl k1 => lp rfl (qp rfl) <| nx ?_
    · have hj' : j < ((xs.take i).flatMap qv).length := (List.getElem?_eq_some_iff.1 hj).1
      have kd : Blk w.drew g cur 91 := Blk.ext hh (Ext.drew w)
      rw [Qz, kd.cell, Nat.zero_add]
      have : cur.toList[j]? = some u := by rw [hcur, List.append_assoc, List.getElem?_append_left hj', hj]
      simpa using this
    have hBb : B ≤ b := by omega
    have hgb : g ≠ b := by omega
    have hzl : zs.length = C * 4 - i * 4 := by simp only [List.length_append, hT] at hCl; omega
    have hCs : (xs.length + 1) * 4 ≤ C * 4 := Nat.mul_le_mul_right _ (by omega)
    have hmin1 : Nat.min 1 (i + k - i) = 1 := Nat.min_eq_left (by omega)
    refine wr <| lp rfl (qb (v := .slice (some ⟨b, 0, none⟩) (i + k) C) rfl) <| lp rfl (qb (v := .int .i64 (i : Int)) rfl) <|
      lp rfl (QR (l := i) (h := i + k) Tryz.underlying29 Tryz.sizeOf91 rfl ⟨_, rfl⟩ rfl (.inl (by omega)) (by omega) hC1) <| lp rfl (qb (v := .slice (some ⟨b9, 0, none⟩) 1 1) rfl) <|
      G1 (cs := qv x) (.plain rfl) rfl (ltb rfl) rfl Tryz.underlying29 Tryz.sizeOf91 k1 rfl rfl (by rw [hmin1]; rfl) (hsrcX (k9.ext e1)) (by simp only [List.size_toArray, hCl, hxl]; omega) hone1 <| fun w2 hw2' k2 => nx ?_
    have e2 : Ext w w2 := Ext.wr e1 hw2' (Nat.le_of_eq hb) (Nat.le_refl _)
    have hh2 : Blk w2 g cur 91 := Blk.ext hh e2
    have hlr : ((List.take (0 + i * 4) ((List.flatMap qv (List.take i xs)) ++ zs)) ++ qv x ++ List.drop (0 + i * 4 + (qv x).length) ((List.flatMap qv (List.take i xs)) ++ zs)).length = C * 4 := by
      simp only [List.length_append, List.length_take, List.length_drop, hT, hxl, hzl]; omega
    have hmin2 : Nat.min (xs.length - i) (i + k - (i + 1)) = xs.length - i := Nat.min_eq_left (by omega)
    refine qi <| JQ (B := B) [LEq (.slice (some ⟨b, 0, none⟩) (i + k) C), LEq (.int .i64 (i : Int)), LEq (.int .i64 ((1 : Nat) : Int)), LEq (.int .i64 ((i + 1 : Nat) : Int)), LEq (.slice (some ⟨b, 0 + (i + 1) * 4, none⟩) (i + k - (i + 1)) (C - (i + 1))), LEq v, LEq (.int .i64 (i : Int)), LEq (.slice (some ⟨g, 0 + i * 4, none⟩) (xs.length - i) (c0 - i)),
        fun _ W => ∃ row, Blk W b row 91 ∧ row.toList = (xs.take i).flatMap qv ++ (qv x ++ (xs.drop i).flatMap qv) ++ zs.drop (4 + ((xs.drop i).flatMap qv).length)]
      [⟨true, true, true, false, []⟩, ⟨true, true, true, false, []⟩, ⟨true, true, true, false, []⟩, ⟨true, true, true, false, [1, 2]⟩, ⟨true, true, true, false, [0, 3]⟩, ⟨true, true, true, false, []⟩, ⟨true, true, true, false, []⟩, ⟨true, true, true, false, [5, 6]⟩, ⟨false, false, true, true, [4, 7]⟩]
      [(8, 0, [4]), (8, 1, [4, 3]), (8, 2, [4, 3]), (8, 3, [4]), (8, 4, []), (8, 5, [7]), (8, 6, [7]), (8, 7, [])] (by kernel_rfl) (by kernel_rfl) (Nat.le_trans hB e2.size)
      ⟨⟨LEq.rig.mono, fun _ => LEq.rig⟩, ⟨LEq.rig.mono, fun _ => LEq.rig⟩, ⟨LEq.rig.mono, fun _ => LEq.rig⟩, ⟨LEq.rig.mono, fun _ => LEq.rig⟩, ⟨LEq.rig.mono, fun _ => LEq.rig⟩, ⟨LEq.rig.mono, fun _ => LEq.rig⟩, ⟨LEq.rig.mono, fun _ => LEq.rig⟩, ⟨LEq.rig.mono, fun _ => LEq.rig⟩, ⟨fun _ _ _ k9 ⟨row, h1, h2⟩ => ⟨row, h1.ext k9, h2⟩, noR⟩, trivial⟩
      ⟨?_, ?_, ?_, ?_, ?_, ?_, ?_, ?_, ?_, trivial⟩ ?_
    · intro s9 w9 hb9 hx9 hf9 hd9 hu9
      exact lp rfl (qb (hf9 9 rfl)) <| qH <| yS rfl rfl rfl er rfl
    · intro s9 w9 hb9 hx9 hf9 hd9 hu9
      exact lp rfl (qb (hf9 1 rfl)) <| qH <| yS rfl rfl rfl er rfl
    · intro s9 w9 hb9 hx9 hf9 hd9 hu9
      exact lp rfl (qb (hf9 7 rfl)) <| qH <| yS rfl rfl rfl er rfl
    · intro s9 w9 hb9 hx9 hf9 hd9 hu9
      exact lp rfl (Ex.cast (qU (hd9 1 rfl) (hd9 2 rfl)) (congrArg (Value.int .i64) hwi)) <| qH <| yS rfl rfl rfl er rfl
    · intro s9 w9 hb9 hx9 hf9 hd9 hu9
      exact lp rfl (QR (l := i + 1) (h := i + k) Tryz.underlying29 Tryz.sizeOf91 (hd9 0 rfl) ⟨_, hd9 3 rfl⟩ rfl (.inl (by omega)) (by omega) hC1) <| qH <| yS rfl rfl rfl er rfl
    · intro s9 w9 hb9 hx9 hf9 hd9 hu9
      exact lp rfl (qb (hf9 0 rfl)) <| qH <| yS rfl rfl rfl er rfl
    · intro s9 w9 hb9 hx9 hf9 hd9 hu9
      exact lp rfl (qb (hf9 1 rfl)) <| qH <| yS rfl rfl rfl er rfl
    · intro s9 w9 hb9 hx9 hf9 hd9 hu9
      exact lp rfl (QR (l := i) (h := xs.length) Tryz.underlying29 Tryz.sizeOf91 ((hd9 5 rfl).trans hv) ⟨_, hd9 6 rfl⟩ rfl (.inl (by omega)) hi (by omega)) <| qH <| yS rfl rfl rfl er rfl
    · intro s9 w9 hb9 hx9 hf9 hd9 hu9
      have e9 : Ext w2 w9 := hx9 rfl
      refine G1 (cs := (xs.drop i).flatMap qv) (.plain rfl) rfl (ltb rfl) rfl Tryz.underlying29 Tryz.sizeOf91 (k2.ext e9) (hd9 4 rfl) (hd9 7 rfl) (by rw [hmin2, hDl]) (hsrcD (hh2.ext e9)) (by simp only [List.size_toArray, hlr, hDl]; omega) honeD <| fun w3 hw3 k3 => qH <| X2 rfl rfl rfl (hw3.below hBb) ⟨_, k3, ?_⟩
      have hz : 4 ≤ zs.length := by omega
      have := ins_grow (T := (xs.take i).flatMap qv) (X := qv x) (D := (xs.drop i).flatMap qv) (Z := zs) hT hxl hz
      simp only [Nat.zero_add] at this ⊢
      rw [show (i + 1) * 4 = i * 4 + 4 by omega]
      exact this
    · intro s3 w3 hb3 hf3 ha3
      obtain ⟨row, k3, hrow⟩ := ha3 8 rfl rfl
      refine qf <| wr <| lp rfl (qb (v := .slice (some ⟨b, 0, none⟩) (i + k) C) (hf3 9 rfl)) <| lp rfl (qp rfl) <| nx <| qr <| qw <| qu ?_
      refine ⟨_, rfl, fun W hW => ?_, ?_⟩
      · exact Below.trans (Below.trans (Below.trans hW (e1.mono hB)) (hw2'.below hBb)) hb3
      · have hrl : row.toList.length = C * 4 := by
          rw [hrow]; simp only [List.length_append, List.length_drop, hT, hxl, hDl, hzl]; omega
        have := Ow.of_row (C := C) (ys := YC xs i x) (R := zs.drop (4 + ((xs.drop i).flatMap qv).length)) (row := row.toList) hBb (by simpa using k3) (by rw [ins_flat]; exact hrow) hlen2 (by omega) hC2 hrl
        rw [hil, ← hk] at this
        exact this
  · -- room: in place
    have hw3 : IntKind.wrap .i64 ((xs.length : Int) + ((1 : Nat) : Int)) = ((xs.length + 1 : Nat) : Int) := hw
    have hne9 : b9 ≠ g := by
      rcases hne with ⟨A, hA⟩ | hne
      · rw [hv] at hA; injection hA with _ hl0 _; omega
      · exact hne g (by rw [hv]; rfl)
    refine qj (cb (decide_eq_false (by omega))) <| qq <| qf <| wr <| lp rfl (xm v rfl) <| lp rfl (qb (v := .int .i64 (xs.length : Int)) rfl) <| lp rfl (qb (v := .int .i64 ((1 : Nat) : Int)) rfl) <|
      lp rfl (Ex.cast (qU rfl rfl) (congrArg (Value.int .i64) hw)) <| lp rfl (Ex.cast (v' := .slice (some ⟨g, 0, none⟩) (xs.length + 1) c0) (QR (l := 0) (h := xs.length + 1) Tryz.underlying29 Tryz.sizeOf91 hv rfl ⟨_, rfl⟩ (.inr rfl) (Nat.zero_le _) (by omega)) (by simp)) <|
      lp rfl (qp rfl) <| nx <| qi <| wr <| lp rfl (qb (v := .slice (some ⟨b9, 0, none⟩) 1 1) rfl) <| lp rfl (qb (v := .slice (some ⟨g, 0, none⟩) (xs.length + 1) c0) rfl) <| lp rfl (qb (v := .int .i64 (i : Int)) rfl) <|
      lp rfl (qb (v := .int .i64 ((1 : Nat) : Int)) rfl) <| lp rfl (Ex.cast (qU rfl rfl) (congrArg (Value.int .i64) hwi)) <|
      lp rfl (QR (l := i + 1) (h := xs.length + 1) Tryz.underlying29 Tryz.sizeOf91 rfl ⟨_, rfl⟩ rfl (.inl (by omega)) (by omega) (by omega)) <|
      lp rfl (X_ext (vs := #[.slice (some ⟨b9, 0, none⟩) 1 1, .slice (some ⟨g, 0 + (i + 1) * 4, none⟩) (xs.length + 1 - (i + 1)) (c0 - (i + 1))]) rfl (v := .bool false) ?_) <|
      lp rfl (jm rfl) <| nx <| qo rfl ?_
    · rw [run_callFunc_extern Tryz.func238 (by kernel_rfl) (by kernel_rfl) (by kernel_rfl) (e := Extern.SlicesOverlaps.overlaps #[29, 29] #[4]) (by kernel_rfl),
        Lib.run_overlaps_apart w 29 4 91 Tryz.underlying29 4 Tryz.sizeOf91 ⟨b9, 0, none⟩ ⟨g, 0 + (i + 1) * 4, none⟩ 1 1 _ _ hne9 91 91 _ _ k9.shape (Blk.shape (cs := cur) hh) (by omega) k9.frozen k9.frozen]
      rfl
    have hmin2 : Nat.min (xs.length + 1 - i) (xs.length + 1 - (i + 1)) = xs.length - i := (Nat.min_eq_right (by omega)).trans (by omega)
    have hcs : (xs.length + 1) * 4 ≤ c0 * 4 := Nat.mul_le_mul_right _ (by omega)
    refine qi <| JQ (B := B) [LEq (.slice (some ⟨g, 0, none⟩) (xs.length + 1) c0), LEq (.int .i64 (i : Int)), LEq (.int .i64 ((1 : Nat) : Int)), LEq (.int .i64 ((i + 1 : Nat) : Int)), LEq (.slice (some ⟨g, 0 + (i + 1) * 4, none⟩) (xs.length + 1 - (i + 1)) (c0 - (i + 1))), LEq (.slice (some ⟨g, 0, none⟩) (xs.length + 1) c0), LEq (.int .i64 (i : Int)), LEq (.slice (some ⟨g, 0 + i * 4, none⟩) (xs.length + 1 - i) (c0 - i)),
        fun _ W => Blk W g (List.take (0 + (i + 1) * 4) cur.toList ++ (xs.drop i).flatMap qv ++ List.drop (0 + (i + 1) * 4 + ((xs.drop i).flatMap qv).length) cur.toList).toArray 91 ∧ Blk W b9 (qv x).toArray 91]
      [⟨true, true, true, false, []⟩, ⟨true, true, true, false, []⟩, ⟨true, true, true, false, []⟩, ⟨true, true, true, false, [1, 2]⟩, ⟨true, true, true, false, [0, 3]⟩, ⟨true, true, true, false, []⟩, ⟨true, true, true, false, []⟩, ⟨true, true, true, false, [5, 6]⟩, ⟨false, false, true, true, [4, 7]⟩]
      [(8, 0, [4]), (8, 1, [4, 3]), (8, 2, [4, 3]), (8, 3, [4]), (8, 4, []), (8, 5, [7]), (8, 6, [7]), (8, 7, [])] (by kernel_rfl) (by kernel_rfl) hB
      ⟨⟨LEq.rig.mono, fun _ => LEq.rig⟩, ⟨LEq.rig.mono, fun _ => LEq.rig⟩, ⟨LEq.rig.mono, fun _ => LEq.rig⟩, ⟨LEq.rig.mono, fun _ => LEq.rig⟩, ⟨LEq.rig.mono, fun _ => LEq.rig⟩, ⟨LEq.rig.mono, fun _ => LEq.rig⟩, ⟨LEq.rig.mono, fun _ => LEq.rig⟩, ⟨LEq.rig.mono, fun _ => LEq.rig⟩, ⟨fun _ _ _ k9 ⟨h1, h2⟩ => ⟨h1.ext k9, h2.ext k9⟩, noR⟩, trivial⟩
      ⟨?_, ?_, ?_, ?_, ?_, ?_, ?_, ?_, ?_, trivial⟩ ?_
    · intro s9 w9 hb9 hx9 hf9 hd9 hu9
      exact lp rfl (qb (hf9 0 rfl)) <| qH <| yS rfl rfl rfl er rfl
    · intro s9 w9 hb9 hx9 hf9 hd9 hu9
      exact lp rfl (qb (hf9 1 rfl)) <| qH <| yS rfl rfl rfl er rfl
    · intro s9 w9 hb9 hx9 hf9 hd9 hu9
      exact lp rfl (qb (hf9 7 rfl)) <| qH <| yS rfl rfl rfl er rfl
    · intro s9 w9 hb9 hx9 hf9 hd9 hu9
      exact lp rfl (Ex.cast (qU (hd9 1 rfl) (hd9 2 rfl)) (congrArg (Value.int .i64) hwi)) <| qH <| yS rfl rfl rfl er rfl
    · intro s9 w9 hb9 hx9 hf9 hd9 hu9
      exact lp rfl (QR (l := i + 1) (h := xs.length + 1) Tryz.underlying29 Tryz.sizeOf91 (hd9 0 rfl) ⟨_, hd9 3 rfl⟩ rfl (.inl (by omega)) (by omega) (by omega)) <| qH <| yS rfl rfl rfl er rfl
    · intro s9 w9 hb9 hx9 hf9 hd9 hu9
      exact lp rfl (qb (hf9 0 rfl)) <| qH <| yS rfl rfl rfl er rfl
    · intro s9 w9 hb9 hx9 hf9 hd9 hu9
      exact lp rfl (qb (hf9 1 rfl)) <| qH <| yS rfl rfl rfl er rfl
    · intro s9 w9 hb9 hx9 hf9 hd9 hu9
      exact lp rfl (QR (l := i) (h := xs.length + 1) Tryz.underlying29 Tryz.sizeOf91 (hd9 5 rfl) ⟨_, hd9 6 rfl⟩ rfl (.inl (by omega)) (by omega) (by omega)) <| qH <| yS rfl rfl rfl er rfl
    · intro s9 w9 hb9 hx9 hf9 hd9 hu9
      have e9 : Ext w w9 := hx9 rfl
      exact G1 (cs := (xs.drop i).flatMap qv) (.plain rfl) rfl (ltb rfl) rfl Tryz.underlying29 Tryz.sizeOf91 (Blk.ext hh e9) (hd9 4 rfl) (hd9 7 rfl) (by rw [hmin2, hDl]) (hsrcD (Blk.ext hh e9)) (by rw [hDl, hsz]; omega) honeD <| fun w3 hw3 k3 => qH <| X2 rfl rfl rfl (hw3.below hBg) ⟨k3, hw3.blk (k9.ext e9) hne9⟩
    · intro s3 w3 hb3 hf3 ha3
      obtain ⟨k3, k93⟩ := ha3 8 rfl rfl
      have hmin1 : Nat.min 1 (xs.length + 1 - i) = 1 := Nat.min_eq_left (by omega)
      have hsz3 : (List.take (0 + (i + 1) * 4) cur.toList ++ (xs.drop i).flatMap qv ++ List.drop (0 + (i + 1) * 4 + ((xs.drop i).flatMap qv).length) cur.toList).length = c0 * 4 := by
        simp only [List.length_append, List.length_take, List.length_drop, hDl, hcl]; omega
      refine qf <| wr <| lp rfl (qb (v := .slice (some ⟨g, 0, none⟩) (xs.length + 1) c0) (hf3 0 rfl)) <| lp rfl (qb (v := .int .i64 (i : Int)) (hf3 1 rfl)) <|
        lp rfl (QR (l := i) (h := xs.length + 1) Tryz.underlying29 Tryz.sizeOf91 rfl ⟨_, rfl⟩ rfl (.inl (by omega)) (by omega) (by omega)) <| lp rfl (qb (v := .slice (some ⟨b9, 0, none⟩) 1 1) (hf3 2 rfl)) <|
        G1 (cs := qv x) (.plain rfl) rfl (ltb rfl) rfl Tryz.underlying29 Tryz.sizeOf91 k3 rfl rfl (by rw [hmin1]; rfl) (hsrcX k93) (by simp only [List.size_toArray, hsz3, hxl]; omega) hone1 <| fun w4 hw4 k4 => nx <|
        wr <| lp rfl (qb (v := .slice (some ⟨g, 0, none⟩) (xs.length + 1) c0) (hf3 0 rfl)) <| lp rfl (qp rfl) <| nx <| qr <| qw <| qu ?_
      refine ⟨_, rfl, fun W hW => ?_, ?_⟩
      · exact Below.trans (Below.trans hW hb3) (hw4.below hBg)
      · have hz : 4 ≤ (cur.toList.drop (xs.length * 4)).length := by simp only [List.length_drop, hcl]; omega
        have h5 := ins_room (T := (xs.take i).flatMap qv) (X := qv x) (D := (xs.drop i).flatMap qv) (R := cur.toList.drop (xs.length * 4)) hT hxl hz
        rw [← hcur, show i * 4 + 4 = (i + 1) * 4 by omega] at h5
        simp only [Nat.zero_add] at k4
        rw [h5] at k4
        have hrl : ((xs.take i).flatMap qv ++ (qv x ++ (xs.drop i).flatMap qv) ++ (cur.toList.drop (xs.length * 4)).drop 4).length = c0 * 4 := by
          simp only [List.length_append, List.length_drop, hT, hxl, hDl, hcl]; omega
        have := Ow.of_row (C := c0) (ys := YC xs i x) (R := (cur.toList.drop (xs.length * 4)).drop 4) hBg k4 (by rw [ins_flat]) hlen2 (by omega) hcm hrl
        rw [hil] at this
        exact this

/-! impl.place, by text -/
theorem insAt_less {t : List Nd} {n : Nd} (h : X0 t = true) : YC t (jD t n.path) n = j8 t n := by
  obtain ⟨h1, h2⟩ := less_split (p := n.path) (Xl h)
  unfold YC j8; rw [h1, h2]
theorem impl_place.calls {w : World} {a0 : List Nd} {a1 : Nd} {v_a0 : Value} (gv : GV 0 w) (f_a0 : Rd 4 qv w v_a0 a0) (h0 : a0.length ≤ 1048575) (h1 : X0 a0 = true) (h2 : ∀ x ∈ a0, x.path.length ≤ 1048576) (h3 : a1.path.length ≤ 1048576) :
    Calls Tryz.prog 149 #[v_a0, .agg (qv a1).toArray] w (Rt (RO 91 4 qv w (j8 a0 a1))) := by
  obtain ⟨fd, hbs⟩ := binS_run h0 h1 h2 h3
  have hle := XW a0 a1.path
  refine qg Tryz.func149 rfl (Nat.le_of_ble_eq_true rfl) Tryz.ntmps149 rfl ?_
  refine wr <| Qg (.plain rfl) rfl (ltb rfl) rfl rfl <| fun b3 w1 z1 z2 e1 k1 => lp rfl (qp (v := .slice none 0 0) rfl) <| nx <| wr <| lp rfl (xm v_a0 rfl) <| lp rfl (qZ (cs := qv a1) Tryz.isAgg91 Tryz.sizeOf91 rfl rfl (Blk.at0 k1)) <|
    lc rfl rfl Tryz.call206 (qM.calls (w := w1) (a0 := a0) (a1 := a1) (a2 := cmpN) (v_a2 := .func (.func 207) #[] #[]) (f_a0.ext e1) (fun x0 x1 r h => ?_) rfl hbs) rfl <| fun w2 e2 => lp rfl (qb rfl) <| lp rfl (vV rfl rfl) <| lp rfl (vV rfl rfl) <| lp rfl (qp (v := .int .i64 (jD a0 a1.path : Int)) rfl) <| lp rfl (qp rfl) <| nx ?_
  · obtain ⟨q0, q1, rfl⟩ := cmpN_some h
    exact jb.mk Tryz.call207 (by rfl) fun w9 k9 => Qq.calls (w := w9) (a0 := x0) (a1 := x1) (GV.ext gv (e1.t k9)) q0 q1
  have f2 : Rd 4 qv w2 v_a0 a0 := f_a0.ext (e1.t e2)
  have k2 := k1.ext e2
  refine qi <| W_drawP (B := w2.heap.size) [LEq v_a0, LOw 91 4 qv w2.heap.size a0, LEq (.int .i64 (jD a0 a1.path : Int)), LEq (.agg (qv a1).toArray), fun v W => ∃ b, v = .slice (some ⟨b, 0, none⟩) 1 1 ∧ Blk W b (qv a1).toArray 91, LOw 91 4 qv w2.heap.size (j8 a0 a1), LOw 91 4 qv w2.heap.size (j8 a0 a1)]
    [⟨true, true, true, false, []⟩, ⟨true, false, true, false, [0]⟩, ⟨true, true, true, false, []⟩, ⟨true, true, true, false, []⟩, ⟨true, false, true, false, [3]⟩, ⟨false, false, true, false, [1, 2, 4]⟩, ⟨true, false, false, true, [5]⟩]
    [(5, 0, [1]), (5, 1, []), (5, 2, []), (5, 3, [4]), (5, 4, []), (6, 5, [])] 1 4 5 Apart (by kernel_rfl) (by kernel_rfl) (by kernel_rfl) (by kernel_rfl) (Nat.le_refl _)
    ⟨⟨LEq.rig.mono, fun _ => LEq.rig⟩, ⟨LOw.mono, noR⟩, ⟨LEq.rig.mono, fun _ => LEq.rig⟩, ⟨LEq.rig.mono, fun _ => LEq.rig⟩, ⟨fun _ _ _ k ⟨b, h1, h2⟩ => ⟨b, h1, h2.ext k⟩, noR⟩, ⟨LOw.mono, noR⟩, ⟨LOw.mono, noR⟩, trivial⟩
    ⟨?_, ?_, ?_, ?_, ?_, ?_, ?_, trivial⟩ ?_
  · intro s9 w9 c9 hb9 hx9 hf9 hd9 hu9 hp9 hq9 hD9
    exact lp rfl (qb (hf9 0 rfl)) <| qH <| G4 rfl rfl rfl er rfl rfl rfl
  · intro s9 w9 c9 hb9 hx9 hf9 hd9 hu9 hp9 hq9 hD9
    have e9 : Ext w2 w9 := hx9 rfl
    have h13 : s9 13 = v_a0 := hd9 0 rfl
    refine vE (.plain rfl) rfl (ltb rfl) rfl Tryz.call123 (VD.calls (w := w9) (a0 := a0) (f2.ext e9) (by omega)) (vu h13 rfl) <| fun v14 w10 e10 o14 => qH <| stepPp rfl rfl rfl e10 (Ow.base o14 e9.size) (fun hc => ?_) rfl
    obtain ⟨b, hb, kb⟩ := hp9 rfl hc
    obtain ⟨h9 | ⟨h9, _⟩, _⟩ := o14
    · refine .inr fun g b' hg hb' => ?_
      have hlt := (h9.lt g hg).1
      have hb2 : s9 17 = .slice (some ⟨b, 0, none⟩) 1 1 := hb
      have hb'' : (s9 17).ownBlock = some b' := hb'
      rw [hb2] at hb''
      have : b = b' := si hb''
      have := kb.lt
      omega
    · exact .inl h9
  · intro s9 w9 c9 hb9 hx9 hf9 hd9 hu9 hp9 hq9 hD9
    exact lp rfl (qb (hf9 5 rfl)) <| qH <| G4 rfl rfl rfl er rfl rfl rfl
  · intro s9 w9 c9 hb9 hx9 hf9 hd9 hu9 hp9 hq9 hD9
    have e9 : Ext w2 w9 := hx9 rfl
    exact lp rfl (qZ (cs := qv a1) Tryz.isAgg91 Tryz.sizeOf91 rfl (hf9 3 rfl) (Blk.at0 (k2.ext e9))) <| qH <| G4 rfl rfl rfl er rfl rfl rfl
  · intro s9 w9 c9 hb9 hx9 hf9 hd9 hu9 hp9 hq9 hD9
    have e9 : Ext w2 w9 := hx9 rfl
    have h16 : s9 16 = .agg (qv a1).toArray := hd9 3 rfl
    refine vC (.plain rfl) rfl (ltb rfl) rfl Tryz.underlying29 Tryz.sizeOf91 Tryz.zeroValue91 rfl rfl rfl (vs := [.agg (qv a1).toArray]) (vu h16 rfl) (qO rfl) <| fun b17 w10 z17 z17' e10 k17 => qH <| stepPq rfl rfl rfl e10 ⟨b17, rfl, k17⟩ rfl (fun hc => ?_)
    have o14 : Ow 91 4 qv w2.heap.size w9 (s9 14) a0 := hq9 rfl hc
    rcases o14.hb with h9 | h9
    · exact .inl h9
    · refine .inr fun g b' hg hb' => ?_
      have hlt := h9 g hg
      have : b17 = b' := si hb'
      omega
  · intro s9 w9 c9 hb9 hx9 hf9 hd9 hu9 hp9 hq9 hD9
    have e9 : Ext w2 w9 := hx9 rfl
    have o14 : Ow 91 4 qv w2.heap.size w9 (s9 14) a0 := hd9 1 rfl
    have h15 : s9 15 = .int .i64 (jD a0 a1.path : Int) := hd9 2 rfl
    obtain ⟨b17, h17, k17⟩ := hd9 4 rfl
    have h17' : s9 17 = .slice (some ⟨b17, 0, none⟩) 1 1 := h17
    have hD : Apart (s9 14) (s9 17) := hD9 rfl rfl
    refine jL (.plain rfl) rfl (ltb rfl) rfl Tryz.call208 (X1.calls (w := w9) (x := a1) (i := jD a0 a1.path) o14 hle e9.size k17 (hD.imp (fun h => h) fun h g hg => h g b17 hg (by rw [h17']; rfl)) (by omega)) (vu rfl (vu h15 (vu h17' rfl))) <| fun v18 w10 h18 => ?_
    obtain ⟨g18, o18⟩ := h18
    refine qH <| stepPH0 rfl rfl rfl (g18 _ (Below.refl _ _)) (show Ow 91 4 qv w2.heap.size w10 v18 (j8 a0 a1) from ?_) rfl rfl
    rw [← insAt_less h1]; exact o18
  · intro s9 w9 c9 hb9 hx9 hf9 hd9 hu9 hp9 hq9 hD9
    exact lp rfl (qp rfl) <| qH <| G4 rfl rfl rfl er (hd9 5 rfl) rfl rfl
  · intro s3 w3 hb3 hf3 ha3
    have o4 : Ow 91 4 qv w2.heap.size w3 (s3 4) (j8 a0 a1) := ha3 6 rfl rfl
    refine qf <| qr <| qu ?_
    have e3 : Ext w w2 := Ext.trans e1 e2
    exact jI rfl (e3.t hb3) o4 e3.size

/-! spec.l04Put -/
abbrev qR.e1 (a0 : List Nd) (a1 : Nd) (x5_11 : Int) := ((([] : List Nd) ++ (sub a0 0 x5_11)) ++ ([a1] : List Nd))
theorem qR.walk {k : Nat} {w : World} {a0 : List Nd} {a1 : Nd} {v_a0 : Value} (f_a0 : Rd 4 qv w v_a0 a0) {r : List Nd} (H : qR.sh k a0 a1 = some r) :
  Calls Tryz.prog 210 #[v_a0, .agg (qv a1).toArray] w (Rt (RO 91 4 qv w r)) := by
 unfold qR.sh at H
 refine qg Tryz.func210 rfl (Nat.le_of_ble_eq_true rfl) Tryz.ntmps210 rfl ?_
 refine wr <| Qg (.plain rfl) rfl (ltb rfl) rfl rfl <| fun b1 w2 z3 z4 e5 k6 => lp rfl (xa (.slice none 0 0) rfl) <| nx <| wr <| lp rfl (xa (.int .i64 0) rfl) <| nx <| qi ?_
 obtain ⟨z8, L9, C10⟩ := bind_some H
 clear H
 refine  vq (fun s0 sQ wQ => ∃ (x5_11 : Int), Kp [(5, 6), (7, 23)] s0 sQ ∧ sQ 5 = .int .i64 x5_11 ∧ Ext w2 wQ ∧ z8 = .inr x5_11) ?_ ?_
 ·refine qx <| vc (fun s0 kk sQ wQ => ∃ (x5_7 : Int), Kp [(5, 6), (7, 23)] s0 sQ ∧ sQ 5 = .int .i64 x5_7 ∧ Ext w2 wQ ∧ qn (qR.b1 a0 a1) kk x5_7 = some z8) k ⟨0, kz, rfl, er, L9⟩ ?_
  rintro k16 s17 w18 ⟨x5_7, K19, h22, e20, L21⟩
  cases k16 with
  | zero => exact absurd L21 (by simp [qn])
  | succ k16 =>
   obtain ⟨t23, H, S24⟩ := qJ L21
   clear L21
   unfold qR.b1 at H
   refine qi <| qi ?_
   obtain ⟨c25, H⟩ := qa H
   obtain ⟨c28, H⟩ := qa H
   obtain ⟨c29, H⟩ := qa H
   refine Yc [LEq (.int .i64 x5_7), LEq v_a0, LEq (.int .i64 (a0.length : Int)), LEq (.bool (decide (x5_7 < (a0.length : Int)))), LEq (.bool (decide (x5_7 < (a0.length : Int)))), LIf (decide (x5_7 < (a0.length : Int))) (LEq v_a0), LIf (decide (x5_7 < (a0.length : Int))) (LEq (.int .i64 x5_7)), LIf (decide (x5_7 < (a0.length : Int))) (yY (qv (gt a0 x5_7))), LIf (decide (x5_7 < (a0.length : Int))) (LAt 1 (qv (gt a0 x5_7))), LIf (decide (x5_7 < (a0.length : Int))) (LEq (S ((gt a0 x5_7).path))), LIf (decide (x5_7 < (a0.length : Int))) (LEq (.pointer (some ⟨b1, 1, none⟩))), LIf (decide (x5_7 < (a0.length : Int))) (LEq (S a1.path)), LIf (decide (x5_7 < (a0.length : Int))) (LEq (.bool (vA (cut 47 ((gt a0 x5_7).path)) (cut 47 a1.path)))), LEq (.bool ((decide (x5_7 < (a0.length : Int))) && (vA (cut 47 ((gt a0 x5_7).path)) (cut 47 a1.path))))] (by kernel_rfl) (by kernel_rfl) ⟨qm, qm, qm, qm, qm, lm, lm, (LIf.mono yY.mono), (LIf.mono LAt.mono), lm, lm, lm, lm, qm, trivial⟩ ⟨?_, ?_, ?_, ?_, ?_, ?_, ?_, ?_, ?_, ?_, ?_, ?_, ?_, ?_, trivial⟩ ?_
   ·exact fun s x e f d u => lp rfl (xm (.int .i64 x5_7) ((f 5 rfl).trans h22)) <| se rfl rfl
   ·exact fun s x e f d u => lp rfl (xm v_a0 ((f 0 rfl).trans (K19 0 rfl))) <| se rfl rfl
   ·exact fun s x e f d u => lp rfl (va Tryz.underlying29 (d 1 rfl) (Rd.ext f_a0 ((e5.t e20).t e))) <| se rfl rfl
   ·exact fun s x e f d u => lp rfl (vW (d 0 rfl) (d 2 rfl)) <| se rfl rfl
   ·exact fun s x e f d u => lp rfl (qb (d 3 rfl)) <| se rfl rfl
   ·exact fun s x e f d u => gT rfl rfl rfl rfl (d 4 rfl) rfl fun b t => lt t rfl rfl (xm v_a0 ((f 0 rfl).trans (K19 0 rfl))) <| sg rfl rfl b rfl
   ·exact fun s x e f d u => gT rfl rfl rfl rfl (d 4 rfl) rfl fun b t => lt t rfl rfl (xm (.int .i64 x5_7) ((f 5 rfl).trans h22)) <| sg rfl rfl b rfl
   ·exact fun s x e f d u => gT rfl rfl rfl rfl (d 4 rfl) rfl fun b t => vk t rfl (ltb rfl) rfl Tryz.underlying29 Tryz.sizeOf91 ((d 5 rfl).1 b) (Rd.ext f_a0 ((e5.t e20).t e)) ((d 6 rfl).1 b) (yl b c25) <| fun p33 h34 => sg rfl rfl b ⟨_, rfl, h34⟩
   ·intro s x e f d u
    refine gT rfl rfl rfl rfl (d 4 rfl) rfl fun b t => ?_
    obtain ⟨p35, h36, h37⟩ := ((d 7 rfl).1 b)
    exact lt t rfl rfl (qd Tryz.underlying91 rfl Tryz.sizeOf9 rfl h36) <| sg rfl rfl b ⟨_, rfl, h37⟩
   ·intro s x e f d u
    refine gT rfl rfl rfl rfl (d 4 rfl) rfl fun b t => ?_
    obtain ⟨p38, h39, h40⟩ := ((d 8 rfl).1 b)
    exact lt t rfl rfl (yU Tryz.isAgg9 (j := 1) h40 h39 rfl) <| sg rfl rfl b rfl
   ·exact fun s x e f d u => gT rfl rfl rfl rfl (d 4 rfl) rfl fun b t => lt t rfl rfl (qd Tryz.underlying91 rfl Tryz.sizeOf9 rfl ((f 3 rfl).trans (K19 3 rfl))) <| sg rfl rfl b rfl
   ·exact fun s x e f d u => gT rfl rfl rfl rfl (d 4 rfl) rfl fun b t => lt t rfl rfl (qA Tryz.isAgg9 (Blk.ext k6 (e20.t e)) ((d 10 rfl).1 b) rfl) <| sg rfl rfl b rfl
   ·exact fun s x e f d u => gT rfl rfl rfl rfl (d 4 rfl) rfl fun b t => yW t rfl (ltb rfl) rfl Tryz.call153 (vM.calls (w := x) (a0 := (gt a0 x5_7).path) (a1 := a1.path) (od (yl b c28)) (od (yl b c29))) (vu ((d 9 rfl).1 b) (vu ((d 11 rfl).1 b) rfl)) <| fun w43 e44 => sgx rfl rfl b e44 rfl
   ·exact fun s x e f d u => lp rfl (Qk (d 4 rfl) rfl fun h => ((d 12 rfl).1 h)) <| se rfl rfl
   intro s45 w46 e47 hf48 ha49
   have K50 := Kp.ofD (kp := [(7, 21)]) rfl hf48
   have d51 : s45 20 = (.bool ((decide (x5_7 < (a0.length : Int))) && (vA (cut 47 ((gt a0 x5_7).path)) (cut 47 a1.path)))) := ha49 13 rfl
   clear ha49 hf48
   refine qf ?_
   rcases qh H with ⟨q52, H⟩ | ⟨q52, H⟩
   ·refine qo (d51.trans (cb q52)) <| qq <| qf <| qx <| qG <| lp rfl (xm (.int .i64 x5_7) ((K50 5 rfl).trans h22)) <| lp rfl (qU rfl rfl) <| lp rfl (xa (.int .i64 (IntKind.wrap .i64 (x5_7 + 1))) rfl) <| qH <| vj <| qf ?_
    obtain rfl := si H
    exact ⟨_, Nat.lt_succ_self _, IntKind.wrap .i64 (x5_7 + 1), (ku3 (Kp.cut K19 K50 rfl) rfl), rfl, (e20.t e47), S24⟩
   ·refine qj (d51.trans (cb q52)) <| vt <| qN <| qN <| yu <| qf ?_
    obtain rfl := si H
    obtain rfl := si S24
    exact ⟨x5_7, (Kp.cut K19 K50 rfl), ((K50 5 rfl).trans h22), (e20.t e47), rfl⟩
 ·rintro s13 w12 ⟨x5_11, K14, h53, e15, y54⟩
  rw [y54] at C10
  have H := C10
  replace H : _ = some _ := H
  refine qf <| wr <| lp rfl (xm v_a0 (K14 0 rfl)) <| lp rfl (qb h53) ?_
  obtain ⟨c55, H⟩ := qa H
  refine Xo (.plain rfl) rfl (ltb rfl) rfl Tryz.underlying29 Tryz.sizeOf91 rfl (Rd.ext f_a0 (e5.t e15)) (l := x5_11) (h := (a0.length : Int)) ⟨_, rfl⟩ rfl c55 <| fun v56 h57 => lp rfl (xa v56 rfl) <| nx <| qi <| qi ?_
  obtain ⟨c58, H⟩ := qa H
  refine Yc [LEq (.int .i64 x5_11), LEq v_a0, LEq (.int .i64 (a0.length : Int)), LEq (.bool (decide (x5_11 < (a0.length : Int)))), LEq (.bool (decide (x5_11 < (a0.length : Int)))), LIf (decide (x5_11 < (a0.length : Int))) (LEq v_a0), LIf (decide (x5_11 < (a0.length : Int))) (LEq (.int .i64 x5_11)), LIf (decide (x5_11 < (a0.length : Int))) (yY (qv (gt a0 x5_11))), LIf (decide (x5_11 < (a0.length : Int))) (LAt 1 (qv (gt a0 x5_11))), LIf (decide (x5_11 < (a0.length : Int))) (LEq (S ((gt a0 x5_11).path))), LIf (decide (x5_11 < (a0.length : Int))) (LEq (.pointer (some ⟨b1, 1, none⟩))), LIf (decide (x5_11 < (a0.length : Int))) (LEq (S a1.path)), LIf (decide (x5_11 < (a0.length : Int))) (LEq (.bool (decide (((gt a0 x5_11).path) = a1.path)))), LEq (.bool ((decide (x5_11 < (a0.length : Int))) && (decide (((gt a0 x5_11).path) = a1.path))))] (by kernel_rfl) (by kernel_rfl) ⟨qm, qm, qm, qm, qm, lm, lm, (LIf.mono yY.mono), (LIf.mono LAt.mono), lm, lm, lm, lm, qm, trivial⟩ ⟨?_, ?_, ?_, ?_, ?_, ?_, ?_, ?_, ?_, ?_, ?_, ?_, ?_, ?_, trivial⟩ ?_
  ·exact fun s x e f d u => lp rfl (xm (.int .i64 x5_11) ((f 5 rfl).trans h53)) <| se rfl rfl
  ·exact fun s x e f d u => lp rfl (xm v_a0 ((f 0 rfl).trans (K14 0 rfl))) <| se rfl rfl
  ·exact fun s x e f d u => lp rfl (va Tryz.underlying29 (d 1 rfl) (Rd.ext f_a0 ((e5.t e15).t e))) <| se rfl rfl
  ·exact fun s x e f d u => lp rfl (vW (d 0 rfl) (d 2 rfl)) <| se rfl rfl
  ·exact fun s x e f d u => lp rfl (qb (d 3 rfl)) <| se rfl rfl
  ·exact fun s x e f d u => gT rfl rfl rfl rfl (d 4 rfl) rfl fun b t => lt t rfl rfl (xm v_a0 ((f 0 rfl).trans (K14 0 rfl))) <| sg rfl rfl b rfl
  ·exact fun s x e f d u => gT rfl rfl rfl rfl (d 4 rfl) rfl fun b t => lt t rfl rfl (xm (.int .i64 x5_11) ((f 5 rfl).trans h53)) <| sg rfl rfl b rfl
  ·exact fun s x e f d u => gT rfl rfl rfl rfl (d 4 rfl) rfl fun b t => vk t rfl (ltb rfl) rfl Tryz.underlying29 Tryz.sizeOf91 ((d 5 rfl).1 b) (Rd.ext f_a0 ((e5.t e15).t e)) ((d 6 rfl).1 b) (yl b c58) <| fun p62 h63 => sg rfl rfl b ⟨_, rfl, h63⟩
  ·intro s x e f d u
   refine gT rfl rfl rfl rfl (d 4 rfl) rfl fun b t => ?_
   obtain ⟨p64, h65, h66⟩ := ((d 7 rfl).1 b)
   exact lt t rfl rfl (qd Tryz.underlying91 rfl Tryz.sizeOf9 rfl h65) <| sg rfl rfl b ⟨_, rfl, h66⟩
  ·intro s x e f d u
   refine gT rfl rfl rfl rfl (d 4 rfl) rfl fun b t => ?_
   obtain ⟨p67, h68, h69⟩ := ((d 8 rfl).1 b)
   exact lt t rfl rfl (yU Tryz.isAgg9 (j := 1) h69 h68 rfl) <| sg rfl rfl b rfl
  ·exact fun s x e f d u => gT rfl rfl rfl rfl (d 4 rfl) rfl fun b t => lt t rfl rfl (qd Tryz.underlying91 rfl Tryz.sizeOf9 rfl ((f 3 rfl).trans (K14 3 rfl))) <| sg rfl rfl b rfl
  ·exact fun s x e f d u => gT rfl rfl rfl rfl (d 4 rfl) rfl fun b t => lt t rfl rfl (qA Tryz.isAgg9 (Blk.ext k6 (e15.t e)) ((d 10 rfl).1 b) rfl) <| sg rfl rfl b rfl
  ·exact fun s x e f d u => gT rfl rfl rfl rfl (d 4 rfl) rfl fun b t => lt t rfl rfl (VO ((d 9 rfl).1 b) ((d 11 rfl).1 b)) <| sg rfl rfl b rfl
  ·exact fun s x e f d u => lp rfl (Qk (d 4 rfl) rfl fun h => ((d 12 rfl).1 h)) <| se rfl rfl
  intro s70 w71 e72 hf73 ha74
  have K75 := Kp.ofD (kp := [(26, 40)]) rfl hf73
  have d76 : s70 39 = (.bool ((decide (x5_11 < (a0.length : Int))) && (decide (((gt a0 x5_11).path) = a1.path)))) := ha74 13 rfl
  clear ha74 hf73
  refine qf ?_
  rcases qh H with ⟨q77, H⟩ | ⟨q77, H⟩
  ·refine qo (d76.trans (cb q77)) <| qG <| lp rfl (xm v_a0 ((K75 0 rfl).trans (K14 0 rfl))) <| lp rfl (xm (.int .i64 x5_11) ((K75 5 rfl).trans h53)) <| lp rfl (qU rfl rfl) ?_
   obtain ⟨c78, H⟩ := qa H
   refine Xo (.plain rfl) rfl (ltb rfl) rfl Tryz.underlying29 Tryz.sizeOf91 rfl (Rd.ext f_a0 ((e5.t e15).t e72)) (l := IntKind.wrap .i64 (x5_11 + 1)) (h := (a0.length : Int)) ⟨_, rfl⟩ rfl c78 <| fun v79 h80 => lp rfl (xa v79 rfl) <| nx <| qi ?_
   obtain ⟨c87, H⟩ := qa H
   obtain ⟨c90, H⟩ := qa H
   obtain ⟨c102, H⟩ := qa H
   obtain ⟨c108, H⟩ := qa H
   refine JQ (B := w71.heap.size) [LEmp, LEq v_a0, LEq (.int .i64 x5_11), LRdW w71 4 qv (sub a0 0 x5_11), LOw 91 4 qv w71.heap.size (([] : List Nd) ++ (sub a0 0 x5_11)), LEq (.agg #[(.int .i64 a1.kind), (S a1.path), (S a1.body), (.int .i64 a1.mode)]), LRd 4 qv ([a1] : List Nd), LOw 91 4 qv w71.heap.size (qR.e1 a0 a1 x5_11), LEq v79, LOw 91 4 qv w71.heap.size ((qR.e1 a0 a1 x5_11) ++ (sub a0 (IntKind.wrap .i64 (x5_11 + 1)) (a0.length : Int))), LOw 91 4 qv w71.heap.size ((qR.e1 a0 a1 x5_11) ++ (sub a0 (IntKind.wrap .i64 (x5_11 + 1)) (a0.length : Int)))] [⟨true, true, true, false, []⟩, ⟨true, true, true, false, []⟩, ⟨true, true, true, false, []⟩, ⟨true, true, true, false, [1, 2]⟩, ⟨true, false, true, false, [0, 3]⟩, ⟨true, true, true, false, []⟩, ⟨true, false, true, false, [5]⟩, ⟨false, false, true, false, [4, 6]⟩, ⟨true, true, false, false, []⟩, ⟨false, false, false, false, [7, 8]⟩, ⟨true, false, false, true, [9]⟩] [(7, 0, [4]), (9, 0, [7, 4]), (7, 1, [4, 3]), (9, 1, [7, 4, 3]), (7, 2, [4, 3]), (9, 2, [7, 4, 3]), (7, 3, [4]), (9, 3, [7, 4]), (7, 4, []), (9, 4, [7]), (7, 5, [6]), (9, 5, [7, 6]), (7, 6, []), (9, 6, [7]), (9, 7, []), (10, 7, []), (10, 9, [])] (by kernel_rfl) (by kernel_rfl) (Nat.le_refl _) ⟨⟨LEmp.rig.mono, fun _ => LEmp.rig⟩, ⟨LEq.rig.mono, fun _ => LEq.rig⟩, ⟨LEq.rig.mono, fun _ => LEq.rig⟩, ⟨LRdW.rig.mono, fun _ => LRdW.rig⟩, ⟨LOw.mono, noR⟩, ⟨LEq.rig.mono, fun _ => LEq.rig⟩, ⟨LRd.mono, noR⟩, ⟨LOw.mono, noR⟩, ⟨LEq.rig.mono, fun _ => LEq.rig⟩, ⟨LOw.mono, noR⟩, ⟨LOw.mono, noR⟩, trivial⟩ ⟨?_, ?_, ?_, ?_, ?_, ?_, ?_, ?_, ?_, ?_, ?_, trivial⟩ ?_
   ·intro s114 w115 hb116 hx117 hf118 hd119 hu120
    have e121 : Ext w71 w115 := hx117 rfl
    exact vC (.plain rfl) rfl (ltb rfl) rfl Tryz.underlying29 Tryz.sizeOf91 Tryz.zeroValue91 rfl rfl rfl (vs := []) rfl (qO rfl) <| fun b122 w123 z124 z125 e126 k127 => qH <| yS rfl rfl rfl e126 ⟨_, rfl⟩
   ·intro s128 w129 hb130 hx131 hf132 hd133 hu134
    have e135 : Ext w71 w129 := hx131 rfl
    exact lp rfl (xm v_a0 ((hf132 0 rfl).trans ((K75 0 rfl).trans (K14 0 rfl)))) <| qH <| yS rfl rfl rfl er rfl
   ·intro s136 w137 hb138 hx139 hf140 hd141 hu142
    have e143 : Ext w71 w137 := hx139 rfl
    exact lp rfl (xm (.int .i64 x5_11) ((hf140 5 rfl).trans ((K75 5 rfl).trans h53))) <| qH <| yS rfl rfl rfl er rfl
   ·intro s144 w145 hb146 hx147 hf148 hd149 hu150
    have e151 : Ext w71 w145 := hx147 rfl
    have d152 : s144 45 = v_a0 := (hd149 1 rfl)
    have d153 : s144 46 = (.int .i64 x5_11) := (hd149 2 rfl)
    have c154 := c87
    exact Xo (.plain rfl) rfl (ltb rfl) rfl Tryz.underlying29 Tryz.sizeOf91 d152 (Rd.ext f_a0 ((e5.t e15).t e72)) (l := 0) (h := x5_11) rfl ⟨_, d153⟩ c154 <| fun v155 h156 => qH <| yS rfl rfl rfl er h156
   ·intro s157 w158 hb159 hx160 hf161 hd162 hu163
    have e164 : Ext w71 w158 := hx160 rfl
    obtain ⟨b165, h166⟩ := (hd162 0 rfl)
    have d167 : Rd 4 qv w71 (s157 47) (sub a0 0 x5_11) := (hd162 3 rfl)
    have c168 := c90
    exact vP (enc := qv) (.plain rfl) rfl (ltb rfl) rfl El.t29 h166 rfl (Ow.zero (base := w158.heap.size) (w := w158)) (Rd.ext d167 e164) (QM _) (od c168) (Nat.le_refl _) <| fun v169 w170 o171 z172 g173 => qH <| yS rfl rfl rfl (g173 _ er) (Ow.base o171 e164.size)
   ·intro s174 w175 hb176 hx177 hf178 hd179 hu180
    have e181 : Ext w71 w175 := hx177 rfl
    exact lp rfl (qZ Tryz.isAgg91 Tryz.sizeOf91 rfl ((hf178 3 rfl).trans ((K75 3 rfl).trans (K14 3 rfl))) (Blk.at0 (Blk.ext k6 ((e15.t e72).t e181)))) <| qH <| yS rfl rfl rfl er rfl
   ·intro s182 w183 hb184 hx185 hf186 hd187 hu188
    have e189 : Ext w71 w183 := hx185 rfl
    have d190 : s182 49 = (.agg #[(.int .i64 a1.kind), (S a1.path), (S a1.body), (.int .i64 a1.mode)]) := (hd187 5 rfl)
    exact vC (.plain rfl) rfl (ltb rfl) rfl Tryz.underlying29 Tryz.sizeOf91 Tryz.zeroValue91 rfl rfl rfl (vs := [(.agg #[(.int .i64 a1.kind), (S a1.path), (S a1.body), (.int .i64 a1.mode)])]) (vu d190 rfl) (qO rfl) <| fun b191 w192 z193 z194 e195 k196 => qH <| yS rfl rfl rfl e195 (Ow.rd (Ow.new (xs := [a1]) (sz := 4) (enc := qv) (base := w183.heap.size) k196 (Nat.le_of_eq z193) rfl (fun _ _ => by rfl) (Nat.le_of_ble_eq_true rfl)))
   ·intro s197 w198 hb199 hx200 hf201 hd202 hu203
    have e204 : Ext w71 w198 := hx200 rfl
    have d205 : Ow 91 4 qv w71.heap.size w198 (s197 48) (([] : List Nd) ++ (sub a0 0 x5_11)) := (hd202 4 rfl)
    have d206 : Rd 4 qv w198 (s197 50) ([a1] : List Nd) := (hd202 6 rfl)
    have c207 := c102
    exact vP (enc := qv) (.plain rfl) rfl (ltb rfl) rfl El.t29 rfl rfl d205 d206 (QM _) (od c207) (e204).size <| fun v208 w209 o210 z211 g212 => qH <| X2 rfl rfl rfl (g212 _ (Below.refl _ _)) o210
   ·intro s213 w214 hb215 hx216 hf217 hd218 hu219
    have e220 : Ext w71 w214 := Below.trans er hb215
    exact lp rfl (xm v79 (hf217 6 rfl)) <| qH <| yS rfl rfl rfl er rfl
   ·intro s221 w222 hb223 hx224 hf225 hd226 hu227
    have e228 : Ext w71 w222 := Below.trans er hb223
    have d229 : Ow 91 4 qv w71.heap.size w222 (s221 51) (qR.e1 a0 a1 x5_11) := (hd226 7 rfl)
    have d230 : s221 52 = v79 := (hd226 8 rfl)
    have c231 := c108
    exact vP (enc := qv) (.plain rfl) rfl (ltb rfl) rfl El.t29 rfl d230 d229 (Rd.ext h80 e228) (QM _) (od c231) (e228).size <| fun v232 w233 o234 z235 g236 => qH <| X2 rfl rfl rfl (g236 _ (Below.refl _ _)) o234
   ·intro s237 w238 hb239 hx240 hf241 hd242 hu243
    have e244 : Ext w71 w238 := Below.trans er hb239
    have d245 : Ow 91 4 qv w71.heap.size w238 (s237 53) ((qR.e1 a0 a1 x5_11) ++ (sub a0 (IntKind.wrap .i64 (x5_11 + 1)) (a0.length : Int))) := (hd242 9 rfl)
    exact lp rfl (xa (s237 53) rfl) <| qH <| yS rfl rfl rfl er d245
   intro s246 w247 hb248 hf250 ha251
   have K252 := Kp.ofD (kp := [(4, 5), (44, 54)]) rfl hf250
   have e249 : Ext w71 w247 := hb248
   have d253 : Ow 91 4 qv w71.heap.size w247 (s246 4) ((qR.e1 a0 a1 x5_11) ++ (sub a0 (IntKind.wrap .i64 (x5_11 + 1)) (a0.length : Int))) := ha251 10 rfl rfl
   clear ha251 hf250
   refine qf <| qr <| qu ?_
   obtain rfl := si H
   exact jI rfl (((e5.t e15).t e72).t e249) d253 (((e5.t e15).t e72)).size
  ·refine qj (d76.trans (cb q77)) <| qq <| qf <| qi ?_
   obtain ⟨c260, H⟩ := qa H
   obtain ⟨c263, H⟩ := qa H
   obtain ⟨c275, H⟩ := qa H
   obtain ⟨c281, H⟩ := qa H
   refine JQ (B := w71.heap.size) [LEmp, LEq v_a0, LEq (.int .i64 x5_11), LRdW w71 4 qv (sub a0 0 x5_11), LOw 91 4 qv w71.heap.size (([] : List Nd) ++ (sub a0 0 x5_11)), LEq (.agg #[(.int .i64 a1.kind), (S a1.path), (S a1.body), (.int .i64 a1.mode)]), LRd 4 qv ([a1] : List Nd), LOw 91 4 qv w71.heap.size (qR.e1 a0 a1 x5_11), LEq v56, LOw 91 4 qv w71.heap.size ((qR.e1 a0 a1 x5_11) ++ (sub a0 x5_11 (a0.length : Int))), LOw 91 4 qv w71.heap.size ((qR.e1 a0 a1 x5_11) ++ (sub a0 x5_11 (a0.length : Int)))] [⟨true, true, true, false, []⟩, ⟨true, true, true, false, []⟩, ⟨true, true, true, false, []⟩, ⟨true, true, true, false, [1, 2]⟩, ⟨true, false, true, false, [0, 3]⟩, ⟨true, true, true, false, []⟩, ⟨true, false, true, false, [5]⟩, ⟨false, false, true, false, [4, 6]⟩, ⟨true, true, false, false, []⟩, ⟨false, false, false, false, [7, 8]⟩, ⟨true, false, false, true, [9]⟩] [(7, 0, [4]), (9, 0, [7, 4]), (7, 1, [4, 3]), (9, 1, [7, 4, 3]), (7, 2, [4, 3]), (9, 2, [7, 4, 3]), (7, 3, [4]), (9, 3, [7, 4]), (7, 4, []), (9, 4, [7]), (7, 5, [6]), (9, 5, [7, 6]), (7, 6, []), (9, 6, [7]), (9, 7, []), (10, 7, []), (10, 9, [])] (by kernel_rfl) (by kernel_rfl) (Nat.le_refl _) ⟨⟨LEmp.rig.mono, fun _ => LEmp.rig⟩, ⟨LEq.rig.mono, fun _ => LEq.rig⟩, ⟨LEq.rig.mono, fun _ => LEq.rig⟩, ⟨LRdW.rig.mono, fun _ => LRdW.rig⟩, ⟨LOw.mono, noR⟩, ⟨LEq.rig.mono, fun _ => LEq.rig⟩, ⟨LRd.mono, noR⟩, ⟨LOw.mono, noR⟩, ⟨LEq.rig.mono, fun _ => LEq.rig⟩, ⟨LOw.mono, noR⟩, ⟨LOw.mono, noR⟩, trivial⟩ ⟨?_, ?_, ?_, ?_, ?_, ?_, ?_, ?_, ?_, ?_, ?_, trivial⟩ ?_
   ·intro s287 w288 hb289 hx290 hf291 hd292 hu293
    have e294 : Ext w71 w288 := hx290 rfl
    exact vC (.plain rfl) rfl (ltb rfl) rfl Tryz.underlying29 Tryz.sizeOf91 Tryz.zeroValue91 rfl rfl rfl (vs := []) rfl (qO rfl) <| fun b295 w296 z297 z298 e299 k300 => qH <| yS rfl rfl rfl e299 ⟨_, rfl⟩
   ·intro s301 w302 hb303 hx304 hf305 hd306 hu307
    have e308 : Ext w71 w302 := hx304 rfl
    exact lp rfl (xm v_a0 ((hf305 0 rfl).trans ((K75 0 rfl).trans (K14 0 rfl)))) <| qH <| yS rfl rfl rfl er rfl
   ·intro s309 w310 hb311 hx312 hf313 hd314 hu315
    have e316 : Ext w71 w310 := hx312 rfl
    exact lp rfl (xm (.int .i64 x5_11) ((hf313 5 rfl).trans ((K75 5 rfl).trans h53))) <| qH <| yS rfl rfl rfl er rfl
   ·intro s317 w318 hb319 hx320 hf321 hd322 hu323
    have e324 : Ext w71 w318 := hx320 rfl
    have d325 : s317 45 = v_a0 := (hd322 1 rfl)
    have d326 : s317 46 = (.int .i64 x5_11) := (hd322 2 rfl)
    have c327 := c260
    exact Xo (.plain rfl) rfl (ltb rfl) rfl Tryz.underlying29 Tryz.sizeOf91 d325 (Rd.ext f_a0 ((e5.t e15).t e72)) (l := 0) (h := x5_11) rfl ⟨_, d326⟩ c327 <| fun v328 h329 => qH <| yS rfl rfl rfl er h329
   ·intro s330 w331 hb332 hx333 hf334 hd335 hu336
    have e337 : Ext w71 w331 := hx333 rfl
    obtain ⟨b338, h339⟩ := (hd335 0 rfl)
    have d340 : Rd 4 qv w71 (s330 47) (sub a0 0 x5_11) := (hd335 3 rfl)
    have c341 := c263
    exact vP (enc := qv) (.plain rfl) rfl (ltb rfl) rfl El.t29 h339 rfl (Ow.zero (base := w331.heap.size) (w := w331)) (Rd.ext d340 e337) (QM _) (od c341) (Nat.le_refl _) <| fun v342 w343 o344 z345 g346 => qH <| yS rfl rfl rfl (g346 _ er) (Ow.base o344 e337.size)
   ·intro s347 w348 hb349 hx350 hf351 hd352 hu353
    have e354 : Ext w71 w348 := hx350 rfl
    exact lp rfl (qZ Tryz.isAgg91 Tryz.sizeOf91 rfl ((hf351 3 rfl).trans ((K75 3 rfl).trans (K14 3 rfl))) (Blk.at0 (Blk.ext k6 ((e15.t e72).t e354)))) <| qH <| yS rfl rfl rfl er rfl
   ·intro s355 w356 hb357 hx358 hf359 hd360 hu361
    have e362 : Ext w71 w356 := hx358 rfl
    have d363 : s355 49 = (.agg #[(.int .i64 a1.kind), (S a1.path), (S a1.body), (.int .i64 a1.mode)]) := (hd360 5 rfl)
    exact vC (.plain rfl) rfl (ltb rfl) rfl Tryz.underlying29 Tryz.sizeOf91 Tryz.zeroValue91 rfl rfl rfl (vs := [(.agg #[(.int .i64 a1.kind), (S a1.path), (S a1.body), (.int .i64 a1.mode)])]) (vu d363 rfl) (qO rfl) <| fun b364 w365 z366 z367 e368 k369 => qH <| yS rfl rfl rfl e368 (Ow.rd (Ow.new (xs := [a1]) (sz := 4) (enc := qv) (base := w356.heap.size) k369 (Nat.le_of_eq z366) rfl (fun _ _ => by rfl) (Nat.le_of_ble_eq_true rfl)))
   ·intro s370 w371 hb372 hx373 hf374 hd375 hu376
    have e377 : Ext w71 w371 := hx373 rfl
    have d378 : Ow 91 4 qv w71.heap.size w371 (s370 48) (([] : List Nd) ++ (sub a0 0 x5_11)) := (hd375 4 rfl)
    have d379 : Rd 4 qv w371 (s370 50) ([a1] : List Nd) := (hd375 6 rfl)
    have c380 := c275
    exact vP (enc := qv) (.plain rfl) rfl (ltb rfl) rfl El.t29 rfl rfl d378 d379 (QM _) (od c380) (e377).size <| fun v381 w382 o383 z384 g385 => qH <| X2 rfl rfl rfl (g385 _ (Below.refl _ _)) o383
   ·intro s386 w387 hb388 hx389 hf390 hd391 hu392
    have e393 : Ext w71 w387 := Below.trans er hb388
    exact lp rfl (xm v56 ((hf390 6 rfl).trans (K75 6 rfl))) <| qH <| yS rfl rfl rfl er rfl
   ·intro s394 w395 hb396 hx397 hf398 hd399 hu400
    have e401 : Ext w71 w395 := Below.trans er hb396
    have d402 : Ow 91 4 qv w71.heap.size w395 (s394 51) (qR.e1 a0 a1 x5_11) := (hd399 7 rfl)
    have d403 : s394 52 = v56 := (hd399 8 rfl)
    have c404 := c281
    exact vP (enc := qv) (.plain rfl) rfl (ltb rfl) rfl El.t29 rfl d403 d402 (Rd.ext h57 (e72.t e401)) (QM _) (od c404) (e401).size <| fun v405 w406 o407 z408 g409 => qH <| X2 rfl rfl rfl (g409 _ (Below.refl _ _)) o407
   ·intro s410 w411 hb412 hx413 hf414 hd415 hu416
    have e417 : Ext w71 w411 := Below.trans er hb412
    have d418 : Ow 91 4 qv w71.heap.size w411 (s410 53) ((qR.e1 a0 a1 x5_11) ++ (sub a0 x5_11 (a0.length : Int))) := (hd415 9 rfl)
    exact lp rfl (xa (s410 53) rfl) <| qH <| yS rfl rfl rfl er d418
   intro s419 w420 hb421 hf423 ha424
   have K425 := Kp.ofD (kp := [(4, 5), (44, 54)]) rfl hf423
   have e422 : Ext w71 w420 := hb421
   have d426 : Ow 91 4 qv w71.heap.size w420 (s419 4) ((qR.e1 a0 a1 x5_11) ++ (sub a0 x5_11 (a0.length : Int))) := ha424 10 rfl rfl
   clear ha424 hf423
   refine qf <| qr <| qu ?_
   obtain rfl := si H
   exact jI rfl (((e5.t e15).t e72).t e422) d426 (((e5.t e15).t e72)).size
theorem qR.calls {w : World} {a0 : List Nd} {a1 : Nd} {v_a0 : Value} (f_a0 : Rd 4 qv w v_a0 a0) (h0 : a0.length ≤ 1000000) (h1 : ∀ x ∈ a0, x.path.length ≤ 1048576) (h2 : a1.path.length ≤ 1048576) :
  Calls Tryz.prog 210 #[v_a0, .agg (qv a1).toArray] w (Rt (RO 91 4 qv w (JK a0 a1))) := by
 obtain ⟨k, h⟩ := qR.eq a0 a1 h0 h1 h2
 exact qR.walk f_a0 h
/-! spec.l04Node -/
theorem Qw.calls {w : World} {a0 : Rec} :
  Calls Tryz.prog 146 #[.agg (qc a0).toArray] w (Rt (RP w (.agg (qv (Qy a0)).toArray))) := by
 have H := Qw.eq a0
 generalize (Qy a0) = r at H ⊢
 unfold Qw.sh at H
 refine Yg Tryz.func146 rfl (Nat.le_of_ble_eq_true rfl) Tryz.ntmps146 ?_
 refine wr <| Qg (.plain rfl) rfl (ltb rfl) rfl rfl <| fun b1 w2 z3 z4 e5 k6 => Vf (.plain rfl) rfl (ltb rfl) rfl Tryz.zeroValue91 <| fun b7 w8 z9 z10 e11 k12 => nx <| wr <| lp rfl (qd Tryz.underlying52 rfl Tryz.sizeOf3 rfl rfl) <| lp rfl (qA Tryz.isAgg3 (Blk.ext k6 e11) rfl rfl) <| lp rfl (qd Tryz.underlying52 rfl Tryz.sizeOf9 rfl rfl) <| lp rfl (qA Tryz.isAgg9 (Blk.ext k6 e11) rfl rfl) <| lp rfl (qd Tryz.underlying52 rfl Tryz.sizeOf9 rfl rfl) <| lp rfl (qA Tryz.isAgg9 (Blk.ext k6 e11) rfl rfl) <| lp rfl (qd Tryz.underlying52 rfl Tryz.sizeOf3 rfl rfl) <| lp rfl (qA Tryz.isAgg3 (Blk.ext k6 e11) rfl rfl) <| lp rfl (Vc (vs := [(0, (.int .i64 a0.kind)), (1, (S a0.path)), (2, (S a0.body)), (3, (.int .i64 a0.mode))]) (pl := #[(0, 1), (1, 1), (2, 1), (3, 1)]) Tryz.underlying91 Tryz.zeroValue91 rfl (fun _ => by kernel_rfl) rfl rfl rfl) <| jK (.plain rfl) rfl rfl Tryz.sizeOf91 rfl rfl rfl rfl rfl k12 <| fun w13 h14 k15 => nx <| qr <| YJ ?_
 obtain rfl := si H
 exact finC1 rfl rfl k15 Tryz.isAgg91 Tryz.sizeOf91 rfl (e5.t (Below.trans e11 (Wr.below h14 (Nat.le_of_eq z9))))
/-! spec.l05Do -/
theorem QY.calls {w : World} {a0 : List Nd} {a1 : Rec} {v_a0 : Value} (f_a0 : Rd 4 qv w v_a0 a0) (h0 : a0.length ≤ 1000000) (h1 : ∀ x ∈ a0, x.path.length ≤ 1048576) (h2 : a1.path.length ≤ 1048576) :
  Calls Tryz.prog 156 #[v_a0, .agg (qc a1).toArray] w (Rt (RO 91 4 qv w (doS a0 a1))) := by
 have H := QY.eq a0 a1 h0 h1 h2
 generalize (doS a0 a1) = r at H ⊢
 unfold QY.sh at H
 refine qg Tryz.func156 rfl (Nat.le_of_ble_eq_true rfl) Tryz.ntmps156 rfl ?_
 refine wr <| Qg (.plain rfl) rfl (ltb rfl) rfl rfl <| fun b1 w2 z3 z4 e5 k6 => lp rfl (xa (.slice none 0 0) rfl) <| nx <| wr <| lp rfl (xm v_a0 rfl) <| lp rfl (qd Tryz.underlying52 rfl Tryz.sizeOf9 rfl rfl) <| lp rfl (qA Tryz.isAgg9 k6 rfl rfl) ?_
 obtain ⟨c7, H⟩ := qa H
 refine lc rfl rfl Tryz.call155 (jf.calls (w := w2) (a0 := a0) (a1 := a1.path) (Rd.ext f_a0 e5) (od c7)) rfl <| fun w8 e9 => lp rfl (xa (.int .i64 (vm a0 a1.path)) rfl) <| nx <| qi <| wr <| lp rfl (qd Tryz.underlying52 rfl Tryz.sizeOf3 rfl rfl) <| lp rfl (qA Tryz.isAgg3 (Blk.ext k6 e9) rfl rfl) <| lp rfl (yL rfl rfl) <| nx ?_
 rcases qh H with ⟨q10, H⟩ | ⟨q10, H⟩
 ·refine qo (cb q10) <| wr <| lp rfl (xm v_a0 rfl) <| lp rfl (qd Tryz.underlying52 rfl Tryz.sizeOf9 rfl rfl) <| lp rfl (qA Tryz.isAgg9 (Blk.ext k6 e9) rfl rfl) ?_
  obtain ⟨c11, H⟩ := qa H
  refine vE (.plain rfl) rfl (ltb rfl) rfl Tryz.call209 (vI.calls (w := w8) (a0 := a0) (a1 := a1.path) (a2 := true) (Rd.ext f_a0 (e5.t e9)) (od c11)) rfl <| fun v14 w12 e13 o15 => lp rfl (xa v14 rfl) <| nx <| qr <| qw <| qu ?_
  obtain rfl := si H
  exact jI rfl ((e5.t e9).t e13) o15 ((e5.t e9)).size
 ·refine qj (cb q10) <| qq <| qf <| qi <| wr <| lp rfl (qd Tryz.underlying52 rfl Tryz.sizeOf3 rfl rfl) <| lp rfl (qA Tryz.isAgg3 (Blk.ext k6 e9) rfl rfl) <| lp rfl (Qo rfl rfl) <| lp rfl (xm (.bool (!decide (a1.kind = 3))) rfl) <| jN 3 [(21, 24)] 23 (.bool ((!decide (a1.kind = 3)) || a1.opq)) ?_ ?_
  ·rcases ql (!decide (a1.kind = 3)) with b15_ | b15_
   ·exact ls rfl rfl rfl (cb b15_) rfl <| ls rfl rfl rfl (cb b15_) rfl <| lp rfl (qy (b := true) (v := (.bool true)) (cb b15_) rfl) <| nx ⟨(ku3 kz rfl), (J9 b15_), er⟩
   ·exact lg rfl rfl rfl rfl (cb b15_) (qd Tryz.underlying52 rfl Tryz.sizeOf4 rfl rfl) <| lg rfl rfl rfl rfl (cb b15_) (qA Tryz.isAgg4 (Blk.ext k6 e9) rfl rfl) <| lp rfl (qy (b := false) (v := (.bool a1.opq)) (cb b15_) rfl) <| nx ⟨(ku3 kz rfl), (JY b15_), er⟩
  intro s21 w17 K18 h19 e20
  refine lp rfl (qb h19) ?_
  obtain ⟨z23, x24, H⟩ := bind_some H
  refine ja 11 [(25, 36)] 35 (fun q => q = z23) ?_ ?_
  ·rcases qh x24 with ⟨b21_, H⟩ | ⟨b21_, H⟩
   ·refine ls rfl rfl rfl (cb b21_) rfl <| ls rfl rfl rfl (cb b21_) rfl <| ls rfl rfl rfl (cb b21_) rfl <| lu rfl rfl rfl rfl rfl <| lu rfl rfl rfl rfl rfl <| lu rfl rfl rfl rfl rfl <| lu rfl rfl rfl rfl rfl <| lu rfl rfl rfl rfl rfl <| lu rfl rfl rfl rfl rfl <| ls rfl rfl rfl (cb b21_) rfl <| lp rfl (qy (b := true) (v := (.bool true)) (cb b21_) rfl) ?_
    obtain rfl := si H
    exact nx ⟨(ku3 (ku8 kz rfl) rfl), ⟨_, rfl, rfl⟩, er⟩
   ·refine lg rfl rfl rfl rfl (cb b21_) (xm (.int .i64 (vm a0 a1.path)) (K18 5 rfl)) <| lg rfl rfl rfl rfl (cb b21_) (VS rfl rfl) <| lg rfl rfl rfl rfl (cb b21_) (xm (.bool (decide (0 ≤ (vm a0 a1.path)))) rfl) ?_
    obtain ⟨z24, x25, H⟩ := bind_some H
    refine ja 7 [(28, 35)] 34 (fun q => q = z24) ?_ ?_
    ·rcases qh x25 with ⟨b22_, H⟩ | ⟨b22_, H⟩
     ·refine lg rfl rfl rfl rfl (cb b22_) (xm v_a0 (K18 0 rfl)) <| lg rfl rfl rfl rfl (cb b22_) (xm (.int .i64 (vm a0 a1.path)) (K18 5 rfl)) ?_
      obtain ⟨c24, H⟩ := qa H
      refine vk (tg rfl rfl rfl (cb b22_)) rfl (ltb rfl) rfl Tryz.underlying29 Tryz.sizeOf91 rfl (Rd.ext f_a0 ((e5.t e9).t e20)) rfl c24 <| fun p25 h26 => lg rfl rfl rfl rfl (cb b22_) (qd Tryz.underlying91 rfl Tryz.sizeOf3 rfl rfl) <| lg rfl rfl rfl rfl (cb b22_) (yU Tryz.isAgg3 (j := 0) h26 rfl rfl) <| lg rfl rfl rfl rfl (cb b22_) (Qo rfl rfl) <| lg rfl rfl rfl rfl (cb b21_) (qy (b := true) (v := (.bool (!decide (((gt a0 (vm a0 a1.path)).kind) = 3)))) (cb b22_) rfl) ?_
      obtain rfl := si H
      exact nx ⟨(ku3 (ku4 kz rfl) rfl), ⟨_, rfl, rfl⟩, er⟩
     ·refine ls rfl rfl rfl (cb b22_) rfl <| ls rfl rfl rfl (cb b22_) rfl <| ls rfl rfl rfl (cb b22_) rfl <| ls rfl rfl rfl (cb b22_) rfl <| ls rfl rfl rfl (cb b22_) rfl <| ls rfl rfl rfl (cb b22_) rfl <| lg rfl rfl rfl rfl (cb b21_) (qy (b := false) (v := (.bool false)) (cb b22_) rfl) ?_
      obtain rfl := si H
      exact nx ⟨(ku3 (ku4 kz rfl) rfl), ⟨_, rfl, rfl⟩, er⟩
    intro s30 w26 z31 K27 hq h28 e29
    rw [hq] at h28; clear hq
    refine lp rfl (qy (b := false) (v := (.bool z24)) ((K27 24 rfl).trans (cb b21_)) h28) ?_
    obtain rfl := si H
    exact nx ⟨(ku1 (Kp.cut (ku3 kz rfl) K27 rfl) rfl), ⟨_, rfl, rfl⟩, e29⟩
  intro s32 w25 z33 K26 hq h27 e28
  rw [hq] at h27; clear hq
  refine nx ?_
  rcases qh H with ⟨q34, H⟩ | ⟨q34, H⟩
  ·refine qo (h27.trans (cb q34)) <| qG <| lp rfl (xm v_a0 ((K26 0 rfl).trans (K18 0 rfl))) <| lp rfl (qd Tryz.underlying52 rfl Tryz.sizeOf9 rfl ((K26 3 rfl).trans (K18 3 rfl))) <| lp rfl (qA Tryz.isAgg9 (Blk.ext k6 ((e9.t e20).t e28)) rfl rfl) ?_
   obtain ⟨c35, H⟩ := qa H
   refine vE (.plain rfl) rfl (ltb rfl) rfl Tryz.call209 (vI.calls (w := w25) (a0 := a0) (a1 := a1.path) (a2 := false) (Rd.ext f_a0 (((e5.t e9).t e20).t e28)) (od c35)) rfl <| fun v38 w36 e37 o39 => lp rfl (xa v38 rfl) <| nx <| wr <| lp rfl (xm v38 rfl) <| lp rfl (qZ Tryz.isAgg52 Tryz.sizeOf52 rfl ((K26 3 rfl).trans (K18 3 rfl)) (Blk.at0 (Blk.ext k6 (((e9.t e20).t e28).t e37)))) <| lc rfl rfl Tryz.call146 (Qw.calls (w := w36) (a0 := a1)) rfl <| fun w40 e41 => ?_
   obtain ⟨c42, H⟩ := qa H
   obtain ⟨c43, H⟩ := qa H
   obtain ⟨c44, H⟩ := qa H
   refine vE (.plain rfl) rfl (ltb rfl) rfl Tryz.call210 (qR.calls (w := w40) (a0 := (vT a0 a1.path false)) (a1 := (Qy a1)) (Ow.rd (Ow.ext o39 e41)) (od c42) (od c43) (od c44)) rfl <| fun v47 w45 e46 o48 => lp rfl (xa v47 rfl) <| nx <| qr <| qu ?_
   obtain rfl := si H
   exact jI rfl ((((((e5.t e9).t e20).t e28).t e37).t e41).t e46) o48 ((((((e5.t e9).t e20).t e28).t e37).t e41)).size
  ·refine qj (h27.trans (cb q34)) <| qq <| qf <| wr <| lp rfl (xm v_a0 ((K26 0 rfl).trans (K18 0 rfl))) <| lp rfl (qZ Tryz.isAgg52 Tryz.sizeOf52 rfl ((K26 3 rfl).trans (K18 3 rfl)) (Blk.at0 (Blk.ext k6 ((e9.t e20).t e28)))) <| lc rfl rfl Tryz.call146 (Qw.calls (w := w25) (a0 := a1)) rfl <| fun w49 e50 => ?_
   obtain ⟨c51, H⟩ := qa H
   obtain ⟨c52, H⟩ := qa H
   obtain ⟨c53, H⟩ := qa H
   refine vE (.plain rfl) rfl (ltb rfl) rfl Tryz.call210 (qR.calls (w := w49) (a0 := a0) (a1 := (Qy a1)) (Rd.ext f_a0 ((((e5.t e9).t e20).t e28).t e50)) (od c51) (od c52) (od c53)) rfl <| fun v56 w54 e55 o57 => lp rfl (xa v56 rfl) <| nx <| qr <| qu ?_
   obtain rfl := si H
   exact jI rfl (((((e5.t e9).t e20).t e28).t e50).t e55) o57 (((((e5.t e9).t e20).t e28).t e50)).size
/-! spec.l05Apply -/
theorem yf.calls {w : World} {a0 : List Rec} {a1 : List Nd} {v_a0 : Value} (f_a0 : Rd 5 qc w v_a0 a0) {v_a1 : Value} (f_a1 : Rd 4 qv w v_a1 a1) (h0 : a0.length ≤ 16) (h1 : a1.length ≤ 1000) (h2 : okT a0 a1 = true) :
  Calls Tryz.prog 89 #[v_a0, v_a1] w (Rt (RO 91 4 qv w (vS a0 a1))) := by
 obtain ⟨k, H⟩ := yf.eq a0 a1 h0 h1 h2
 generalize (vS a0 a1) = r at H ⊢
 unfold yf.sh at H
 refine qg Tryz.func89 rfl (Nat.le_of_ble_eq_true rfl) Tryz.ntmps89 rfl ?_
 refine wr <| lp rfl (xa (.slice none 0 0) rfl) <| nx <| wr <| vC (.plain rfl) rfl (ltb rfl) rfl Tryz.underlying29 Tryz.sizeOf91 Tryz.zeroValue91 rfl rfl rfl (vs := []) rfl (qO rfl) <| fun b1 w2 z3 z4 e5 k6 => lp rfl (xm v_a1 rfl) ?_
 obtain ⟨c7, H⟩ := qa H
 refine vP (enc := qv) (.plain rfl) rfl (ltb rfl) rfl El.t29 rfl rfl (Ow.zero (base := w2.heap.size) (w := w2)) (Rd.ext f_a1 e5) (QM _) (od c7) (Nat.le_refl _) <| fun v8 w9 o10 z11 g12 => lp rfl (xa v8 rfl) <| nx <| qi <| wr <| lp rfl (xa (.int .i64 0) rfl) <| nx ?_
 obtain ⟨z16, L17, C18⟩ := bind_some H
 clear H
 refine  vq (fun s0 sQ wQ => ∃ (x1_19 : List Nd) (v20 : Value), Kp [(1, 2), (5, 6), (9, 21)] s0 sQ ∧ sQ 1 = v20 ∧ Ow 91 4 qv w2.heap.size wQ v20 x1_19 ∧ Ext w9 wQ ∧ z16 = .inr x1_19) ?_ ?_
 ·refine qx <| vc (fun s0 kk sQ wQ => ∃ (x1_13 : List Nd) (v14 : Value) (x5_15 : Int), Kp [(1, 2), (5, 6), (9, 21)] s0 sQ ∧ sQ 1 = v14 ∧ Ow 91 4 qv w2.heap.size wQ v14 x1_13 ∧ sQ 5 = .int .i64 x5_15 ∧ Ext w9 wQ ∧ qn (yf.b1 a0) kk (x1_13, x5_15) = some z16) k ⟨([] : List Nd) ++ a1, v8, 0, kz, rfl, o10, rfl, er, L17⟩ ?_
  rintro k25 s26 w27 ⟨x1_13, v14, x5_15, K28, h31, h32, h33, e29, L30⟩
  cases k25 with
  | zero => exact absurd L30 (by simp [qn])
  | succ k25 =>
   obtain ⟨t34, H, S35⟩ := qJ L30
   clear L30
   unfold yf.b1 at H
   refine qi <| wr <| lp rfl (qb h33) <| lp rfl (xm v_a0 (K28 0 rfl)) <| lp rfl (va Tryz.underlying35 rfl (Rd.ext f_a0 ((e5.t (g12 _ er)).t e29))) <| lp rfl (vW rfl rfl) <| nx ?_
   rcases qh H with ⟨q36, H⟩ | ⟨q36, H⟩
   ·refine qo (cb q36) <| qq <| qf <| qi <| qx <| qG <| lp rfl (qb h31) <| lp rfl (xm v_a0 (K28 0 rfl)) <| lp rfl (qb h33) ?_
    obtain ⟨c37, H⟩ := qa H
    refine vk (.plain rfl) rfl (ltb rfl) rfl Tryz.underlying35 Tryz.sizeOf52 rfl (Rd.ext f_a0 ((e5.t (g12 _ er)).t e29)) rfl c37 <| fun p38 h39 => lp rfl (qZ Tryz.isAgg52 Tryz.sizeOf52 rfl rfl h39) ?_
    obtain ⟨c40, H⟩ := qa H
    obtain ⟨c41, H⟩ := qa H
    obtain ⟨c42, H⟩ := qa H
    refine vE (.plain rfl) rfl (ltb rfl) rfl Tryz.call156 (QY.calls (w := w27) (a0 := x1_13) (a1 := gt a0 x5_15) (Ow.rd h32) (od c40) (od c41) (od c42)) rfl <| fun v45 w43 e44 o46 => lp rfl (xa v45 rfl) <| qH <| vj <| qf <| qG <| lp rfl (qb h33) <| lp rfl (qU rfl rfl) <| lp rfl (xa (.int .i64 (IntKind.wrap .i64 (x5_15 + 1))) rfl) <| nx ?_
    obtain rfl := si H
    exact ⟨_, Nat.lt_succ_self _, (doS x1_13 (gt a0 x5_15)), v45, IntKind.wrap .i64 (x5_15 + 1), (ku2 (ku4 (ku8 K28 rfl) rfl) rfl), rfl, (Ow.base o46 (Ext.trans (g12 _ er) e29).size), rfl, (e29.t e44), S35⟩
   ·refine qj (cb q36) <| vt <| qN <| qN <| yu <| qf ?_
    obtain rfl := si H
    obtain rfl := si S35
    exact ⟨x1_13, v14, (ku4 K28 rfl), h31, h32, e29, rfl⟩
 ·rintro s22 w21 ⟨x1_19, v20, K23, h47, h48, e24, y49⟩
  rw [y49] at C18
  have H := C18
  replace H : _ = some _ := H
  refine qf <| wr <| lp rfl (qb h47) <| lp rfl (xa v20 rfl) <| nx <| qr <| qu ?_
  obtain rfl := si H
  exact jI rfl ((e5.t (g12 _ er)).t e24) h48 (e5).size
/-! (impl.Record).node -/
theorem jS.calls {w : World} {a0 : Rec} :
  Calls Tryz.prog 150 #[.agg (qc a0).toArray] w (Rt (RP w (.agg (qv (Qy a0)).toArray))) := by
 have H := jS.eq a0
 generalize (Qy a0) = r at H ⊢
 unfold jS.sh at H
 refine Yg Tryz.func150 rfl (Nat.le_of_ble_eq_true rfl) Tryz.ntmps150 ?_
 refine wr <| Qg (.plain rfl) rfl (ltb rfl) rfl rfl <| fun b1 w2 z3 z4 e5 k6 => Vf (.plain rfl) rfl (ltb rfl) rfl Tryz.zeroValue91 <| fun b7 w8 z9 z10 e11 k12 => nx <| wr <| lp rfl (qd Tryz.underlying52 rfl Tryz.sizeOf3 rfl rfl) <| lp rfl (qA Tryz.isAgg3 (Blk.ext k6 e11) rfl rfl) <| lp rfl (qd Tryz.underlying52 rfl Tryz.sizeOf9 rfl rfl) <| lp rfl (qA Tryz.isAgg9 (Blk.ext k6 e11) rfl rfl) <| lp rfl (qd Tryz.underlying52 rfl Tryz.sizeOf9 rfl rfl) <| lp rfl (qA Tryz.isAgg9 (Blk.ext k6 e11) rfl rfl) <| lp rfl (qd Tryz.underlying52 rfl Tryz.sizeOf3 rfl rfl) <| lp rfl (qA Tryz.isAgg3 (Blk.ext k6 e11) rfl rfl) <| lp rfl (Vc (vs := [(0, (.int .i64 a0.kind)), (1, (S a0.path)), (2, (S a0.body)), (3, (.int .i64 a0.mode))]) (pl := #[(0, 1), (1, 1), (2, 1), (3, 1)]) Tryz.underlying91 Tryz.zeroValue91 rfl (fun _ => by kernel_rfl) rfl rfl rfl) <| jK (.plain rfl) rfl rfl Tryz.sizeOf91 rfl rfl rfl rfl rfl k12 <| fun w13 h14 k15 => nx <| qr <| YJ ?_
 obtain rfl := si H
 exact finC1 rfl rfl k15 Tryz.isAgg91 Tryz.sizeOf91 rfl (e5.t (Below.trans e11 (Wr.below h14 (Nat.le_of_eq z9))))
/-! impl.apply -/
theorem y8.calls {w : World} {a0 : List Rec} {a1 : List Nd} (gv : GV 0 w) {v_a0 : Value} (f_a0 : Rd 5 qc w v_a0 a0) {v_a1 : Value} (f_a1 : Rd 4 qv w v_a1 a1) (h0 : a0.length ≤ 16) (h1 : a1.length ≤ 1000) (h2 : okT a0 a1 = true) :
  Calls Tryz.prog 87 #[v_a0, v_a1] w (Rt (RO 91 4 qv w (vS a0 a1))) := by
 obtain ⟨k, H⟩ := y8.eq a0 a1 h0 h1 h2
 generalize (vS a0 a1) = r at H ⊢
 unfold y8.sh at H
 refine qg Tryz.func87 rfl (Nat.le_of_ble_eq_true rfl) Tryz.ntmps87 rfl ?_
 refine wr <| lp rfl (xa (.slice none 0 0) rfl) <| nx <| wr <| lp rfl (xm v_a1 rfl) ?_
 obtain ⟨c1, H⟩ := qa H
 refine vE (.plain rfl) rfl (ltb rfl) rfl Tryz.call123 (VD.calls (w := w) (a0 := a1) f_a1 (od c1)) rfl <| fun v4 w2 e3 o5 => lp rfl (xa v4 rfl) <| nx <| qi <| wr <| lp rfl (xm v_a0 rfl) <| lp rfl (va Tryz.underlying35 rfl (Rd.ext f_a0 e3)) <| lp rfl (xm (.int .i64 0) rfl) <| nx ?_
 obtain ⟨z9, L10, C11⟩ := bind_some H
 clear H
 refine  vq (fun s0 sQ wQ => ∃ (x5_12 : List Nd) (v13 : Value), Kp [(5, 6), (7, 9), (13, 59)] s0 sQ ∧ sQ 5 = v13 ∧ Ow 91 4 qv w.heap.size wQ v13 x5_12 ∧ Ext w wQ ∧ z9 = .inr x5_12) ?_ ?_
 ·refine qx <| vc (fun s0 kk sQ wQ => ∃ (x5_6 : List Nd) (v7 : Value) (x13_8 : Int), Kp [(5, 6), (7, 9), (13, 59)] s0 sQ ∧ sQ 5 = v7 ∧ Ow 91 4 qv w.heap.size wQ v7 x5_6 ∧ sQ 13 = .int .i64 x13_8 ∧ Ext w wQ ∧ qn (y8.b1 a0) kk (x5_6, x13_8) = some z9) k ⟨a1, v4, 0, kz, rfl, o5, rfl, e3, L10⟩ ?_
  rintro k18 s19 w20 ⟨x5_6, v7, x13_8, K21, h24, h25, h26, e22, L23⟩
  cases k18 with
  | zero => exact absurd L23 (by simp [qn])
  | succ k18 =>
   obtain ⟨t27, H, S28⟩ := qJ L23
   clear L23
   unfold y8.b1 at H
   refine wr <| lp rfl (vW h26 (K21 12 rfl)) <| nx <| qi ?_
   rcases qh H with ⟨q29, H⟩ | ⟨q29, H⟩
   ·refine qo (cb q29) <| qq <| qf <| qi <| qx <| wr ?_
    obtain ⟨c30, H⟩ := qa H
    refine vk (.plain rfl) rfl (ltb rfl) rfl Tryz.underlying35 Tryz.sizeOf52 (K21 11 rfl) (Rd.ext f_a0 e22) h26 c30 <| fun p31 h32 => lp rfl (qZ Tryz.isAgg52 Tryz.sizeOf52 rfl rfl h32) <| Vf (.plain rfl) rfl (ltb rfl) rfl Tryz.zeroValue52 <| fun b33 w34 z35 z36 e37 k38 => jK (.plain rfl) rfl rfl Tryz.sizeOf52 rfl rfl rfl rfl rfl k38 <| fun w39 h40 k41 => nx <| wr <| lp rfl (qb h24) <| lp rfl (qd Tryz.underlying52 rfl Tryz.sizeOf9 rfl rfl) <| lp rfl (qA Tryz.isAgg9 k41 rfl rfl) ?_
    obtain ⟨c42, H⟩ := qa H
    refine lc rfl rfl Tryz.call147 (YQ.calls (w := w39) (a0 := x5_6) (a1 := (gt a0 x13_8).path) (Ow.rd (Ow.ext h25 (Below.trans e37 (Wr.below h40 (Nat.le_of_eq z35))))) (od c42)) rfl <| fun w43 e44 => lp rfl (xa (.int .i64 (vm x5_6 ((gt a0 x13_8).path))) rfl) <| nx <| qi <| wr <| lp rfl (qd Tryz.underlying52 rfl Tryz.sizeOf3 rfl rfl) <| lp rfl (qA Tryz.isAgg3 (Blk.ext k41 e44) rfl rfl) <| lp rfl (yL rfl rfl) <| lp rfl (xm (.bool (decide (((gt a0 x13_8).kind) = 3))) rfl) <| jN 4 [(25, 29)] 28 (.bool ((decide (((gt a0 x13_8).kind) = 3)) && (!((gt a0 x13_8).opq)))) ?_ ?_
    ·rcases ql (decide (((gt a0 x13_8).kind) = 3)) with b44_ | b44_
     ·exact lg rfl rfl rfl rfl (cb b44_) (qd Tryz.underlying52 rfl Tryz.sizeOf4 rfl rfl) <| lg rfl rfl rfl rfl (cb b44_) (qA Tryz.isAgg4 (Blk.ext k41 e44) rfl rfl) <| lg rfl rfl rfl rfl (cb b44_) (jm rfl) <| lp rfl (qy (b := true) (v := (.bool (!((gt a0 x13_8).opq)))) (cb b44_) rfl) <| nx ⟨(ku4 kz rfl), (Vm b44_), er⟩
     ·exact ls rfl rfl rfl (cb b44_) rfl <| ls rfl rfl rfl (cb b44_) rfl <| ls rfl rfl rfl (cb b44_) rfl <| lp rfl (qy (b := false) (v := (.bool false)) (cb b44_) rfl) <| nx ⟨(ku4 kz rfl), (Vn b44_), er⟩
    intro s50 w46 K47 h48 e49
    refine lp rfl (qb h48) <| jN 3 [(30, 33)] 32 (.bool (((decide (((gt a0 x13_8).kind) = 3)) && (!((gt a0 x13_8).opq))) && (decide (0 ≤ (vm x5_6 ((gt a0 x13_8).path)))))) ?_ ?_
    ·rcases ql ((decide (((gt a0 x13_8).kind) = 3)) && (!((gt a0 x13_8).opq))) with b50_ | b50_
     ·exact lg rfl rfl rfl rfl (cb b50_) (xm (.int .i64 (vm x5_6 ((gt a0 x13_8).path))) (K47 8 rfl)) <| lg rfl rfl rfl rfl (cb b50_) (VS rfl rfl) <| lp rfl (qy (b := true) (v := (.bool (decide (0 ≤ (vm x5_6 ((gt a0 x13_8).path)))))) (cb b50_) rfl) <| nx ⟨(ku3 kz rfl), (Vm b50_), er⟩
     ·exact ls rfl rfl rfl (cb b50_) rfl <| ls rfl rfl rfl (cb b50_) rfl <| lp rfl (qy (b := false) (v := (.bool false)) (cb b50_) rfl) <| nx ⟨(ku3 kz rfl), (Vn b50_), er⟩
    intro s56 w52 K53 h54 e55
    refine lp rfl (qb h54) ?_
    obtain ⟨z58, x59, H⟩ := bind_some H
    refine ja 7 [(34, 41)] 40 (fun q => q = z58) ?_ ?_
    ·rcases qh x59 with ⟨b56_, H⟩ | ⟨b56_, H⟩
     ·refine lg rfl rfl rfl rfl (cb b56_) (xm v7 ((K53 5 rfl).trans ((K47 5 rfl).trans h24))) <| lg rfl rfl rfl rfl (cb b56_) (xm (.int .i64 (vm x5_6 ((gt a0 x13_8).path))) ((K53 8 rfl).trans (K47 8 rfl))) ?_
      obtain ⟨c58, H⟩ := qa H
      refine vk (tg rfl rfl rfl (cb b56_)) rfl (ltb rfl) rfl Tryz.underlying29 Tryz.sizeOf91 rfl (Ow.rd (Ow.ext h25 (Ext.trans (Ext.trans (Ext.trans (Below.trans e37 (Wr.below h40 (Nat.le_of_eq z35))) e44) e49) e55))) rfl c58 <| fun p59 h60 => lg rfl rfl rfl rfl (cb b56_) (qd Tryz.underlying91 rfl Tryz.sizeOf3 rfl rfl) <| lg rfl rfl rfl rfl (cb b56_) (yU Tryz.isAgg3 (j := 0) h60 rfl rfl) <| lg rfl rfl rfl rfl (cb b56_) (yL rfl rfl) <| lp rfl (qy (b := true) (v := (.bool (decide (((gt x5_6 (vm x5_6 ((gt a0 x13_8).path))).kind) = 3)))) (cb b56_) rfl) ?_
      obtain rfl := si H
      exact nx ⟨(ku3 (ku4 kz rfl) rfl), ⟨_, rfl, rfl⟩, er⟩
     ·refine ls rfl rfl rfl (cb b56_) rfl <| ls rfl rfl rfl (cb b56_) rfl <| ls rfl rfl rfl (cb b56_) rfl <| ls rfl rfl rfl (cb b56_) rfl <| ls rfl rfl rfl (cb b56_) rfl <| ls rfl rfl rfl (cb b56_) rfl <| lp rfl (qy (b := false) (v := (.bool false)) (cb b56_) rfl) ?_
      obtain rfl := si H
      exact nx ⟨(ku3 (ku4 kz rfl) rfl), ⟨_, rfl, rfl⟩, er⟩
    intro s64 w60 z65 K61 hq h62 e63
    rw [hq] at h62; clear hq
    refine nx ?_
    rcases qh H with ⟨q66, H⟩ | ⟨q66, H⟩
    ·refine qo (h62.trans (cb q66)) <| wr <| lp rfl (xm v7 ((K61 5 rfl).trans ((K53 5 rfl).trans ((K47 5 rfl).trans h24)))) <| lp rfl (xm (.int .i64 (vm x5_6 ((gt a0 x13_8).path))) ((K61 8 rfl).trans ((K53 8 rfl).trans (K47 8 rfl)))) <| lp rfl (qd Tryz.underlying52 rfl Tryz.sizeOf3 rfl ((K61 7 rfl).trans ((K53 7 rfl).trans (K47 7 rfl)))) <| lp rfl (qA Tryz.isAgg3 (Blk.ext k41 (((e44.t e49).t e55).t e63)) rfl rfl) ?_
     obtain ⟨c69, H⟩ := qa H
     refine L_idxO (.plain rfl) rfl (ltb rfl) rfl Tryz.underlying29 Tryz.sizeOf91 rfl (Ow.ext h25 (Ext.trans (Ext.trans (Ext.trans (Ext.trans (Below.trans e37 (Wr.below h40 (Nat.le_of_eq z35))) e44) e49) e55) e63)) rfl c69 <| fun p67 h68 => lp rfl (qd Tryz.underlying91 rfl Tryz.sizeOf3 rfl rfl) <| L_storeO (a := (⟨(gt x5_6 (vm x5_6 ((gt a0 x13_8).path))).kind, (gt x5_6 (vm x5_6 ((gt a0 x13_8).path))).path, (gt x5_6 (vm x5_6 ((gt a0 x13_8).path))).body, (gt a0 x13_8).mode⟩ : Nd)) (vs := [(.int .i64 ((gt a0 x13_8).mode))]) (off := 3) (.plain rfl) rfl rfl Tryz.sizeOf3 rfl h68 rfl rfl rfl rfl rfl rfl <| fun b70 w71 h72 h73 h74 o75 => nx <| vt <| qN <| yu <| qf <| qG <| lp rfl (qU ((K61 13 rfl).trans ((K53 13 rfl).trans ((K47 13 rfl).trans h26))) rfl) <| lp rfl (xm (.int .i64 (IntKind.wrap .i64 (x13_8 + 1))) rfl) <| nx ?_
     obtain rfl := si H
     exact ⟨_, Nat.lt_succ_self _, GQ x5_6 (vm x5_6 ((gt a0 x13_8).path)) (⟨(gt x5_6 (vm x5_6 ((gt a0 x13_8).path))).kind, (gt x5_6 (vm x5_6 ((gt a0 x13_8).path))).path, (gt x5_6 (vm x5_6 ((gt a0 x13_8).path))).body, (gt a0 x13_8).mode⟩ : Nd), v7, IntKind.wrap .i64 (x13_8 + 1), (ku8 (Kp.cut (ku1 (Kp.cut (ku1 (Kp.cut (ku1 (ku4 (ku8 K21 rfl) rfl) rfl) K47 rfl) rfl) K53 rfl) rfl) K61 rfl) rfl), ((K61 5 rfl).trans ((K53 5 rfl).trans ((K47 5 rfl).trans h24))), o75, rfl, (Ext.wr (((((e22.t (Below.trans e37 (Wr.below h40 (Nat.le_of_eq z35)))).t e44).t e49).t e55).t e63) h74 h73 (Nat.le_refl _)), S28⟩
    ·refine qj (h62.trans (cb q66)) <| qq <| qf <| wr <| lp rfl (xm v7 ((K61 5 rfl).trans ((K53 5 rfl).trans ((K47 5 rfl).trans h24)))) <| lp rfl (qd Tryz.underlying52 rfl Tryz.sizeOf9 rfl ((K61 7 rfl).trans ((K53 7 rfl).trans (K47 7 rfl)))) <| lp rfl (qA Tryz.isAgg9 (Blk.ext k41 (((e44.t e49).t e55).t e63)) rfl rfl) ?_
     obtain ⟨c76, H⟩ := qa H
     obtain ⟨c77, H⟩ := qa H
     refine vE (.plain rfl) rfl (ltb rfl) rfl Tryz.call148 (impl_removed.calls (w := w60) (a0 := x5_6) (a1 := (gt a0 x13_8).path) (Ow.rd (Ow.ext h25 (Ext.trans (Ext.trans (Ext.trans (Ext.trans (Below.trans e37 (Wr.below h40 (Nat.le_of_eq z35))) e44) e49) e55) e63))) (od c76) (od c77)) rfl <| fun v80 w78 e79 o81 => lp rfl (xa v80 rfl) <| nx <| wr <| lp rfl (qd Tryz.underlying52 rfl Tryz.sizeOf3 rfl ((K61 7 rfl).trans ((K53 7 rfl).trans (K47 7 rfl)))) <| lp rfl (qA Tryz.isAgg3 (Blk.ext k41 ((((e44.t e49).t e55).t e63).t e79)) rfl rfl) <| lp rfl (Qo rfl rfl) <| nx ?_
     rcases qh H with ⟨q82, H⟩ | ⟨q82, H⟩
     ·refine qo (cb q82) <| qG <| lp rfl (xm v80 rfl) <| lp rfl (qZ Tryz.isAgg52 Tryz.sizeOf52 rfl ((K61 7 rfl).trans ((K53 7 rfl).trans (K47 7 rfl))) (Blk.at0 (Blk.ext k41 ((((e44.t e49).t e55).t e63).t e79)))) <| lc rfl rfl Tryz.call150 (jS.calls (w := w78) (a0 := (gt a0 x13_8))) rfl <| fun w83 e84 => ?_
      obtain ⟨c85, H⟩ := qa H
      obtain ⟨c86, H⟩ := qa H
      obtain ⟨c87, H⟩ := qa H
      obtain ⟨c88, H⟩ := qa H
      refine vE (.plain rfl) rfl (ltb rfl) rfl Tryz.call149 (impl_place.calls (w := w83) (a0 := (vT x5_6 ((gt a0 x13_8).path) true)) (a1 := (Qy (gt a0 x13_8))) (GV.ext gv (((((((e22.t (Below.trans e37 (Wr.below h40 (Nat.le_of_eq z35)))).t e44).t e49).t e55).t e63).t e79).t e84)) (Ow.rd (Ow.ext o81 e84)) (od c85) (od c86) (od c87) (od c88)) rfl <| fun v91 w89 e90 o92 => lp rfl (xa v91 rfl) <| qH <| vj <| qf <| qG <| lp rfl (qU ((K61 13 rfl).trans ((K53 13 rfl).trans ((K47 13 rfl).trans h26))) rfl) <| lp rfl (xm (.int .i64 (IntKind.wrap .i64 (x13_8 + 1))) rfl) <| nx ?_
      obtain rfl := si H
      exact ⟨_, Nat.lt_succ_self _, (j8 (vT x5_6 ((gt a0 x13_8).path) true) (Qy (gt a0 x13_8))), v91, IntKind.wrap .i64 (x13_8 + 1), (ku3 (ku4 (ku8 (Kp.cut (ku1 (Kp.cut (ku1 (Kp.cut (ku1 (ku4 (ku8 K21 rfl) rfl) rfl) K47 rfl) rfl) K53 rfl) rfl) K61 rfl) rfl) rfl) rfl), rfl, (Ow.base o92 (((((((e22.t (Below.trans e37 (Wr.below h40 (Nat.le_of_eq z35)))).t e44).t e49).t e55).t e63).t e79).t e84).size), rfl, ((((((((e22.t (Below.trans e37 (Wr.below h40 (Nat.le_of_eq z35)))).t e44).t e49).t e55).t e63).t e79).t e84).t e90), S28⟩
     ·refine qj (cb q82) <| qq <| vj <| qf <| qG <| lp rfl (qU ((K61 13 rfl).trans ((K53 13 rfl).trans ((K47 13 rfl).trans h26))) rfl) <| lp rfl (xm (.int .i64 (IntKind.wrap .i64 (x13_8 + 1))) rfl) <| nx ?_
      obtain rfl := si H
      exact ⟨_, Nat.lt_succ_self _, (vT x5_6 ((gt a0 x13_8).path) true), v80, IntKind.wrap .i64 (x13_8 + 1), (ku2 (ku8 (Kp.cut (ku1 (Kp.cut (ku1 (Kp.cut (ku1 (ku4 (ku8 K21 rfl) rfl) rfl) K47 rfl) rfl) K53 rfl) rfl) K61 rfl) rfl) rfl), rfl, (Ow.base o81 (((((e22.t (Below.trans e37 (Wr.below h40 (Nat.le_of_eq z35)))).t e44).t e49).t e55).t e63).size), rfl, ((((((e22.t (Below.trans e37 (Wr.below h40 (Nat.le_of_eq z35)))).t e44).t e49).t e55).t e63).t e79), S28⟩
   ·refine qj (cb q29) <| vt <| qN <| qN <| yu <| qf ?_
    obtain rfl := si H
    obtain rfl := si S28
    exact ⟨x5_6, v7, (ku1 K21 rfl), h24, h25, e22, rfl⟩
 ·rintro s15 w14 ⟨x5_12, v13, K16, h93, h94, e17, y95⟩
  rw [y95] at C11
  have H := C11
  replace H : _ = some _ := H
  refine qf <| wr <| lp rfl (qb h93) <| lp rfl (xa v13 rfl) <| nx <| qr <| qu ?_
  obtain rfl := si H
  exact jI rfl e17 h94 (er).size
/-! spec.l05All -/
theorem yP.calls {w : World} {a0 : List (List Rec)} {a1 : List Nd} {v_a0 : Value} (f_a0 : Rd2 5 qc w v_a0 a0) {v_a1 : Value} (f_a1 : Rd 4 qv w v_a1 a1) (h0 : a0.length ≤ 5) (h1 : a1.length ≤ 24) (h2 : okA a0 a1 = true) :
  Calls Tryz.prog 66 #[v_a0, v_a1] w (Rt (RO 91 4 qv w (yx a0 a1))) := by
 obtain ⟨k, H⟩ := yP.eq a0 a1 h0 h1 h2
 generalize (yx a0 a1) = r at H ⊢
 unfold yP.sh at H
 refine qg Tryz.func66 rfl (Nat.le_of_ble_eq_true rfl) Tryz.ntmps66 rfl ?_
 refine wr <| lp rfl (xa (.slice none 0 0) rfl) <| nx <| wr <| vC (.plain rfl) rfl (ltb rfl) rfl Tryz.underlying29 Tryz.sizeOf91 Tryz.zeroValue91 rfl rfl rfl (vs := []) rfl (qO rfl) <| fun b1 w2 z3 z4 e5 k6 => lp rfl (xm v_a1 rfl) ?_
 obtain ⟨c7, H⟩ := qa H
 refine vP (enc := qv) (.plain rfl) rfl (ltb rfl) rfl El.t29 rfl rfl (Ow.zero (base := w2.heap.size) (w := w2)) (Rd.ext f_a1 e5) (QM _) (od c7) (Nat.le_refl _) <| fun v8 w9 o10 z11 g12 => lp rfl (xa v8 rfl) <| nx <| qi <| wr <| lp rfl (xa (.int .i64 0) rfl) <| nx ?_
 obtain ⟨z16, L17, C18⟩ := bind_some H
 clear H
 refine  vq (fun s0 sQ wQ => ∃ (x1_19 : List Nd) (v20 : Value), Kp [(1, 2), (5, 6), (9, 21)] s0 sQ ∧ sQ 1 = v20 ∧ Ow 91 4 qv w2.heap.size wQ v20 x1_19 ∧ Ext w9 wQ ∧ z16 = .inr x1_19) ?_ ?_
 ·refine qx <| vc (fun s0 kk sQ wQ => ∃ (x1_13 : List Nd) (v14 : Value) (x5_15 : Int), Kp [(1, 2), (5, 6), (9, 21)] s0 sQ ∧ sQ 1 = v14 ∧ Ow 91 4 qv w2.heap.size wQ v14 x1_13 ∧ sQ 5 = .int .i64 x5_15 ∧ Ext w9 wQ ∧ qn (yP.b1 a0) kk (x1_13, x5_15) = some z16) k ⟨([] : List Nd) ++ a1, v8, 0, kz, rfl, o10, rfl, er, L17⟩ ?_
  rintro k25 s26 w27 ⟨x1_13, v14, x5_15, K28, h31, h32, h33, e29, L30⟩
  cases k25 with
  | zero => exact absurd L30 (by simp [qn])
  | succ k25 =>
   obtain ⟨t34, H, S35⟩ := qJ L30
   clear L30
   unfold yP.b1 at H
   refine qi <| wr <| lp rfl (qb h33) <| lp rfl (xm v_a0 (K28 0 rfl)) <| lp rfl (yK Tryz.underlying23 rfl (Rd2.ext f_a0 ((e5.t (g12 _ er)).t e29))) <| lp rfl (vW rfl rfl) <| nx ?_
   rcases qh H with ⟨q36, H⟩ | ⟨q36, H⟩
   ·refine qo (cb q36) <| qq <| qf <| qi <| qx <| qG <| lp rfl (xm v_a0 (K28 0 rfl)) <| lp rfl (qb h33) ?_
    obtain ⟨c37, H⟩ := qa H
    refine Vt (.plain rfl) rfl (ltb rfl) rfl Tryz.underlying23 Tryz.sizeOf35 rfl (Rd2.ext f_a0 ((e5.t (g12 _ er)).t e29)) rfl c37 <| fun p38 v40 h39 h41 => lp rfl (vy Tryz.isAgg35 rfl h39 rfl) <| lp rfl (qb h31) ?_
    obtain ⟨c42, H⟩ := qa H
    obtain ⟨c43, H⟩ := qa H
    obtain ⟨c44, H⟩ := qa H
    refine vE (.plain rfl) rfl (ltb rfl) rfl Tryz.call89 (yf.calls (w := w27) (a0 := gt a0 x5_15) (a1 := x1_13) h41 (Ow.rd h32) (od c42) (od c43) (od c44)) rfl <| fun v47 w45 e46 o48 => lp rfl (xa v47 rfl) <| qH <| vj <| qf <| qG <| lp rfl (qb h33) <| lp rfl (qU rfl rfl) <| lp rfl (xa (.int .i64 (IntKind.wrap .i64 (x5_15 + 1))) rfl) <| nx ?_
    obtain rfl := si H
    exact ⟨_, Nat.lt_succ_self _, (vS (gt a0 x5_15) x1_13), v47, IntKind.wrap .i64 (x5_15 + 1), (ku2 (ku4 (ku8 K28 rfl) rfl) rfl), rfl, (Ow.base o48 (Ext.trans (g12 _ er) e29).size), rfl, (e29.t e46), S35⟩
   ·refine qj (cb q36) <| vt <| qN <| qN <| yu <| qf ?_
    obtain rfl := si H
    obtain rfl := si S35
    exact ⟨x1_13, v14, (ku4 K28 rfl), h31, h32, e29, rfl⟩
 ·rintro s22 w21 ⟨x1_19, v20, K23, h49, h50, e24, y51⟩
  rw [y51] at C18
  have H := C18
  replace H : _ = some _ := H
  refine qf <| wr <| lp rfl (qb h49) <| lp rfl (xa v20 rfl) <| nx <| qr <| qu ?_
  obtain rfl := si H
  exact jI rfl ((e5.t (g12 _ er)).t e24) h50 (e5).size
/-! spec.ViewOf -/
theorem jP.walk {w : World} {a0 : List (List Rec)} {v_a0 : Value} (f_a0 : Rd2 5 qc w v_a0 a0) {r : List Nd × Int} (H : jP.sh a0 = some r) :
  Calls Tryz.prog 15 #[v_a0] w (Rt (RT 91 4 qv w r.1 (.int .i64 r.2))) := by
 unfold jP.sh at H
 refine qg Tryz.func15 rfl (Nat.le_of_ble_eq_true rfl) Tryz.ntmps15 rfl ?_
 refine wr <| lp rfl (xa (.slice none 0 0) rfl) <| lp rfl (xa (.int .i64 0) rfl) <| nx <| qi <| wr <| lp rfl (xm v_a0 rfl) <| lp rfl (yK Tryz.underlying23 rfl f_a0) <| lp rfl (Qp rfl rfl) <| nx ?_
 rcases qh H with ⟨q1, H⟩ | ⟨q1, H⟩
 ·refine qo (cb q1) <| wr <| vC (.plain rfl) rfl (ltb rfl) rfl Tryz.underlying29 Tryz.sizeOf91 Tryz.zeroValue91 rfl rfl rfl (vs := []) rfl (qO rfl) <| fun b2 w3 z4 z5 e6 k7 => lp rfl (xa (.slice (some ⟨b2, 0, none⟩) 0 0) rfl) <| lp rfl (xa (.int .i64 2) rfl) <| nx <| qr <| qw <| qu ?_
  obtain rfl := si H
  exact fin2o rfl rfl e6 (Ow.zero (base := w.heap.size)) (Nat.le_refl _)
 ·refine qj (cb q1) <| qq <| qf <| qi <| wr <| lp rfl (xm v_a0 rfl) ?_
  obtain ⟨c8, H⟩ := qa H
  obtain ⟨c9, H⟩ := qa H
  obtain ⟨c10, H⟩ := qa H
  refine lc rfl rfl Tryz.call60 (ye.calls (w := w) (a0 := a0) f_a0 (od c8) (od c9) (od c10)) rfl <| fun w11 e12 => lp rfl (jm rfl) <| nx ?_
  rcases qh H with ⟨q13, H⟩ | ⟨q13, H⟩
  ·refine qo (cb q13) <| wr <| vC (.plain rfl) rfl (ltb rfl) rfl Tryz.underlying29 Tryz.sizeOf91 Tryz.zeroValue91 rfl rfl rfl (vs := []) rfl (qO rfl) <| fun b14 w15 z16 z17 e18 k19 => lp rfl (xa (.slice (some ⟨b14, 0, none⟩) 0 0) rfl) <| lp rfl (xa (.int .i64 1) rfl) <| nx <| qr <| qw <| qu ?_
   obtain rfl := si H
   exact fin2o rfl rfl (e12.t e18) (Ow.zero (base := w.heap.size)) (Nat.le_refl _)
  ·refine qj (cb q13) <| qq <| qf <| wr <| lp rfl (xm v_a0 rfl) ?_
   obtain ⟨c20, H⟩ := qa H
   obtain ⟨c21, H⟩ := qa H
   obtain ⟨c22, H⟩ := qa H
   refine vE (.plain rfl) rfl (ltb rfl) rfl Tryz.call66 (yP.calls (w := w11) (a0 := a0) (a1 := ([] : List Nd)) (Rd2.ext f_a0 e12) (Rd.nil _ _ _) (od c20) (od c21) (od c22)) rfl <| fun v25 w23 e24 o26 => lp rfl (xa v25 rfl) <| lp rfl (xa (.int .i64 0) rfl) <| nx <| qr <| qu ?_
   obtain rfl := si H
   exact fin2o rfl rfl (e12.t e24) o26 (e12).size
theorem jP.calls {w : World} {a0 : List (List Rec)} {v_a0 : Value} (f_a0 : Rd2 5 qc w v_a0 a0) (h0 : a0.length ≤ 1048576) (h1 : ∀ l ∈ a0, l.length ≤ 1048576) (h2 : ∀ l ∈ a0, ∀ x ∈ l, x.path.length ≤ 1048576) :
  Calls Tryz.prog 15 #[v_a0] w (Rt (RT 91 4 qv w ((yy a0).1) (.int .i64 ((yy a0).2)))) := jP.walk f_a0 (jP.eq a0 h0 h1 h2)
/-! impl.applyAll -/
theorem yv.calls {w : World} {a0 : List (List Rec)} {a1 : List Nd} (gv : GV 0 w) {v_a0 : Value} (f_a0 : Rd2 5 qc w v_a0 a0) {v_a1 : Value} (f_a1 : Rd 4 qv w v_a1 a1) (h0 : a0.length ≤ 5) (h1 : a1.length ≤ 24) (h2 : okA a0 a1 = true) :
  Calls Tryz.prog 65 #[v_a0, v_a1] w (Rt (RO 91 4 qv w (yx a0 a1))) := by
 obtain ⟨k, H⟩ := yv.eq a0 a1 h0 h1 h2
 generalize (yx a0 a1) = r at H ⊢
 unfold yv.sh at H
 refine qg Tryz.func65 rfl (Nat.le_of_ble_eq_true rfl) Tryz.ntmps65 rfl ?_
 refine wr <| lp rfl (xa (.slice none 0 0) rfl) <| nx <| wr <| lp rfl (xm v_a1 rfl) ?_
 obtain ⟨c1, H⟩ := qa H
 refine vE (.plain rfl) rfl (ltb rfl) rfl Tryz.call123 (VD.calls (w := w) (a0 := a1) f_a1 (od c1)) rfl <| fun v4 w2 e3 o5 => lp rfl (xa v4 rfl) <| nx <| qi <| wr <| lp rfl (xm v_a0 rfl) <| lp rfl (yK Tryz.underlying23 rfl (Rd2.ext f_a0 e3)) <| lp rfl (xm (.int .i64 0) rfl) <| nx ?_
 obtain ⟨z9, L10, C11⟩ := bind_some H
 clear H
 refine  vq (fun s0 sQ wQ => ∃ (x5_12 : List Nd) (v13 : Value), Kp [(5, 6), (7, 8), (12, 20)] s0 sQ ∧ sQ 5 = v13 ∧ Ow 91 4 qv w.heap.size wQ v13 x5_12 ∧ Ext w2 wQ ∧ z9 = .inr x5_12) ?_ ?_
 ·refine qx <| vc (fun s0 kk sQ wQ => ∃ (x5_6 : List Nd) (v7 : Value) (x12_8 : Int), Kp [(5, 6), (7, 8), (12, 20)] s0 sQ ∧ sQ 5 = v7 ∧ Ow 91 4 qv w.heap.size wQ v7 x5_6 ∧ sQ 12 = .int .i64 x12_8 ∧ Ext w2 wQ ∧ qn (yv.b1 a0) kk (x5_6, x12_8) = some z9) k ⟨a1, v4, 0, kz, rfl, o5, rfl, er, L10⟩ ?_
  rintro k18 s19 w20 ⟨x5_6, v7, x12_8, K21, h24, h25, h26, e22, L23⟩
  cases k18 with
  | zero => exact absurd L23 (by simp [qn])
  | succ k18 =>
   obtain ⟨t27, H, S28⟩ := qJ L23
   clear L23
   unfold yv.b1 at H
   refine wr <| lp rfl (vW h26 (K21 11 rfl)) <| nx <| qi ?_
   rcases qh H with ⟨q29, H⟩ | ⟨q29, H⟩
   ·refine qo (cb q29) <| qq <| qf <| qi <| qx <| wr ?_
    obtain ⟨c30, H⟩ := qa H
    refine Vt (.plain rfl) rfl (ltb rfl) rfl Tryz.underlying23 Tryz.sizeOf35 (K21 10 rfl) (Rd2.ext f_a0 (e3.t e22)) h26 c30 <| fun p31 v33 h32 h34 => lp rfl (vy Tryz.isAgg35 rfl h32 rfl) <| lp rfl (xa v33 rfl) <| nx <| qG <| lp rfl (xm v33 rfl) <| lp rfl (qb h24) ?_
    obtain ⟨c35, H⟩ := qa H
    obtain ⟨c36, H⟩ := qa H
    obtain ⟨c37, H⟩ := qa H
    refine vE (.plain rfl) rfl (ltb rfl) rfl Tryz.call87 (y8.calls (w := w20) (a0 := gt a0 x12_8) (a1 := x5_6) (GV.ext gv (e3.t e22)) h34 (Ow.rd h25) (od c35) (od c36) (od c37)) rfl <| fun v40 w38 e39 o41 => lp rfl (xa v40 rfl) <| qH <| vj <| qf <| qG <| lp rfl (qU h26 rfl) <| lp rfl (xm (.int .i64 (IntKind.wrap .i64 (x12_8 + 1))) rfl) <| nx ?_
    obtain rfl := si H
    exact ⟨_, Nat.lt_succ_self _, (vS (gt a0 x12_8) x5_6), v40, IntKind.wrap .i64 (x12_8 + 1), (ku2 (ku8 K21 rfl) rfl), rfl, (Ow.base o41 (e3.t e22).size), rfl, (e22.t e39), S28⟩
   ·refine qj (cb q29) <| vt <| qN <| qN <| yu <| qf ?_
    obtain rfl := si H
    obtain rfl := si S28
    exact ⟨x5_6, v7, (ku1 K21 rfl), h24, h25, e22, rfl⟩
 ·rintro s15 w14 ⟨x5_12, v13, K16, h42, h43, e17, y44⟩
  rw [y44] at C11
  have H := C11
  replace H : _ = some _ := H
  refine qf <| wr <| lp rfl (qb h42) <| lp rfl (xa v13 rfl) <| nx <| qr <| qu ?_
  obtain rfl := si H
  exact jI rfl (e3.t e17) h43 (er).size
/-! impl.ViewOf -/
theorem jy.walk {w : World} {a0 : List (List Rec)} (gv : GV 0 w) {v_a0 : Value} (f_a0 : Rd2 5 qc w v_a0 a0) {r : List Nd × Int} (H : jy.sh a0 = some r) :
  Calls Tryz.prog 14 #[v_a0] w (Rt (RT 91 4 qv w r.1 (.int .i64 r.2))) := by
 unfold jy.sh at H
 refine qg Tryz.func14 rfl (Nat.le_of_ble_eq_true rfl) Tryz.ntmps14 rfl ?_
 refine wr <| lp rfl (xa (.slice none 0 0) rfl) <| lp rfl (xa (.int .i64 0) rfl) <| nx <| qi <| wr <| lp rfl (xm v_a0 rfl) ?_
 obtain ⟨c1, H⟩ := qa H
 obtain ⟨c2, H⟩ := qa H
 obtain ⟨c3, H⟩ := qa H
 refine lc rfl rfl Tryz.call58 (jz.calls (w := w) (a0 := a0) gv f_a0 (od c1) (od c2) (od c3)) rfl <| fun w4 e5 => lp rfl (xa (.int .i64 (stackCode a0)) rfl) <| nx <| wr <| lp rfl (xm (.int .i64 (stackCode a0)) rfl) <| lp rfl (Qo rfl rfl) <| nx ?_
 rcases qh H with ⟨q6, H⟩ | ⟨q6, H⟩
 ·refine qo (cb q6) <| wr <| lp rfl (xm (.int .i64 (stackCode a0)) rfl) <| lp rfl (xa (.slice none 0 0) rfl) <| lp rfl (xa (.int .i64 (stackCode a0)) rfl) <| nx <| qr <| qw <| qu ?_
  obtain rfl := si H
  exact fin2o rfl rfl e5 (Ow.zero (base := w.heap.size)) (Nat.le_refl _)
 ·refine qj (cb q6) <| qq <| qf <| wr <| lp rfl (xm v_a0 rfl) ?_
  obtain ⟨c7, H⟩ := qa H
  obtain ⟨c8, H⟩ := qa H
  obtain ⟨c9, H⟩ := qa H
  refine vE (.plain rfl) rfl (ltb rfl) rfl Tryz.call65 (yv.calls (w := w4) (a0 := a0) (a1 := ([] : List Nd)) (GV.ext gv e5) (Rd2.ext f_a0 e5) (Rd.nil _ _ _) (od c7) (od c8) (od c9)) rfl <| fun v12 w10 e11 o13 => lp rfl (xa v12 rfl) <| lp rfl (xa (.int .i64 0) rfl) <| nx <| qr <| qu ?_
  obtain rfl := si H
  exact fin2o rfl rfl (e5.t e11) o13 (e5).size
theorem jy.calls {w : World} {a0 : List (List Rec)} (gv : GV 0 w) {v_a0 : Value} (f_a0 : Rd2 5 qc w v_a0 a0) (h0 : a0.length ≤ 1048576) (h1 : ∀ l ∈ a0, l.length ≤ 1048576) (h2 : ∀ l ∈ a0, ∀ x ∈ l, x.path.length ≤ 1048576) :
  Calls Tryz.prog 14 #[v_a0] w (Rt (RT 91 4 qv w ((yy a0).1) (.int .i64 ((yy a0).2)))) := jy.walk gv f_a0 (jy.eq a0 h0 h1 h2)
/-! spec.l06All -/
theorem y2.calls {w : World} {a0 : List (List Rec)} {v_a0 : Value} (f_a0 : Rd2 5 qc w v_a0 a0) (h0 : vi a0 = true) :
  Calls Tryz.prog 62 #[v_a0] w (Rt (RO 52 5 qc w (qD a0))) := by
 obtain ⟨k, H⟩ := y2.eq a0 h0
 generalize (qD a0) = r at H ⊢
 unfold y2.sh at H
 refine qg Tryz.func62 rfl (Nat.le_of_ble_eq_true rfl) Tryz.ntmps62 rfl ?_
 refine wr <| lp rfl (xa (.slice none 0 0) rfl) <| nx <| wr <| vC (.plain rfl) rfl (ltb rfl) rfl Tryz.underlying35 Tryz.sizeOf52 Tryz.zeroValue52 rfl rfl rfl (vs := []) rfl (qO rfl) <| fun b1 w2 z3 z4 e5 k6 => lp rfl (xa (.slice (some ⟨b1, 0, none⟩) 0 0) rfl) <| nx <| qi <| wr <| lp rfl (xa (.int .i64 0) rfl) <| nx ?_
 obtain ⟨z10, L11, C12⟩ := bind_some H
 clear H
 refine  vq (fun s0 sQ wQ => ∃ (x3_13 : List Rec) (v14 : Value), Kp [(3, 5), (6, 18)] s0 sQ ∧ sQ 3 = v14 ∧ Ow 52 5 qc w2.heap.size wQ v14 x3_13 ∧ Ext w2 wQ ∧ z10 = .inr x3_13) ?_ ?_
 ·refine qx <| vc (fun s0 kk sQ wQ => ∃ (x3_7 : List Rec) (v8 : Value) (x4_9 : Int), Kp [(3, 5), (6, 18)] s0 sQ ∧ sQ 3 = v8 ∧ Ow 52 5 qc w2.heap.size wQ v8 x3_7 ∧ sQ 4 = .int .i64 x4_9 ∧ Ext w2 wQ ∧ qn (y2.b1 a0) kk (x3_7, x4_9) = some z10) k ⟨([] : List Rec), (.slice (some ⟨b1, 0, none⟩) 0 0), 0, kz, rfl, (Ow.zero), rfl, er, L11⟩ ?_
  rintro k19 s20 w21 ⟨x3_7, v8, x4_9, K22, h25, h26, h27, e23, L24⟩
  cases k19 with
  | zero => exact absurd L24 (by simp [qn])
  | succ k19 =>
   obtain ⟨t28, H, S29⟩ := qJ L24
   clear L24
   unfold y2.b1 at H
   refine qi <| wr <| lp rfl (qb h27) <| lp rfl (xm v_a0 (K22 0 rfl)) <| lp rfl (yK Tryz.underlying23 rfl (Rd2.ext f_a0 (e5.t e23))) <| lp rfl (vW rfl rfl) <| nx ?_
   rcases qh H with ⟨q30, H⟩ | ⟨q30, H⟩
   ·refine qo (cb q30) <| qq <| qf <| qi <| qx <| qG <| lp rfl (qb h25) <| lp rfl (xm v_a0 (K22 0 rfl)) <| lp rfl (qb h27) ?_
    obtain ⟨c31, H⟩ := qa H
    refine Vt (.plain rfl) rfl (ltb rfl) rfl Tryz.underlying23 Tryz.sizeOf35 rfl (Rd2.ext f_a0 (e5.t e23)) rfl c31 <| fun p32 v34 h33 h35 => lp rfl (vy Tryz.isAgg35 rfl h33 rfl) ?_
    obtain ⟨c36, H⟩ := qa H
    obtain ⟨c37, H⟩ := qa H
    obtain ⟨c38, H⟩ := qa H
    obtain ⟨c39, H⟩ := qa H
    refine vE (.plain rfl) rfl (ltb rfl) rfl Tryz.call122 (qL.calls (w := w21) (a0 := x3_7) (a1 := gt a0 x4_9) (Ow.rd h26) h35 (od c36) (od c37) (od c38) (od c39)) rfl <| fun v42 w40 e41 o43 => lp rfl (xa v42 rfl) <| qH <| vj <| qf <| qG <| lp rfl (qb h27) <| lp rfl (qU rfl rfl) <| lp rfl (xa (.int .i64 (IntKind.wrap .i64 (x4_9 + 1))) rfl) <| nx ?_
    obtain rfl := si H
    exact ⟨_, Nat.lt_succ_self _, (jF x3_7 (gt a0 x4_9)), v42, IntKind.wrap .i64 (x4_9 + 1), (ku2 (ku4 (ku8 K22 rfl) rfl) rfl), rfl, (Ow.base o43 e23.size), rfl, (e23.t e41), S29⟩
   ·refine qj (cb q30) <| vt <| qN <| qN <| yu <| qf ?_
    obtain rfl := si H
    obtain rfl := si S29
    exact ⟨x3_7, v8, (ku4 K22 rfl), h25, h26, e23, rfl⟩
 ·rintro s16 w15 ⟨x3_13, v14, K17, h44, h45, e18, y46⟩
  rw [y46] at C12
  have H := C12
  replace H : _ = some _ := H
  refine qf <| wr <| lp rfl (qb h44) <| lp rfl (xa v14 rfl) <| nx <| qr <| qu ?_
  obtain rfl := si H
  exact jI rfl (e5.t e18) h45 (e5).size
/-! impl.squashAll -/
theorem ya.calls {w : World} {a0 : List (List Rec)} (gv : GV 0 w) {v_a0 : Value} (f_a0 : Rd2 5 qc w v_a0 a0) (h0 : vi a0 = true) :
  Calls Tryz.prog 119 #[v_a0] w (Rt (RO 52 5 qc w (qD a0))) := by
 obtain ⟨k, H⟩ := ya.eq a0 h0
 generalize (qD a0) = r at H ⊢
 unfold ya.sh at H
 refine qg Tryz.func119 rfl (Nat.le_of_ble_eq_true rfl) Tryz.ntmps119 rfl ?_
 refine wr <| lp rfl (xa (.slice none 0 0) rfl) <| nx <| wr <| vC (.plain rfl) rfl (ltb rfl) rfl Tryz.underlying35 Tryz.sizeOf52 Tryz.zeroValue52 rfl rfl rfl (vs := []) rfl (qO rfl) <| fun b1 w2 z3 z4 e5 k6 => lp rfl (xa (.slice (some ⟨b1, 0, none⟩) 0 0) rfl) <| nx <| qi <| wr <| lp rfl (xm v_a0 rfl) <| lp rfl (yK Tryz.underlying23 rfl (Rd2.ext f_a0 e5)) <| lp rfl (xm (.int .i64 0) rfl) <| nx ?_
 obtain ⟨z10, L11, C12⟩ := bind_some H
 clear H
 refine  vq (fun s0 sQ wQ => ∃ (x3_13 : List Rec) (v14 : Value), Kp [(3, 4), (5, 6), (9, 17)] s0 sQ ∧ sQ 3 = v14 ∧ Ow 52 5 qc w2.heap.size wQ v14 x3_13 ∧ Ext w2 wQ ∧ z10 = .inr x3_13) ?_ ?_
 ·refine qx <| vc (fun s0 kk sQ wQ => ∃ (x3_7 : List Rec) (v8 : Value) (x9_9 : Int), Kp [(3, 4), (5, 6), (9, 17)] s0 sQ ∧ sQ 3 = v8 ∧ Ow 52 5 qc w2.heap.size wQ v8 x3_7 ∧ sQ 9 = .int .i64 x9_9 ∧ Ext w2 wQ ∧ qn (ya.b1 a0) kk (x3_7, x9_9) = some z10) k ⟨([] : List Rec), (.slice (some ⟨b1, 0, none⟩) 0 0), 0, kz, rfl, (Ow.zero), rfl, er, L11⟩ ?_
  rintro k19 s20 w21 ⟨x3_7, v8, x9_9, K22, h25, h26, h27, e23, L24⟩
  cases k19 with
  | zero => exact absurd L24 (by simp [qn])
  | succ k19 =>
   obtain ⟨t28, H, S29⟩ := qJ L24
   clear L24
   unfold ya.b1 at H
   refine wr <| lp rfl (vW h27 (K22 8 rfl)) <| nx <| qi ?_
   rcases qh H with ⟨q30, H⟩ | ⟨q30, H⟩
   ·refine qo (cb q30) <| qq <| qf <| qi <| qx <| wr ?_
    obtain ⟨c31, H⟩ := qa H
    refine Vt (.plain rfl) rfl (ltb rfl) rfl Tryz.underlying23 Tryz.sizeOf35 (K22 7 rfl) (Rd2.ext f_a0 (e5.t e23)) h27 c31 <| fun p32 v34 h33 h35 => lp rfl (vy Tryz.isAgg35 rfl h33 rfl) <| lp rfl (xa v34 rfl) <| nx <| qG <| lp rfl (qb h25) <| lp rfl (xm v34 rfl) ?_
    obtain ⟨c36, H⟩ := qa H
    obtain ⟨c37, H⟩ := qa H
    obtain ⟨c38, H⟩ := qa H
    obtain ⟨c39, H⟩ := qa H
    refine vE (.plain rfl) rfl (ltb rfl) rfl Tryz.call180 (qK.calls (w := w21) (a0 := x3_7) (a1 := gt a0 x9_9) (GV.ext gv (e5.t e23)) (Ow.rd h26) h35 (od c36) (od c37) (od c38) (od c39)) rfl <| fun v42 w40 e41 o43 => lp rfl (xa v42 rfl) <| qH <| vj <| qf <| qG <| lp rfl (qU h27 rfl) <| lp rfl (xm (.int .i64 (IntKind.wrap .i64 (x9_9 + 1))) rfl) <| nx ?_
    obtain rfl := si H
    exact ⟨_, Nat.lt_succ_self _, (jF x3_7 (gt a0 x9_9)), v42, IntKind.wrap .i64 (x9_9 + 1), (ku2 (ku8 K22 rfl) rfl), rfl, (Ow.base o43 e23.size), rfl, (e23.t e41), S29⟩
   ·refine qj (cb q30) <| vt <| qN <| qN <| yu <| qf ?_
    obtain rfl := si H
    obtain rfl := si S29
    exact ⟨x3_7, v8, (ku1 K22 rfl), h25, h26, e23, rfl⟩
 ·rintro s16 w15 ⟨x3_13, v14, K17, h44, h45, e18, y46⟩
  rw [y46] at C12
  have H := C12
  replace H : _ = some _ := H
  refine qf <| wr <| lp rfl (qb h44) <| lp rfl (xa v14 rfl) <| nx <| qr <| qu ?_
  obtain rfl := si H
  exact jI rfl (e5.t e18) h45 (e5).size
/-! spec.l00Source -/
theorem yo.walk {w : World} {a0 : List Int} {v_a0 : Value} (f_a0 : Rd 1 (Go.UL.encI .u8) w v_a0 a0) {r : DSrc} (H : yo.sh a0 = some r) :
  Calls Tryz.prog 56 #[v_a0] w (Rt (RSN 128 v_a0 w r)) := by
 unfold yo.sh at H
 refine qg Tryz.func56 rfl (Nat.le_of_ble_eq_true rfl) Tryz.ntmps56 rfl ?_
 refine wr <| lp rfl (qp rfl) <| nx <| wr <| lp rfl (xm v_a0 rfl) <| lp rfl (xm v_a0 rfl) <| lp rfl (va Tryz.underlying22 rfl f_a0) <| lp rfl (Jw rfl rfl (by decide)) <| lp rfl (Vc (vs := [(0, v_a0), (2, (.int .i64 ((a0.length : Int).tmod 1000)))]) (pl := #[(0, 1), (1, 1), (2, 1)]) Tryz.underlying128 Tryz.zeroValue128 rfl (fun _ => by kernel_rfl) rfl rfl (by obtain ⟨A9, c9, e9⟩ := Rd.shape f_a0; rw [e9]; rfl)) <| Qg (.plain rfl) rfl (ltb rfl) rfl rfl <| fun b1 w2 z3 z4 e5 k6 => lp rfl (xa (.pointer (some ⟨b1, 0, none⟩)) rfl) <| nx <| qr <| qu ?_
 obtain rfl := si H
 exact fin1sn rfl e5 (Nat.le_trans (er).size (Nat.le_of_eq z3)) k6
theorem yo.calls {w : World} {a0 : List Int} {r : DSrc} {v_a0 : Value} (f_a0 : Rd 1 (Go.UL.encI .u8) w v_a0 a0) (H : (yo.sh a0) = some r) :
  Calls Tryz.prog 56 #[v_a0] w (Rt (RSN 128 v_a0 w r)) := yo.walk f_a0 (yo.eq a0 H)
/-! (*spec.l00Src).byte -/
abbrev qY.e1 (a1 : DSrc) := (IntKind.wrap .i64 ((IntKind.wrap .i64 (a1.pos + 1)) - 1))
abbrev qY.e2 (a0 : List Int) (a1 : DSrc) := (IntKind.wrap .i64 ((IntKind.wrap .i64 (a1.seed * 31)) + (IntKind.wrap .i64 (gt a0 (qY.e1 a1)))))
theorem qY.walk {w : World} {a0 : List Int} {a1 : DSrc} {wc : World} {cv : Value} {bs : Nat} (kc : Ext wc w) (fc : Rd 1 (Go.UL.encI .u8) wc cv a0) (hz : wc.heap.size ≤ bs) (ks : Blk w bs (vN cv a1).toArray 128) {r : Int × DSrc} (H : qY.sh a0 a1 = some r) :
  Calls Tryz.prog 179 #[.pointer (some ⟨bs, 0, none⟩)] w (Rt (RS 128 bs cv w (.int .i64 r.1) r.2)) := by
 unfold qY.sh at H
 refine qg Tryz.func179 rfl (Nat.le_of_ble_eq_true rfl) Tryz.ntmps179 rfl ?_
 refine wr <| lp rfl (xa (.int .i64 0) rfl) <| nx <| wr <| lp rfl (xm (.pointer (some ⟨bs, 0, none⟩)) rfl) <| lp rfl (V8 rfl) <| lp rfl (qd Tryz.underlying128 rfl Tryz.sizeOf3 rfl rfl) <| lp rfl (qA Tryz.isAgg3 ks rfl rfl) <| lp rfl (qU rfl rfl) <| lp rfl (V8 rfl) <| lp rfl (qd Tryz.underlying128 rfl Tryz.sizeOf3 rfl rfl) <| VI (.plain rfl) rfl rfl Tryz.sizeOf3 rfl rfl rfl ks (ltb rfl) <| fun w1 h2 k3 => nx <| qi <| qi ?_
 refine Yc [LEq (.pointer (some ⟨bs, 0, none⟩)), LEq (.pointer (some ⟨bs, 0, none⟩)), LEq (.pointer (some ⟨bs, 1, none⟩)), LEq (.int .i64 (IntKind.wrap .i64 (a1.pos + 1))), LEq (.pointer (some ⟨bs, 0, none⟩)), LEq (.pointer (some ⟨bs, 0, none⟩)), LEq (.pointer (some ⟨bs, 0, none⟩)), LRd 1 (Go.UL.encI .u8) a0, LEq (.int .i64 (a0.length : Int)), LEq (.bool (decide ((IntKind.wrap .i64 (a1.pos + 1)) ≤ (a0.length : Int))))] (by kernel_rfl) (by kernel_rfl) ⟨qm, qm, qm, qm, qm, qm, qm, LRd.mono, qm, qm, trivial⟩ ⟨?_, ?_, ?_, ?_, ?_, ?_, ?_, ?_, ?_, ?_, trivial⟩ ?_
 ·exact fun s x e f d u => lp rfl (xm (.pointer (some ⟨bs, 0, none⟩)) (f 0 rfl)) <| se rfl rfl
 ·exact fun s x e f d u => lp rfl (V8 (d 0 rfl)) <| se rfl rfl
 ·exact fun s x e f d u => lp rfl (qd Tryz.underlying128 rfl Tryz.sizeOf3 rfl (d 1 rfl)) <| se rfl rfl
 ·exact fun s x e f d u => lp rfl (qA Tryz.isAgg3 (Blk.ext k3 e) (d 2 rfl) rfl) <| se rfl rfl
 ·exact fun s x e f d u => lp rfl (xm (.pointer (some ⟨bs, 0, none⟩)) (f 0 rfl)) <| se rfl rfl
 ·exact fun s x e f d u => lp rfl (V8 (d 4 rfl)) <| se rfl rfl
 ·exact fun s x e f d u => lp rfl (qd Tryz.underlying128 rfl Tryz.sizeOf22 rfl (d 5 rfl)) <| se rfl rfl
 ·exact fun s x e f d u => lp rfl (qA Tryz.isAgg22 (Blk.ext k3 e) (d 6 rfl) rfl) <| se rfl (Rd.ext fc (Ext.trans (Below.trans kc (Below.mono (Wr.below h2 hz) (Nat.le_refl _))) e))
 ·intro s x e f d u
  have d4 : Rd 1 (Go.UL.encI .u8) x (s 17) a0 := (d 7 rfl)
  exact lp rfl (va Tryz.underlying22 rfl d4) <| se rfl rfl
 ·exact fun s x e f d u => lp rfl (Jv (d 3 rfl) (d 8 rfl)) <| se rfl rfl
 intro s5 w6 e7 hf8 ha9
 have K10 := Kp.ofD (kp := [(10, 20)]) rfl hf8
 have d11 : s5 19 = (.bool (decide ((IntKind.wrap .i64 (a1.pos + 1)) ≤ (a0.length : Int)))) := ha9 9 rfl
 clear ha9 hf8
 refine qf ?_
 rcases qh H with ⟨q12, H⟩ | ⟨q12, H⟩
 ·refine qo (d11.trans (cb q12)) <| qi ?_
  obtain ⟨c13, H⟩ := qa H
  refine W_dN 22 [LEq (.pointer (some ⟨bs, 0, none⟩)), LEq (.pointer (some ⟨bs, 0, none⟩)), LEq (.pointer (some ⟨bs, 0, none⟩)), LEq (.pointer (some ⟨bs, 2, none⟩)), LEq (.int .i64 a1.seed), LEq (.int .i64 (IntKind.wrap .i64 (a1.seed * 31))), LEq (.pointer (some ⟨bs, 0, none⟩)), LEq (.pointer (some ⟨bs, 0, none⟩)), LEq (.pointer (some ⟨bs, 0, none⟩)), LRd 1 (Go.UL.encI .u8) a0, LEq (.pointer (some ⟨bs, 0, none⟩)), LEq (.pointer (some ⟨bs, 0, none⟩)), LEq (.pointer (some ⟨bs, 1, none⟩)), LEq (.int .i64 (IntKind.wrap .i64 (a1.pos + 1))), LEq (.int .i64 (qY.e1 a1)), yY ((Go.UL.encI .u8) (gt a0 (qY.e1 a1))), LEq (.int .u8 (gt a0 (qY.e1 a1))), LEq (.int .i64 (IntKind.wrap .i64 (gt a0 (qY.e1 a1)))), LEq (.int .i64 (qY.e2 a0 a1)), LEq (.int .i64 (IntKind.wrap .i64 ((qY.e2 a0 a1) + 7))), LEq (.int .i64 ((IntKind.wrap .i64 ((qY.e2 a0 a1) + 7)).tmod 2147483648)), LEq (.pointer (some ⟨bs, 0, none⟩))] (by kernel_rfl) (by kernel_rfl) (by kernel_rfl) ⟨qm, qm, qm, qm, qm, qm, qm, qm, qm, LRd.mono, qm, qm, qm, qm, qm, yY.mono, qm, qm, qm, qm, qm, qm, trivial⟩ ⟨?_, ?_, ?_, ?_, ?_, ?_, ?_, ?_, ?_, ?_, ?_, ?_, ?_, ?_, ?_, ?_, ?_, ?_, ?_, ?_, ?_, ?_, trivial⟩ ?_
  ·exact fun s x e f d u => lp rfl (xm (.pointer (some ⟨bs, 0, none⟩)) ((f 0 rfl).trans (K10 0 rfl))) <| se rfl rfl
  ·exact fun s x e f d u => lp rfl (xm (.pointer (some ⟨bs, 0, none⟩)) ((f 0 rfl).trans (K10 0 rfl))) <| se rfl rfl
  ·exact fun s x e f d u => lp rfl (V8 (d 1 rfl)) <| se rfl rfl
  ·exact fun s x e f d u => lp rfl (qd Tryz.underlying128 rfl Tryz.sizeOf3 rfl (d 2 rfl)) <| se rfl rfl
  ·exact fun s x e f d u => lp rfl (qA Tryz.isAgg3 (Blk.ext k3 (e7.t e)) (d 3 rfl) rfl) <| se rfl rfl
  ·exact fun s x e f d u => lp rfl (X_mul (d 4 rfl) rfl) <| se rfl rfl
  ·exact fun s x e f d u => lp rfl (xm (.pointer (some ⟨bs, 0, none⟩)) ((f 0 rfl).trans (K10 0 rfl))) <| se rfl rfl
  ·exact fun s x e f d u => lp rfl (V8 (d 6 rfl)) <| se rfl rfl
  ·exact fun s x e f d u => lp rfl (qd Tryz.underlying128 rfl Tryz.sizeOf22 rfl (d 7 rfl)) <| se rfl rfl
  ·exact fun s x e f d u => lp rfl (qA Tryz.isAgg22 (Blk.ext k3 (e7.t e)) (d 8 rfl) rfl) <| se rfl (Rd.ext fc (Ext.trans (Ext.trans (Below.trans kc (Below.mono (Wr.below h2 hz) (Nat.le_refl _))) e7) e))
  ·exact fun s x e f d u => lp rfl (xm (.pointer (some ⟨bs, 0, none⟩)) ((f 0 rfl).trans (K10 0 rfl))) <| se rfl rfl
  ·exact fun s x e f d u => lp rfl (V8 (d 10 rfl)) <| se rfl rfl
  ·exact fun s x e f d u => lp rfl (qd Tryz.underlying128 rfl Tryz.sizeOf3 rfl (d 11 rfl)) <| se rfl rfl
  ·exact fun s x e f d u => lp rfl (qA Tryz.isAgg3 (Blk.ext k3 (e7.t e)) (d 12 rfl) rfl) <| se rfl rfl
  ·exact fun s x e f d u => lp rfl (QS (d 13 rfl) rfl) <| se rfl rfl
  ·intro s x e f d u
   have d16 : Rd 1 (Go.UL.encI .u8) x (s 29) a0 := (d 9 rfl)
   exact vk (.plain rfl) rfl (ltb rfl) rfl Tryz.underlying22 Tryz.sizeOf5 rfl d16 (d 14 rfl) c13 <| fun p18 h19 => se rfl ⟨_, rfl, h19⟩
  ·intro s x e f d u
   obtain ⟨p20, h21, h22⟩ := (d 15 rfl)
   exact lp rfl (vy Tryz.isAgg5 h21 h22 rfl) <| se rfl rfl
  ·exact fun s x e f d u => lp rfl (Vy Tryz.underlying5 Tryz.underlying3 (d 16 rfl)) <| se rfl rfl
  ·exact fun s x e f d u => lp rfl (qU (d 5 rfl) (d 17 rfl)) <| se rfl rfl
  ·exact fun s x e f d u => lp rfl (qU (d 18 rfl) rfl) <| se rfl rfl
  ·exact fun s x e f d u => lp rfl (Jw (d 19 rfl) rfl (by decide)) <| se rfl rfl
  ·exact fun s x e f d u => lp rfl (V8 (d 0 rfl)) <| se rfl rfl
  intro s23 w24 e25 hf26 ha27
  have K28 := Kp.ofD (kp := [(20, 42)]) rfl hf26
  have d29 : s23 40 = (.int .i64 ((IntKind.wrap .i64 ((qY.e2 a0 a1) + 7)).tmod 2147483648)) := ha27 20 rfl
  have d30 : s23 41 = (.pointer (some ⟨bs, 0, none⟩)) := ha27 21 rfl
  clear ha27 hf26
  refine lp rfl (qd Tryz.underlying128 rfl Tryz.sizeOf3 rfl d30) <| VI (.plain rfl) rfl rfl Tryz.sizeOf3 rfl d29 rfl (Blk.ext k3 (e7.t e25)) (ltb rfl) <| fun w31 h32 k33 => nx <| qi ?_
  obtain ⟨c34, H⟩ := qa H
  refine Yc [LEq (.pointer (some ⟨bs, 0, none⟩)), LEq (.pointer (some ⟨bs, 0, none⟩)), LEq (.pointer (some ⟨bs, 0, none⟩)), LRd 1 (Go.UL.encI .u8) a0, LEq (.pointer (some ⟨bs, 0, none⟩)), LEq (.pointer (some ⟨bs, 0, none⟩)), LEq (.pointer (some ⟨bs, 1, none⟩)), LEq (.int .i64 (IntKind.wrap .i64 (a1.pos + 1))), LEq (.int .i64 (qY.e1 a1)), yY ((Go.UL.encI .u8) (gt a0 (qY.e1 a1))), LEq (.int .u8 (gt a0 (qY.e1 a1))), LEq (.int .i64 (IntKind.wrap .i64 (gt a0 (qY.e1 a1)))), LEq (.int .i64 (IntKind.wrap .i64 (gt a0 (qY.e1 a1))))] (by kernel_rfl) (by kernel_rfl) ⟨qm, qm, qm, LRd.mono, qm, qm, qm, qm, qm, yY.mono, qm, qm, qm, trivial⟩ ⟨?_, ?_, ?_, ?_, ?_, ?_, ?_, ?_, ?_, ?_, ?_, ?_, ?_, trivial⟩ ?_
  ·exact fun s x e f d u => lp rfl (xm (.pointer (some ⟨bs, 0, none⟩)) ((f 0 rfl).trans ((K28 0 rfl).trans (K10 0 rfl)))) <| se rfl rfl
  ·exact fun s x e f d u => lp rfl (V8 (d 0 rfl)) <| se rfl rfl
  ·exact fun s x e f d u => lp rfl (qd Tryz.underlying128 rfl Tryz.sizeOf22 rfl (d 1 rfl)) <| se rfl rfl
  ·exact fun s x e f d u => lp rfl (qA Tryz.isAgg22 (Blk.ext k33 e) (d 2 rfl) rfl) <| se rfl (Rd.ext fc (Ext.trans (Below.trans (Ext.trans (Ext.trans (Below.trans kc (Below.mono (Wr.below h2 hz) (Nat.le_refl _))) e7) e25) (Below.mono (Wr.below h32 hz) (Nat.le_refl _))) e))
  ·exact fun s x e f d u => lp rfl (xm (.pointer (some ⟨bs, 0, none⟩)) ((f 0 rfl).trans ((K28 0 rfl).trans (K10 0 rfl)))) <| se rfl rfl
  ·exact fun s x e f d u => lp rfl (V8 (d 4 rfl)) <| se rfl rfl
  ·exact fun s x e f d u => lp rfl (qd Tryz.underlying128 rfl Tryz.sizeOf3 rfl (d 5 rfl)) <| se rfl rfl
  ·exact fun s x e f d u => lp rfl (qA Tryz.isAgg3 (Blk.ext k33 e) (d 6 rfl) rfl) <| se rfl rfl
  ·exact fun s x e f d u => lp rfl (QS (d 7 rfl) rfl) <| se rfl rfl
  ·intro s x e f d u
   have d37 : Rd 1 (Go.UL.encI .u8) x (s 46) a0 := (d 3 rfl)
   exact vk (.plain rfl) rfl (ltb rfl) rfl Tryz.underlying22 Tryz.sizeOf5 rfl d37 (d 8 rfl) c34 <| fun p39 h40 => se rfl ⟨_, rfl, h40⟩
  ·intro s x e f d u
   obtain ⟨p41, h42, h43⟩ := (d 9 rfl)
   exact lp rfl (vy Tryz.isAgg5 h42 h43 rfl) <| se rfl rfl
  ·exact fun s x e f d u => lp rfl (Vy Tryz.underlying5 Tryz.underlying3 (d 10 rfl)) <| se rfl rfl
  ·exact fun s x e f d u => lp rfl (qp (d 11 rfl)) <| se rfl rfl
  intro s44 w45 e46 hf47 ha48
  have K49 := Kp.ofD (kp := [(2, 3), (43, 55)]) rfl hf47
  have d50 : s44 2 = (.int .i64 (IntKind.wrap .i64 (gt a0 (qY.e1 a1)))) := ha48 12 rfl
  clear ha48 hf47
  refine qf <| qr <| qw <| qu ?_
  obtain rfl := si H
  exact YA d50 (Gr.trans (Gr.trans (Gr.trans (Gr.trans (Gr.ofWr h2) (Gr.ext e7)) (Gr.ext e25)) (Gr.ofWr h32)) (Gr.ext e46)) (Blk.ext k33 e46)
 ·refine qj (d11.trans (cb q12)) <| qq <| qf <| qi <| wr <| lp rfl (xm (.pointer (some ⟨bs, 0, none⟩)) (K10 0 rfl)) <| lp rfl (V8 rfl) <| lp rfl (qd Tryz.underlying128 rfl Tryz.sizeOf3 rfl rfl) <| lp rfl (qA Tryz.isAgg3 (Blk.ext k3 e7) rfl rfl) <| lp rfl (Qp rfl rfl) <| nx ?_
  rcases qh H with ⟨q51, H⟩ | ⟨q51, H⟩
  ·refine qo (cb q51) <| wr <| lp rfl (xa (.int .i64 0) rfl) <| nx <| qr <| qw <| qu ?_
   obtain rfl := si H
   exact YA rfl (Gr.trans (Gr.ofWr h2) (Gr.ext e7)) (Blk.ext k3 e7)
  ·refine qj (cb q51) <| qq <| qf <| wr <| lp rfl (xm (.pointer (some ⟨bs, 0, none⟩)) (K10 0 rfl)) <| lp rfl (xm (.pointer (some ⟨bs, 0, none⟩)) (K10 0 rfl)) <| lp rfl (V8 rfl) <| lp rfl (qd Tryz.underlying128 rfl Tryz.sizeOf3 rfl rfl) <| lp rfl (qA Tryz.isAgg3 (Blk.ext k3 e7) rfl rfl) <| lp rfl (X_mul rfl rfl) <| lp rfl (qU rfl rfl) <| lp rfl (Jw rfl rfl (by decide)) <| lp rfl (V8 rfl) <| lp rfl (qd Tryz.underlying128 rfl Tryz.sizeOf3 rfl rfl) <| VI (.plain rfl) rfl rfl Tryz.sizeOf3 rfl rfl rfl (Blk.ext k3 e7) (ltb rfl) <| fun w52 h53 k54 => nx <| wr <| lp rfl (xm (.pointer (some ⟨bs, 0, none⟩)) (K10 0 rfl)) <| lp rfl (V8 rfl) <| lp rfl (qd Tryz.underlying128 rfl Tryz.sizeOf3 rfl rfl) <| lp rfl (qA Tryz.isAgg3 k54 rfl rfl) <| lp rfl (X_quo rfl rfl (by decide)) <| lp rfl (Jw rfl rfl (by decide)) <| lp rfl (qp rfl) <| nx <| qr <| qu ?_
   obtain rfl := si H
   exact YA rfl (Gr.trans (Gr.trans (Gr.ofWr h2) (Gr.ext e7)) (Gr.ofWr h53)) k54
theorem qY.calls {w : World} {a0 : List Int} {a1 : DSrc} {r : Int × DSrc} {wc : World} {cv : Value} {bs : Nat} (kc : Ext wc w) (fc : Rd 1 (Go.UL.encI .u8) wc cv a0) (hz : wc.heap.size ≤ bs) (ks : Blk w bs (vN cv a1).toArray 128) (H : (qY.sh a0 a1) = some r) :
  Calls Tryz.prog 179 #[.pointer (some ⟨bs, 0, none⟩)] w (Rt (RS 128 bs cv w (.int .i64 r.1) r.2)) := qY.walk kc fc hz ks (qY.eq a0 a1 H)
/-! (*spec.l00Src).next -/
theorem vw.walk {w : World} {a0 : List Int} {a1 : DSrc} {a2 : Int} {wc : World} {cv : Value} {bs : Nat} (kc : Ext wc w) (fc : Rd 1 (Go.UL.encI .u8) wc cv a0) (hz : wc.heap.size ≤ bs) (ks : Blk w bs (vN cv a1).toArray 128) {r : Int × DSrc} (H : vw.sh a0 a1 a2 = some r) :
  Calls Tryz.prog 115 #[.pointer (some ⟨bs, 0, none⟩), .int .i64 a2] w (Rt (RS 128 bs cv w (.int .i64 r.1) r.2)) := by
 unfold vw.sh at H
 refine qg Tryz.func115 rfl (Nat.le_of_ble_eq_true rfl) Tryz.ntmps115 rfl ?_
 refine wr <| lp rfl (xa (.int .i64 0) rfl) <| nx <| qi <| wr <| lp rfl (xm (.int .i64 a2) rfl) <| lp rfl (Jv rfl rfl) <| nx ?_
 rcases qh H with ⟨q1, H⟩ | ⟨q1, H⟩
 ·refine qo (cb q1) <| wr <| lp rfl (xa (.int .i64 0) rfl) <| nx <| qr <| qw <| qu ?_
  obtain rfl := si H
  exact YA rfl (Gr.refl _ _ _) ks
 ·refine qj (cb q1) <| qq <| qf <| qi <| wr <| lp rfl (xm (.int .i64 a2) rfl) <| lp rfl (Jv rfl rfl) <| nx ?_
  rcases qh H with ⟨q2, H⟩ | ⟨q2, H⟩
  ·refine qo (cb q2) <| wr <| lp rfl (xm (.pointer (some ⟨bs, 0, none⟩)) rfl) ?_
   obtain ⟨z3, x4, H⟩ := bind_some H
   refine jp (.plain rfl) rfl (ltb rfl) rfl Tryz.call179 (qY.calls (w := w) (a0 := a0) (a1 := a1) kc fc hz ks x4) rfl <| fun w7 g8 k9 => lp rfl (xm (.int .i64 a2) rfl) ?_
   obtain ⟨c10, H⟩ := qa H
   refine lp rfl (Jw rfl rfl (od c10)) <| lp rfl (xa (.int .i64 (z3.1.tmod a2)) rfl) <| nx <| qr <| qw <| qu ?_
   obtain rfl := si H
   exact YA rfl g8 k9
  ·refine qj (cb q2) <| qq <| qf <| wr <| lp rfl (xm (.pointer (some ⟨bs, 0, none⟩)) rfl) ?_
   obtain ⟨z11, x12, H⟩ := bind_some H
   refine jp (.plain rfl) rfl (ltb rfl) rfl Tryz.call179 (qY.calls (w := w) (a0 := a0) (a1 := a1) kc fc hz ks x12) rfl <| fun w15 g16 k17 => lp rfl (xa (.int .i64 z11.1) rfl) <| nx <| wr <| lp rfl (xm (.pointer (some ⟨bs, 0, none⟩)) rfl) ?_
   obtain ⟨z18, x19, H⟩ := bind_some H
   refine jp (.plain rfl) rfl (ltb rfl) rfl Tryz.call179 (qY.calls (w := w15) (a0 := a0) (a1 := z11.2) (Ext.gr kc g16 hz) fc hz k17 x19) rfl <| fun w22 g23 k24 => lp rfl (xa (.int .i64 z18.1) rfl) <| nx <| wr <| lp rfl (xm (.pointer (some ⟨bs, 0, none⟩)) rfl) ?_
   obtain ⟨z25, x26, H⟩ := bind_some H
   refine jp (.plain rfl) rfl (ltb rfl) rfl Tryz.call179 (qY.calls (w := w22) (a0 := a0) (a1 := z18.2) (Ext.gr (Ext.gr kc g16 hz) g23 hz) fc hz k24 x26) rfl <| fun w29 g30 k31 => lp rfl (xa (.int .i64 z25.1) rfl) <| nx <| wr <| lp rfl (xm (.int .i64 z11.1) rfl) <| lp rfl (X_mul rfl rfl) <| lp rfl (xm (.int .i64 z18.1) rfl) <| lp rfl (X_mul rfl rfl) <| lp rfl (qU rfl rfl) <| lp rfl (xm (.int .i64 z25.1) rfl) <| lp rfl (qU rfl rfl) <| lp rfl (xm (.int .i64 a2) rfl) ?_
   obtain ⟨c32, H⟩ := qa H
   refine lp rfl (Jw rfl rfl (od c32)) <| lp rfl (qp rfl) <| nx <| qr <| qu ?_
   obtain rfl := si H
   exact YA rfl (Gr.trans (Gr.trans g16 g23) g30) k31
theorem vw.calls {w : World} {a0 : List Int} {a1 : DSrc} {a2 : Int} {r : Int × DSrc} {wc : World} {cv : Value} {bs : Nat} (kc : Ext wc w) (fc : Rd 1 (Go.UL.encI .u8) wc cv a0) (hz : wc.heap.size ≤ bs) (ks : Blk w bs (vN cv a1).toArray 128) (H : (vw.sh a0 a1 a2) = some r) :
  Calls Tryz.prog 115 #[.pointer (some ⟨bs, 0, none⟩), .int .i64 a2] w (Rt (RS 128 bs cv w (.int .i64 r.1) r.2)) := vw.walk kc fc hz ks (vw.eq a0 a1 a2 H)
/-! (*spec.l00Src).chance -/
theorem yN.walk {w : World} {a0 : List Int} {a1 : DSrc} {a2 : Int} {wc : World} {cv : Value} {bs : Nat} (kc : Ext wc w) (fc : Rd 1 (Go.UL.encI .u8) wc cv a0) (hz : wc.heap.size ≤ bs) (ks : Blk w bs (vN cv a1).toArray 128) {r : Bool × DSrc} (H : yN.sh a0 a1 a2 = some r) :
  Calls Tryz.prog 189 #[.pointer (some ⟨bs, 0, none⟩), .int .i64 a2] w (Rt (RS 128 bs cv w (.bool r.1) r.2)) := by
 unfold yN.sh at H
 refine qg Tryz.func189 rfl (Nat.le_of_ble_eq_true rfl) Tryz.ntmps189 rfl ?_
 refine wr <| lp rfl (xa (.bool false) rfl) <| nx <| wr <| lp rfl (xm (.pointer (some ⟨bs, 0, none⟩)) rfl) <| lp rfl (xm (.int .i64 a2) rfl) ?_
 obtain ⟨z1, x2, H⟩ := bind_some H
 refine jp (.plain rfl) rfl (ltb rfl) rfl Tryz.call115 (vw.calls (w := w) (a0 := a0) (a1 := a1) (a2 := a2) kc fc hz ks x2) rfl <| fun w5 g6 k7 => lp rfl (xm (.int .i64 a2) rfl) <| lp rfl (QS rfl rfl) <| lp rfl (yL rfl rfl) <| lp rfl (xa (.bool (decide (z1.1 = (IntKind.wrap .i64 (a2 - 1))))) rfl) <| nx <| qr <| qu ?_
 obtain rfl := si H
 exact YA rfl g6 k7
theorem yN.calls {w : World} {a0 : List Int} {a1 : DSrc} {a2 : Int} {r : Bool × DSrc} {wc : World} {cv : Value} {bs : Nat} (kc : Ext wc w) (fc : Rd 1 (Go.UL.encI .u8) wc cv a0) (hz : wc.heap.size ≤ bs) (ks : Blk w bs (vN cv a1).toArray 128) (H : (yN.sh a0 a1 a2) = some r) :
  Calls Tryz.prog 189 #[.pointer (some ⟨bs, 0, none⟩), .int .i64 a2] w (Rt (RS 128 bs cv w (.bool r.1) r.2)) := yN.walk kc fc hz ks (yN.eq a0 a1 a2 H)
/-! (*spec.l00Src).room -/
theorem jE.walk {w : World} {a0 : List Int} {a1 : DSrc} {a2 : Int} {wc : World} {cv : Value} {bs : Nat} (kc : Ext wc w) (fc : Rd 1 (Go.UL.encI .u8) wc cv a0) (hz : wc.heap.size ≤ bs) (ks : Blk w bs (vN cv a1).toArray 128) {r : Int × DSrc} (H : jE.sh a0 a1 a2 = some r) :
  Calls Tryz.prog 127 #[.pointer (some ⟨bs, 0, none⟩), .int .i64 a2] w (Rt (RS 128 bs cv w (.int .i64 r.1) r.2)) := by
 unfold jE.sh at H
 refine qg Tryz.func127 rfl (Nat.le_of_ble_eq_true rfl) Tryz.ntmps127 rfl ?_
 refine wr <| lp rfl (xa (.int .i64 0) rfl) <| nx <| wr <| lp rfl (xm (.pointer (some ⟨bs, 0, none⟩)) rfl) <| lp rfl (V8 rfl) <| lp rfl (qd Tryz.underlying128 rfl Tryz.sizeOf22 rfl rfl) <| lp rfl (qA Tryz.isAgg22 ks rfl rfl) <| lp rfl (va Tryz.underlying22 rfl (Rd.ext fc kc)) <| lp rfl (X_quo rfl rfl (by decide)) <| lp rfl (qU rfl rfl) <| lp rfl (xm (.int .i64 a2) rfl) <| lp rfl (X_min rfl rfl) <| lp rfl (qp rfl) <| nx <| qr <| qu ?_
 obtain rfl := si H
 exact YA rfl (Gr.refl _ _ _) ks
theorem jE.calls {w : World} {a0 : List Int} {a1 : DSrc} {a2 : Int} {r : Int × DSrc} {wc : World} {cv : Value} {bs : Nat} (kc : Ext wc w) (fc : Rd 1 (Go.UL.encI .u8) wc cv a0) (hz : wc.heap.size ≤ bs) (ks : Blk w bs (vN cv a1).toArray 128) (H : (jE.sh a0 a1 a2) = some r) :
  Calls Tryz.prog 127 #[.pointer (some ⟨bs, 0, none⟩), .int .i64 a2] w (Rt (RS 128 bs cv w (.int .i64 r.1) r.2)) := jE.walk kc fc hz ks (jE.eq a0 a1 a2 H)
/-! (*spec.l00Src).pick -/
theorem y3.walk {w : World} {a0 : List Int} {a1 : DSrc} {a2 : List (List UInt8)} {wc : World} {cv : Value} {bs : Nat} (kc : Ext wc w) (fc : Rd 1 (Go.UL.encI .u8) wc cv a0) (hz : wc.heap.size ≤ bs) (ks : Blk w bs (vN cv a1).toArray 128) {v_a2 : Value} {B_a2 : Nat} (o_a2 : Ow 9 1 jc B_a2 w v_a2 a2) (l_a2 : bs + 1 ≤ B_a2) {r : List UInt8 × DSrc} (H : y3.sh a0 a1 a2 = some r) :
  Calls Tryz.prog 188 #[.pointer (some ⟨bs, 0, none⟩), v_a2] w (Rt (RS 128 bs cv w (S r.1) r.2)) := by
 unfold y3.sh at H
 refine qg Tryz.func188 rfl (Nat.le_of_ble_eq_true rfl) Tryz.ntmps188 rfl ?_
 refine wr <| lp rfl (xa (S ([] : List UInt8)) rfl) <| nx <| qi <| wr <| lp rfl (xm v_a2 rfl) <| lp rfl (va Tryz.underlying44 rfl (Ow.rd o_a2)) <| lp rfl (yL rfl rfl) <| nx ?_
 rcases qh H with ⟨q1, H⟩ | ⟨q1, H⟩
 ·refine qo (cb q1) <| wr <| lp rfl (xa (S ([] : List UInt8)) rfl) <| nx <| qr <| qw <| qu ?_
  obtain rfl := si H
  exact YA rfl (Gr.refl _ _ _) ks
 ·refine qj (cb q1) <| qq <| qf <| wr <| lp rfl (xm v_a2 rfl) <| lp rfl (xm (.pointer (some ⟨bs, 0, none⟩)) rfl) <| lp rfl (xm v_a2 rfl) <| lp rfl (va Tryz.underlying44 rfl (Ow.rd o_a2)) ?_
  obtain ⟨z2, x3, H⟩ := bind_some H
  refine jp (.plain rfl) rfl (ltb rfl) rfl Tryz.call115 (vw.calls (w := w) (a0 := a0) (a1 := a1) (a2 := (a2.length : Int)) kc fc hz ks x3) rfl <| fun w6 g7 k8 => ?_
  obtain ⟨c9, H⟩ := qa H
  refine vk (.plain rfl) rfl (ltb rfl) rfl Tryz.underlying44 Tryz.sizeOf9 rfl (Ow.rd (Ow.later o_a2 g7 l_a2)) rfl c9 <| fun p10 h11 => lp rfl (vy Tryz.isAgg9 rfl h11 rfl) <| lp rfl (xa (S (gt a2 z2.1)) rfl) <| nx <| qr <| qu ?_
  obtain rfl := si H
  exact YA rfl g7 k8
theorem y3.calls {w : World} {a0 : List Int} {a1 : DSrc} {a2 : List (List UInt8)} {r : List UInt8 × DSrc} {wc : World} {cv : Value} {bs : Nat} (kc : Ext wc w) (fc : Rd 1 (Go.UL.encI .u8) wc cv a0) (hz : wc.heap.size ≤ bs) (ks : Blk w bs (vN cv a1).toArray 128) {v_a2 : Value} {B_a2 : Nat} (o_a2 : Ow 9 1 jc B_a2 w v_a2 a2) (l_a2 : bs + 1 ≤ B_a2) (H : (y3.sh a0 a1 a2) = some r) :
  Calls Tryz.prog 188 #[.pointer (some ⟨bs, 0, none⟩), v_a2] w (Rt (RS 128 bs cv w (S r.1) r.2)) := y3.walk kc fc hz ks o_a2 l_a2 (y3.eq a0 a1 a2 H)
/-! (*spec.l00Src).part -/
theorem ym.walk {w : World} {a0 : List Int} {a1 : DSrc} {wc : World} {cv : Value} {bs : Nat} (kc : Ext wc w) (fc : Rd 1 (Go.UL.encI .u8) wc cv a0) (hz : wc.heap.size ≤ bs) (ks : Blk w bs (vN cv a1).toArray 128) {r : List UInt8 × DSrc} (H : ym.sh a0 a1 = some r) :
  Calls Tryz.prog 190 #[.pointer (some ⟨bs, 0, none⟩)] w (Rt (RS 128 bs cv w (S r.1) r.2)) := by
 unfold ym.sh at H
 refine qg Tryz.func190 rfl (Nat.le_of_ble_eq_true rfl) Tryz.ntmps190 rfl ?_
 refine wr <| lp rfl (xa (S ([] : List UInt8)) rfl) <| nx <| wr <| lp rfl (xm (.pointer (some ⟨bs, 0, none⟩)) rfl) <| vC (.plain rfl) rfl (ltb rfl) rfl Tryz.underlying44 Tryz.sizeOf9 Tryz.zeroValue9 rfl rfl rfl (vs := [(S ([97] : List UInt8)), (S ([98] : List UInt8)), (S ([99] : List UInt8)), (S ([97, 46, 98] : List UInt8)), (S ([120] : List UInt8))]) rfl (qO rfl) <| fun b1 w2 z3 z4 e5 k6 => ?_
 obtain ⟨z7, x8, H⟩ := bind_some H
 refine jp (.plain rfl) rfl (ltb rfl) rfl Tryz.call188 (y3.calls (w := w2) (a0 := a0) (a1 := a1) (a2 := ym.lit1) (Ext.trans kc e5) fc hz (Blk.ext ks e5) (Ow.new (xs := ym.lit1) (sz := 1) (enc := jc) (base := w.heap.size) k6 (Nat.le_of_eq z3) rfl (fun _ _ => rfl) (Nat.le_of_ble_eq_true rfl)) (Nat.le_trans (Blk.lt ks) (Nat.le_refl _)) x8) rfl <| fun w11 g12 k13 => lp rfl (xa (S z7.1) rfl) <| nx <| qr <| qu ?_
 obtain rfl := si H
 exact YA rfl (Gr.trans (Gr.ext e5) g12) k13
theorem ym.calls {w : World} {a0 : List Int} {a1 : DSrc} {r : List UInt8 × DSrc} {wc : World} {cv : Value} {bs : Nat} (kc : Ext wc w) (fc : Rd 1 (Go.UL.encI .u8) wc cv a0) (hz : wc.heap.size ≤ bs) (ks : Blk w bs (vN cv a1).toArray 128) (H : (ym.sh a0 a1) = some r) :
  Calls Tryz.prog 190 #[.pointer (some ⟨bs, 0, none⟩)] w (Rt (RS 128 bs cv w (S r.1) r.2)) := ym.walk kc fc hz ks (ym.eq a0 a1 H)
/-! (*spec.l00Src).path -/
theorem yC.walk {k : Nat} {w : World} {a0 : List Int} {a1 : DSrc} {wc : World} {cv : Value} {bs : Nat} (kc : Ext wc w) (fc : Rd 1 (Go.UL.encI .u8) wc cv a0) (hz : wc.heap.size ≤ bs) (ks : Blk w bs (vN cv a1).toArray 128) {r : List UInt8 × DSrc} (H : yC.sh k a0 a1 = some r) :
  Calls Tryz.prog 130 #[.pointer (some ⟨bs, 0, none⟩)] w (Rt (RS 128 bs cv w (S r.1) r.2)) := by
 unfold yC.sh at H
 refine qg Tryz.func130 rfl (Nat.le_of_ble_eq_true rfl) Tryz.ntmps130 rfl ?_
 refine wr <| lp rfl (xa (S ([] : List UInt8)) rfl) <| nx <| wr <| lp rfl (xm (.pointer (some ⟨bs, 0, none⟩)) rfl) ?_
 obtain ⟨z1, x2, H⟩ := bind_some H
 refine jp (.plain rfl) rfl (ltb rfl) rfl Tryz.call190 (ym.calls (w := w) (a0 := a0) (a1 := a1) kc fc hz ks x2) rfl <| fun w5 g6 k7 => lp rfl (xa (S z1.1) rfl) <| nx <| qi <| wr <| lp rfl (xm (.pointer (some ⟨bs, 0, none⟩)) rfl) ?_
 obtain ⟨z8, x9, H⟩ := bind_some H
 refine jp (.plain rfl) rfl (ltb rfl) rfl Tryz.call115 (vw.calls (w := w5) (a0 := a0) (a1 := z1.2) (a2 := 3) (Ext.gr kc g6 hz) fc hz k7 x9) rfl <| fun w12 g13 k14 => lp rfl (xa (.int .i64 z8.1) rfl) <| nx ?_
 obtain ⟨z18, L19, C20⟩ := bind_some H
 clear H
 refine  vq (fun s0 sQ wQ => ∃ (x3_21 : List UInt8) (y22 : DSrc), Kp [(3, 5), (9, 18)] s0 sQ ∧ sQ 3 = S x3_21 ∧ Blk wQ bs ((vN cv) y22).toArray 128 ∧ Gr bs (bs + 1) w12 wQ ∧ Ext wc wQ ∧ z18 = .inr (x3_21, y22)) ?_ ?_
 ·refine qx <| vc (fun s0 kk sQ wQ => ∃ (x3_15 : List UInt8) (x4_16 : Int) (y17 : DSrc), Kp [(3, 5), (9, 18)] s0 sQ ∧ sQ 3 = S x3_15 ∧ sQ 4 = .int .i64 x4_16 ∧ Blk wQ bs ((vN cv) y17).toArray 128 ∧ Gr bs (bs + 1) w12 wQ ∧ Ext wc wQ ∧ qn (yC.b1 a0) kk (x3_15, x4_16, y17) = some z18) k ⟨z1.1, z8.1, z8.2, kz, rfl, rfl, k14, (Gr.refl _ _ _), (Ext.gr (Ext.gr kc g6 hz) g13 hz), L19⟩ ?_
  rintro k27 s28 w29 ⟨x3_15, x4_16, y17, K30, h33, h34, h35, e31, e31c, L32⟩
  cases k27 with
  | zero => exact absurd L32 (by simp [qn])
  | succ k27 =>
   obtain ⟨t36, H, S37⟩ := qJ L32
   clear L32
   unfold yC.b1 at H
   refine qi <| wr <| lp rfl (qb h34) <| lp rfl (Qp rfl rfl) <| nx ?_
   rcases qh H with ⟨q38, H⟩ | ⟨q38, H⟩
   ·refine qo (cb q38) <| qq <| qf <| qi <| qx <| qG <| lp rfl (qb h33) <| lp rfl (xm (.pointer (some ⟨bs, 0, none⟩)) (K30 0 rfl)) ?_
    obtain ⟨z39, x40, H⟩ := bind_some H
    refine jp (.plain rfl) rfl (ltb rfl) rfl Tryz.call190 (ym.calls (w := w29) (a0 := a0) (a1 := y17) e31c fc hz h35 x40) rfl <| fun w43 g44 k45 => ?_
    obtain ⟨c46, H⟩ := qa H
    refine lp rfl (X_cat rfl rfl (od c46)) ?_
    obtain ⟨c47, H⟩ := qa H
    refine lp rfl (X_cat rfl rfl (od c47)) <| lp rfl (xa (S (x3_15 ++ (([47] : List UInt8) ++ z39.1))) rfl) <| qH <| vj <| qf <| qG <| lp rfl (qb h34) <| lp rfl (QS rfl rfl) <| lp rfl (xa (.int .i64 (IntKind.wrap .i64 (x4_16 - 1))) rfl) <| nx ?_
    obtain rfl := si H
    exact ⟨_, Nat.lt_succ_self _, x3_15 ++ (([47] : List UInt8) ++ z39.1), IntKind.wrap .i64 (x4_16 - 1), z39.2, (ku3 (ku8 K30 rfl) rfl), rfl, rfl, k45, (Gr.trans e31 g44), (Ext.gr e31c g44 hz), S37⟩
   ·refine qj (cb q38) <| vt <| qN <| qN <| yu <| qf ?_
    obtain rfl := si H
    obtain rfl := si S37
    exact ⟨x3_15, y17, (ku2 K30 rfl), h33, h35, e31, e31c, rfl⟩
 ·rintro s24 w23 ⟨x3_21, y22, K25, h48, h49, e26, e26c, y50⟩
  rw [y50] at C20
  have H := C20
  replace H : _ = some _ := H
  refine qf <| wr <| lp rfl (qb h48) <| lp rfl (xa (S x3_21) rfl) <| nx <| qr <| qu ?_
  obtain rfl := si H
  exact YA rfl (Gr.trans (Gr.trans g6 g13) e26) h49
theorem yC.calls {w : World} {a0 : List Int} {a1 : DSrc} {r : List UInt8 × DSrc} {wc : World} {cv : Value} {bs : Nat} (kc : Ext wc w) (fc : Rd 1 (Go.UL.encI .u8) wc cv a0) (hz : wc.heap.size ≤ bs) (ks : Blk w bs (vN cv a1).toArray 128) (H : (yC.sh 4 a0 a1) = some r) :
  Calls Tryz.prog 130 #[.pointer (some ⟨bs, 0, none⟩)] w (Rt (RS 128 bs cv w (S r.1) r.2)) := by
 obtain ⟨k, h⟩ := yC.eq a0 a1 H
 exact yC.walk kc fc hz ks h
/-! (*spec.l00Src).body -/
theorem yD.walk {w : World} {a0 : List Int} {a1 : DSrc} {wc : World} {cv : Value} {bs : Nat} (kc : Ext wc w) (fc : Rd 1 (Go.UL.encI .u8) wc cv a0) (hz : wc.heap.size ≤ bs) (ks : Blk w bs (vN cv a1).toArray 128) {r : List UInt8 × DSrc} (H : yD.sh a0 a1 = some r) :
  Calls Tryz.prog 187 #[.pointer (some ⟨bs, 0, none⟩)] w (Rt (RS 128 bs cv w (S r.1) r.2)) := by
 unfold yD.sh at H
 refine qg Tryz.func187 rfl (Nat.le_of_ble_eq_true rfl) Tryz.ntmps187 rfl ?_
 refine wr <| lp rfl (xa (S ([] : List UInt8)) rfl) <| nx <| wr <| lp rfl (xm (.pointer (some ⟨bs, 0, none⟩)) rfl) <| vC (.plain rfl) rfl (ltb rfl) rfl Tryz.underlying44 Tryz.sizeOf9 Tryz.zeroValue9 rfl rfl rfl (vs := [(S ([] : List UInt8)), (S ([111, 110, 101] : List UInt8)), (S ([116, 119, 111] : List UInt8)), (S ([120, 0, 121] : List UInt8)), (S ([108, 111, 110, 103, 32, 108, 111, 110, 103, 32, 98, 111, 100, 121, 32, 104, 101, 114, 101, 33] : List UInt8))]) rfl (qO rfl) <| fun b1 w2 z3 z4 e5 k6 => ?_
 obtain ⟨z7, x8, H⟩ := bind_some H
 refine jp (.plain rfl) rfl (ltb rfl) rfl Tryz.call188 (y3.calls (w := w2) (a0 := a0) (a1 := a1) (a2 := yD.lit1) (Ext.trans kc e5) fc hz (Blk.ext ks e5) (Ow.new (xs := yD.lit1) (sz := 1) (enc := jc) (base := w.heap.size) k6 (Nat.le_of_eq z3) rfl (fun _ _ => rfl) (Nat.le_of_ble_eq_true rfl)) (Nat.le_trans (Blk.lt ks) (Nat.le_refl _)) x8) rfl <| fun w11 g12 k13 => lp rfl (xa (S z7.1) rfl) <| nx <| qr <| qu ?_
 obtain rfl := si H
 exact YA rfl (Gr.trans (Gr.ext e5) g12) k13
theorem yD.calls {w : World} {a0 : List Int} {a1 : DSrc} {r : List UInt8 × DSrc} {wc : World} {cv : Value} {bs : Nat} (kc : Ext wc w) (fc : Rd 1 (Go.UL.encI .u8) wc cv a0) (hz : wc.heap.size ≤ bs) (ks : Blk w bs (vN cv a1).toArray 128) (H : (yD.sh a0 a1) = some r) :
  Calls Tryz.prog 187 #[.pointer (some ⟨bs, 0, none⟩)] w (Rt (RS 128 bs cv w (S r.1) r.2)) := yD.walk kc fc hz ks (yD.eq a0 a1 H)
/-! (*spec.l00Src).record -/
theorem y1.walk {w : World} {a0 : List Int} {a1 : DSrc} {a2 : List UInt8} {wc : World} {cv : Value} {bs : Nat} (kc : Ext wc w) (fc : Rd 1 (Go.UL.encI .u8) wc cv a0) (hz : wc.heap.size ≤ bs) (ks : Blk w bs (vN cv a1).toArray 128) {r : Rec × DSrc} (H : y1.sh a0 a1 a2 = some r) :
  Calls Tryz.prog 129 #[.pointer (some ⟨bs, 0, none⟩), S a2] w (Rt (RS 128 bs cv w (.agg (qc r.1).toArray) r.2)) := by
 unfold y1.sh at H
 refine Yg Tryz.func129 rfl (Nat.le_of_ble_eq_true rfl) Tryz.ntmps129 ?_
 refine wr <| Vf (.plain rfl) rfl (ltb rfl) rfl Tryz.zeroValue52 <| fun b1 w2 z3 z4 e5 k6 => nx <| qi <| wr <| lp rfl (xm (.pointer (some ⟨bs, 0, none⟩)) rfl) ?_
 obtain ⟨z7, x8, H⟩ := bind_some H
 refine jp (.plain rfl) rfl (ltb rfl) rfl Tryz.call115 (vw.calls (w := w2) (a0 := a0) (a1 := a1) (a2 := 8) (Ext.trans kc e5) fc hz (Blk.ext ks e5) x8) rfl <| fun w11 g12 k13 => nx ?_
 obtain ⟨z14, L15, C16⟩ := bind_some H
 clear H
 refine vq (fun s0 sQ wQ => ∃ (y17 : DSrc), Kp [(7, 32)] s0 sQ ∧ Blk wQ bs ((vN cv) y17).toArray 128 ∧ Blk wQ b1 (qc (⟨0, ([] : List UInt8), ([] : List UInt8), 0, false⟩ : Rec)).toArray 52 ∧ Gr bs (bs + 1) w11 wQ ∧ Ext wc wQ ∧ z14 = .inr y17) ?_ ?_
 ·have H := L15
  refine qx <| qi <| wr <| lp rfl (yL rfl rfl) <| lp rfl (xa (.bool (decide (z7.1 = 0))) rfl) <| nx ?_
  obtain ⟨z18, L19, C20⟩ := bind_some H
  clear H
  refine vq (fun s0 sQ wQ => ∃ (x7_21 : Bool), Kp [(7, 8), (9, 11)] s0 sQ ∧ sQ 7 = .bool x7_21 ∧ Blk wQ bs ((vN cv) z7.2).toArray 128 ∧ Blk wQ b1 (qc (⟨0, ([] : List UInt8), ([] : List UInt8), 0, false⟩ : Rec)).toArray 52 ∧ Gr bs (bs + 1) w11 wQ ∧ Ext wc wQ ∧ z18 = .inr x7_21) ?_ ?_
  ·have H := L19
   rcases qh H with ⟨q22, H⟩ | ⟨q22, H⟩
   ·refine qo (cb q22) <| qq <| qf ?_
    obtain rfl := si H
    exact ⟨(decide (z7.1 = 0)), kz, rfl, k13, (Gr.blk g12 k6 (Or.inl (Nat.le_trans (Nat.le_trans (Blk.lt ks) (Nat.le_refl _)) (Nat.le_of_eq z3)))), (Gr.refl _ _ _), (Ext.gr (Ext.trans kc e5) g12 hz), rfl⟩
   ·refine qj (cb q22) <| wr <| lp rfl (yL rfl rfl) <| lp rfl (xa (.bool (decide (z7.1 = 1))) rfl) <| nx ?_
    rcases qh H with ⟨q23, H⟩ | ⟨q23, H⟩
    ·refine qo (cb q23) <| qq <| qf ?_
     obtain rfl := si H
     exact ⟨(decide (z7.1 = 1)), (ku2 kz rfl), rfl, k13, (Gr.blk g12 k6 (Or.inl (Nat.le_trans (Nat.le_trans (Blk.lt ks) (Nat.le_refl _)) (Nat.le_of_eq z3)))), (Gr.refl _ _ _), (Ext.gr (Ext.trans kc e5) g12 hz), rfl⟩
    ·refine qj (cb q23) <| qG <| lp rfl (yL rfl rfl) <| lp rfl (xa (.bool (decide (z7.1 = 2))) rfl) <| nx ?_
     obtain rfl := si H
     exact ⟨(decide (z7.1 = 2)), (ku4 kz rfl), rfl, k13, (Gr.blk g12 k6 (Or.inl (Nat.le_trans (Nat.le_trans (Blk.lt ks) (Nat.le_refl _)) (Nat.le_of_eq z3)))), (Gr.refl _ _ _), (Ext.gr (Ext.trans kc e5) g12 hz), rfl⟩
  ·rintro s25 w24 ⟨x7_21, K26, h29, h30, h31, e27, e27c, y28⟩
   rw [y28] at C20
   have H := C20
   refine qf ?_
   rcases qh H with ⟨q32, H⟩ | ⟨q32, H⟩
   ·refine qo (h29.trans (cb q32)) <| wr <| lp rfl (xm (S a2) (K26 1 rfl)) <| lp rfl (xm (.pointer (some ⟨bs, 0, none⟩)) (K26 0 rfl)) ?_
    obtain ⟨z33, x34, H⟩ := bind_some H
    refine jp (.plain rfl) rfl (ltb rfl) rfl Tryz.call187 (yD.calls (w := w24) (a0 := a0) (a1 := z7.2) e27c fc hz h30 x34) rfl <| fun w37 g38 k39 => vC (.plain rfl) rfl (ltb rfl) rfl Tryz.underlying179 Tryz.sizeOf3 Tryz.zeroValue3 rfl rfl rfl (vs := [(.int .i64 420), (.int .i64 0), (.int .i64 511)]) rfl (qO rfl) <| fun b40 w41 z42 z43 e44 k45 => lp rfl (xm (.pointer (some ⟨bs, 0, none⟩)) (K26 0 rfl)) ?_
    obtain ⟨z46, x47, H⟩ := bind_some H
    refine jp (.plain rfl) rfl (ltb rfl) rfl Tryz.call115 (vw.calls (w := w41) (a0 := a0) (a1 := z33.2) (a2 := 3) (Ext.trans (Ext.gr e27c g38 hz) e44) fc hz (Blk.ext k39 e44) x47) rfl <| fun w50 g51 k52 => ?_
    obtain ⟨c53, H⟩ := qa H
    refine vk (.plain rfl) rfl (ltb rfl) rfl Tryz.underlying179 Tryz.sizeOf3 rfl (Ow.rd (Ow.later (Ow.new (xs := [420, 0, 511]) (sz := 1) (enc := (Go.UL.encI .i64)) (base := w37.heap.size) k45 (Nat.le_of_eq z42) rfl (fun _ _ => by rfl) (Nat.le_of_ble_eq_true rfl)) g51 (Nat.le_trans (Blk.lt ks) ((Gr.trans (Gr.trans (Gr.trans (Gr.ext e5) g12) e27) g38)).size))) rfl c53 <| fun p54 h55 => lp rfl (vy Tryz.isAgg3 rfl h55 rfl) <| lp rfl (Vc (vs := [(0, (.int .i64 1)), (1, (S a2)), (2, (S z33.1)), (3, (.int .i64 (gt ([420, 0, 511] : List Int) z46.1)))]) (pl := #[(0, 1), (1, 1), (2, 1), (3, 1), (4, 1)]) Tryz.underlying52 Tryz.zeroValue52 rfl (fun _ => by kernel_rfl) rfl rfl rfl) <| jK (.plain rfl) rfl rfl Tryz.sizeOf52 (K26 4 rfl) rfl rfl rfl rfl (Gr.blk g51 (Blk.ext (Gr.blk g38 h31 (Or.inl (Nat.le_trans (Nat.le_trans (Blk.lt ks) (Nat.le_refl _)) (Nat.le_of_eq z3)))) e44) (Or.inl (Nat.le_trans (Nat.le_trans (Blk.lt ks) (Nat.le_refl _)) (Nat.le_of_eq z3)))) <| fun w56 h57 k58 => nx <| qr <| vJ <| qw <| qw <| YJ ?_
    obtain rfl := si H
    have H := C16
    obtain rfl := si H
    exact Xn rfl (K26 4 rfl) k58 Tryz.isAgg52 Tryz.sizeOf52 rfl (Gr.thn (Gr.trans (Gr.trans (Gr.trans (Gr.trans (Gr.trans (Gr.ext e5) g12) e27) g38) (Gr.ext e44)) g51) (Wr.below h57 (Nat.le_of_eq z3))) (Gr.blk (Gr.ofBelow (Wr.below h57 (Nat.le_of_eq z3))) k52 (Or.inr (Nat.le_trans (Blk.lt ks) (Nat.le_refl _))))
   ·refine qj (h29.trans (cb q32)) <| wr <| lp rfl (yL (K26 6 rfl) rfl) <| lp rfl (xa (.bool (decide (z7.1 = 3))) rfl) <| nx ?_
    rcases qh H with ⟨q59, H⟩ | ⟨q59, H⟩
    ·refine qo (cb q59) <| wr <| lp rfl (xm (S a2) (K26 1 rfl)) <| lp rfl (xm (.pointer (some ⟨bs, 0, none⟩)) (K26 0 rfl)) <| vC (.plain rfl) rfl (ltb rfl) rfl Tryz.underlying44 Tryz.sizeOf9 Tryz.zeroValue9 rfl rfl rfl (vs := [(S ([97] : List UInt8)), (S ([46, 46, 47, 98] : List UInt8)), (S ([47] : List UInt8))]) rfl (qO rfl) <| fun b60 w61 z62 z63 e64 k65 => ?_
     obtain ⟨z66, x67, H⟩ := bind_some H
     refine jp (.plain rfl) rfl (ltb rfl) rfl Tryz.call188 (y3.calls (w := w61) (a0 := a0) (a1 := z7.2) (a2 := ([([97] : List UInt8), ([46, 46, 47, 98] : List UInt8), ([47] : List UInt8)] : List (List UInt8))) (Ext.trans e27c e64) fc hz (Blk.ext h30 e64) (Ow.new (xs := [([97] : List UInt8), ([46, 46, 47, 98] : List UInt8), ([47] : List UInt8)]) (sz := 1) (enc := jc) (base := w24.heap.size) k65 (Nat.le_of_eq z62) rfl (fun _ _ => by rfl) (Nat.le_of_ble_eq_true rfl)) (Nat.le_trans (Blk.lt ks) ((Gr.trans (Gr.trans (Gr.ext e5) g12) e27)).size) x67) rfl <| fun w70 g71 k72 => lp rfl (Vc (vs := [(0, (.int .i64 2)), (1, (S a2)), (2, (S z66.1))]) (pl := #[(0, 1), (1, 1), (2, 1), (3, 1), (4, 1)]) Tryz.underlying52 Tryz.zeroValue52 rfl (fun _ => by kernel_rfl) rfl rfl rfl) <| jK (.plain rfl) rfl rfl Tryz.sizeOf52 (K26 4 rfl) rfl rfl rfl rfl (Gr.blk g71 (Blk.ext h31 e64) (Or.inl (Nat.le_trans (Nat.le_trans (Blk.lt ks) (Nat.le_refl _)) (Nat.le_of_eq z3)))) <| fun w73 h74 k75 => nx <| qr <| vJ <| qw <| qw <| YJ ?_
     obtain rfl := si H
     have H := C16
     obtain rfl := si H
     exact Xn rfl (K26 4 rfl) k75 Tryz.isAgg52 Tryz.sizeOf52 rfl (Gr.thn (Gr.trans (Gr.trans (Gr.trans (Gr.trans (Gr.ext e5) g12) e27) (Gr.ext e64)) g71) (Wr.below h74 (Nat.le_of_eq z3))) (Gr.blk (Gr.ofBelow (Wr.below h74 (Nat.le_of_eq z3))) k72 (Or.inr (Nat.le_trans (Blk.lt ks) (Nat.le_refl _))))
    ·refine qj (cb q59) <| qi <| wr <| lp rfl (yL (K26 6 rfl) rfl) <| lp rfl (xa (.bool (decide (z7.1 = 4))) rfl) <| nx ?_
     rcases qh H with ⟨q76, H⟩ | ⟨q76, H⟩
     ·refine qo (cb q76) <| qq <| qf ?_
      rcases qh H with ⟨q77, H⟩ | ⟨q77, H⟩
      ·refine qo (cb q77) <| wr <| lp rfl (xm (S a2) (K26 1 rfl)) <| lp rfl (Vc (vs := [(0, (.int .i64 4)), (1, (S a2))]) (pl := #[(0, 1), (1, 1), (2, 1), (3, 1), (4, 1)]) Tryz.underlying52 Tryz.zeroValue52 rfl (fun _ => by kernel_rfl) rfl rfl rfl) <| jK (.plain rfl) rfl rfl Tryz.sizeOf52 (K26 4 rfl) rfl rfl rfl rfl h31 <| fun w78 h79 k80 => nx <| qr <| vJ <| qw <| qw <| YJ ?_
       obtain rfl := si H
       have H := C16
       obtain rfl := si H
       exact Xn rfl (K26 4 rfl) k80 Tryz.isAgg52 Tryz.sizeOf52 rfl (Gr.thn (Gr.trans (Gr.trans (Gr.ext e5) g12) e27) (Wr.below h79 (Nat.le_of_eq z3))) (Gr.blk (Gr.ofBelow (Wr.below h79 (Nat.le_of_eq z3))) h30 (Or.inr (Nat.le_trans (Blk.lt ks) (Nat.le_refl _))))
      ·refine qj (cb q77) <| qq <| vj <| qf ?_
       obtain rfl := si H
       exact ⟨z7.2, (ku4 (Kp.cut (ku2 kz rfl) K26 rfl) rfl), h30, h31, e27, e27c, rfl⟩
     ·refine qj (cb q76) <| qG <| lp rfl (yL (K26 6 rfl) rfl) <| lp rfl (xa (.bool (decide (z7.1 = 5))) rfl) <| nx ?_
      rcases qh H with ⟨q81, H⟩ | ⟨q81, H⟩
      ·refine qo (cb q81) <| wr <| lp rfl (xm (S a2) (K26 1 rfl)) <| lp rfl (Vc (vs := [(0, (.int .i64 4)), (1, (S a2))]) (pl := #[(0, 1), (1, 1), (2, 1), (3, 1), (4, 1)]) Tryz.underlying52 Tryz.zeroValue52 rfl (fun _ => by kernel_rfl) rfl rfl rfl) <| jK (.plain rfl) rfl rfl Tryz.sizeOf52 (K26 4 rfl) rfl rfl rfl rfl h31 <| fun w82 h83 k84 => nx <| qr <| vJ <| qw <| qw <| YJ ?_
       obtain rfl := si H
       have H := C16
       obtain rfl := si H
       exact Xn rfl (K26 4 rfl) k84 Tryz.isAgg52 Tryz.sizeOf52 rfl (Gr.thn (Gr.trans (Gr.trans (Gr.ext e5) g12) e27) (Wr.below h83 (Nat.le_of_eq z3))) (Gr.blk (Gr.ofBelow (Wr.below h83 (Nat.le_of_eq z3))) h30 (Or.inr (Nat.le_trans (Blk.lt ks) (Nat.le_refl _))))
      ·refine qj (cb q81) <| qq <| vj <| qf ?_
       obtain rfl := si H
       exact ⟨z7.2, (ku2 (ku4 (Kp.cut (ku2 kz rfl) K26 rfl) rfl) rfl), h30, h31, e27, e27c, rfl⟩
 ·rintro s86 w85 ⟨y17, K87, h90, h91, e88, e88c, y89⟩
  rw [y89] at C16
  have H := C16
  refine qf <| qi ?_
  obtain ⟨z98, x99, H⟩ := bind_some H
  obtain ⟨c105, H⟩ := qa H
  obtain ⟨z108, x109, H⟩ := bind_some H
  refine W_drawS 9 [LEq (S a2), LOw 3 1 (Go.UL.encI .i64) w85.heap.size ([493, 448] : List Int), LEq (.pointer (some ⟨bs, 0, none⟩)), LEq (.int .i64 z98.1), LOp 3 1 (Go.UL.encI .i64) w85.heap.size ([493, 448] : List Int) z98.1, LEq (.int .i64 (gt ([493, 448] : List Int) z98.1)), LEq (.pointer (some ⟨bs, 0, none⟩)), LEq (.bool z108.1), LEq (.agg #[(.int .i64 3), (S a2), (S ([] : List UInt8)), (.int .i64 (gt ([493, 448] : List Int) z98.1)), (.bool z108.1)])] [(7, z108.2), (3, z98.2)] y17 [(7, 3, [])] (by kernel_rfl) (by kernel_rfl) (by kernel_rfl) (by kernel_rfl) rfl h90 ⟨LEq.keep, (LOw.keep (Nat.le_trans (Blk.lt ks) ((Gr.trans (Gr.trans (Gr.ext e5) g12) e88)).size)), LEq.keep, LEq.keep, (LOp.keep (Nat.le_trans (Blk.lt ks) ((Gr.trans (Gr.trans (Gr.ext e5) g12) e88)).size)), LEq.keep, LEq.keep, LEq.keep, LEq.keep, trivial⟩ ⟨?_, ?_, ?_, ?_, ?_, ?_, ?_, ?_, ?_, trivial⟩ ?_
  ·intro s115 w116 dn117 hg118 hi119 hn120 hp121 hq122 hf123 hd124 hu125
   exact lp rfl (xm (S a2) ((hf123 1 rfl).trans (K87 1 rfl))) <| qH <| JB rfl rfl rfl rfl er rfl
  ·intro s126 w127 dn128 hg129 hi130 hn131 hp132 hq133 hf134 hd135 hu136
   exact vC (.plain rfl) rfl (ltb rfl) rfl Tryz.underlying179 Tryz.sizeOf3 Tryz.zeroValue3 rfl rfl rfl (vs := [(.int .i64 493), (.int .i64 448)]) rfl (qO rfl) <| fun b137 w138 z139 z140 e141 k142 => qH <| JB rfl rfl rfl rfl e141 (Ow.base (Ow.new (xs := [493, 448]) (sz := 1) (enc := (Go.UL.encI .i64)) (base := w127.heap.size) k142 (Nat.le_of_eq z139) rfl (fun _ _ => by rfl) (Nat.le_of_ble_eq_true rfl)) (hg129).size)
  ·intro s143 w144 dn145 hg146 hi147 hn148 hp149 hq150 hf151 hd152 hu153
   exact lp rfl (xm (.pointer (some ⟨bs, 0, none⟩)) ((hf151 0 rfl).trans (K87 0 rfl))) <| qH <| JB rfl rfl rfl rfl er rfl
  ·intro s154 w155 dn156 hg157 hi158 hn159 hp160 hq161 hf162 hd163 hu164
   have a166 : dn156 7 = false := hq161 7 rfl
   have k165 : Blk w155 bs (vN cv y17).toArray 128 := by
    have h := hi158
    simp only [InvS, YT, hn159, a166, cond_true, cond_false] at h
    exact h
   have a167 : VQ dn156 3 3 = true := setD_self
   have a168 : VQ dn156 3 7 = false := (setD_ne rfl).trans a166
   have d169 : s154 34 = (.pointer (some ⟨bs, 0, none⟩)) := (hd163 2 rfl rfl)
   exact jp (.plain rfl) rfl (ltb rfl) rfl Tryz.call115 (vw.calls (w := w155) (a0 := a0) (a1 := y17) (a2 := 2) (Ext.gr e88c hg157 hz) fc hz k165 x99) (vu d169 (vu rfl rfl)) <| fun w172 g173 k174 => qH <| stepQh rfl rfl rfl rfl g173 (by simp only [InvS, YT, a167, a168, cond_true, cond_false]; exact k174) rfl
  ·intro s175 w176 dn177 hg178 hi179 hn180 hp181 hq182 hf183 hd184 hu185
   have d186 : Ow 3 1 (Go.UL.encI .i64) w85.heap.size w176 (s175 33) ([493, 448] : List Int) := (hd184 1 rfl rfl)
   have d187 : s175 35 = (.int .i64 z98.1) := (hd184 3 rfl rfl)
   have c188 := c105
   exact L_idxO (.plain rfl) rfl (ltb rfl) rfl Tryz.underlying179 Tryz.sizeOf3 rfl d186 d187 c188 <| fun p189 h190 => qH <| JB rfl rfl rfl rfl er ⟨_, _, rfl, h190⟩
  ·intro s191 w192 dn193 hg194 hi195 hn196 hp197 hq198 hf199 hd200 hu201
   obtain ⟨u202, p203, h204, o205⟩ := (hd200 4 rfl rfl)
   exact lp rfl (vy Tryz.isAgg3 h204 (OP.at o205) rfl) <| qH <| JB rfl rfl rfl rfl er rfl
  ·intro s206 w207 dn208 hg209 hi210 hn211 hp212 hq213 hf214 hd215 hu216
   exact lp rfl (xm (.pointer (some ⟨bs, 0, none⟩)) ((hf214 0 rfl).trans (K87 0 rfl))) <| qH <| JB rfl rfl rfl rfl er rfl
  ·intro s217 w218 dn219 hg220 hi221 hn222 hp223 hq224 hf225 hd226 hu227
   have a229 : dn219 3 = true := hp223 3 rfl
   have k228 : Blk w218 bs (vN cv z98.2).toArray 128 := by
    have h := hi221
    simp only [InvS, YT, a229, hn222, cond_true, cond_false] at h
    exact h
   have a231 : VQ dn219 7 7 = true := setD_self
   have d232 : s217 38 = (.pointer (some ⟨bs, 0, none⟩)) := (hd226 6 rfl rfl)
   exact jp (.plain rfl) rfl (ltb rfl) rfl Tryz.call189 (yN.calls (w := w218) (a0 := a0) (a1 := z98.2) (a2 := 3) (Ext.gr e88c hg220 hz) fc hz k228 x109) (vu d232 (vu rfl rfl)) <| fun w235 g236 k237 => qH <| stepQh rfl rfl rfl rfl g236 (by simp only [InvS, YT, a231, cond_true, cond_false]; exact k237) rfl
  ·intro s238 w239 dn240 hg241 hi242 hn243 hp244 hq245 hf246 hd247 hu248
   have d249 : s238 32 = (S a2) := (hd247 0 rfl rfl)
   have d250 : s238 37 = (.int .i64 (gt ([493, 448] : List Int) z98.1)) := (hd247 5 rfl rfl)
   have d251 : s238 39 = (.bool z108.1) := (hd247 7 rfl rfl)
   exact lp rfl (Vc (vs := [(0, (.int .i64 3)), (1, (S a2)), (3, (.int .i64 (gt ([493, 448] : List Int) z98.1))), (4, (.bool z108.1))]) (pl := #[(0, 1), (1, 1), (2, 1), (3, 1), (4, 1)]) Tryz.underlying52 Tryz.zeroValue52 rfl (fun _ => by kernel_rfl) rfl (vu rfl (vu d249 (vu d250 (vu d251 rfl)))) rfl) <| qH <| JB rfl rfl rfl rfl er rfl
  intro s252 w253 hg254 hb255 hf256 ha257
  have K258 := Kp.ofD (kp := [(32, 41)]) rfl hf256
  have k259 : Blk w253 bs (vN cv z108.2).toArray 128 := hb255
  have d260 : s252 40 = (.agg #[(.int .i64 3), (S a2), (S ([] : List UInt8)), (.int .i64 (gt ([493, 448] : List Int) z98.1)), (.bool z108.1)]) := ha257 8 rfl rfl
  clear ha257 hf256
  refine jK (.plain rfl) rfl rfl Tryz.sizeOf52 ((K258 4 rfl).trans (K87 4 rfl)) d260 rfl rfl rfl (Gr.blk hg254 h91 (Or.inl (Nat.le_trans (Nat.le_trans (Blk.lt ks) (Nat.le_refl _)) (Nat.le_of_eq z3)))) <| fun w261 h262 k263 => nx <| qr <| YJ ?_
  obtain rfl := si H
  exact Xn rfl ((K258 4 rfl).trans (K87 4 rfl)) k263 Tryz.isAgg52 Tryz.sizeOf52 rfl (Gr.thn (Gr.trans (Gr.trans (Gr.trans (Gr.ext e5) g12) e88) hg254) (Wr.below h262 (Nat.le_of_eq z3))) (Gr.blk (Gr.ofBelow (Wr.below h262 (Nat.le_of_eq z3))) k259 (Or.inr (Nat.le_trans (Blk.lt ks) (Nat.le_refl _))))
theorem y1.calls {w : World} {a0 : List Int} {a1 : DSrc} {a2 : List UInt8} {r : Rec × DSrc} {wc : World} {cv : Value} {bs : Nat} (kc : Ext wc w) (fc : Rd 1 (Go.UL.encI .u8) wc cv a0) (hz : wc.heap.size ≤ bs) (ks : Blk w bs (vN cv a1).toArray 128) (H : (y1.sh a0 a1 a2) = some r) :
  Calls Tryz.prog 129 #[.pointer (some ⟨bs, 0, none⟩), S a2] w (Rt (RS 128 bs cv w (.agg (qc r.1).toArray) r.2)) := y1.walk kc fc hz ks (y1.eq a0 a1 a2 H)
/-! laws.at -/
abbrev jv.e1 (a0 : List Int) (a1 : Int) := (IntKind.wrap .i64 ((IntKind.wrap .i64 ((IntKind.wrap .i64 ((IntKind.wrap .i64 (gt a0 (a1.tmod (a0.length : Int)))) * 31)) + (IntKind.wrap .i64 (gt a0 ((IntKind.wrap .i64 (a1 + 1)).tmod (a0.length : Int)))))) + (IntKind.wrap .i64 (a1.tdiv (a0.length : Int)))))
theorem jv.walk {w : World} {a0 : List Int} {a1 : Int} {a2 : Int} {v_a0 : Value} (f_a0 : Rd 1 (Go.UL.encI .u8) w v_a0 a0) {r : Int} (H : jv.sh a0 a1 a2 = some r) :
  Calls Tryz.prog 10 #[v_a0, .int .i64 a1, .int .i64 a2] w (Rt (RP w (.int .i64 r))) := by
 unfold jv.sh at H
 refine qg Tryz.func10 rfl (Nat.le_of_ble_eq_true rfl) Tryz.ntmps10 rfl ?_
 refine wr <| lp rfl (xa (.int .i64 0) rfl) <| nx <| qi <| wr <| lp rfl (xm (.int .i64 a2) rfl) <| lp rfl (Jv rfl rfl) <| nx ?_
 rcases qh H with ⟨q1, H⟩ | ⟨q1, H⟩
 ·refine qo (cb q1) <| wr <| lp rfl (xa (.int .i64 0) rfl) <| nx <| qr <| qw <| qu ?_
  obtain rfl := si H
  exact vh rfl er
 ·refine qj (cb q1) <| qq <| qf <| qi <| wr <| lp rfl (xm v_a0 rfl) <| lp rfl (va Tryz.underlying22 rfl f_a0) <| lp rfl (yL rfl rfl) <| nx ?_
  rcases qh H with ⟨q2, H⟩ | ⟨q2, H⟩
  ·refine qo (cb q2) <| wr <| lp rfl (xm (.int .i64 a1) rfl) <| lp rfl (X_mul rfl rfl) <| lp rfl (xm (.int .i64 a2) rfl) ?_
   obtain ⟨c3, H⟩ := qa H
   refine lp rfl (Jw rfl rfl (od c3)) <| lp rfl (xa (.int .i64 ((IntKind.wrap .i64 (a1 * 7)).tmod a2)) rfl) <| nx <| qr <| qw <| qu ?_
   obtain rfl := si H
   exact vh rfl er
  ·refine qj (cb q2) <| qq <| qf <| qi ?_
   obtain ⟨c4, H⟩ := qa H
   obtain ⟨c5, H⟩ := qa H
   obtain ⟨c8, H⟩ := qa H
   obtain ⟨c9, H⟩ := qa H
   obtain ⟨c12, H⟩ := qa H
   obtain ⟨c13, H⟩ := qa H
   refine Yc [LEq v_a0, LEq (.int .i64 a1), LEq v_a0, LEq (.int .i64 (a0.length : Int)), LEq (.int .i64 (a1.tmod (a0.length : Int))), yY ((Go.UL.encI .u8) (gt a0 (a1.tmod (a0.length : Int)))), LEq (.int .u8 (gt a0 (a1.tmod (a0.length : Int)))), LEq (.int .i64 (IntKind.wrap .i64 (gt a0 (a1.tmod (a0.length : Int))))), LEq (.int .i64 (IntKind.wrap .i64 ((IntKind.wrap .i64 (gt a0 (a1.tmod (a0.length : Int)))) * 31))), LEq v_a0, LEq (.int .i64 a1), LEq (.int .i64 (IntKind.wrap .i64 (a1 + 1))), LEq v_a0, LEq (.int .i64 (a0.length : Int)), LEq (.int .i64 ((IntKind.wrap .i64 (a1 + 1)).tmod (a0.length : Int))), yY ((Go.UL.encI .u8) (gt a0 ((IntKind.wrap .i64 (a1 + 1)).tmod (a0.length : Int)))), LEq (.int .u8 (gt a0 ((IntKind.wrap .i64 (a1 + 1)).tmod (a0.length : Int)))), LEq (.int .i64 (IntKind.wrap .i64 (gt a0 ((IntKind.wrap .i64 (a1 + 1)).tmod (a0.length : Int))))), LEq (.int .i64 (IntKind.wrap .i64 ((IntKind.wrap .i64 ((IntKind.wrap .i64 (gt a0 (a1.tmod (a0.length : Int)))) * 31)) + (IntKind.wrap .i64 (gt a0 ((IntKind.wrap .i64 (a1 + 1)).tmod (a0.length : Int))))))), LEq (.int .i64 a1), LEq v_a0, LEq (.int .i64 (a0.length : Int)), LEq (.int .i64 (IntKind.wrap .i64 (a1.tdiv (a0.length : Int)))), LEq (.int .i64 (jv.e1 a0 a1)), LEq (.int .i64 a2), LEq (.int .i64 ((jv.e1 a0 a1).tmod a2)), LEq (.int .i64 ((jv.e1 a0 a1).tmod a2))] (by kernel_rfl) (by kernel_rfl) ⟨qm, qm, qm, qm, qm, yY.mono, qm, qm, qm, qm, qm, qm, qm, qm, qm, yY.mono, qm, qm, qm, qm, qm, qm, qm, qm, qm, qm, qm, trivial⟩ ⟨?_, ?_, ?_, ?_, ?_, ?_, ?_, ?_, ?_, ?_, ?_, ?_, ?_, ?_, ?_, ?_, ?_, ?_, ?_, ?_, ?_, ?_, ?_, ?_, ?_, ?_, ?_, trivial⟩ ?_
   ·exact fun s x e f d u => lp rfl (xm v_a0 (f 0 rfl)) <| se rfl rfl
   ·exact fun s x e f d u => lp rfl (xm (.int .i64 a1) (f 1 rfl)) <| se rfl rfl
   ·exact fun s x e f d u => lp rfl (xm v_a0 (f 0 rfl)) <| se rfl rfl
   ·exact fun s x e f d u => lp rfl (va Tryz.underlying22 (d 2 rfl) (Rd.ext f_a0 e)) <| se rfl rfl
   ·exact fun s x e f d u => lp rfl (Jw (d 1 rfl) (d 3 rfl) (od c12)) <| se rfl rfl
   ·exact fun s x e f d u => vk (.plain rfl) rfl (ltb rfl) rfl Tryz.underlying22 Tryz.sizeOf5 (d 0 rfl) (Rd.ext f_a0 e) (d 4 rfl) c5 <| fun p16 h17 => se rfl ⟨_, rfl, h17⟩
   ·intro s x e f d u
    obtain ⟨p18, h19, h20⟩ := (d 5 rfl)
    exact lp rfl (vy Tryz.isAgg5 h19 h20 rfl) <| se rfl rfl
   ·exact fun s x e f d u => lp rfl (Vy Tryz.underlying5 Tryz.underlying3 (d 6 rfl)) <| se rfl rfl
   ·exact fun s x e f d u => lp rfl (X_mul (d 7 rfl) rfl) <| se rfl rfl
   ·exact fun s x e f d u => lp rfl (xm v_a0 (f 0 rfl)) <| se rfl rfl
   ·exact fun s x e f d u => lp rfl (xm (.int .i64 a1) (f 1 rfl)) <| se rfl rfl
   ·exact fun s x e f d u => lp rfl (qU (d 10 rfl) rfl) <| se rfl rfl
   ·exact fun s x e f d u => lp rfl (xm v_a0 (f 0 rfl)) <| se rfl rfl
   ·exact fun s x e f d u => lp rfl (va Tryz.underlying22 (d 12 rfl) (Rd.ext f_a0 e)) <| se rfl rfl
   ·exact fun s x e f d u => lp rfl (Jw (d 11 rfl) (d 13 rfl) (od c12)) <| se rfl rfl
   ·exact fun s x e f d u => vk (.plain rfl) rfl (ltb rfl) rfl Tryz.underlying22 Tryz.sizeOf5 (d 9 rfl) (Rd.ext f_a0 e) (d 14 rfl) c9 <| fun p23 h24 => se rfl ⟨_, rfl, h24⟩
   ·intro s x e f d u
    obtain ⟨p25, h26, h27⟩ := (d 15 rfl)
    exact lp rfl (vy Tryz.isAgg5 h26 h27 rfl) <| se rfl rfl
   ·exact fun s x e f d u => lp rfl (Vy Tryz.underlying5 Tryz.underlying3 (d 16 rfl)) <| se rfl rfl
   ·exact fun s x e f d u => lp rfl (qU (d 8 rfl) (d 17 rfl)) <| se rfl rfl
   ·exact fun s x e f d u => lp rfl (xm (.int .i64 a1) (f 1 rfl)) <| se rfl rfl
   ·exact fun s x e f d u => lp rfl (xm v_a0 (f 0 rfl)) <| se rfl rfl
   ·exact fun s x e f d u => lp rfl (va Tryz.underlying22 (d 20 rfl) (Rd.ext f_a0 e)) <| se rfl rfl
   ·exact fun s x e f d u => lp rfl (X_quo (d 19 rfl) (d 21 rfl) (od c12)) <| se rfl rfl
   ·exact fun s x e f d u => lp rfl (qU (d 18 rfl) (d 22 rfl)) <| se rfl rfl
   ·exact fun s x e f d u => lp rfl (xm (.int .i64 a2) (f 2 rfl)) <| se rfl rfl
   ·exact fun s x e f d u => lp rfl (Jw (d 23 rfl) (d 24 rfl) (od c13)) <| se rfl rfl
   ·exact fun s x e f d u => lp rfl (qp (d 25 rfl)) <| se rfl rfl
   intro s30 w31 e32 hf33 ha34
   have K35 := Kp.ofD (kp := [(6, 7), (16, 42)]) rfl hf33
   have d36 : s30 6 = (.int .i64 ((jv.e1 a0 a1).tmod a2)) := ha34 26 rfl
   clear ha34 hf33
   refine qf <| qr <| qu ?_
   obtain rfl := si H
   exact vh d36 e32
theorem jv.calls {w : World} {a0 : List Int} {a1 : Int} {a2 : Int} {r : Int} {v_a0 : Value} (f_a0 : Rd 1 (Go.UL.encI .u8) w v_a0 a0) (H : (jv.sh a0 a1 a2) = some r) :
  Calls Tryz.prog 10 #[v_a0, .int .i64 a1, .int .i64 a2] w (Rt (RP w (.int .i64 r))) := jv.walk f_a0 (jv.eq a0 a1 a2 H)
/-! laws.sameRecords -/
theorem vY.calls {w : World} {a0 : List Rec} {a1 : List Rec} {v_a0 : Value} (f_a0 : Rd 5 qc w v_a0 a0) {v_a1 : Value} (f_a1 : Rd 5 qc w v_a1 a1) (h0 : a0.length ≤ 4611686018427387904) :
  Calls Tryz.prog 64 #[v_a0, v_a1] w (Rt (RP w (.bool (decide (a0 = a1))))) := by
 obtain ⟨k, H⟩ := vY.eq a0 a1 h0
 generalize (decide (a0 = a1)) = r at H ⊢
 unfold vY.sh at H
 refine qg Tryz.func64 rfl (Nat.le_of_ble_eq_true rfl) Tryz.ntmps64 rfl ?_
 refine wr <| lp rfl (xa (.bool false) rfl) <| nx <| qi <| wr <| lp rfl (xm v_a0 rfl) <| lp rfl (va Tryz.underlying35 rfl f_a0) <| lp rfl (xm v_a1 rfl) <| lp rfl (va Tryz.underlying35 rfl f_a1) <| lp rfl (Qo rfl rfl) <| nx ?_
 rcases qh H with ⟨q1, H⟩ | ⟨q1, H⟩
 ·refine qo (cb q1) <| wr <| lp rfl (xa (.bool false) rfl) <| nx <| qr <| qw <| qu ?_
  obtain rfl := si H
  exact vh rfl er
 ·refine qj (cb q1) <| qq <| qf <| qi <| wr <| lp rfl (xa (.int .i64 0) rfl) <| nx ?_
  obtain ⟨z3, L4, C5⟩ := bind_some H
  clear H
  refine  vq (fun s0 sQ wQ => Kp [(4, 6), (11, 26)] s0 sQ ∧ Ext w wQ ∧ z3 = .inr ()) ?_ ?_
  ·refine qx <| vc (fun s0 kk sQ wQ => ∃ (x5_2 : Int), Kp [(4, 6), (11, 26)] s0 sQ ∧ sQ 5 = .int .i64 x5_2 ∧ Ext w wQ ∧ qn (vY.b1 a0 a1) kk x5_2 = some z3) k ⟨0, kz, rfl, er, L4⟩ ?_
   rintro k10 s11 w12 ⟨x5_2, K13, h16, e14, L15⟩
   cases k10 with
   | zero => exact absurd L15 (by simp [qn])
   | succ k10 =>
    obtain ⟨t17, H, S18⟩ := qJ L15
    clear L15
    unfold vY.b1 at H
    refine qi <| wr <| lp rfl (qb h16) <| lp rfl (xm v_a0 (K13 0 rfl)) <| lp rfl (va Tryz.underlying35 rfl (Rd.ext f_a0 e14)) <| lp rfl (vW rfl rfl) <| nx ?_
    rcases qh H with ⟨q19, H⟩ | ⟨q19, H⟩
    ·refine qo (cb q19) <| qq <| qf <| qi <| qx <| qi ?_
     obtain ⟨c20, H⟩ := qa H
     obtain ⟨c23, H⟩ := qa H
     refine Yc [LEq v_a0, LEq (.int .i64 x5_2), yY (qc (gt a0 x5_2)), LEq (.agg (qc (gt a0 x5_2)).toArray), LEq v_a1, LEq (.int .i64 x5_2), yY (qc (gt a1 x5_2)), LEq (.agg (qc (gt a1 x5_2)).toArray), LEq (.bool (!decide ((gt a0 x5_2) = (gt a1 x5_2))))] (by kernel_rfl) (by kernel_rfl) ⟨qm, qm, yY.mono, qm, qm, qm, yY.mono, qm, qm, trivial⟩ ⟨?_, ?_, ?_, ?_, ?_, ?_, ?_, ?_, ?_, trivial⟩ ?_
     ·exact fun s x e f d u => lp rfl (xm v_a0 ((f 0 rfl).trans (K13 0 rfl))) <| se rfl rfl
     ·exact fun s x e f d u => lp rfl (xm (.int .i64 x5_2) ((f 5 rfl).trans h16)) <| se rfl rfl
     ·exact fun s x e f d u => vk (.plain rfl) rfl (ltb rfl) rfl Tryz.underlying35 Tryz.sizeOf52 (d 0 rfl) (Rd.ext f_a0 (e14.t e)) (d 1 rfl) c20 <| fun p27 h28 => se rfl ⟨_, rfl, h28⟩
     ·intro s x e f d u
      obtain ⟨p29, h30, h31⟩ := (d 2 rfl)
      exact lp rfl (qZ Tryz.isAgg52 Tryz.sizeOf52 rfl h30 h31) <| se rfl rfl
     ·exact fun s x e f d u => lp rfl (xm v_a1 ((f 1 rfl).trans (K13 1 rfl))) <| se rfl rfl
     ·exact fun s x e f d u => lp rfl (xm (.int .i64 x5_2) ((f 5 rfl).trans h16)) <| se rfl rfl
     ·exact fun s x e f d u => vk (.plain rfl) rfl (ltb rfl) rfl Tryz.underlying35 Tryz.sizeOf52 (d 4 rfl) (Rd.ext f_a1 (e14.t e)) (d 5 rfl) c23 <| fun p33 h34 => se rfl ⟨_, rfl, h34⟩
     ·intro s x e f d u
      obtain ⟨p35, h36, h37⟩ := (d 6 rfl)
      exact lp rfl (qZ Tryz.isAgg52 Tryz.sizeOf52 rfl h36 h37) <| se rfl rfl
     ·exact fun s x e f d u => lp rfl (X_neA Eqg.t52 (Eqs.t52 (gt a0 x5_2) (gt a1 x5_2)) (d 3 rfl) (d 7 rfl)) <| se rfl rfl
     intro s38 w39 e40 hf41 ha42
     have K43 := Kp.ofD (kp := [(17, 26)]) rfl hf41
     have d44 : s38 25 = (.bool (!decide ((gt a0 x5_2) = (gt a1 x5_2)))) := ha42 8 rfl
     clear ha42 hf41
     refine qf ?_
     rcases qh H with ⟨q45, H⟩ | ⟨q45, H⟩
     ·refine qo (d44.trans (cb q45)) <| wr <| lp rfl (xa (.bool false) rfl) <| nx <| qr <| vJ <| qw <| qw <| vJ <| qw <| qw <| qu ?_
      obtain rfl := si H
      obtain rfl := si S18
      have H := C5
      obtain rfl := si H
      exact vh rfl (e14.t e40)
     ·refine qj (d44.trans (cb q45)) <| qq <| vj <| qf <| qG <| lp rfl (xm (.int .i64 x5_2) ((K43 5 rfl).trans h16)) <| lp rfl (qU rfl rfl) <| lp rfl (xa (.int .i64 (IntKind.wrap .i64 (x5_2 + 1))) rfl) <| nx ?_
      obtain rfl := si H
      exact ⟨_, Nat.lt_succ_self _, IntKind.wrap .i64 (x5_2 + 1), (ku3 (Kp.cut (ku4 K13 rfl) K43 rfl) rfl), rfl, (e14.t e40), S18⟩
    ·refine qj (cb q19) <| vt <| qN <| qN <| yu <| qf ?_
     obtain rfl := si H
     obtain rfl := si S18
     exact ⟨(ku4 K13 rfl), e14, rfl⟩
  ·rintro s7 w6 ⟨K8, e9, y46⟩
   rw [y46] at C5
   have H := C5
   replace H : _ = some _ := H
   refine qf <| wr <| lp rfl (xa (.bool true) rfl) <| nx <| qr <| qu ?_
   obtain rfl := si H
   exact vh rfl e9
/-! laws.sameNodes -/
theorem yp.calls {w : World} {a0 : List Nd} {a1 : List Nd} {v_a0 : Value} (f_a0 : Rd 4 qv w v_a0 a0) {v_a1 : Value} (f_a1 : Rd 4 qv w v_a1 a1) (h0 : a0.length ≤ 4611686018427387904) :
  Calls Tryz.prog 17 #[v_a0, v_a1] w (Rt (RP w (.bool (decide (a0 = a1))))) := by
 obtain ⟨k, H⟩ := yp.eq a0 a1 h0
 generalize (decide (a0 = a1)) = r at H ⊢
 unfold yp.sh at H
 refine qg Tryz.func17 rfl (Nat.le_of_ble_eq_true rfl) Tryz.ntmps17 rfl ?_
 refine wr <| lp rfl (xa (.bool false) rfl) <| nx <| qi <| wr <| lp rfl (xm v_a0 rfl) <| lp rfl (va Tryz.underlying29 rfl f_a0) <| lp rfl (xm v_a1 rfl) <| lp rfl (va Tryz.underlying29 rfl f_a1) <| lp rfl (Qo rfl rfl) <| nx ?_
 rcases qh H with ⟨q1, H⟩ | ⟨q1, H⟩
 ·refine qo (cb q1) <| wr <| lp rfl (xa (.bool false) rfl) <| nx <| qr <| qw <| qu ?_
  obtain rfl := si H
  exact vh rfl er
 ·refine qj (cb q1) <| qq <| qf <| qi <| wr <| lp rfl (xa (.int .i64 0) rfl) <| nx ?_
  obtain ⟨z3, L4, C5⟩ := bind_some H
  clear H
  refine  vq (fun s0 sQ wQ => Kp [(4, 6), (11, 26)] s0 sQ ∧ Ext w wQ ∧ z3 = .inr ()) ?_ ?_
  ·refine qx <| vc (fun s0 kk sQ wQ => ∃ (x5_2 : Int), Kp [(4, 6), (11, 26)] s0 sQ ∧ sQ 5 = .int .i64 x5_2 ∧ Ext w wQ ∧ qn (yp.b1 a0 a1) kk x5_2 = some z3) k ⟨0, kz, rfl, er, L4⟩ ?_
   rintro k10 s11 w12 ⟨x5_2, K13, h16, e14, L15⟩
   cases k10 with
   | zero => exact absurd L15 (by simp [qn])
   | succ k10 =>
    obtain ⟨t17, H, S18⟩ := qJ L15
    clear L15
    unfold yp.b1 at H
    refine qi <| wr <| lp rfl (qb h16) <| lp rfl (xm v_a0 (K13 0 rfl)) <| lp rfl (va Tryz.underlying29 rfl (Rd.ext f_a0 e14)) <| lp rfl (vW rfl rfl) <| nx ?_
    rcases qh H with ⟨q19, H⟩ | ⟨q19, H⟩
    ·refine qo (cb q19) <| qq <| qf <| qi <| qx <| qi ?_
     obtain ⟨c20, H⟩ := qa H
     obtain ⟨c23, H⟩ := qa H
     refine Yc [LEq v_a0, LEq (.int .i64 x5_2), yY (qv (gt a0 x5_2)), LEq (.agg (qv (gt a0 x5_2)).toArray), LEq v_a1, LEq (.int .i64 x5_2), yY (qv (gt a1 x5_2)), LEq (.agg (qv (gt a1 x5_2)).toArray), LEq (.bool (!decide ((gt a0 x5_2) = (gt a1 x5_2))))] (by kernel_rfl) (by kernel_rfl) ⟨qm, qm, yY.mono, qm, qm, qm, yY.mono, qm, qm, trivial⟩ ⟨?_, ?_, ?_, ?_, ?_, ?_, ?_, ?_, ?_, trivial⟩ ?_
     ·exact fun s x e f d u => lp rfl (xm v_a0 ((f 0 rfl).trans (K13 0 rfl))) <| se rfl rfl
     ·exact fun s x e f d u => lp rfl (xm (.int .i64 x5_2) ((f 5 rfl).trans h16)) <| se rfl rfl
     ·exact fun s x e f d u => vk (.plain rfl) rfl (ltb rfl) rfl Tryz.underlying29 Tryz.sizeOf91 (d 0 rfl) (Rd.ext f_a0 (e14.t e)) (d 1 rfl) c20 <| fun p27 h28 => se rfl ⟨_, rfl, h28⟩
     ·intro s x e f d u
      obtain ⟨p29, h30, h31⟩ := (d 2 rfl)
      exact lp rfl (qZ Tryz.isAgg91 Tryz.sizeOf91 rfl h30 h31) <| se rfl rfl
     ·exact fun s x e f d u => lp rfl (xm v_a1 ((f 1 rfl).trans (K13 1 rfl))) <| se rfl rfl
     ·exact fun s x e f d u => lp rfl (xm (.int .i64 x5_2) ((f 5 rfl).trans h16)) <| se rfl rfl
     ·exact fun s x e f d u => vk (.plain rfl) rfl (ltb rfl) rfl Tryz.underlying29 Tryz.sizeOf91 (d 4 rfl) (Rd.ext f_a1 (e14.t e)) (d 5 rfl) c23 <| fun p33 h34 => se rfl ⟨_, rfl, h34⟩
     ·intro s x e f d u
      obtain ⟨p35, h36, h37⟩ := (d 6 rfl)
      exact lp rfl (qZ Tryz.isAgg91 Tryz.sizeOf91 rfl h36 h37) <| se rfl rfl
     ·exact fun s x e f d u => lp rfl (X_neA Eqg.t91 (Eqs.t91 (gt a0 x5_2) (gt a1 x5_2)) (d 3 rfl) (d 7 rfl)) <| se rfl rfl
     intro s38 w39 e40 hf41 ha42
     have K43 := Kp.ofD (kp := [(17, 26)]) rfl hf41
     have d44 : s38 25 = (.bool (!decide ((gt a0 x5_2) = (gt a1 x5_2)))) := ha42 8 rfl
     clear ha42 hf41
     refine qf ?_
     rcases qh H with ⟨q45, H⟩ | ⟨q45, H⟩
     ·refine qo (d44.trans (cb q45)) <| wr <| lp rfl (xa (.bool false) rfl) <| nx <| qr <| vJ <| qw <| qw <| vJ <| qw <| qw <| qu ?_
      obtain rfl := si H
      obtain rfl := si S18
      have H := C5
      obtain rfl := si H
      exact vh rfl (e14.t e40)
     ·refine qj (d44.trans (cb q45)) <| qq <| vj <| qf <| qG <| lp rfl (xm (.int .i64 x5_2) ((K43 5 rfl).trans h16)) <| lp rfl (qU rfl rfl) <| lp rfl (xa (.int .i64 (IntKind.wrap .i64 (x5_2 + 1))) rfl) <| nx ?_
      obtain rfl := si H
      exact ⟨_, Nat.lt_succ_self _, IntKind.wrap .i64 (x5_2 + 1), (ku3 (Kp.cut (ku4 K13 rfl) K43 rfl) rfl), rfl, (e14.t e40), S18⟩
    ·refine qj (cb q19) <| vt <| qN <| qN <| yu <| qf ?_
     obtain rfl := si H
     obtain rfl := si S18
     exact ⟨(ku4 K13 rfl), e14, rfl⟩
  ·rintro s7 w6 ⟨K8, e9, y46⟩
   rw [y46] at C5
   have H := C5
   replace H : _ = some _ := H
   refine qf <| wr <| lp rfl (xa (.bool true) rfl) <| nx <| qr <| qu ?_
   obtain rfl := si H
   exact vh rfl e9
/-! laws.sameStacks -/
theorem yk.calls {w : World} {a0 : List (List Rec)} {a1 : List (List Rec)} {v_a0 : Value} (f_a0 : Rd2 5 qc w v_a0 a0) {v_a1 : Value} (f_a1 : Rd2 5 qc w v_a1 a1) (h0 : a0.length ≤ 4611686018427387904) (h1 : ∀ l ∈ a0, l.length ≤ 4611686018427387904) :
  Calls Tryz.prog 13 #[v_a0, v_a1] w (Rt (RP w (.bool (decide (a0 = a1))))) := by
 obtain ⟨k, H⟩ := yk.eq a0 a1 h0 h1
 generalize (decide (a0 = a1)) = r at H ⊢
 unfold yk.sh at H
 refine qg Tryz.func13 rfl (Nat.le_of_ble_eq_true rfl) Tryz.ntmps13 rfl ?_
 refine wr <| lp rfl (xa (.bool false) rfl) <| nx <| qi <| wr <| lp rfl (xm v_a0 rfl) <| lp rfl (yK Tryz.underlying23 rfl f_a0) <| lp rfl (xm v_a1 rfl) <| lp rfl (yK Tryz.underlying23 rfl f_a1) <| lp rfl (Qo rfl rfl) <| nx ?_
 rcases qh H with ⟨q1, H⟩ | ⟨q1, H⟩
 ·refine qo (cb q1) <| wr <| lp rfl (xa (.bool false) rfl) <| nx <| qr <| qw <| qu ?_
  obtain rfl := si H
  exact vh rfl er
 ·refine qj (cb q1) <| qq <| qf <| qi <| wr <| lp rfl (xa (.int .i64 0) rfl) <| nx ?_
  obtain ⟨z3, L4, C5⟩ := bind_some H
  clear H
  refine  vq (fun s0 sQ wQ => Kp [(4, 6), (11, 27)] s0 sQ ∧ Ext w wQ ∧ z3 = .inr ()) ?_ ?_
  ·refine qx <| vc (fun s0 kk sQ wQ => ∃ (x5_2 : Int), Kp [(4, 6), (11, 27)] s0 sQ ∧ sQ 5 = .int .i64 x5_2 ∧ Ext w wQ ∧ qn (yk.b1 a0 a1) kk x5_2 = some z3) k ⟨0, kz, rfl, er, L4⟩ ?_
   rintro k10 s11 w12 ⟨x5_2, K13, h16, e14, L15⟩
   cases k10 with
   | zero => exact absurd L15 (by simp [qn])
   | succ k10 =>
    obtain ⟨t17, H, S18⟩ := qJ L15
    clear L15
    unfold yk.b1 at H
    refine qi <| wr <| lp rfl (qb h16) <| lp rfl (xm v_a0 (K13 0 rfl)) <| lp rfl (yK Tryz.underlying23 rfl (Rd2.ext f_a0 e14)) <| lp rfl (vW rfl rfl) <| nx ?_
    rcases qh H with ⟨q19, H⟩ | ⟨q19, H⟩
    ·refine qo (cb q19) <| qq <| qf <| qi <| qx <| qi ?_
     obtain ⟨c20, H⟩ := qa H
     obtain ⟨c25, H⟩ := qa H
     obtain ⟨c30, H⟩ := qa H
     refine Yc [LEq v_a0, LEq (.int .i64 x5_2), LAt2 5 qc (gt a0 x5_2), LRd 5 qc (gt a0 x5_2), LEq v_a1, LEq (.int .i64 x5_2), LAt2 5 qc (gt a1 x5_2), LRd 5 qc (gt a1 x5_2), LEq (.bool (decide ((gt a0 x5_2) = (gt a1 x5_2)))), LEq (.bool (!(decide ((gt a0 x5_2) = (gt a1 x5_2)))))] (by kernel_rfl) (by kernel_rfl) ⟨qm, qm, LAt2.mono, LRd.mono, qm, qm, LAt2.mono, LRd.mono, qm, qm, trivial⟩ ⟨?_, ?_, ?_, ?_, ?_, ?_, ?_, ?_, ?_, ?_, trivial⟩ ?_
     ·exact fun s x e f d u => lp rfl (xm v_a0 ((f 0 rfl).trans (K13 0 rfl))) <| se rfl rfl
     ·exact fun s x e f d u => lp rfl (xm (.int .i64 x5_2) ((f 5 rfl).trans h16)) <| se rfl rfl
     ·exact fun s x e f d u => Vt (.plain rfl) rfl (ltb rfl) rfl Tryz.underlying23 Tryz.sizeOf35 (d 0 rfl) (Rd2.ext f_a0 (e14.t e)) (d 1 rfl) c20 <| fun p34 v36 h35 h37 => se rfl ⟨_, _, rfl, h35, h37⟩
     ·intro s x e f d u
      obtain ⟨p38, v39, h40, h41, h42⟩ := (d 2 rfl)
      exact lp rfl (vy Tryz.isAgg35 h40 h41 rfl) <| se rfl h42
     ·exact fun s x e f d u => lp rfl (xm v_a1 ((f 1 rfl).trans (K13 1 rfl))) <| se rfl rfl
     ·exact fun s x e f d u => lp rfl (xm (.int .i64 x5_2) ((f 5 rfl).trans h16)) <| se rfl rfl
     ·exact fun s x e f d u => Vt (.plain rfl) rfl (ltb rfl) rfl Tryz.underlying23 Tryz.sizeOf35 (d 4 rfl) (Rd2.ext f_a1 (e14.t e)) (d 5 rfl) c25 <| fun p44 v46 h45 h47 => se rfl ⟨_, _, rfl, h45, h47⟩
     ·intro s x e f d u
      obtain ⟨p48, v49, h50, h51, h52⟩ := (d 6 rfl)
      exact lp rfl (vy Tryz.isAgg35 h50 h51 rfl) <| se rfl h52
     ·intro s x e f d u
      have d53 : Rd 5 qc x (s 20) (gt a0 x5_2) := (d 3 rfl)
      have d54 : Rd 5 qc x (s 24) (gt a1 x5_2) := (d 7 rfl)
      exact lc rfl rfl Tryz.call64 (vY.calls (w := x) (a0 := gt a0 x5_2) (a1 := gt a1 x5_2) d53 d54 (od c30)) rfl <| fun w56 e57 => sx rfl e57 rfl
     ·exact fun s x e f d u => lp rfl (jm (d 8 rfl)) <| se rfl rfl
     intro s58 w59 e60 hf61 ha62
     have K63 := Kp.ofD (kp := [(17, 27)]) rfl hf61
     have d64 : s58 26 = (.bool (!(decide ((gt a0 x5_2) = (gt a1 x5_2))))) := ha62 9 rfl
     clear ha62 hf61
     refine qf ?_
     rcases qh H with ⟨q65, H⟩ | ⟨q65, H⟩
     ·refine qo (d64.trans (cb q65)) <| wr <| lp rfl (xa (.bool false) rfl) <| nx <| qr <| vJ <| qw <| qw <| vJ <| qw <| qw <| qu ?_
      obtain rfl := si H
      obtain rfl := si S18
      have H := C5
      obtain rfl := si H
      exact vh rfl (e14.t e60)
     ·refine qj (d64.trans (cb q65)) <| qq <| vj <| qf <| qG <| lp rfl (xm (.int .i64 x5_2) ((K63 5 rfl).trans h16)) <| lp rfl (qU rfl rfl) <| lp rfl (xa (.int .i64 (IntKind.wrap .i64 (x5_2 + 1))) rfl) <| nx ?_
      obtain rfl := si H
      exact ⟨_, Nat.lt_succ_self _, IntKind.wrap .i64 (x5_2 + 1), (ku3 (Kp.cut (ku4 K13 rfl) K63 rfl) rfl), rfl, (e14.t e60), S18⟩
    ·refine qj (cb q19) <| vt <| qN <| qN <| yu <| qf ?_
     obtain rfl := si H
     obtain rfl := si S18
     exact ⟨(ku4 K13 rfl), e14, rfl⟩
  ·rintro s7 w6 ⟨K8, e9, y66⟩
   rw [y66] at C5
   have H := C5
   replace H : _ = some _ := H
   refine qf <| wr <| lp rfl (xa (.bool true) rfl) <| nx <| qr <| qu ?_
   obtain rfl := si H
   exact vh rfl e9
/-! spec.l03Put, by text -/

/-! spec.l03Put, at any depth -/
abbrev qF.e1 (a1 : Rec) (x0_13 : List Rec) (x9_50 : Int) := ((!decide (((gt x0_13 x9_50).path) = a1.path)) && (!(decide (a1.kind = 3))))
abbrev qF.e2 (a1 : Rec) (x0_13 : List Rec) (x9_50 : Int) := ((decide (a1.path = []) && !decide (((gt x0_13 x9_50).path) = [])) || ve ((gt x0_13 x9_50).path) a1.path)
theorem qF.walk {n : Nat} (ih : ∀ {w : World} {a0 : List Rec} {a1 : Rec} {v_a0 : Value} (f_a0 : Rd 5 qc w v_a0 a0) (h0 : putQ n a0 a1 = true), Calls Tryz.prog 128 #[v_a0, .agg (qc a1).toArray] w (Rt (RO 52 5 qc w (putG n a0 a1)))) {k : Nat} {w : World} {a0 : List Rec} {a1 : Rec} {v_a0 : Value} (f_a0 : Rd 5 qc w v_a0 a0) {r : List Rec} (H : qF.sh n k a0 a1 = some r) :
  Calls Tryz.prog 128 #[v_a0, .agg (qc a1).toArray] w (Rt (RO 52 5 qc w r)) := by
 unfold qF.sh at H
 refine qg Tryz.func128 rfl (Nat.le_of_ble_eq_true rfl) Tryz.ntmps128 rfl ?_
 refine wr <| Qg (.plain rfl) rfl (ltb rfl) rfl rfl <| fun b1 w2 z3 z4 e5 k6 => lp rfl (xa (.slice none 0 0) rfl) <| nx <| qi <| wr <| lp rfl (qd Tryz.underlying52 rfl Tryz.sizeOf9 rfl rfl) <| lp rfl (qA Tryz.isAgg9 k6 rfl rfl) ?_
 obtain ⟨c7, H⟩ := qa H
 refine lc rfl rfl Tryz.call154 (vg.calls (w := w2) (a0 := a1.path) (od c7)) rfl <| fun w8 e9 => lp rfl (xa (S (qe a1.path)) rfl) <| nx <| wr <| lp rfl (xm (S (qe a1.path)) rfl) <| lp rfl (VN rfl rfl) <| nx ?_
 obtain ⟨z10, L11, C12⟩ := bind_some H
 clear H
 refine vq (fun s0 sQ wQ => ∃ (x0_13 : List Rec) (v14 : Value), Kp [(0, 1), (6, 7), (15, 32)] s0 sQ ∧ sQ 0 = v14 ∧ Rd 5 qc wQ v14 x0_13 ∧ Ext w8 wQ ∧ z10 = .inr x0_13) ?_ ?_
 ·have H := L11
  rcases qh H with ⟨q15, H⟩ | ⟨q15, H⟩
  ·refine qo (cb q15) <| wr <| lp rfl (xm v_a0 rfl) <| lp rfl (xm (S (qe a1.path)) rfl) ?_
   obtain ⟨c16, H⟩ := qa H
   refine lc rfl rfl Tryz.call162 (yQ.calls (w := w8) (a0 := a0) (a1 := (qe a1.path)) (Rd.ext f_a0 (e5.t e9)) (od c16)) rfl <| fun w17 e18 => lp rfl (xa (.int .i64 (qB a0 (qe a1.path))) rfl) <| nx <| wr <| lp rfl (xm (.int .i64 (qB a0 (qe a1.path))) rfl) <| lp rfl (vW rfl rfl) <| lp rfl (xm (.bool (decide ((qB a0 (qe a1.path)) < 0))) rfl) ?_
   obtain ⟨z20, x21, H⟩ := bind_some H
   refine ja 7 [(21, 28)] 27 (fun q => q = z20) ?_ ?_
   ·rcases qh x21 with ⟨b18_, H⟩ | ⟨b18_, H⟩
    ·refine ls rfl rfl rfl (cb b18_) rfl <| ls rfl rfl rfl (cb b18_) rfl <| ls rfl rfl rfl (cb b18_) rfl <| ls rfl rfl rfl (cb b18_) rfl <| ls rfl rfl rfl (cb b18_) rfl <| ls rfl rfl rfl (cb b18_) rfl <| lp rfl (qy (b := true) (v := (.bool true)) (cb b18_) rfl) ?_
     obtain rfl := si H
     exact nx ⟨(ku3 (ku4 kz rfl) rfl), ⟨_, rfl, rfl⟩, er⟩
    ·refine lg rfl rfl rfl rfl (cb b18_) (xm v_a0 rfl) <| lg rfl rfl rfl rfl (cb b18_) (xm (.int .i64 (qB a0 (qe a1.path))) rfl) ?_
     obtain ⟨c20, H⟩ := qa H
     refine vk (tg rfl rfl rfl (cb b18_)) rfl (ltb rfl) rfl Tryz.underlying35 Tryz.sizeOf52 rfl (Rd.ext f_a0 ((e5.t e9).t e18)) rfl c20 <| fun p21 h22 => lg rfl rfl rfl rfl (cb b18_) (qd Tryz.underlying52 rfl Tryz.sizeOf3 rfl rfl) <| lg rfl rfl rfl rfl (cb b18_) (yU Tryz.isAgg3 (j := 0) h22 rfl rfl) <| lg rfl rfl rfl rfl (cb b18_) (Qo rfl rfl) <| lp rfl (qy (b := false) (v := (.bool (!decide (((gt a0 (qB a0 (qe a1.path))).kind) = 3)))) (cb b18_) rfl) ?_
     obtain rfl := si H
     exact nx ⟨(ku3 (ku4 kz rfl) rfl), ⟨_, rfl, rfl⟩, er⟩
   intro s26 w22 z27 K23 hq h24 e25
   rw [hq] at h24; clear hq
   refine nx ?_
   rcases qh H with ⟨q28, H⟩ | ⟨q28, H⟩
   ·refine qo (h24.trans (cb q28)) <| qG <| lp rfl (xm v_a0 (K23 0 rfl)) <| lp rfl (xm (S (qe a1.path)) (K23 5 rfl)) <| lp rfl (Vc (vs := [(0, (.int .i64 3)), (1, (S (qe a1.path))), (3, (.int .i64 493))]) (pl := #[(0, 1), (1, 1), (2, 1), (3, 1), (4, 1)]) Tryz.underlying52 Tryz.zeroValue52 rfl (fun _ => by kernel_rfl) rfl rfl rfl) ?_
    obtain ⟨c29, H⟩ := qa H
    refine vE (.plain rfl) rfl (ltb rfl) rfl Tryz.call128 (ih (w := w22) (a0 := a0) (a1 := (⟨3, (qe a1.path), ([] : List UInt8), 493, false⟩ : Rec)) (Rd.ext f_a0 (((e5.t e9).t e18).t e25)) (od c29)) rfl <| fun v32 w30 e31 o33 => lp rfl (xa v32 rfl) <| nx ?_
    obtain rfl := si H
    exact ⟨(putG n a0 (⟨3, (qe a1.path), ([] : List UInt8), 493, false⟩ : Rec)), v32, (ku1 (ku4 (Kp.cut (ku3 (ku4 kz rfl) rfl) K23 rfl) rfl) rfl), rfl, (Ow.rd o33), ((e18.t e25).t e31), rfl⟩
   ·refine qj (h24.trans (cb q28)) <| qq <| qf ?_
    obtain rfl := si H
    exact ⟨a0, v_a0, (Kp.cut (ku3 (ku4 kz rfl) rfl) K23 rfl), (K23 0 rfl), (Rd.ext f_a0 (((e5.t e9).t e18).t e25)), (e18.t e25), rfl⟩
  ·refine qj (cb q15) <| qq <| qf ?_
   obtain rfl := si H
   exact ⟨a0, v_a0, kz, rfl, (Rd.ext f_a0 (e5.t e9)), er, rfl⟩
 ·rintro s35 w34 ⟨x0_13, v14, K36, h39, h40, e37, y38⟩
  rw [y38] at C12
  have H := C12
  refine qf <| wr <| vC (.plain rfl) rfl (ltb rfl) rfl Tryz.underlying35 Tryz.sizeOf52 Tryz.zeroValue52 rfl rfl rfl (vs := []) rfl (qO rfl) <| fun b41 w42 z43 z44 e45 k46 => lp rfl (xa (.slice (some ⟨b41, 0, none⟩) 0 0) rfl) <| nx <| wr <| lp rfl (xa (.bool false) rfl) <| nx <| qi <| wr <| lp rfl (xa (.int .i64 0) rfl) <| nx ?_
  obtain ⟨z51, L52, C53⟩ := bind_some H
  clear H
  refine  vq (fun s0 sQ wQ => ∃ (x7_54 : List Rec) (v55 : Value) (x8_56 : Bool), Kp [(7, 10), (33, 86)] s0 sQ ∧ sQ 7 = v55 ∧ Ow 52 5 qc w42.heap.size wQ v55 x7_54 ∧ sQ 8 = .bool x8_56 ∧ Ext w42 wQ ∧ z51 = .inr (x7_54, x8_56)) ?_ ?_
  ·refine qx <| vc (fun s0 kk sQ wQ => ∃ (x7_47 : List Rec) (v48 : Value) (x8_49 : Bool) (x9_50 : Int), Kp [(7, 10), (33, 86)] s0 sQ ∧ sQ 7 = v48 ∧ Ow 52 5 qc w42.heap.size wQ v48 x7_47 ∧ sQ 8 = .bool x8_49 ∧ sQ 9 = .int .i64 x9_50 ∧ Ext w42 wQ ∧ qn (qF.b1 a1 x0_13) kk (x7_47, x8_49, x9_50) = some z51) k ⟨([] : List Rec), (.slice (some ⟨b41, 0, none⟩) 0 0), false, 0, kz, rfl, (Ow.zero), rfl, rfl, er, L52⟩ ?_
   rintro k61 s62 w63 ⟨x7_47, v48, x8_49, x9_50, K64, h67, h68, h69, h70, e65, L66⟩
   cases k61 with
   | zero => exact absurd L66 (by simp [qn])
   | succ k61 =>
    obtain ⟨t71, H, S72⟩ := qJ L66
    clear L66
    unfold qF.b1 at H
    refine qi <| wr <| lp rfl (qb h70) <| lp rfl (xm v14 ((K64 0 rfl).trans h39)) <| lp rfl (va Tryz.underlying35 rfl (Rd.ext h40 (e45.t e65))) <| lp rfl (vW rfl rfl) <| nx ?_
    rcases qh H with ⟨q73, H⟩ | ⟨q73, H⟩
    ·refine qo (cb q73) <| qq <| qf <| qi <| qx <| qi <| qi ?_
     obtain ⟨c74, H⟩ := qa H
     obtain ⟨c77, H⟩ := qa H
     obtain ⟨c78, H⟩ := qa H
     refine Yc [LEq (.bool x8_49), LEq (.bool (!x8_49)), LEq (.bool (!x8_49)), LIf (!x8_49) (LEq (.pointer (some ⟨b1, 1, none⟩))), LIf (!x8_49) (LEq (S a1.path)), LIf (!x8_49) (LEq v14), LIf (!x8_49) (LEq (.int .i64 x9_50)), LIf (!x8_49) (yY (qc (gt x0_13 x9_50))), LIf (!x8_49) (LAt 1 (qc (gt x0_13 x9_50))), LIf (!x8_49) (LEq (S ((gt x0_13 x9_50).path))), LIf (!x8_49) (LEq (.bool (vA (cut 47 a1.path) (cut 47 ((gt x0_13 x9_50).path))))), LEq (.bool ((!x8_49) && (vA (cut 47 a1.path) (cut 47 ((gt x0_13 x9_50).path)))))] (by kernel_rfl) (by kernel_rfl) ⟨qm, qm, qm, lm, lm, lm, lm, (LIf.mono yY.mono), (LIf.mono LAt.mono), lm, lm, qm, trivial⟩ ⟨?_, ?_, ?_, ?_, ?_, ?_, ?_, ?_, ?_, ?_, ?_, ?_, trivial⟩ ?_
     ·exact fun s x e f d u => lp rfl (xm (.bool x8_49) ((f 8 rfl).trans h69)) <| se rfl rfl
     ·exact fun s x e f d u => lp rfl (jm (d 0 rfl)) <| se rfl rfl
     ·exact fun s x e f d u => lp rfl (qb (d 1 rfl)) <| se rfl rfl
     ·exact fun s x e f d u => gT rfl rfl rfl rfl (d 2 rfl) rfl fun b t => lt t rfl rfl (qd Tryz.underlying52 rfl Tryz.sizeOf9 rfl ((f 3 rfl).trans ((K64 3 rfl).trans (K36 3 rfl)))) <| sg rfl rfl b rfl
     ·exact fun s x e f d u => gT rfl rfl rfl rfl (d 2 rfl) rfl fun b t => lt t rfl rfl (qA Tryz.isAgg9 (Blk.ext k6 ((((e9.t e37).t e45).t e65).t e)) ((d 3 rfl).1 b) rfl) <| sg rfl rfl b rfl
     ·exact fun s x e f d u => gT rfl rfl rfl rfl (d 2 rfl) rfl fun b t => lt t rfl rfl (xm v14 ((f 0 rfl).trans ((K64 0 rfl).trans h39))) <| sg rfl rfl b rfl
     ·exact fun s x e f d u => gT rfl rfl rfl rfl (d 2 rfl) rfl fun b t => lt t rfl rfl (xm (.int .i64 x9_50) ((f 9 rfl).trans h70)) <| sg rfl rfl b rfl
     ·exact fun s x e f d u => gT rfl rfl rfl rfl (d 2 rfl) rfl fun b t => vk t rfl (ltb rfl) rfl Tryz.underlying35 Tryz.sizeOf52 ((d 5 rfl).1 b) (Rd.ext h40 ((e45.t e65).t e)) ((d 6 rfl).1 b) (yl b c74) <| fun p82 h83 => sg rfl rfl b ⟨_, rfl, h83⟩
     ·intro s x e f d u
      refine gT rfl rfl rfl rfl (d 2 rfl) rfl fun b t => ?_
      obtain ⟨p84, h85, h86⟩ := ((d 7 rfl).1 b)
      exact lt t rfl rfl (qd Tryz.underlying52 rfl Tryz.sizeOf9 rfl h85) <| sg rfl rfl b ⟨_, rfl, h86⟩
     ·intro s x e f d u
      refine gT rfl rfl rfl rfl (d 2 rfl) rfl fun b t => ?_
      obtain ⟨p87, h88, h89⟩ := ((d 8 rfl).1 b)
      exact lt t rfl rfl (yU Tryz.isAgg9 (j := 1) h89 h88 rfl) <| sg rfl rfl b rfl
     ·exact fun s x e f d u => gT rfl rfl rfl rfl (d 2 rfl) rfl fun b t => yW t rfl (ltb rfl) rfl Tryz.call153 (vM.calls (w := x) (a0 := a1.path) (a1 := (gt x0_13 x9_50).path) (od (yl b c77)) (od (yl b c78))) (vu ((d 4 rfl).1 b) (vu ((d 9 rfl).1 b) rfl)) <| fun w92 e93 => sgx rfl rfl b e93 rfl
     ·exact fun s x e f d u => lp rfl (Qk (d 2 rfl) rfl fun h => ((d 10 rfl).1 h)) <| se rfl rfl
     intro s94 w95 e96 hf97 ha98
     have K99 := Kp.ofD (kp := [(39, 51)]) rfl hf97
     have d100 : s94 50 = (.bool ((!x8_49) && (vA (cut 47 a1.path) (cut 47 ((gt x0_13 x9_50).path))))) := ha98 11 rfl
     clear ha98 hf97
     refine qf ?_
     obtain ⟨z101, L102, C103⟩ := bind_some H
     clear H
     refine vq (fun s0 sQ wQ => ∃ (x7_104 : List Rec) (v105 : Value) (x8_106 : Bool), Kp [(7, 9), (51, 55)] s0 sQ ∧ sQ 7 = v105 ∧ Ow 52 5 qc w42.heap.size wQ v105 x7_104 ∧ sQ 8 = .bool x8_106 ∧ Ext w42 wQ ∧ z101 = .inr (x7_104, x8_106)) ?_ ?_
     ·have H := L102
      rcases qh H with ⟨q107, H⟩ | ⟨q107, H⟩
      ·refine qo (d100.trans (cb q107)) <| wr <| lp rfl (xm v48 ((K99 7 rfl).trans h67)) <| lp rfl (qZ Tryz.isAgg52 Tryz.sizeOf52 rfl ((K99 3 rfl).trans ((K64 3 rfl).trans (K36 3 rfl))) (Blk.at0 (Blk.ext k6 ((((e9.t e37).t e45).t e65).t e96)))) <| vC (.plain rfl) rfl (ltb rfl) rfl Tryz.underlying35 Tryz.sizeOf52 Tryz.zeroValue52 rfl rfl rfl (vs := [(.agg #[(.int .i64 a1.kind), (S a1.path), (S a1.body), (.int .i64 a1.mode), (.bool a1.opq)])]) rfl (qO rfl) <| fun b108 w109 z110 z111 e112 k113 => ?_
       obtain ⟨c114, H⟩ := qa H
       refine vP (enc := qc) (.plain rfl) rfl (ltb rfl) rfl El.t35 rfl rfl (Ow.ext h68 (e96.t e112)) (Ow.rd (Ow.new (xs := [a1]) (sz := 5) (enc := qc) (base := w95.heap.size) k113 (Nat.le_of_eq z110) rfl (fun _ _ => by rfl) (Nat.le_of_ble_eq_true rfl))) (jJ _) (od c114) (((e65.t e96).t e112)).size <| fun v115 w116 o117 z118 g119 => lp rfl (xa v115 rfl) <| nx <| qG <| lp rfl (xa (.bool true) rfl) <| nx ?_
       obtain rfl := si H
       exact ⟨x7_47 ++ ([a1] : List Rec), v115, true, (ku2 (ku4 kz rfl) rfl), rfl, o117, rfl, (g119 _ ((e65.t e96).t e112)), rfl⟩
      ·refine qj (d100.trans (cb q107)) <| qq <| qf ?_
       obtain rfl := si H
       exact ⟨x7_47, v48, x8_49, kz, ((K99 7 rfl).trans h67), (Ow.ext h68 e96), ((K99 8 rfl).trans h69), (e65.t e96), rfl⟩
     ·rintro s121 w120 ⟨x7_104, v105, x8_106, K122, h125, h126, h127, e123, y124⟩
      rw [y124] at C103
      have H := C103
      refine qf <| qi ?_
      obtain ⟨c128, H⟩ := qa H
      obtain ⟨c131, H⟩ := qa H
      refine Yc [LEq v14, LEq (.int .i64 x9_50), yY (qc (gt x0_13 x9_50)), LAt 1 (qc (gt x0_13 x9_50)), LEq (S ((gt x0_13 x9_50).path)), LEq (.pointer (some ⟨b1, 1, none⟩)), LEq (S a1.path), LEq (.bool (!decide (((gt x0_13 x9_50).path) = a1.path))), LEq (.bool (!decide (((gt x0_13 x9_50).path) = a1.path))), LIf (!decide (((gt x0_13 x9_50).path) = a1.path)) (LEq (.pointer (some ⟨b1, 0, none⟩))), LIf (!decide (((gt x0_13 x9_50).path) = a1.path)) (LEq (.int .i64 a1.kind)), LIf (!decide (((gt x0_13 x9_50).path) = a1.path)) (LEq (.bool (decide (a1.kind = 3)))), LIf (!decide (((gt x0_13 x9_50).path) = a1.path)) (LEq (.bool (decide (a1.kind = 3)))), LIf (qF.e1 a1 x0_13 x9_50) (LEq v14), LIf (qF.e1 a1 x0_13 x9_50) (LEq (.int .i64 x9_50)), LIf (qF.e1 a1 x0_13 x9_50) (yY (qc (gt x0_13 x9_50))), LIf (qF.e1 a1 x0_13 x9_50) (LAt 1 (qc (gt x0_13 x9_50))), LIf (qF.e1 a1 x0_13 x9_50) (LEq (S ((gt x0_13 x9_50).path))), LIf (qF.e1 a1 x0_13 x9_50) (LEq (.pointer (some ⟨b1, 1, none⟩))), LIf (qF.e1 a1 x0_13 x9_50) (LEq (S a1.path)), LIf (qF.e1 a1 x0_13 x9_50) (LEq (.bool (qF.e2 a1 x0_13 x9_50))), LIf (qF.e1 a1 x0_13 x9_50) (LEq (.bool (!(qF.e2 a1 x0_13 x9_50)))), LIf (!decide (((gt x0_13 x9_50).path) = a1.path)) (LEq (.bool ((decide (a1.kind = 3)) || (!(qF.e2 a1 x0_13 x9_50))))), LEq (.bool ((!decide (((gt x0_13 x9_50).path) = a1.path)) && ((decide (a1.kind = 3)) || (!(qF.e2 a1 x0_13 x9_50)))))] (by kernel_rfl) (by kernel_rfl) ⟨qm, qm, yY.mono, LAt.mono, qm, qm, qm, qm, qm, lm, lm, lm, lm, lm, lm, (LIf.mono yY.mono), (LIf.mono LAt.mono), lm, lm, lm, lm, lm, lm, qm, trivial⟩ ⟨?_, ?_, ?_, ?_, ?_, ?_, ?_, ?_, ?_, ?_, ?_, ?_, ?_, ?_, ?_, ?_, ?_, ?_, ?_, ?_, ?_, ?_, ?_, ?_, trivial⟩ ?_
      ·exact fun s x e f d u => lp rfl (xm v14 ((f 0 rfl).trans ((K122 0 rfl).trans ((K99 0 rfl).trans ((K64 0 rfl).trans h39))))) <| se rfl rfl
      ·exact fun s x e f d u => lp rfl (xm (.int .i64 x9_50) ((f 9 rfl).trans ((K122 9 rfl).trans ((K99 9 rfl).trans h70)))) <| se rfl rfl
      ·exact fun s x e f d u => vk (.plain rfl) rfl (ltb rfl) rfl Tryz.underlying35 Tryz.sizeOf52 (d 0 rfl) (Rd.ext h40 ((e45.t e123).t e)) (d 1 rfl) c128 <| fun p137 h138 => se rfl ⟨_, rfl, h138⟩
      ·intro s x e f d u
       obtain ⟨p139, h140, h141⟩ := (d 2 rfl)
       exact lp rfl (qd Tryz.underlying52 rfl Tryz.sizeOf9 rfl h140) <| se rfl ⟨_, rfl, h141⟩
      ·intro s x e f d u
       obtain ⟨p142, h143, h144⟩ := (d 3 rfl)
       exact lp rfl (yU Tryz.isAgg9 (j := 1) h144 h143 rfl) <| se rfl rfl
      ·exact fun s x e f d u => lp rfl (qd Tryz.underlying52 rfl Tryz.sizeOf9 rfl ((f 3 rfl).trans ((K122 3 rfl).trans ((K99 3 rfl).trans ((K64 3 rfl).trans (K36 3 rfl)))))) <| se rfl rfl
      ·exact fun s x e f d u => lp rfl (qA Tryz.isAgg9 (Blk.ext k6 ((((e9.t e37).t e45).t e123).t e)) (d 5 rfl) rfl) <| se rfl rfl
      ·exact fun s x e f d u => lp rfl (VN (d 4 rfl) (d 6 rfl)) <| se rfl rfl
      ·exact fun s x e f d u => lp rfl (qb (d 7 rfl)) <| se rfl rfl
      ·exact fun s x e f d u => gT rfl rfl rfl rfl (d 8 rfl) rfl fun b t => lt t rfl rfl (qd Tryz.underlying52 rfl Tryz.sizeOf3 rfl ((f 3 rfl).trans ((K122 3 rfl).trans ((K99 3 rfl).trans ((K64 3 rfl).trans (K36 3 rfl)))))) <| sg rfl rfl b rfl
      ·exact fun s x e f d u => gT rfl rfl rfl rfl (d 8 rfl) rfl fun b t => lt t rfl rfl (qA Tryz.isAgg3 (Blk.ext k6 ((((e9.t e37).t e45).t e123).t e)) ((d 9 rfl).1 b) rfl) <| sg rfl rfl b rfl
      ·exact fun s x e f d u => gT rfl rfl rfl rfl (d 8 rfl) rfl fun b t => lt t rfl rfl (yL ((d 10 rfl).1 b) rfl) <| sg rfl rfl b rfl
      ·exact fun s x e f d u => gT rfl rfl rfl rfl (d 8 rfl) rfl fun b t => lt t rfl rfl (xm (.bool (decide (a1.kind = 3))) ((d 11 rfl).1 b)) <| sg rfl rfl b rfl
      ·exact fun s x e f d u => hF rfl rfl rfl rfl (d 12 rfl) rfl fun b t => lt t rfl rfl (xm v14 ((f 0 rfl).trans ((K122 0 rfl).trans ((K99 0 rfl).trans ((K64 0 rfl).trans h39))))) <| sg rfl rfl b rfl
      ·exact fun s x e f d u => hF rfl rfl rfl rfl (d 12 rfl) rfl fun b t => lt t rfl rfl (xm (.int .i64 x9_50) ((f 9 rfl).trans ((K122 9 rfl).trans ((K99 9 rfl).trans h70)))) <| sg rfl rfl b rfl
      ·exact fun s x e f d u => hF rfl rfl rfl rfl (d 12 rfl) rfl fun b t => vk t rfl (ltb rfl) rfl Tryz.underlying35 Tryz.sizeOf52 ((d 13 rfl).1 (vd (QA b) (qV (vX (QB b))))) (Rd.ext h40 ((e45.t e123).t e)) ((d 14 rfl).1 (vd (QA b) (qV (vX (QB b))))) (yl b c131) <| fun p146 h147 => sg rfl rfl b ⟨_, rfl, h147⟩
      ·intro s x e f d u
       refine hF rfl rfl rfl rfl (d 12 rfl) rfl fun b t => ?_
       obtain ⟨p148, h149, h150⟩ := ((d 15 rfl).1 (vd (QA b) (qV (vX (QB b)))))
       exact lt t rfl rfl (qd Tryz.underlying52 rfl Tryz.sizeOf9 rfl h149) <| sg rfl rfl b ⟨_, rfl, h150⟩
      ·intro s x e f d u
       refine hF rfl rfl rfl rfl (d 12 rfl) rfl fun b t => ?_
       obtain ⟨p151, h152, h153⟩ := ((d 16 rfl).1 (vd (QA b) (qV (vX (QB b)))))
       exact lt t rfl rfl (yU Tryz.isAgg9 (j := 1) h153 h152 rfl) <| sg rfl rfl b rfl
      ·exact fun s x e f d u => hF rfl rfl rfl rfl (d 12 rfl) rfl fun b t => lt t rfl rfl (qd Tryz.underlying52 rfl Tryz.sizeOf9 rfl ((f 3 rfl).trans ((K122 3 rfl).trans ((K99 3 rfl).trans ((K64 3 rfl).trans (K36 3 rfl)))))) <| sg rfl rfl b rfl
      ·exact fun s x e f d u => hF rfl rfl rfl rfl (d 12 rfl) rfl fun b t => lt t rfl rfl (qA Tryz.isAgg9 (Blk.ext k6 ((((e9.t e37).t e45).t e123).t e)) ((d 18 rfl).1 (vd (QA b) (qV (vX (QB b))))) rfl) <| sg rfl rfl b rfl
      ·exact fun s x e f d u => hF rfl rfl rfl rfl (d 12 rfl) rfl fun b t => yW t rfl (ltb rfl) rfl Tryz.call186 (jM.calls (w := x) (a0 := (gt x0_13 x9_50).path) (a1 := a1.path)) (vu ((d 17 rfl).1 (vd (QA b) (qV (vX (QB b))))) (vu ((d 19 rfl).1 (vd (QA b) (qV (vX (QB b))))) rfl)) <| fun w154 e155 => sgx rfl rfl b e155 rfl
      ·exact fun s x e f d u => hF rfl rfl rfl rfl (d 12 rfl) rfl fun b t => lt t rfl rfl (jm ((d 20 rfl).1 (vd (QA b) (qV (vX (QB b)))))) <| sg rfl rfl b rfl
      ·exact fun s x e f d u => gT rfl rfl rfl rfl (d 8 rfl) rfl fun b t => lt t rfl rfl (YO ((d 12 rfl).1 b) rfl fun h => ((d 21 rfl).1 (vd b (qV h)))) <| sg rfl rfl b rfl
      ·exact fun s x e f d u => lp rfl (Qk (d 8 rfl) rfl fun h => ((d 22 rfl).1 h)) <| se rfl rfl
      intro s156 w157 e158 hf159 ha160
      have K161 := Kp.ofD (kp := [(55, 79)]) rfl hf159
      have d162 : s156 78 = (.bool ((!decide (((gt x0_13 x9_50).path) = a1.path)) && ((decide (a1.kind = 3)) || (!(qF.e2 a1 x0_13 x9_50))))) := ha160 23 rfl
      clear ha160 hf159
      refine qf ?_
      rcases qh H with ⟨q163, H⟩ | ⟨q163, H⟩
      ·refine qo (d162.trans (cb q163)) <| qG <| lp rfl (xm v105 ((K161 7 rfl).trans h125)) <| lp rfl (xm v14 ((K161 0 rfl).trans ((K122 0 rfl).trans ((K99 0 rfl).trans ((K64 0 rfl).trans h39))))) <| lp rfl (xm (.int .i64 x9_50) ((K161 9 rfl).trans ((K122 9 rfl).trans ((K99 9 rfl).trans h70)))) ?_
       obtain ⟨c164, H⟩ := qa H
       refine vk (.plain rfl) rfl (ltb rfl) rfl Tryz.underlying35 Tryz.sizeOf52 rfl (Rd.ext h40 ((e45.t e123).t e158)) rfl c164 <| fun p165 h166 => lp rfl (qZ Tryz.isAgg52 Tryz.sizeOf52 rfl rfl h166) <| vC (.plain rfl) rfl (ltb rfl) rfl Tryz.underlying35 Tryz.sizeOf52 Tryz.zeroValue52 rfl rfl rfl (vs := [(.agg (qc (gt x0_13 x9_50)).toArray)]) rfl (qO rfl) <| fun b167 w168 z169 z170 e171 k172 => ?_
       obtain ⟨c173, H⟩ := qa H
       refine vP (enc := qc) (.plain rfl) rfl (ltb rfl) rfl El.t35 rfl rfl (Ow.ext h126 (e158.t e171)) (Ow.rd (Ow.new (xs := [gt x0_13 x9_50]) (sz := 5) (enc := qc) (base := w157.heap.size) k172 (Nat.le_of_eq z169) rfl (fun _ _ => by rfl) (Nat.le_of_ble_eq_true rfl))) (jJ _) (od c173) (((e123.t e158).t e171)).size <| fun v174 w175 o176 z177 g178 => lp rfl (xa v174 rfl) <| qH <| vj <| qf <| qG <| lp rfl (xm (.int .i64 x9_50) ((K161 9 rfl).trans ((K122 9 rfl).trans ((K99 9 rfl).trans h70)))) <| lp rfl (qU rfl rfl) <| lp rfl (xa (.int .i64 (IntKind.wrap .i64 (x9_50 + 1))) rfl) <| nx ?_
       obtain rfl := si H
       exact ⟨_, Nat.lt_succ_self _, x7_104 ++ ([gt x0_13 x9_50] : List Rec), v174, x8_106, IntKind.wrap .i64 (x9_50 + 1), (ku3 (ku8 (Kp.cut (Kp.cut (Kp.cut (ku4 K64 rfl) K99 rfl) K122 rfl) K161 rfl) rfl) rfl), rfl, o176, ((K161 8 rfl).trans h127), rfl, (g178 _ ((e123.t e158).t e171)), S72⟩
      ·refine qj (d162.trans (cb q163)) <| qq <| vj <| qf <| qG <| lp rfl (xm (.int .i64 x9_50) ((K161 9 rfl).trans ((K122 9 rfl).trans ((K99 9 rfl).trans h70)))) <| lp rfl (qU rfl rfl) <| lp rfl (xa (.int .i64 (IntKind.wrap .i64 (x9_50 + 1))) rfl) <| nx ?_
       obtain rfl := si H
       exact ⟨_, Nat.lt_succ_self _, x7_104, v105, x8_106, IntKind.wrap .i64 (x9_50 + 1), (ku3 (Kp.cut (Kp.cut (Kp.cut (ku4 K64 rfl) K99 rfl) K122 rfl) K161 rfl) rfl), ((K161 7 rfl).trans h125), (Ow.ext h126 e158), ((K161 8 rfl).trans h127), rfl, (e123.t e158), S72⟩
    ·refine qj (cb q73) <| vt <| qN <| qN <| yu <| qf ?_
     obtain rfl := si H
     obtain rfl := si S72
     exact ⟨x7_47, v48, x8_49, (ku4 K64 rfl), h67, h68, h69, e65, rfl⟩
  ·rintro s58 w57 ⟨x7_54, v55, x8_56, K59, h179, h180, h181, e60, y182⟩
   rw [y182] at C53
   have H := C53
   replace H : _ = some _ := H
   refine qf <| qi <| wr <| lp rfl (qb h181) <| lp rfl (jm rfl) <| nx ?_
   rcases qh H with ⟨q183, H⟩ | ⟨q183, H⟩
   ·refine qo (cb q183) <| qG <| lp rfl (qb h179) <| lp rfl (qZ Tryz.isAgg52 Tryz.sizeOf52 rfl ((K59 3 rfl).trans (K36 3 rfl)) (Blk.at0 (Blk.ext k6 (((e9.t e37).t e45).t e60)))) <| vC (.plain rfl) rfl (ltb rfl) rfl Tryz.underlying35 Tryz.sizeOf52 Tryz.zeroValue52 rfl rfl rfl (vs := [(.agg #[(.int .i64 a1.kind), (S a1.path), (S a1.body), (.int .i64 a1.mode), (.bool a1.opq)])]) rfl (qO rfl) <| fun b184 w185 z186 z187 e188 k189 => ?_
    obtain ⟨c190, H⟩ := qa H
    refine vP (enc := qc) (.plain rfl) rfl (ltb rfl) rfl El.t35 rfl rfl (Ow.ext h180 e188) (Ow.rd (Ow.new (xs := [a1]) (sz := 5) (enc := qc) (base := w57.heap.size) k189 (Nat.le_of_eq z186) rfl (fun _ _ => by rfl) (Nat.le_of_ble_eq_true rfl))) (jJ _) (od c190) ((e60.t e188)).size <| fun v191 w192 o193 z194 g195 => lp rfl (xa v191 rfl) <| nx <| wr <| lp rfl (xm v191 rfl) <| lp rfl (xa v191 rfl) <| nx <| qr <| qu ?_
    obtain rfl := si H
    exact jI rfl ((((e5.t e9).t e37).t e45).t (g195 _ (e60.t e188))) o193 ((((e5.t e9).t e37).t e45)).size
   ·refine qj (cb q183) <| qq <| qf <| wr <| lp rfl (qb h179) <| lp rfl (xa v55 rfl) <| nx <| qr <| qu ?_
    obtain rfl := si H
    exact jI rfl ((((e5.t e9).t e37).t e45).t e60) h180 ((((e5.t e9).t e37).t e45)).size

/-! spec.l03Put, by text -/
theorem Y2.all : ∀ (n : Nat) (hn : n ≤ 50) {w : World} {a0 : List Rec} {a1 : Rec} {v_a0 : Value} (f_a0 : Rd 5 qc w v_a0 a0) (h0 : putQ n a0 a1 = true), Calls Tryz.prog 128 #[v_a0, .agg (qc a1).toArray] w (Rt (RO 52 5 qc w (putG n a0 a1))) := by
  intro n
  induction n with
  | zero => intro hn w a0 a1 v f h; exact Bool.noConfusion h
  | succ n ih => intro hn w a0 a1 v f h; obtain ⟨k, H⟩ := qF.eq n (by omega) a0 a1 h; exact qF.walk (n := n) (fun f h => ih (by omega) f h) f H
theorem Y2.calls {w : World} {a0 : List Rec} {a1 : Rec} {v_a0 : Value} (f_a0 : Rd 5 qc w v_a0 a0) (h0 : Ys 2 a0 a1 = true) : Calls Tryz.prog 128 #[v_a0, .agg (qc a1).toArray] w (Rt (RO 52 5 qc w (Vl 2 a0 a1))) := Y2.all 3 (by omega) f_a0 h0

/-! (*spec.l00Src).layer -/
theorem yg.walk {k : Nat} {w : World} {a0 : List Int} {a1 : DSrc} {wc : World} {cv : Value} {bs : Nat} (kc : Ext wc w) (fc : Rd 1 (Go.UL.encI .u8) wc cv a0) (hz : wc.heap.size ≤ bs) (ks : Blk w bs (vN cv a1).toArray 128) {r : List Rec × DSrc} (H : yg.sh k a0 a1 = some r) :
  Calls Tryz.prog 69 #[.pointer (some ⟨bs, 0, none⟩)] w (Rt (RSO 128 bs cv 52 5 qc w r.1 r.2)) := by
 unfold yg.sh at H
 refine qg Tryz.func69 rfl (Nat.le_of_ble_eq_true rfl) Tryz.ntmps69 rfl ?_
 refine wr <| lp rfl (xa (.slice none 0 0) rfl) <| nx <| wr <| vC (.plain rfl) rfl (ltb rfl) rfl Tryz.underlying35 Tryz.sizeOf52 Tryz.zeroValue52 rfl rfl rfl (vs := []) rfl (qO rfl) <| fun b1 w2 z3 z4 e5 k6 => lp rfl (xa (.slice (some ⟨b1, 0, none⟩) 0 0) rfl) <| nx <| qi <| wr <| lp rfl (xm (.pointer (some ⟨bs, 0, none⟩)) rfl) <| lp rfl (xm (.pointer (some ⟨bs, 0, none⟩)) rfl) ?_
 obtain ⟨z7, x8, H⟩ := bind_some H
 refine jp (.plain rfl) rfl (ltb rfl) rfl Tryz.call127 (jE.calls (w := w2) (a0 := a0) (a1 := a1) (a2 := 6) (Ext.trans kc e5) fc hz (Blk.ext ks e5) x8) rfl <| fun w11 g12 k13 => lp rfl (qU rfl rfl) ?_
 obtain ⟨z14, x15, H⟩ := bind_some H
 refine jp (.plain rfl) rfl (ltb rfl) rfl Tryz.call115 (vw.calls (w := w11) (a0 := a0) (a1 := z7.2) (a2 := IntKind.wrap .i64 (z7.1 + 3)) (Ext.gr (Ext.trans kc e5) g12 hz) fc hz k13 x15) rfl <| fun w18 g19 k20 => lp rfl (xa (.int .i64 z14.1) rfl) <| nx ?_
 obtain ⟨z25, L26, C27⟩ := bind_some H
 clear H
 refine  vq (fun s0 sQ wQ => ∃ (x3_28 : List Rec) (v29 : Value) (y30 : DSrc), Kp [(3, 6), (12, 26)] s0 sQ ∧ sQ 3 = v29 ∧ Ow 52 5 qc w18.heap.size wQ v29 x3_28 ∧ Blk wQ bs ((vN cv) y30).toArray 128 ∧ Gr bs (bs + 1) w18 wQ ∧ Ext wc wQ ∧ z25 = .inr (x3_28, y30)) ?_ ?_
 ·refine qx <| vc (fun s0 kk sQ wQ => ∃ (x3_21 : List Rec) (v22 : Value) (x4_23 : Int) (y24 : DSrc), Kp [(3, 6), (12, 26)] s0 sQ ∧ sQ 3 = v22 ∧ Ow 52 5 qc w18.heap.size wQ v22 x3_21 ∧ sQ 4 = .int .i64 x4_23 ∧ Blk wQ bs ((vN cv) y24).toArray 128 ∧ Gr bs (bs + 1) w18 wQ ∧ Ext wc wQ ∧ qn (yg.b1 a0) kk (x3_21, x4_23, y24) = some z25) k ⟨([] : List Rec), (.slice (some ⟨b1, 0, none⟩) 0 0), z14.1, z14.2, kz, rfl, (Ow.zero), rfl, k20, (Gr.refl _ _ _), (Ext.gr (Ext.gr (Ext.trans kc e5) g12 hz) g19 hz), L26⟩ ?_
  rintro k35 s36 w37 ⟨x3_21, v22, x4_23, y24, K38, h41, h42, h43, h44, e39, e39c, L40⟩
  cases k35 with
  | zero => exact absurd L40 (by simp [qn])
  | succ k35 =>
   obtain ⟨t45, H, S46⟩ := qJ L40
   clear L40
   unfold yg.b1 at H
   refine qi <| wr <| lp rfl (qb h43) <| lp rfl (Qp rfl rfl) <| nx ?_
   rcases qh H with ⟨q47, H⟩ | ⟨q47, H⟩
   ·refine qo (cb q47) <| qq <| qf <| qi <| qx <| wr <| lp rfl (qb h41) <| lp rfl (xm (.pointer (some ⟨bs, 0, none⟩)) (K38 0 rfl)) <| lp rfl (xm (.pointer (some ⟨bs, 0, none⟩)) (K38 0 rfl)) ?_
    obtain ⟨z48, x49, H⟩ := bind_some H
    refine jp (.plain rfl) rfl (ltb rfl) rfl Tryz.call130 (yC.calls (w := w37) (a0 := a0) (a1 := y24) e39c fc hz h44 x49) rfl <| fun w52 g53 k54 => ?_
    obtain ⟨z55, x56, H⟩ := bind_some H
    refine jp (.plain rfl) rfl (ltb rfl) rfl Tryz.call129 (y1.calls (w := w52) (a0 := a0) (a1 := z48.2) (a2 := z48.1) (Ext.gr e39c g53 hz) fc hz k54 x56) rfl <| fun w59 g60 k61 => ?_
    obtain ⟨c62, H⟩ := qa H
    refine vE (.plain rfl) rfl (ltb rfl) rfl Tryz.call128 (Y2.calls (w := w59) (a0 := x3_21) (a1 := z55.1) (Ow.rd (Ow.later (Ow.later h42 g53 (Nat.le_trans (Blk.lt ks) ((Gr.trans (Gr.trans (Gr.ext e5) g12) g19)).size)) g60 (Nat.le_trans (Blk.lt ks) ((Gr.trans (Gr.trans (Gr.ext e5) g12) g19)).size))) (od c62)) rfl <| fun v65 w63 e64 o66 => lp rfl (xa v65 rfl) <| nx <| wr <| lp rfl (xm v65 rfl) <| lp rfl (va Tryz.underlying35 rfl (Ow.rd o66)) <| lp rfl (Jv rfl rfl) <| nx ?_
    rcases qh H with ⟨q67, H⟩ | ⟨q67, H⟩
    ·refine qo (cb q67) <| qG <| lp rfl (xm v65 rfl) <| lp rfl (xa v65 rfl) <| qH <| vj <| qf <| qG <| lp rfl (qb h43) <| lp rfl (QS rfl rfl) <| lp rfl (xa (.int .i64 (IntKind.wrap .i64 (x4_23 - 1))) rfl) <| nx ?_
     obtain rfl := si H
     exact ⟨_, Nat.lt_succ_self _, (Vl 2 x3_21 z55.1), v65, IntKind.wrap .i64 (x4_23 - 1), z55.2, (ku1 (ku8 (ku8 K38 rfl) rfl) rfl), rfl, (Ow.base o66 ((Gr.trans (Gr.trans e39 g53) g60)).size), rfl, (Blk.ext k61 e64), (Gr.trans (Gr.trans (Gr.trans e39 g53) g60) (Gr.ext e64)), (Ext.trans (Ext.gr (Ext.gr e39c g53 hz) g60 hz) e64), S46⟩
    ·refine qj (cb q67) <| qq <| vj <| qf <| qG <| lp rfl (qb h43) <| lp rfl (QS rfl rfl) <| lp rfl (xa (.int .i64 (IntKind.wrap .i64 (x4_23 - 1))) rfl) <| nx ?_
     obtain rfl := si H
     exact ⟨_, Nat.lt_succ_self _, x3_21, v22, IntKind.wrap .i64 (x4_23 - 1), z55.2, (ku3 (ku4 (ku8 K38 rfl) rfl) rfl), h41, (Ow.ext (Ow.later (Ow.later h42 g53 (Nat.le_trans (Blk.lt ks) ((Gr.trans (Gr.trans (Gr.ext e5) g12) g19)).size)) g60 (Nat.le_trans (Blk.lt ks) ((Gr.trans (Gr.trans (Gr.ext e5) g12) g19)).size)) e64), rfl, (Blk.ext k61 e64), (Gr.trans (Gr.trans (Gr.trans e39 g53) g60) (Gr.ext e64)), (Ext.trans (Ext.gr (Ext.gr e39c g53 hz) g60 hz) e64), S46⟩
   ·refine qj (cb q47) <| vt <| qN <| qN <| yu <| qf ?_
    obtain rfl := si H
    obtain rfl := si S46
    exact ⟨x3_21, v22, y24, (ku2 K38 rfl), h41, h42, h44, e39, e39c, rfl⟩
 ·rintro s32 w31 ⟨x3_28, v29, y30, K33, h68, h69, h70, e34, e34c, y71⟩
  rw [y71] at C27
  have H := C27
  replace H : _ = some _ := H
  refine qf <| wr <| lp rfl (qb h68) <| lp rfl (xa v29 rfl) <| nx <| qr <| qu ?_
  obtain rfl := si H
  exact fin1so rfl (Gr.trans (Gr.trans (Gr.trans (Gr.ext e5) g12) g19) e34) h70 h69 ((Gr.trans (Gr.trans (Gr.ext e5) g12) g19)).size
theorem yg.calls {w : World} {a0 : List Int} {a1 : DSrc} {r : List Rec × DSrc} {wc : World} {cv : Value} {bs : Nat} (kc : Ext wc w) (fc : Rd 1 (Go.UL.encI .u8) wc cv a0) (hz : wc.heap.size ≤ bs) (ks : Blk w bs (vN cv a1).toArray 128) (H : (yg.sh 12 a0 a1) = some r) :
  Calls Tryz.prog 69 #[.pointer (some ⟨bs, 0, none⟩)] w (Rt (RSO 128 bs cv 52 5 qc w r.1 r.2)) := by
 obtain ⟨k, h⟩ := yg.eq a0 a1 H
 exact yg.walk kc fc hz ks h
end Go.Proofs.YtdhmlillkbjjjaaGreatDoor
