/- The walks, by program (wip/tools). -/
import Derived.Test.YtfefjaohlhkmaaaGreatDoorProg
import Derived.Test.YtfefjaohlhkmaaaGreatDoorKJ
import Derived.Test.YtfefjaohlhkmaaaGreatDoorKL
import Derived.Test.YtfefjaohlhkmaaaGreatDoorxWB
set_option linter.unusedVariables false
set_option linter.unusedSimpArgs false
set_option maxRecDepth 10000
namespace Go.Proofs.YtfefjaohlhkmaaaGreatDoor
open Go.UL Go.RowKit
/-! (*spec.l00Src).path -/
theorem yx.walk {k : Nat} {w : World} {a0 : List Int} {a1 : DSrc} {wc : World} {cv : Value} {bs : Nat} (kc : Ext wc w) (fc : Rd 1 (Go.UL.encI .u8) wc cv a0) (hz : wc.heap.size ≤ bs) (ks : Blk w bs (vS cv a1).toArray 162) {r : List UInt8 × DSrc} (H : yx.sh k a0 a1 = some r) :
  Calls Tryz.prog 148 #[.pointer (some ⟨bs, 0, none⟩)] w (Rt (RS 162 bs cv w (S r.1) r.2)) := by
 unfold yx.sh at H
 refine qh Tryz.func148 rfl (Nat.le_of_ble_eq_true rfl) Tryz.ntmps148 rfl ?_
 refine wr <| lp rfl (xa (S ([] : List UInt8)) rfl) <| nx <| wr <| lp rfl (xm (.pointer (some ⟨bs, 0, none⟩)) rfl) ?_
 obtain ⟨z1, x2, H⟩ := bind_some H
 refine yX (.plain rfl) rfl (ltb rfl) rfl Tryz.call229 (yy.calls (w := w) (a0 := a0) (a1 := a1) kc fc hz ks x2) rfl <| fun w5 g6 k7 => lp rfl (xa (S z1.1) rfl) <| nx <| qj <| wr <| lp rfl (xm (.pointer (some ⟨bs, 0, none⟩)) rfl) ?_
 obtain ⟨z8, x9, H⟩ := bind_some H
 refine yX (.plain rfl) rfl (ltb rfl) rfl Tryz.call195 (vt.calls (w := w5) (a0 := a0) (a1 := z1.2) (a2 := 3) (Ext.gr kc g6 hz) fc hz k7 x9) rfl <| fun w12 g13 k14 => lp rfl (xa (.int .i64 z8.1) rfl) <| nx ?_
 obtain ⟨z18, L19, C20⟩ := bind_some H
 clear H
 refine  vD (fun s0 sQ wQ => ∃ (x3_21 : List UInt8) (y22 : DSrc), Kp [(3, 5), (9, 18)] s0 sQ ∧ sQ 3 = S x3_21 ∧ Blk wQ bs ((vS cv) y22).toArray 162 ∧ Gr bs (bs + 1) w12 wQ ∧ Ext wc wQ ∧ z18 = .inr (x3_21, y22)) ?_ ?_
 ·refine qB <| vo (fun s0 kk sQ wQ => ∃ (x3_15 : List UInt8) (x4_16 : Int) (y17 : DSrc), Kp [(3, 5), (9, 18)] s0 sQ ∧ sQ 3 = S x3_15 ∧ sQ 4 = .int .i64 x4_16 ∧ Blk wQ bs ((vS cv) y17).toArray 162 ∧ Gr bs (bs + 1) w12 wQ ∧ Ext wc wQ ∧ qp (yx.b1 a0) kk (x3_15, x4_16, y17) = some z18) k ⟨z1.1, z8.1, z8.2, kz, rfl, rfl, k14, (Gr.refl _ _ _), (Ext.gr (Ext.gr kc g6 hz) g13 hz), L19⟩ ?_
  rintro k27 s28 w29 ⟨x3_15, x4_16, y17, K30, h33, h34, h35, e31, e31c, L32⟩
  cases k27 with
  | zero => exact absurd L32 (by simp [qp])
  | succ k27 =>
   obtain ⟨t36, H, S37⟩ := qK L32
   clear L32
   unfold yx.b1 at H
   refine qj <| wr <| lp rfl (qf h34) <| lp rfl (jJ rfl rfl) <| nx ?_
   rcases qd H with ⟨q38, H⟩ | ⟨q38, H⟩
   ·refine qk (cb q38) <| qo <| qe <| qj <| qB <| qG <| lp rfl (qf h33) <| lp rfl (xm (.pointer (some ⟨bs, 0, none⟩)) (K30 0 rfl)) ?_
    obtain ⟨z39, x40, H⟩ := bind_some H
    refine yX (.plain rfl) rfl (ltb rfl) rfl Tryz.call229 (yy.calls (w := w29) (a0 := a0) (a1 := y17) e31c fc hz h35 x40) rfl <| fun w43 g44 k45 => ?_
    obtain ⟨c46, H⟩ := qa H
    refine lp rfl (X_cat rfl rfl (od c46)) ?_
    obtain ⟨c47, H⟩ := qa H
    refine lp rfl (X_cat rfl rfl (od c47)) <| lp rfl (xa (S (x3_15 ++ (([47] : List UInt8) ++ z39.1))) rfl) <| qJ <| vk <| qe <| qG <| lp rfl (qf h34) <| lp rfl (VA rfl rfl) <| lp rfl (xa (.int .i64 (IntKind.wrap .i64 (x4_16 - 1))) rfl) <| nx ?_
    obtain rfl := si H
    exact ⟨_, Nat.lt_succ_self _, x3_15 ++ (([47] : List UInt8) ++ z39.1), IntKind.wrap .i64 (x4_16 - 1), z39.2, (ku3 (ku8 K30 rfl) rfl), rfl, rfl, k45, (Gr.trans e31 g44), (Ext.gr e31c g44 hz), S37⟩
   ·refine qi (cb q38) <| vH <| qY <| qY <| yF <| qe ?_
    obtain rfl := si H
    obtain rfl := si S37
    exact ⟨x3_15, y17, (ku2 K30 rfl), h33, h35, e31, e31c, rfl⟩
 ·rintro s24 w23 ⟨x3_21, y22, K25, h48, h49, e26, e26c, y50⟩
  rw [y50] at C20
  have H := C20
  replace H : _ = some _ := H
  refine qe <| wr <| lp rfl (qf h48) <| lp rfl (xa (S x3_21) rfl) <| nx <| qn <| qt ?_
  obtain rfl := si H
  exact YW rfl (Gr.trans (Gr.trans g6 g13) e26) h49
theorem yx.calls {w : World} {a0 : List Int} {a1 : DSrc} {r : List UInt8 × DSrc} {wc : World} {cv : Value} {bs : Nat} (kc : Ext wc w) (fc : Rd 1 (Go.UL.encI .u8) wc cv a0) (hz : wc.heap.size ≤ bs) (ks : Blk w bs (vS cv a1).toArray 162) (H : (yx.sh 4 a0 a1) = some r) :
  Calls Tryz.prog 148 #[.pointer (some ⟨bs, 0, none⟩)] w (Rt (RS 162 bs cv w (S r.1) r.2)) := by
 obtain ⟨k, h⟩ := yx.eq a0 a1 H
 exact yx.walk kc fc hz ks h
/-! (*spec.l00Src).body -/
theorem yP.walk {w : World} {a0 : List Int} {a1 : DSrc} {wc : World} {cv : Value} {bs : Nat} (kc : Ext wc w) (fc : Rd 1 (Go.UL.encI .u8) wc cv a0) (hz : wc.heap.size ≤ bs) (ks : Blk w bs (vS cv a1).toArray 162) {r : List UInt8 × DSrc} (H : yP.sh a0 a1 = some r) :
  Calls Tryz.prog 234 #[.pointer (some ⟨bs, 0, none⟩)] w (Rt (RS 162 bs cv w (S r.1) r.2)) := by
 unfold yP.sh at H
 refine qh Tryz.func234 rfl (Nat.le_of_ble_eq_true rfl) Tryz.ntmps234 rfl ?_
 refine wr <| lp rfl (xa (S ([] : List UInt8)) rfl) <| nx <| wr <| lp rfl (xm (.pointer (some ⟨bs, 0, none⟩)) rfl) <| vO (.plain rfl) rfl (ltb rfl) rfl Tryz.underlying42 Tryz.sizeOf9 Tryz.zeroValue9 rfl rfl rfl (vs := [(S ([] : List UInt8)), (S ([111, 110, 101] : List UInt8)), (S ([116, 119, 111] : List UInt8)), (S ([120, 0, 121] : List UInt8)), (S ([108, 111, 110, 103, 32, 108, 111, 110, 103, 32, 98, 111, 100, 121, 32, 104, 101, 114, 101, 33] : List UInt8))]) rfl (qR rfl) <| fun b1 w2 z3 z4 e5 k6 => ?_
 obtain ⟨z7, x8, H⟩ := bind_some H
 refine yX (.plain rfl) rfl (ltb rfl) rfl Tryz.call235 (jh.calls (w := w2) (a0 := a0) (a1 := a1) (a2 := yP.lit1) (Ext.trans kc e5) fc hz (Blk.ext ks e5) (Ow.new (xs := yP.lit1) (sz := 1) (enc := yK) (base := w.heap.size) k6 (Nat.le_of_eq z3) rfl (fun _ _ => rfl) (Nat.le_of_ble_eq_true rfl)) (Nat.le_trans (Blk.lt ks) (Nat.le_refl _)) x8) rfl <| fun w11 g12 k13 => lp rfl (xa (S z7.1) rfl) <| nx <| qn <| qt ?_
 obtain rfl := si H
 exact YW rfl (Gr.trans (Gr.ext e5) g12) k13
theorem yP.calls {w : World} {a0 : List Int} {a1 : DSrc} {r : List UInt8 × DSrc} {wc : World} {cv : Value} {bs : Nat} (kc : Ext wc w) (fc : Rd 1 (Go.UL.encI .u8) wc cv a0) (hz : wc.heap.size ≤ bs) (ks : Blk w bs (vS cv a1).toArray 162) (H : (yP.sh a0 a1) = some r) :
  Calls Tryz.prog 234 #[.pointer (some ⟨bs, 0, none⟩)] w (Rt (RS 162 bs cv w (S r.1) r.2)) := yP.walk kc fc hz ks (yP.eq a0 a1 H)
/-! (*spec.l00Src).record -/
theorem yv.walk {w : World} {a0 : List Int} {a1 : DSrc} {a2 : List UInt8} {wc : World} {cv : Value} {bs : Nat} (kc : Ext wc w) (fc : Rd 1 (Go.UL.encI .u8) wc cv a0) (hz : wc.heap.size ≤ bs) (ks : Blk w bs (vS cv a1).toArray 162) {r : Rec × DSrc} (H : yv.sh a0 a1 a2 = some r) :
  Calls Tryz.prog 153 #[.pointer (some ⟨bs, 0, none⟩), S a2] w (Rt (RS 162 bs cv w (.agg (qg r.1).toArray) r.2)) := by
 unfold yv.sh at H
 refine VB Tryz.func153 rfl (Nat.le_of_ble_eq_true rfl) Tryz.ntmps153 ?_
 refine wr <| QA (.plain rfl) rfl (ltb rfl) rfl Tryz.zeroValue58 <| fun b1 w2 z3 z4 e5 k6 => nx <| qj <| wr <| lp rfl (xm (.pointer (some ⟨bs, 0, none⟩)) rfl) ?_
 obtain ⟨z7, x8, H⟩ := bind_some H
 refine yX (.plain rfl) rfl (ltb rfl) rfl Tryz.call195 (vt.calls (w := w2) (a0 := a0) (a1 := a1) (a2 := 8) (Ext.trans kc e5) fc hz (Blk.ext ks e5) x8) rfl <| fun w11 g12 k13 => nx ?_
 obtain ⟨z14, L15, C16⟩ := bind_some H
 clear H
 refine vD (fun s0 sQ wQ => ∃ (y17 : DSrc), Kp [(7, 32)] s0 sQ ∧ Blk wQ bs ((vS cv) y17).toArray 162 ∧ Blk wQ b1 (qg (⟨0, ([] : List UInt8), ([] : List UInt8), 0, false⟩ : Rec)).toArray 58 ∧ Gr bs (bs + 1) w11 wQ ∧ Ext wc wQ ∧ z14 = .inr y17) ?_ ?_
 ·have H := L15
  refine qB <| qj <| wr <| lp rfl (yn rfl rfl) <| lp rfl (xa (.bool (decide (z7.1 = 0))) rfl) <| nx ?_
  obtain ⟨z18, L19, C20⟩ := bind_some H
  clear H
  refine vD (fun s0 sQ wQ => ∃ (x7_21 : Bool), Kp [(7, 8), (9, 11)] s0 sQ ∧ sQ 7 = .bool x7_21 ∧ Blk wQ bs ((vS cv) z7.2).toArray 162 ∧ Blk wQ b1 (qg (⟨0, ([] : List UInt8), ([] : List UInt8), 0, false⟩ : Rec)).toArray 58 ∧ Gr bs (bs + 1) w11 wQ ∧ Ext wc wQ ∧ z18 = .inr x7_21) ?_ ?_
  ·have H := L19
   rcases qd H with ⟨q22, H⟩ | ⟨q22, H⟩
   ·refine qk (cb q22) <| qo <| qe ?_
    obtain rfl := si H
    exact ⟨(decide (z7.1 = 0)), kz, rfl, k13, (Gr.blk g12 k6 (Or.inl (Nat.le_trans (Nat.le_trans (Blk.lt ks) (Nat.le_refl _)) (Nat.le_of_eq z3)))), (Gr.refl _ _ _), (Ext.gr (Ext.trans kc e5) g12 hz), rfl⟩
   ·refine qi (cb q22) <| wr <| lp rfl (yn rfl rfl) <| lp rfl (xa (.bool (decide (z7.1 = 1))) rfl) <| nx ?_
    rcases qd H with ⟨q23, H⟩ | ⟨q23, H⟩
    ·refine qk (cb q23) <| qo <| qe ?_
     obtain rfl := si H
     exact ⟨(decide (z7.1 = 1)), (ku2 kz rfl), rfl, k13, (Gr.blk g12 k6 (Or.inl (Nat.le_trans (Nat.le_trans (Blk.lt ks) (Nat.le_refl _)) (Nat.le_of_eq z3)))), (Gr.refl _ _ _), (Ext.gr (Ext.trans kc e5) g12 hz), rfl⟩
    ·refine qi (cb q23) <| qG <| lp rfl (yn rfl rfl) <| lp rfl (xa (.bool (decide (z7.1 = 2))) rfl) <| nx ?_
     obtain rfl := si H
     exact ⟨(decide (z7.1 = 2)), (ku4 kz rfl), rfl, k13, (Gr.blk g12 k6 (Or.inl (Nat.le_trans (Nat.le_trans (Blk.lt ks) (Nat.le_refl _)) (Nat.le_of_eq z3)))), (Gr.refl _ _ _), (Ext.gr (Ext.trans kc e5) g12 hz), rfl⟩
  ·rintro s25 w24 ⟨x7_21, K26, h29, h30, h31, e27, e27c, y28⟩
   rw [y28] at C20
   have H := C20
   refine qe ?_
   rcases qd H with ⟨q32, H⟩ | ⟨q32, H⟩
   ·refine qk (h29.trans (cb q32)) <| wr <| lp rfl (xm (S a2) (K26 1 rfl)) <| lp rfl (xm (.pointer (some ⟨bs, 0, none⟩)) (K26 0 rfl)) ?_
    obtain ⟨z33, x34, H⟩ := bind_some H
    refine yX (.plain rfl) rfl (ltb rfl) rfl Tryz.call234 (yP.calls (w := w24) (a0 := a0) (a1 := z7.2) e27c fc hz h30 x34) rfl <| fun w37 g38 k39 => vO (.plain rfl) rfl (ltb rfl) rfl Tryz.underlying188 Tryz.sizeOf3 Tryz.zeroValue3 rfl rfl rfl (vs := [(.int .i64 420), (.int .i64 0), (.int .i64 511)]) rfl (qR rfl) <| fun b40 w41 z42 z43 e44 k45 => lp rfl (xm (.pointer (some ⟨bs, 0, none⟩)) (K26 0 rfl)) ?_
    obtain ⟨z46, x47, H⟩ := bind_some H
    refine yX (.plain rfl) rfl (ltb rfl) rfl Tryz.call195 (vt.calls (w := w41) (a0 := a0) (a1 := z33.2) (a2 := 3) (Ext.trans (Ext.gr e27c g38 hz) e44) fc hz (Blk.ext k39 e44) x47) rfl <| fun w50 g51 k52 => ?_
    obtain ⟨c53, H⟩ := qa H
    refine q4 (.plain rfl) rfl (ltb rfl) rfl Tryz.underlying188 Tryz.sizeOf3 rfl (Ow.rd (Ow.later (Ow.new (xs := [420, 0, 511]) (sz := 1) (enc := (Go.UL.encI .i64)) (base := w37.heap.size) k45 (Nat.le_of_eq z42) rfl (fun _ _ => by rfl) (Nat.le_of_ble_eq_true rfl)) g51 (Nat.le_trans (Blk.lt ks) ((Gr.trans (Gr.trans (Gr.trans (Gr.ext e5) g12) e27) g38)).size))) rfl c53 <| fun p54 h55 => lp rfl (yr Tryz.isAgg3 rfl h55 rfl) <| lp rfl (Q0 (vs := [(0, (.int .i64 1)), (1, (S a2)), (2, (S z33.1)), (3, (.int .i64 (gt ([420, 0, 511] : List Int) z46.1)))]) (pl := #[(0, 1), (1, 1), (2, 1), (3, 1), (4, 1)]) Tryz.underlying58 Tryz.zeroValue58 rfl (fun _ => by kernel_rfl) rfl rfl rfl) <| ji (.plain rfl) rfl rfl Tryz.sizeOf58 (K26 4 rfl) rfl rfl rfl rfl (Gr.blk g51 (Blk.ext (Gr.blk g38 h31 (Or.inl (Nat.le_trans (Nat.le_trans (Blk.lt ks) (Nat.le_refl _)) (Nat.le_of_eq z3)))) e44) (Or.inl (Nat.le_trans (Nat.le_trans (Blk.lt ks) (Nat.le_refl _)) (Nat.le_of_eq z3)))) <| fun w56 h57 k58 => nx <| qn <| vv <| qw <| qw <| YC ?_
    obtain rfl := si H
    have H := C16
    obtain rfl := si H
    exact XJ rfl (K26 4 rfl) k58 Tryz.isAgg58 Tryz.sizeOf58 rfl (Gr.thn (Gr.trans (Gr.trans (Gr.trans (Gr.trans (Gr.trans (Gr.ext e5) g12) e27) g38) (Gr.ext e44)) g51) (Wr.below h57 (Nat.le_of_eq z3))) (Gr.blk (Gr.ofBelow (Wr.below h57 (Nat.le_of_eq z3))) k52 (Or.inr (Nat.le_trans (Blk.lt ks) (Nat.le_refl _))))
   ·refine qi (h29.trans (cb q32)) <| wr <| lp rfl (yn (K26 6 rfl) rfl) <| lp rfl (xa (.bool (decide (z7.1 = 3))) rfl) <| nx ?_
    rcases qd H with ⟨q59, H⟩ | ⟨q59, H⟩
    ·refine qk (cb q59) <| wr <| lp rfl (xm (S a2) (K26 1 rfl)) <| lp rfl (xm (.pointer (some ⟨bs, 0, none⟩)) (K26 0 rfl)) <| vO (.plain rfl) rfl (ltb rfl) rfl Tryz.underlying42 Tryz.sizeOf9 Tryz.zeroValue9 rfl rfl rfl (vs := [(S ([97] : List UInt8)), (S ([46, 46, 47, 98] : List UInt8)), (S ([47] : List UInt8))]) rfl (qR rfl) <| fun b60 w61 z62 z63 e64 k65 => ?_
     obtain ⟨z66, x67, H⟩ := bind_some H
     refine yX (.plain rfl) rfl (ltb rfl) rfl Tryz.call235 (jh.calls (w := w61) (a0 := a0) (a1 := z7.2) (a2 := ([([97] : List UInt8), ([46, 46, 47, 98] : List UInt8), ([47] : List UInt8)] : List (List UInt8))) (Ext.trans e27c e64) fc hz (Blk.ext h30 e64) (Ow.new (xs := [([97] : List UInt8), ([46, 46, 47, 98] : List UInt8), ([47] : List UInt8)]) (sz := 1) (enc := yK) (base := w24.heap.size) k65 (Nat.le_of_eq z62) rfl (fun _ _ => by rfl) (Nat.le_of_ble_eq_true rfl)) (Nat.le_trans (Blk.lt ks) ((Gr.trans (Gr.trans (Gr.ext e5) g12) e27)).size) x67) rfl <| fun w70 g71 k72 => lp rfl (Q0 (vs := [(0, (.int .i64 2)), (1, (S a2)), (2, (S z66.1))]) (pl := #[(0, 1), (1, 1), (2, 1), (3, 1), (4, 1)]) Tryz.underlying58 Tryz.zeroValue58 rfl (fun _ => by kernel_rfl) rfl rfl rfl) <| ji (.plain rfl) rfl rfl Tryz.sizeOf58 (K26 4 rfl) rfl rfl rfl rfl (Gr.blk g71 (Blk.ext h31 e64) (Or.inl (Nat.le_trans (Nat.le_trans (Blk.lt ks) (Nat.le_refl _)) (Nat.le_of_eq z3)))) <| fun w73 h74 k75 => nx <| qn <| vv <| qw <| qw <| YC ?_
     obtain rfl := si H
     have H := C16
     obtain rfl := si H
     exact XJ rfl (K26 4 rfl) k75 Tryz.isAgg58 Tryz.sizeOf58 rfl (Gr.thn (Gr.trans (Gr.trans (Gr.trans (Gr.trans (Gr.ext e5) g12) e27) (Gr.ext e64)) g71) (Wr.below h74 (Nat.le_of_eq z3))) (Gr.blk (Gr.ofBelow (Wr.below h74 (Nat.le_of_eq z3))) k72 (Or.inr (Nat.le_trans (Blk.lt ks) (Nat.le_refl _))))
    ·refine qi (cb q59) <| qj <| wr <| lp rfl (yn (K26 6 rfl) rfl) <| lp rfl (xa (.bool (decide (z7.1 = 4))) rfl) <| nx ?_
     rcases qd H with ⟨q76, H⟩ | ⟨q76, H⟩
     ·refine qk (cb q76) <| qo <| qe ?_
      rcases qd H with ⟨q77, H⟩ | ⟨q77, H⟩
      ·refine qk (cb q77) <| wr <| lp rfl (xm (S a2) (K26 1 rfl)) <| lp rfl (Q0 (vs := [(0, (.int .i64 4)), (1, (S a2))]) (pl := #[(0, 1), (1, 1), (2, 1), (3, 1), (4, 1)]) Tryz.underlying58 Tryz.zeroValue58 rfl (fun _ => by kernel_rfl) rfl rfl rfl) <| ji (.plain rfl) rfl rfl Tryz.sizeOf58 (K26 4 rfl) rfl rfl rfl rfl h31 <| fun w78 h79 k80 => nx <| qn <| vv <| qw <| qw <| YC ?_
       obtain rfl := si H
       have H := C16
       obtain rfl := si H
       exact XJ rfl (K26 4 rfl) k80 Tryz.isAgg58 Tryz.sizeOf58 rfl (Gr.thn (Gr.trans (Gr.trans (Gr.ext e5) g12) e27) (Wr.below h79 (Nat.le_of_eq z3))) (Gr.blk (Gr.ofBelow (Wr.below h79 (Nat.le_of_eq z3))) h30 (Or.inr (Nat.le_trans (Blk.lt ks) (Nat.le_refl _))))
      ·refine qi (cb q77) <| qo <| vk <| qe ?_
       obtain rfl := si H
       exact ⟨z7.2, (ku4 (Kp.cut (ku2 kz rfl) K26 rfl) rfl), h30, h31, e27, e27c, rfl⟩
     ·refine qi (cb q76) <| qG <| lp rfl (yn (K26 6 rfl) rfl) <| lp rfl (xa (.bool (decide (z7.1 = 5))) rfl) <| nx ?_
      rcases qd H with ⟨q81, H⟩ | ⟨q81, H⟩
      ·refine qk (cb q81) <| wr <| lp rfl (xm (S a2) (K26 1 rfl)) <| lp rfl (Q0 (vs := [(0, (.int .i64 4)), (1, (S a2))]) (pl := #[(0, 1), (1, 1), (2, 1), (3, 1), (4, 1)]) Tryz.underlying58 Tryz.zeroValue58 rfl (fun _ => by kernel_rfl) rfl rfl rfl) <| ji (.plain rfl) rfl rfl Tryz.sizeOf58 (K26 4 rfl) rfl rfl rfl rfl h31 <| fun w82 h83 k84 => nx <| qn <| vv <| qw <| qw <| YC ?_
       obtain rfl := si H
       have H := C16
       obtain rfl := si H
       exact XJ rfl (K26 4 rfl) k84 Tryz.isAgg58 Tryz.sizeOf58 rfl (Gr.thn (Gr.trans (Gr.trans (Gr.ext e5) g12) e27) (Wr.below h83 (Nat.le_of_eq z3))) (Gr.blk (Gr.ofBelow (Wr.below h83 (Nat.le_of_eq z3))) h30 (Or.inr (Nat.le_trans (Blk.lt ks) (Nat.le_refl _))))
      ·refine qi (cb q81) <| qo <| vk <| qe ?_
       obtain rfl := si H
       exact ⟨z7.2, (ku2 (ku4 (Kp.cut (ku2 kz rfl) K26 rfl) rfl) rfl), h30, h31, e27, e27c, rfl⟩
 ·rintro s86 w85 ⟨y17, K87, h90, h91, e88, e88c, y89⟩
  rw [y89] at C16
  have H := C16
  refine qe <| qj ?_
  obtain ⟨z98, x99, H⟩ := bind_some H
  obtain ⟨c105, H⟩ := qa H
  obtain ⟨z108, x109, H⟩ := bind_some H
  refine W_drawS 9 [LEq (S a2), LOw 3 1 (Go.UL.encI .i64) w85.heap.size ([493, 448] : List Int), LEq (.pointer (some ⟨bs, 0, none⟩)), LEq (.int .i64 z98.1), LOp 3 1 (Go.UL.encI .i64) w85.heap.size ([493, 448] : List Int) z98.1, LEq (.int .i64 (gt ([493, 448] : List Int) z98.1)), LEq (.pointer (some ⟨bs, 0, none⟩)), LEq (.bool z108.1), LEq (.agg #[(.int .i64 3), (S a2), (S ([] : List UInt8)), (.int .i64 (gt ([493, 448] : List Int) z98.1)), (.bool z108.1)])] [(7, z108.2), (3, z98.2)] y17 [(7, 3, [])] (by kernel_rfl) (by kernel_rfl) (by kernel_rfl) (by kernel_rfl) rfl h90 ⟨LEq.keep, (LOw.keep (Nat.le_trans (Blk.lt ks) ((Gr.trans (Gr.trans (Gr.ext e5) g12) e88)).size)), LEq.keep, LEq.keep, (LOp.keep (Nat.le_trans (Blk.lt ks) ((Gr.trans (Gr.trans (Gr.ext e5) g12) e88)).size)), LEq.keep, LEq.keep, LEq.keep, LEq.keep, trivial⟩ ⟨?_, ?_, ?_, ?_, ?_, ?_, ?_, ?_, ?_, trivial⟩ ?_
  ·intro s115 w116 dn117 hg118 hi119 hn120 hp121 hq122 hf123 hd124 hu125
   exact lp rfl (xm (S a2) ((hf123 1 rfl).trans (K87 1 rfl))) <| qJ <| J9 rfl rfl rfl rfl er rfl
  ·intro s126 w127 dn128 hg129 hi130 hn131 hp132 hq133 hf134 hd135 hu136
   exact vO (.plain rfl) rfl (ltb rfl) rfl Tryz.underlying188 Tryz.sizeOf3 Tryz.zeroValue3 rfl rfl rfl (vs := [(.int .i64 493), (.int .i64 448)]) rfl (qR rfl) <| fun b137 w138 z139 z140 e141 k142 => qJ <| J9 rfl rfl rfl rfl e141 (Ow.base (Ow.new (xs := [493, 448]) (sz := 1) (enc := (Go.UL.encI .i64)) (base := w127.heap.size) k142 (Nat.le_of_eq z139) rfl (fun _ _ => by rfl) (Nat.le_of_ble_eq_true rfl)) (hg129).size)
  ·intro s143 w144 dn145 hg146 hi147 hn148 hp149 hq150 hf151 hd152 hu153
   exact lp rfl (xm (.pointer (some ⟨bs, 0, none⟩)) ((hf151 0 rfl).trans (K87 0 rfl))) <| qJ <| J9 rfl rfl rfl rfl er rfl
  ·intro s154 w155 dn156 hg157 hi158 hn159 hp160 hq161 hf162 hd163 hu164
   have a166 : dn156 7 = false := hq161 7 rfl
   have k165 : Blk w155 bs (vS cv y17).toArray 162 := by
    have h := hi158
    simp only [InvS, Jm, hn159, a166, cond_true, cond_false] at h
    exact h
   have a167 : Yn dn156 3 3 = true := setD_self
   have a168 : Yn dn156 3 7 = false := (setD_ne rfl).trans a166
   have d169 : s154 34 = (.pointer (some ⟨bs, 0, none⟩)) := (hd163 2 rfl rfl)
   exact yX (.plain rfl) rfl (ltb rfl) rfl Tryz.call195 (vt.calls (w := w155) (a0 := a0) (a1 := y17) (a2 := 2) (Ext.gr e88c hg157 hz) fc hz k165 x99) (vc d169 (vc rfl rfl)) <| fun w172 g173 k174 => qJ <| stepQh rfl rfl rfl rfl g173 (by simp only [InvS, Jm, a167, a168, cond_true, cond_false]; exact k174) rfl
  ·intro s175 w176 dn177 hg178 hi179 hn180 hp181 hq182 hf183 hd184 hu185
   have d186 : Ow 3 1 (Go.UL.encI .i64) w85.heap.size w176 (s175 33) ([493, 448] : List Int) := (hd184 1 rfl rfl)
   have d187 : s175 35 = (.int .i64 z98.1) := (hd184 3 rfl rfl)
   have c188 := c105
   exact L_idxO (.plain rfl) rfl (ltb rfl) rfl Tryz.underlying188 Tryz.sizeOf3 rfl d186 d187 c188 <| fun p189 h190 => qJ <| J9 rfl rfl rfl rfl er ⟨_, _, rfl, h190⟩
  ·intro s191 w192 dn193 hg194 hi195 hn196 hp197 hq198 hf199 hd200 hu201
   obtain ⟨u202, p203, h204, o205⟩ := (hd200 4 rfl rfl)
   exact lp rfl (yr Tryz.isAgg3 h204 (OP.at o205) rfl) <| qJ <| J9 rfl rfl rfl rfl er rfl
  ·intro s206 w207 dn208 hg209 hi210 hn211 hp212 hq213 hf214 hd215 hu216
   exact lp rfl (xm (.pointer (some ⟨bs, 0, none⟩)) ((hf214 0 rfl).trans (K87 0 rfl))) <| qJ <| J9 rfl rfl rfl rfl er rfl
  ·intro s217 w218 dn219 hg220 hi221 hn222 hp223 hq224 hf225 hd226 hu227
   have a229 : dn219 3 = true := hp223 3 rfl
   have k228 : Blk w218 bs (vS cv z98.2).toArray 162 := by
    have h := hi221
    simp only [InvS, Jm, a229, hn222, cond_true, cond_false] at h
    exact h
   have a231 : Yn dn219 7 7 = true := setD_self
   have d232 : s217 38 = (.pointer (some ⟨bs, 0, none⟩)) := (hd226 6 rfl rfl)
   exact yX (.plain rfl) rfl (ltb rfl) rfl Tryz.call236 (y0.calls (w := w218) (a0 := a0) (a1 := z98.2) (a2 := 3) (Ext.gr e88c hg220 hz) fc hz k228 x109) (vc d232 (vc rfl rfl)) <| fun w235 g236 k237 => qJ <| stepQh rfl rfl rfl rfl g236 (by simp only [InvS, Jm, a231, cond_true, cond_false]; exact k237) rfl
  ·intro s238 w239 dn240 hg241 hi242 hn243 hp244 hq245 hf246 hd247 hu248
   have d249 : s238 32 = (S a2) := (hd247 0 rfl rfl)
   have d250 : s238 37 = (.int .i64 (gt ([493, 448] : List Int) z98.1)) := (hd247 5 rfl rfl)
   have d251 : s238 39 = (.bool z108.1) := (hd247 7 rfl rfl)
   exact lp rfl (Q0 (vs := [(0, (.int .i64 3)), (1, (S a2)), (3, (.int .i64 (gt ([493, 448] : List Int) z98.1))), (4, (.bool z108.1))]) (pl := #[(0, 1), (1, 1), (2, 1), (3, 1), (4, 1)]) Tryz.underlying58 Tryz.zeroValue58 rfl (fun _ => by kernel_rfl) rfl (vc rfl (vc d249 (vc d250 (vc d251 rfl)))) rfl) <| qJ <| J9 rfl rfl rfl rfl er rfl
  intro s252 w253 hg254 hb255 hf256 ha257
  have K258 := Kp.ofD (kp := [(32, 41)]) rfl hf256
  have k259 : Blk w253 bs (vS cv z108.2).toArray 162 := hb255
  have d260 : s252 40 = (.agg #[(.int .i64 3), (S a2), (S ([] : List UInt8)), (.int .i64 (gt ([493, 448] : List Int) z98.1)), (.bool z108.1)]) := ha257 8 rfl rfl
  clear ha257 hf256
  refine ji (.plain rfl) rfl rfl Tryz.sizeOf58 ((K258 4 rfl).trans (K87 4 rfl)) d260 rfl rfl rfl (Gr.blk hg254 h91 (Or.inl (Nat.le_trans (Nat.le_trans (Blk.lt ks) (Nat.le_refl _)) (Nat.le_of_eq z3)))) <| fun w261 h262 k263 => nx <| qn <| YC ?_
  obtain rfl := si H
  exact XJ rfl ((K258 4 rfl).trans (K87 4 rfl)) k263 Tryz.isAgg58 Tryz.sizeOf58 rfl (Gr.thn (Gr.trans (Gr.trans (Gr.trans (Gr.ext e5) g12) e88) hg254) (Wr.below h262 (Nat.le_of_eq z3))) (Gr.blk (Gr.ofBelow (Wr.below h262 (Nat.le_of_eq z3))) k259 (Or.inr (Nat.le_trans (Blk.lt ks) (Nat.le_refl _))))
theorem yv.calls {w : World} {a0 : List Int} {a1 : DSrc} {a2 : List UInt8} {r : Rec × DSrc} {wc : World} {cv : Value} {bs : Nat} (kc : Ext wc w) (fc : Rd 1 (Go.UL.encI .u8) wc cv a0) (hz : wc.heap.size ≤ bs) (ks : Blk w bs (vS cv a1).toArray 162) (H : (yv.sh a0 a1 a2) = some r) :
  Calls Tryz.prog 153 #[.pointer (some ⟨bs, 0, none⟩), S a2] w (Rt (RS 162 bs cv w (.agg (qg r.1).toArray) r.2)) := yv.walk kc fc hz ks (yv.eq a0 a1 a2 H)
/-! laws.at -/
abbrev jZ.e1 (a0 : List Int) (a1 : Int) := (IntKind.wrap .i64 ((IntKind.wrap .i64 ((IntKind.wrap .i64 ((IntKind.wrap .i64 (gt a0 (a1.tmod (a0.length : Int)))) * 31)) + (IntKind.wrap .i64 (gt a0 ((IntKind.wrap .i64 (a1 + 1)).tmod (a0.length : Int)))))) + (IntKind.wrap .i64 (a1.tdiv (a0.length : Int)))))
theorem jZ.walk {w : World} {a0 : List Int} {a1 : Int} {a2 : Int} {v_a0 : Value} (f_a0 : Rd 1 (Go.UL.encI .u8) w v_a0 a0) {r : Int} (H : jZ.sh a0 a1 a2 = some r) :
  Calls Tryz.prog 15 #[v_a0, .int .i64 a1, .int .i64 a2] w (Rt (RP w (.int .i64 r))) := by
 unfold jZ.sh at H
 refine qh Tryz.func15 rfl (Nat.le_of_ble_eq_true rfl) Tryz.ntmps15 rfl ?_
 refine wr <| lp rfl (xa (.int .i64 0) rfl) <| nx <| qj <| wr <| lp rfl (xm (.int .i64 a2) rfl) <| lp rfl (Y4 rfl rfl) <| nx ?_
 rcases qd H with ⟨q1, H⟩ | ⟨q1, H⟩
 ·refine qk (cb q1) <| wr <| lp rfl (xa (.int .i64 0) rfl) <| nx <| qn <| qw <| qt ?_
  obtain rfl := si H
  exact vh rfl er
 ·refine qi (cb q1) <| qo <| qe <| qj <| wr <| lp rfl (xm v_a0 rfl) <| lp rfl (qO Tryz.underlying22 rfl f_a0) <| lp rfl (yn rfl rfl) <| nx ?_
  rcases qd H with ⟨q2, H⟩ | ⟨q2, H⟩
  ·refine qk (cb q2) <| wr <| lp rfl (xm (.int .i64 a1) rfl) <| lp rfl (X_mul rfl rfl) <| lp rfl (xm (.int .i64 a2) rfl) ?_
   obtain ⟨c3, H⟩ := qa H
   refine lp rfl (JU rfl rfl (od c3)) <| lp rfl (xa (.int .i64 ((IntKind.wrap .i64 (a1 * 7)).tmod a2)) rfl) <| nx <| qn <| qw <| qt ?_
   obtain rfl := si H
   exact vh rfl er
  ·refine qi (cb q2) <| qo <| qe <| qj ?_
   obtain ⟨c4, H⟩ := qa H
   obtain ⟨c5, H⟩ := qa H
   obtain ⟨c8, H⟩ := qa H
   obtain ⟨c9, H⟩ := qa H
   obtain ⟨c12, H⟩ := qa H
   obtain ⟨c13, H⟩ := qa H
   refine Yp [LEq v_a0, LEq (.int .i64 a1), LEq v_a0, LEq (.int .i64 (a0.length : Int)), LEq (.int .i64 (a1.tmod (a0.length : Int))), yu ((Go.UL.encI .u8) (gt a0 (a1.tmod (a0.length : Int)))), LEq (.int .u8 (gt a0 (a1.tmod (a0.length : Int)))), LEq (.int .i64 (IntKind.wrap .i64 (gt a0 (a1.tmod (a0.length : Int))))), LEq (.int .i64 (IntKind.wrap .i64 ((IntKind.wrap .i64 (gt a0 (a1.tmod (a0.length : Int)))) * 31))), LEq v_a0, LEq (.int .i64 a1), LEq (.int .i64 (IntKind.wrap .i64 (a1 + 1))), LEq v_a0, LEq (.int .i64 (a0.length : Int)), LEq (.int .i64 ((IntKind.wrap .i64 (a1 + 1)).tmod (a0.length : Int))), yu ((Go.UL.encI .u8) (gt a0 ((IntKind.wrap .i64 (a1 + 1)).tmod (a0.length : Int)))), LEq (.int .u8 (gt a0 ((IntKind.wrap .i64 (a1 + 1)).tmod (a0.length : Int)))), LEq (.int .i64 (IntKind.wrap .i64 (gt a0 ((IntKind.wrap .i64 (a1 + 1)).tmod (a0.length : Int))))), LEq (.int .i64 (IntKind.wrap .i64 ((IntKind.wrap .i64 ((IntKind.wrap .i64 (gt a0 (a1.tmod (a0.length : Int)))) * 31)) + (IntKind.wrap .i64 (gt a0 ((IntKind.wrap .i64 (a1 + 1)).tmod (a0.length : Int))))))), LEq (.int .i64 a1), LEq v_a0, LEq (.int .i64 (a0.length : Int)), LEq (.int .i64 (IntKind.wrap .i64 (a1.tdiv (a0.length : Int)))), LEq (.int .i64 (jZ.e1 a0 a1)), LEq (.int .i64 a2), LEq (.int .i64 ((jZ.e1 a0 a1).tmod a2)), LEq (.int .i64 ((jZ.e1 a0 a1).tmod a2))] (by kernel_rfl) (by kernel_rfl) ⟨qm, qm, qm, qm, qm, yu.mono, qm, qm, qm, qm, qm, qm, qm, qm, qm, yu.mono, qm, qm, qm, qm, qm, qm, qm, qm, qm, qm, qm, trivial⟩ ⟨?_, ?_, ?_, ?_, ?_, ?_, ?_, ?_, ?_, ?_, ?_, ?_, ?_, ?_, ?_, ?_, ?_, ?_, ?_, ?_, ?_, ?_, ?_, ?_, ?_, ?_, ?_, trivial⟩ ?_
   ·exact fun s x e f d u => lp rfl (xm v_a0 (f 0 rfl)) <| se rfl rfl
   ·exact fun s x e f d u => lp rfl (xm (.int .i64 a1) (f 1 rfl)) <| se rfl rfl
   ·exact fun s x e f d u => lp rfl (xm v_a0 (f 0 rfl)) <| se rfl rfl
   ·exact fun s x e f d u => lp rfl (qO Tryz.underlying22 (d 2 rfl) (Rd.ext f_a0 e)) <| se rfl rfl
   ·exact fun s x e f d u => lp rfl (JU (d 1 rfl) (d 3 rfl) (od c12)) <| se rfl rfl
   ·exact fun s x e f d u => q4 (.plain rfl) rfl (ltb rfl) rfl Tryz.underlying22 Tryz.sizeOf5 (d 0 rfl) (Rd.ext f_a0 e) (d 4 rfl) c5 <| fun p16 h17 => se rfl ⟨_, rfl, h17⟩
   ·intro s x e f d u
    obtain ⟨p18, h19, h20⟩ := (d 5 rfl)
    exact lp rfl (yr Tryz.isAgg5 h19 h20 rfl) <| se rfl rfl
   ·exact fun s x e f d u => lp rfl (Vz Tryz.underlying5 Tryz.underlying3 (d 6 rfl)) <| se rfl rfl
   ·exact fun s x e f d u => lp rfl (X_mul (d 7 rfl) rfl) <| se rfl rfl
   ·exact fun s x e f d u => lp rfl (xm v_a0 (f 0 rfl)) <| se rfl rfl
   ·exact fun s x e f d u => lp rfl (xm (.int .i64 a1) (f 1 rfl)) <| se rfl rfl
   ·exact fun s x e f d u => lp rfl (vi (d 10 rfl) rfl) <| se rfl rfl
   ·exact fun s x e f d u => lp rfl (xm v_a0 (f 0 rfl)) <| se rfl rfl
   ·exact fun s x e f d u => lp rfl (qO Tryz.underlying22 (d 12 rfl) (Rd.ext f_a0 e)) <| se rfl rfl
   ·exact fun s x e f d u => lp rfl (JU (d 11 rfl) (d 13 rfl) (od c12)) <| se rfl rfl
   ·exact fun s x e f d u => q4 (.plain rfl) rfl (ltb rfl) rfl Tryz.underlying22 Tryz.sizeOf5 (d 9 rfl) (Rd.ext f_a0 e) (d 14 rfl) c9 <| fun p23 h24 => se rfl ⟨_, rfl, h24⟩
   ·intro s x e f d u
    obtain ⟨p25, h26, h27⟩ := (d 15 rfl)
    exact lp rfl (yr Tryz.isAgg5 h26 h27 rfl) <| se rfl rfl
   ·exact fun s x e f d u => lp rfl (Vz Tryz.underlying5 Tryz.underlying3 (d 16 rfl)) <| se rfl rfl
   ·exact fun s x e f d u => lp rfl (vi (d 8 rfl) (d 17 rfl)) <| se rfl rfl
   ·exact fun s x e f d u => lp rfl (xm (.int .i64 a1) (f 1 rfl)) <| se rfl rfl
   ·exact fun s x e f d u => lp rfl (xm v_a0 (f 0 rfl)) <| se rfl rfl
   ·exact fun s x e f d u => lp rfl (qO Tryz.underlying22 (d 20 rfl) (Rd.ext f_a0 e)) <| se rfl rfl
   ·exact fun s x e f d u => lp rfl (X_quo (d 19 rfl) (d 21 rfl) (od c12)) <| se rfl rfl
   ·exact fun s x e f d u => lp rfl (vi (d 18 rfl) (d 22 rfl)) <| se rfl rfl
   ·exact fun s x e f d u => lp rfl (xm (.int .i64 a2) (f 2 rfl)) <| se rfl rfl
   ·exact fun s x e f d u => lp rfl (JU (d 23 rfl) (d 24 rfl) (od c13)) <| se rfl rfl
   ·exact fun s x e f d u => lp rfl (qA (d 25 rfl)) <| se rfl rfl
   intro s30 w31 e32 hf33 ha34
   have K35 := Kp.ofD (kp := [(6, 7), (16, 42)]) rfl hf33
   have d36 : s30 6 = (.int .i64 ((jZ.e1 a0 a1).tmod a2)) := ha34 26 rfl
   clear ha34 hf33
   refine qe <| qn <| qt ?_
   obtain rfl := si H
   exact vh d36 e32
theorem jZ.calls {w : World} {a0 : List Int} {a1 : Int} {a2 : Int} {r : Int} {v_a0 : Value} (f_a0 : Rd 1 (Go.UL.encI .u8) w v_a0 a0) (H : (jZ.sh a0 a1 a2) = some r) :
  Calls Tryz.prog 15 #[v_a0, .int .i64 a1, .int .i64 a2] w (Rt (RP w (.int .i64 r))) := jZ.walk f_a0 (jZ.eq a0 a1 a2 H)
/-! laws.mix -/
theorem Qn.walk {w : World} {a0 : Int} {a1 : List Int} {v_a1 : Value} (f_a1 : Rd 1 (Go.UL.encI .u8) w v_a1 a1) {r : List Int} (H : Qn.sh a0 a1 = some r) :
  Calls Tryz.prog 26 #[.int .i64 a0, v_a1] w (Rt (RO 5 1 (Go.UL.encI .u8) w r)) := by
 unfold Qn.sh at H
 refine qh Tryz.func26 rfl (Nat.le_of_ble_eq_true rfl) Tryz.ntmps26 rfl ?_
 refine wr <| lp rfl (xa (.slice none 0 0) rfl) <| nx <| wr <| lp rfl (xm (.int .i64 a0) rfl) <| lp rfl (Vz Tryz.underlying3 Tryz.underlying5 rfl) <| vO (.plain rfl) rfl (ltb rfl) rfl Tryz.underlying22 Tryz.sizeOf5 Tryz.zeroValue5 rfl rfl rfl (vs := [(.int .u8 (IntKind.wrap .u8 a0))]) rfl (qR rfl) <| fun b1 w2 z3 z4 e5 k6 => lp rfl (xm v_a1 rfl) ?_
 obtain ⟨c7, H⟩ := qa H
 refine vW (enc := (Go.UL.encI .u8)) (.plain rfl) rfl (ltb rfl) rfl El.t22 rfl rfl (Ow.new (xs := [IntKind.wrap .u8 a0]) (sz := 1) (enc := (Go.UL.encI .u8)) (base := w.heap.size) k6 (Nat.le_of_eq z3) rfl (fun _ _ => by rfl) (Nat.le_of_ble_eq_true rfl)) (Rd.ext f_a1 e5) (ones_I _ _) (od c7) (e5).size <| fun v8 w9 o10 z11 g12 => lp rfl (xa v8 rfl) <| nx <| qn <| qt ?_
 obtain rfl := si H
 exact Qi rfl (g12 _ e5) o10 (er).size
theorem Qn.calls {w : World} {a0 : Int} {a1 : List Int} {r : List Int} {v_a1 : Value} (f_a1 : Rd 1 (Go.UL.encI .u8) w v_a1 a1) (H : (Qn.sh a0 a1) = some r) :
  Calls Tryz.prog 26 #[.int .i64 a0, v_a1] w (Rt (RO 5 1 (Go.UL.encI .u8) w r)) := Qn.walk f_a1 (Qn.eq a0 a1 H)
/-! laws.sameTexts -/
theorem yN.calls {w : World} {a0 : List (List UInt8)} {a1 : List (List UInt8)} {v_a0 : Value} (f_a0 : Rd 1 yK w v_a0 a0) {v_a1 : Value} (f_a1 : Rd 1 yK w v_a1 a1) (h0 : a0.length ≤ 4611686018427387904) :
  Calls Tryz.prog 32 #[v_a0, v_a1] w (Rt (RP w (.bool (decide (a0 = a1))))) := by
 obtain ⟨k, H⟩ := yN.eq a0 a1 h0
 generalize (decide (a0 = a1)) = r at H ⊢
 unfold yN.sh at H
 refine qh Tryz.func32 rfl (Nat.le_of_ble_eq_true rfl) Tryz.ntmps32 rfl ?_
 refine wr <| lp rfl (xa (.bool false) rfl) <| nx <| qj <| wr <| lp rfl (xm v_a0 rfl) <| lp rfl (qO Tryz.underlying42 rfl f_a0) <| lp rfl (xm v_a1 rfl) <| lp rfl (qO Tryz.underlying42 rfl f_a1) <| lp rfl (j6 rfl rfl) <| nx ?_
 rcases qd H with ⟨q1, H⟩ | ⟨q1, H⟩
 ·refine qk (cb q1) <| wr <| lp rfl (xa (.bool false) rfl) <| nx <| qn <| qw <| qt ?_
  obtain rfl := si H
  exact vh rfl er
 ·refine qi (cb q1) <| qo <| qe <| qj <| wr <| lp rfl (xa (.int .i64 0) rfl) <| nx ?_
  obtain ⟨z3, L4, C5⟩ := bind_some H
  clear H
  refine  vD (fun s0 sQ wQ => Kp [(4, 6), (11, 26)] s0 sQ ∧ Ext w wQ ∧ z3 = .inr ()) ?_ ?_
  ·refine qB <| vo (fun s0 kk sQ wQ => ∃ (x5_2 : Int), Kp [(4, 6), (11, 26)] s0 sQ ∧ sQ 5 = .int .i64 x5_2 ∧ Ext w wQ ∧ qp (yN.b1 a0 a1) kk x5_2 = some z3) k ⟨0, kz, rfl, er, L4⟩ ?_
   rintro k10 s11 w12 ⟨x5_2, K13, h16, e14, L15⟩
   cases k10 with
   | zero => exact absurd L15 (by simp [qp])
   | succ k10 =>
    obtain ⟨t17, H, S18⟩ := qK L15
    clear L15
    unfold yN.b1 at H
    refine qj <| wr <| lp rfl (qf h16) <| lp rfl (xm v_a0 (K13 0 rfl)) <| lp rfl (qO Tryz.underlying42 rfl (Rd.ext f_a0 e14)) <| lp rfl (yl rfl rfl) <| nx ?_
    rcases qd H with ⟨q19, H⟩ | ⟨q19, H⟩
    ·refine qk (cb q19) <| qo <| qe <| qj <| qB <| qj ?_
     obtain ⟨c20, H⟩ := qa H
     obtain ⟨c23, H⟩ := qa H
     refine Yp [LEq v_a0, LEq (.int .i64 x5_2), yu (yK (gt a0 x5_2)), LEq (S (gt a0 x5_2)), LEq v_a1, LEq (.int .i64 x5_2), yu (yK (gt a1 x5_2)), LEq (S (gt a1 x5_2)), LEq (.bool (!decide ((gt a0 x5_2) = (gt a1 x5_2))))] (by kernel_rfl) (by kernel_rfl) ⟨qm, qm, yu.mono, qm, qm, qm, yu.mono, qm, qm, trivial⟩ ⟨?_, ?_, ?_, ?_, ?_, ?_, ?_, ?_, ?_, trivial⟩ ?_
     ·exact fun s x e f d u => lp rfl (xm v_a0 ((f 0 rfl).trans (K13 0 rfl))) <| se rfl rfl
     ·exact fun s x e f d u => lp rfl (xm (.int .i64 x5_2) ((f 5 rfl).trans h16)) <| se rfl rfl
     ·exact fun s x e f d u => q4 (.plain rfl) rfl (ltb rfl) rfl Tryz.underlying42 Tryz.sizeOf9 (d 0 rfl) (Rd.ext f_a0 (e14.t e)) (d 1 rfl) c20 <| fun p27 h28 => se rfl ⟨_, rfl, h28⟩
     ·intro s x e f d u
      obtain ⟨p29, h30, h31⟩ := (d 2 rfl)
      exact lp rfl (yr Tryz.isAgg9 h30 h31 rfl) <| se rfl rfl
     ·exact fun s x e f d u => lp rfl (xm v_a1 ((f 1 rfl).trans (K13 1 rfl))) <| se rfl rfl
     ·exact fun s x e f d u => lp rfl (xm (.int .i64 x5_2) ((f 5 rfl).trans h16)) <| se rfl rfl
     ·exact fun s x e f d u => q4 (.plain rfl) rfl (ltb rfl) rfl Tryz.underlying42 Tryz.sizeOf9 (d 4 rfl) (Rd.ext f_a1 (e14.t e)) (d 5 rfl) c23 <| fun p33 h34 => se rfl ⟨_, rfl, h34⟩
     ·intro s x e f d u
      obtain ⟨p35, h36, h37⟩ := (d 6 rfl)
      exact lp rfl (yr Tryz.isAgg9 h36 h37 rfl) <| se rfl rfl
     ·exact fun s x e f d u => lp rfl (VK (d 3 rfl) (d 7 rfl)) <| se rfl rfl
     intro s38 w39 e40 hf41 ha42
     have K43 := Kp.ofD (kp := [(17, 26)]) rfl hf41
     have d44 : s38 25 = (.bool (!decide ((gt a0 x5_2) = (gt a1 x5_2)))) := ha42 8 rfl
     clear ha42 hf41
     refine qe ?_
     rcases qd H with ⟨q45, H⟩ | ⟨q45, H⟩
     ·refine qk (d44.trans (cb q45)) <| wr <| lp rfl (xa (.bool false) rfl) <| nx <| qn <| vv <| qw <| qw <| vv <| qw <| qw <| qt ?_
      obtain rfl := si H
      obtain rfl := si S18
      have H := C5
      obtain rfl := si H
      exact vh rfl (e14.t e40)
     ·refine qi (d44.trans (cb q45)) <| qo <| vk <| qe <| qG <| lp rfl (xm (.int .i64 x5_2) ((K43 5 rfl).trans h16)) <| lp rfl (vi rfl rfl) <| lp rfl (xa (.int .i64 (IntKind.wrap .i64 (x5_2 + 1))) rfl) <| nx ?_
      obtain rfl := si H
      exact ⟨_, Nat.lt_succ_self _, IntKind.wrap .i64 (x5_2 + 1), (ku3 (Kp.cut (ku4 K13 rfl) K43 rfl) rfl), rfl, (e14.t e40), S18⟩
    ·refine qi (cb q19) <| vH <| qY <| qY <| yF <| qe ?_
     obtain rfl := si H
     obtain rfl := si S18
     exact ⟨(ku4 K13 rfl), e14, rfl⟩
  ·rintro s7 w6 ⟨K8, e9, y46⟩
   rw [y46] at C5
   have H := C5
   replace H : _ = some _ := H
   refine qe <| wr <| lp rfl (xa (.bool true) rfl) <| nx <| qn <| qt ?_
   obtain rfl := si H
   exact vh rfl e9
/-! laws.sameRecords -/
theorem vN.calls {w : World} {a0 : List Rec} {a1 : List Rec} {v_a0 : Value} (f_a0 : Rd 5 qg w v_a0 a0) {v_a1 : Value} (f_a1 : Rd 5 qg w v_a1 a1) (h0 : a0.length ≤ 4611686018427387904) :
  Calls Tryz.prog 31 #[v_a0, v_a1] w (Rt (RP w (.bool (decide (a0 = a1))))) := by
 obtain ⟨k, H⟩ := vN.eq a0 a1 h0
 generalize (decide (a0 = a1)) = r at H ⊢
 unfold vN.sh at H
 refine qh Tryz.func31 rfl (Nat.le_of_ble_eq_true rfl) Tryz.ntmps31 rfl ?_
 refine wr <| lp rfl (xa (.bool false) rfl) <| nx <| qj <| wr <| lp rfl (xm v_a0 rfl) <| lp rfl (qO Tryz.underlying35 rfl f_a0) <| lp rfl (xm v_a1 rfl) <| lp rfl (qO Tryz.underlying35 rfl f_a1) <| lp rfl (j6 rfl rfl) <| nx ?_
 rcases qd H with ⟨q1, H⟩ | ⟨q1, H⟩
 ·refine qk (cb q1) <| wr <| lp rfl (xa (.bool false) rfl) <| nx <| qn <| qw <| qt ?_
  obtain rfl := si H
  exact vh rfl er
 ·refine qi (cb q1) <| qo <| qe <| qj <| wr <| lp rfl (xa (.int .i64 0) rfl) <| nx ?_
  obtain ⟨z3, L4, C5⟩ := bind_some H
  clear H
  refine  vD (fun s0 sQ wQ => Kp [(4, 6), (11, 26)] s0 sQ ∧ Ext w wQ ∧ z3 = .inr ()) ?_ ?_
  ·refine qB <| vo (fun s0 kk sQ wQ => ∃ (x5_2 : Int), Kp [(4, 6), (11, 26)] s0 sQ ∧ sQ 5 = .int .i64 x5_2 ∧ Ext w wQ ∧ qp (vN.b1 a0 a1) kk x5_2 = some z3) k ⟨0, kz, rfl, er, L4⟩ ?_
   rintro k10 s11 w12 ⟨x5_2, K13, h16, e14, L15⟩
   cases k10 with
   | zero => exact absurd L15 (by simp [qp])
   | succ k10 =>
    obtain ⟨t17, H, S18⟩ := qK L15
    clear L15
    unfold vN.b1 at H
    refine qj <| wr <| lp rfl (qf h16) <| lp rfl (xm v_a0 (K13 0 rfl)) <| lp rfl (qO Tryz.underlying35 rfl (Rd.ext f_a0 e14)) <| lp rfl (yl rfl rfl) <| nx ?_
    rcases qd H with ⟨q19, H⟩ | ⟨q19, H⟩
    ·refine qk (cb q19) <| qo <| qe <| qj <| qB <| qj ?_
     obtain ⟨c20, H⟩ := qa H
     obtain ⟨c23, H⟩ := qa H
     refine Yp [LEq v_a0, LEq (.int .i64 x5_2), yu (qg (gt a0 x5_2)), LEq (.agg (qg (gt a0 x5_2)).toArray), LEq v_a1, LEq (.int .i64 x5_2), yu (qg (gt a1 x5_2)), LEq (.agg (qg (gt a1 x5_2)).toArray), LEq (.bool (!decide ((gt a0 x5_2) = (gt a1 x5_2))))] (by kernel_rfl) (by kernel_rfl) ⟨qm, qm, yu.mono, qm, qm, qm, yu.mono, qm, qm, trivial⟩ ⟨?_, ?_, ?_, ?_, ?_, ?_, ?_, ?_, ?_, trivial⟩ ?_
     ·exact fun s x e f d u => lp rfl (xm v_a0 ((f 0 rfl).trans (K13 0 rfl))) <| se rfl rfl
     ·exact fun s x e f d u => lp rfl (xm (.int .i64 x5_2) ((f 5 rfl).trans h16)) <| se rfl rfl
     ·exact fun s x e f d u => q4 (.plain rfl) rfl (ltb rfl) rfl Tryz.underlying35 Tryz.sizeOf58 (d 0 rfl) (Rd.ext f_a0 (e14.t e)) (d 1 rfl) c20 <| fun p27 h28 => se rfl ⟨_, rfl, h28⟩
     ·intro s x e f d u
      obtain ⟨p29, h30, h31⟩ := (d 2 rfl)
      exact lp rfl (qW Tryz.isAgg58 Tryz.sizeOf58 rfl h30 h31) <| se rfl rfl
     ·exact fun s x e f d u => lp rfl (xm v_a1 ((f 1 rfl).trans (K13 1 rfl))) <| se rfl rfl
     ·exact fun s x e f d u => lp rfl (xm (.int .i64 x5_2) ((f 5 rfl).trans h16)) <| se rfl rfl
     ·exact fun s x e f d u => q4 (.plain rfl) rfl (ltb rfl) rfl Tryz.underlying35 Tryz.sizeOf58 (d 4 rfl) (Rd.ext f_a1 (e14.t e)) (d 5 rfl) c23 <| fun p33 h34 => se rfl ⟨_, rfl, h34⟩
     ·intro s x e f d u
      obtain ⟨p35, h36, h37⟩ := (d 6 rfl)
      exact lp rfl (qW Tryz.isAgg58 Tryz.sizeOf58 rfl h36 h37) <| se rfl rfl
     ·exact fun s x e f d u => lp rfl (X_neA Eqg.t58 (Eqs.t58 (gt a0 x5_2) (gt a1 x5_2)) (d 3 rfl) (d 7 rfl)) <| se rfl rfl
     intro s38 w39 e40 hf41 ha42
     have K43 := Kp.ofD (kp := [(17, 26)]) rfl hf41
     have d44 : s38 25 = (.bool (!decide ((gt a0 x5_2) = (gt a1 x5_2)))) := ha42 8 rfl
     clear ha42 hf41
     refine qe ?_
     rcases qd H with ⟨q45, H⟩ | ⟨q45, H⟩
     ·refine qk (d44.trans (cb q45)) <| wr <| lp rfl (xa (.bool false) rfl) <| nx <| qn <| vv <| qw <| qw <| vv <| qw <| qw <| qt ?_
      obtain rfl := si H
      obtain rfl := si S18
      have H := C5
      obtain rfl := si H
      exact vh rfl (e14.t e40)
     ·refine qi (d44.trans (cb q45)) <| qo <| vk <| qe <| qG <| lp rfl (xm (.int .i64 x5_2) ((K43 5 rfl).trans h16)) <| lp rfl (vi rfl rfl) <| lp rfl (xa (.int .i64 (IntKind.wrap .i64 (x5_2 + 1))) rfl) <| nx ?_
      obtain rfl := si H
      exact ⟨_, Nat.lt_succ_self _, IntKind.wrap .i64 (x5_2 + 1), (ku3 (Kp.cut (ku4 K13 rfl) K43 rfl) rfl), rfl, (e14.t e40), S18⟩
    ·refine qi (cb q19) <| vH <| qY <| qY <| yF <| qe ?_
     obtain rfl := si H
     obtain rfl := si S18
     exact ⟨(ku4 K13 rfl), e14, rfl⟩
  ·rintro s7 w6 ⟨K8, e9, y46⟩
   rw [y46] at C5
   have H := C5
   replace H : _ = some _ := H
   refine qe <| wr <| lp rfl (xa (.bool true) rfl) <| nx <| qn <| qt ?_
   obtain rfl := si H
   exact vh rfl e9
/-! laws.sameNodes -/
theorem yw.calls {w : World} {a0 : List Nd} {a1 : List Nd} {v_a0 : Value} (f_a0 : Rd 4 qr w v_a0 a0) {v_a1 : Value} (f_a1 : Rd 4 qr w v_a1 a1) (h0 : a0.length ≤ 4611686018427387904) :
  Calls Tryz.prog 22 #[v_a0, v_a1] w (Rt (RP w (.bool (decide (a0 = a1))))) := by
 obtain ⟨k, H⟩ := yw.eq a0 a1 h0
 generalize (decide (a0 = a1)) = r at H ⊢
 unfold yw.sh at H
 refine qh Tryz.func22 rfl (Nat.le_of_ble_eq_true rfl) Tryz.ntmps22 rfl ?_
 refine wr <| lp rfl (xa (.bool false) rfl) <| nx <| qj <| wr <| lp rfl (xm v_a0 rfl) <| lp rfl (qO Tryz.underlying29 rfl f_a0) <| lp rfl (xm v_a1 rfl) <| lp rfl (qO Tryz.underlying29 rfl f_a1) <| lp rfl (j6 rfl rfl) <| nx ?_
 rcases qd H with ⟨q1, H⟩ | ⟨q1, H⟩
 ·refine qk (cb q1) <| wr <| lp rfl (xa (.bool false) rfl) <| nx <| qn <| qw <| qt ?_
  obtain rfl := si H
  exact vh rfl er
 ·refine qi (cb q1) <| qo <| qe <| qj <| wr <| lp rfl (xa (.int .i64 0) rfl) <| nx ?_
  obtain ⟨z3, L4, C5⟩ := bind_some H
  clear H
  refine  vD (fun s0 sQ wQ => Kp [(4, 6), (11, 26)] s0 sQ ∧ Ext w wQ ∧ z3 = .inr ()) ?_ ?_
  ·refine qB <| vo (fun s0 kk sQ wQ => ∃ (x5_2 : Int), Kp [(4, 6), (11, 26)] s0 sQ ∧ sQ 5 = .int .i64 x5_2 ∧ Ext w wQ ∧ qp (yw.b1 a0 a1) kk x5_2 = some z3) k ⟨0, kz, rfl, er, L4⟩ ?_
   rintro k10 s11 w12 ⟨x5_2, K13, h16, e14, L15⟩
   cases k10 with
   | zero => exact absurd L15 (by simp [qp])
   | succ k10 =>
    obtain ⟨t17, H, S18⟩ := qK L15
    clear L15
    unfold yw.b1 at H
    refine qj <| wr <| lp rfl (qf h16) <| lp rfl (xm v_a0 (K13 0 rfl)) <| lp rfl (qO Tryz.underlying29 rfl (Rd.ext f_a0 e14)) <| lp rfl (yl rfl rfl) <| nx ?_
    rcases qd H with ⟨q19, H⟩ | ⟨q19, H⟩
    ·refine qk (cb q19) <| qo <| qe <| qj <| qB <| qj ?_
     obtain ⟨c20, H⟩ := qa H
     obtain ⟨c23, H⟩ := qa H
     refine Yp [LEq v_a0, LEq (.int .i64 x5_2), yu (qr (gt a0 x5_2)), LEq (.agg (qr (gt a0 x5_2)).toArray), LEq v_a1, LEq (.int .i64 x5_2), yu (qr (gt a1 x5_2)), LEq (.agg (qr (gt a1 x5_2)).toArray), LEq (.bool (!decide ((gt a0 x5_2) = (gt a1 x5_2))))] (by kernel_rfl) (by kernel_rfl) ⟨qm, qm, yu.mono, qm, qm, qm, yu.mono, qm, qm, trivial⟩ ⟨?_, ?_, ?_, ?_, ?_, ?_, ?_, ?_, ?_, trivial⟩ ?_
     ·exact fun s x e f d u => lp rfl (xm v_a0 ((f 0 rfl).trans (K13 0 rfl))) <| se rfl rfl
     ·exact fun s x e f d u => lp rfl (xm (.int .i64 x5_2) ((f 5 rfl).trans h16)) <| se rfl rfl
     ·exact fun s x e f d u => q4 (.plain rfl) rfl (ltb rfl) rfl Tryz.underlying29 Tryz.sizeOf60 (d 0 rfl) (Rd.ext f_a0 (e14.t e)) (d 1 rfl) c20 <| fun p27 h28 => se rfl ⟨_, rfl, h28⟩
     ·intro s x e f d u
      obtain ⟨p29, h30, h31⟩ := (d 2 rfl)
      exact lp rfl (qW Tryz.isAgg60 Tryz.sizeOf60 rfl h30 h31) <| se rfl rfl
     ·exact fun s x e f d u => lp rfl (xm v_a1 ((f 1 rfl).trans (K13 1 rfl))) <| se rfl rfl
     ·exact fun s x e f d u => lp rfl (xm (.int .i64 x5_2) ((f 5 rfl).trans h16)) <| se rfl rfl
     ·exact fun s x e f d u => q4 (.plain rfl) rfl (ltb rfl) rfl Tryz.underlying29 Tryz.sizeOf60 (d 4 rfl) (Rd.ext f_a1 (e14.t e)) (d 5 rfl) c23 <| fun p33 h34 => se rfl ⟨_, rfl, h34⟩
     ·intro s x e f d u
      obtain ⟨p35, h36, h37⟩ := (d 6 rfl)
      exact lp rfl (qW Tryz.isAgg60 Tryz.sizeOf60 rfl h36 h37) <| se rfl rfl
     ·exact fun s x e f d u => lp rfl (X_neA Eqg.t60 (Eqs.t60 (gt a0 x5_2) (gt a1 x5_2)) (d 3 rfl) (d 7 rfl)) <| se rfl rfl
     intro s38 w39 e40 hf41 ha42
     have K43 := Kp.ofD (kp := [(17, 26)]) rfl hf41
     have d44 : s38 25 = (.bool (!decide ((gt a0 x5_2) = (gt a1 x5_2)))) := ha42 8 rfl
     clear ha42 hf41
     refine qe ?_
     rcases qd H with ⟨q45, H⟩ | ⟨q45, H⟩
     ·refine qk (d44.trans (cb q45)) <| wr <| lp rfl (xa (.bool false) rfl) <| nx <| qn <| vv <| qw <| qw <| vv <| qw <| qw <| qt ?_
      obtain rfl := si H
      obtain rfl := si S18
      have H := C5
      obtain rfl := si H
      exact vh rfl (e14.t e40)
     ·refine qi (d44.trans (cb q45)) <| qo <| vk <| qe <| qG <| lp rfl (xm (.int .i64 x5_2) ((K43 5 rfl).trans h16)) <| lp rfl (vi rfl rfl) <| lp rfl (xa (.int .i64 (IntKind.wrap .i64 (x5_2 + 1))) rfl) <| nx ?_
      obtain rfl := si H
      exact ⟨_, Nat.lt_succ_self _, IntKind.wrap .i64 (x5_2 + 1), (ku3 (Kp.cut (ku4 K13 rfl) K43 rfl) rfl), rfl, (e14.t e40), S18⟩
    ·refine qi (cb q19) <| vH <| qY <| qY <| yF <| qe ?_
     obtain rfl := si H
     obtain rfl := si S18
     exact ⟨(ku4 K13 rfl), e14, rfl⟩
  ·rintro s7 w6 ⟨K8, e9, y46⟩
   rw [y46] at C5
   have H := C5
   replace H : _ = some _ := H
   refine qe <| wr <| lp rfl (xa (.bool true) rfl) <| nx <| qn <| qt ?_
   obtain rfl := si H
   exact vh rfl e9
/-! spec.l03Put, by text -/

/-! spec.l03Put, at any depth -/
abbrev qI.e1 (a1 : Rec) (x0_13 : List Rec) (x9_50 : Int) := ((!decide (((gt x0_13 x9_50).path) = a1.path)) && (!(decide (a1.kind = 3))))
abbrev qI.e2 (a1 : Rec) (x0_13 : List Rec) (x9_50 : Int) := ((decide (a1.path = []) && !decide (((gt x0_13 x9_50).path) = [])) || vu ((gt x0_13 x9_50).path) a1.path)
theorem qI.walk {n : Nat} (ih : ∀ {w : World} {a0 : List Rec} {a1 : Rec} {v_a0 : Value} (f_a0 : Rd 5 qg w v_a0 a0) (h0 : putQ n a0 a1 = true), Calls Tryz.prog 202 #[v_a0, .agg (qg a1).toArray] w (Rt (RO 58 5 qg w (putG n a0 a1)))) {k : Nat} {w : World} {a0 : List Rec} {a1 : Rec} {v_a0 : Value} (f_a0 : Rd 5 qg w v_a0 a0) {r : List Rec} (H : qI.sh n k a0 a1 = some r) :
  Calls Tryz.prog 202 #[v_a0, .agg (qg a1).toArray] w (Rt (RO 58 5 qg w r)) := by
 unfold qI.sh at H
 refine qh Tryz.func202 rfl (Nat.le_of_ble_eq_true rfl) Tryz.ntmps202 rfl ?_
 refine wr <| j0 (.plain rfl) rfl (ltb rfl) rfl rfl <| fun b1 w2 z3 z4 e5 k6 => lp rfl (xa (.slice none 0 0) rfl) <| nx <| qj <| wr <| lp rfl (qb Tryz.underlying58 rfl Tryz.sizeOf9 rfl rfl) <| lp rfl (qz Tryz.isAgg9 k6 rfl rfl) ?_
 obtain ⟨c7, H⟩ := qa H
 refine lc rfl rfl Tryz.call161 (vn.calls (w := w2) (a0 := a1.path) (od c7)) rfl <| fun w8 e9 => lp rfl (xa (S (qc a1.path)) rfl) <| nx <| wr <| lp rfl (xm (S (qc a1.path)) rfl) <| lp rfl (VK rfl rfl) <| nx ?_
 obtain ⟨z10, L11, C12⟩ := bind_some H
 clear H
 refine vD (fun s0 sQ wQ => ∃ (x0_13 : List Rec) (v14 : Value), Kp [(0, 1), (6, 7), (15, 32)] s0 sQ ∧ sQ 0 = v14 ∧ Rd 5 qg wQ v14 x0_13 ∧ Ext w8 wQ ∧ z10 = .inr x0_13) ?_ ?_
 ·have H := L11
  rcases qd H with ⟨q15, H⟩ | ⟨q15, H⟩
  ·refine qk (cb q15) <| wr <| lp rfl (xm v_a0 rfl) <| lp rfl (xm (S (qc a1.path)) rfl) ?_
   obtain ⟨c16, H⟩ := qa H
   refine lc rfl rfl Tryz.call145 (y4.calls (w := w8) (a0 := a0) (a1 := (qc a1.path)) (Rd.ext f_a0 (e5.t e9)) (od c16)) rfl <| fun w17 e18 => lp rfl (xa (.int .i64 (qD a0 (qc a1.path))) rfl) <| nx <| wr <| lp rfl (xm (.int .i64 (qD a0 (qc a1.path))) rfl) <| lp rfl (yl rfl rfl) <| lp rfl (xm (.bool (decide ((qD a0 (qc a1.path)) < 0))) rfl) ?_
   obtain ⟨z20, x21, H⟩ := bind_some H
   refine yk 7 [(21, 28)] 27 (fun q => q = z20) ?_ ?_
   ·rcases qd x21 with ⟨b18_, H⟩ | ⟨b18_, H⟩
    ·refine ls rfl rfl rfl (cb b18_) rfl <| ls rfl rfl rfl (cb b18_) rfl <| ls rfl rfl rfl (cb b18_) rfl <| ls rfl rfl rfl (cb b18_) rfl <| ls rfl rfl rfl (cb b18_) rfl <| ls rfl rfl rfl (cb b18_) rfl <| lp rfl (qu (b := true) (v := (.bool true)) (cb b18_) rfl) ?_
     obtain rfl := si H
     exact nx ⟨(ku3 (ku4 kz rfl) rfl), ⟨_, rfl, rfl⟩, er⟩
    ·refine lg rfl rfl rfl rfl (cb b18_) (xm v_a0 rfl) <| lg rfl rfl rfl rfl (cb b18_) (xm (.int .i64 (qD a0 (qc a1.path))) rfl) ?_
     obtain ⟨c20, H⟩ := qa H
     refine q4 (tg rfl rfl rfl (cb b18_)) rfl (ltb rfl) rfl Tryz.underlying35 Tryz.sizeOf58 rfl (Rd.ext f_a0 ((e5.t e9).t e18)) rfl c20 <| fun p21 h22 => lg rfl rfl rfl rfl (cb b18_) (qb Tryz.underlying58 rfl Tryz.sizeOf3 rfl rfl) <| lg rfl rfl rfl rfl (cb b18_) (vT Tryz.isAgg3 (j := 0) h22 rfl rfl) <| lg rfl rfl rfl rfl (cb b18_) (j6 rfl rfl) <| lp rfl (qu (b := false) (v := (.bool (!decide (((gt a0 (qD a0 (qc a1.path))).kind) = 3)))) (cb b18_) rfl) ?_
     obtain rfl := si H
     exact nx ⟨(ku3 (ku4 kz rfl) rfl), ⟨_, rfl, rfl⟩, er⟩
   intro s26 w22 z27 K23 hq h24 e25
   rw [hq] at h24; clear hq
   refine nx ?_
   rcases qd H with ⟨q28, H⟩ | ⟨q28, H⟩
   ·refine qk (h24.trans (cb q28)) <| qG <| lp rfl (xm v_a0 (K23 0 rfl)) <| lp rfl (xm (S (qc a1.path)) (K23 5 rfl)) <| lp rfl (Q0 (vs := [(0, (.int .i64 3)), (1, (S (qc a1.path))), (3, (.int .i64 493))]) (pl := #[(0, 1), (1, 1), (2, 1), (3, 1), (4, 1)]) Tryz.underlying58 Tryz.zeroValue58 rfl (fun _ => by kernel_rfl) rfl rfl rfl) ?_
    obtain ⟨c29, H⟩ := qa H
    refine vp (.plain rfl) rfl (ltb rfl) rfl Tryz.call202 (ih (w := w22) (a0 := a0) (a1 := (⟨3, (qc a1.path), ([] : List UInt8), 493, false⟩ : Rec)) (Rd.ext f_a0 (((e5.t e9).t e18).t e25)) (od c29)) rfl <| fun v32 w30 e31 o33 => lp rfl (xa v32 rfl) <| nx ?_
    obtain rfl := si H
    exact ⟨(putG n a0 (⟨3, (qc a1.path), ([] : List UInt8), 493, false⟩ : Rec)), v32, (ku1 (ku4 (Kp.cut (ku3 (ku4 kz rfl) rfl) K23 rfl) rfl) rfl), rfl, (Ow.rd o33), ((e18.t e25).t e31), rfl⟩
   ·refine qi (h24.trans (cb q28)) <| qo <| qe ?_
    obtain rfl := si H
    exact ⟨a0, v_a0, (Kp.cut (ku3 (ku4 kz rfl) rfl) K23 rfl), (K23 0 rfl), (Rd.ext f_a0 (((e5.t e9).t e18).t e25)), (e18.t e25), rfl⟩
  ·refine qi (cb q15) <| qo <| qe ?_
   obtain rfl := si H
   exact ⟨a0, v_a0, kz, rfl, (Rd.ext f_a0 (e5.t e9)), er, rfl⟩
 ·rintro s35 w34 ⟨x0_13, v14, K36, h39, h40, e37, y38⟩
  rw [y38] at C12
  have H := C12
  refine qe <| wr <| vO (.plain rfl) rfl (ltb rfl) rfl Tryz.underlying35 Tryz.sizeOf58 Tryz.zeroValue58 rfl rfl rfl (vs := []) rfl (qR rfl) <| fun b41 w42 z43 z44 e45 k46 => lp rfl (xa (.slice (some ⟨b41, 0, none⟩) 0 0) rfl) <| nx <| wr <| lp rfl (xa (.bool false) rfl) <| nx <| qj <| wr <| lp rfl (xa (.int .i64 0) rfl) <| nx ?_
  obtain ⟨z51, L52, C53⟩ := bind_some H
  clear H
  refine  vD (fun s0 sQ wQ => ∃ (x7_54 : List Rec) (v55 : Value) (x8_56 : Bool), Kp [(7, 10), (33, 86)] s0 sQ ∧ sQ 7 = v55 ∧ Ow 58 5 qg w42.heap.size wQ v55 x7_54 ∧ sQ 8 = .bool x8_56 ∧ Ext w42 wQ ∧ z51 = .inr (x7_54, x8_56)) ?_ ?_
  ·refine qB <| vo (fun s0 kk sQ wQ => ∃ (x7_47 : List Rec) (v48 : Value) (x8_49 : Bool) (x9_50 : Int), Kp [(7, 10), (33, 86)] s0 sQ ∧ sQ 7 = v48 ∧ Ow 58 5 qg w42.heap.size wQ v48 x7_47 ∧ sQ 8 = .bool x8_49 ∧ sQ 9 = .int .i64 x9_50 ∧ Ext w42 wQ ∧ qp (qI.b1 a1 x0_13) kk (x7_47, x8_49, x9_50) = some z51) k ⟨([] : List Rec), (.slice (some ⟨b41, 0, none⟩) 0 0), false, 0, kz, rfl, (Ow.zero), rfl, rfl, er, L52⟩ ?_
   rintro k61 s62 w63 ⟨x7_47, v48, x8_49, x9_50, K64, h67, h68, h69, h70, e65, L66⟩
   cases k61 with
   | zero => exact absurd L66 (by simp [qp])
   | succ k61 =>
    obtain ⟨t71, H, S72⟩ := qK L66
    clear L66
    unfold qI.b1 at H
    refine qj <| wr <| lp rfl (qf h70) <| lp rfl (xm v14 ((K64 0 rfl).trans h39)) <| lp rfl (qO Tryz.underlying35 rfl (Rd.ext h40 (e45.t e65))) <| lp rfl (yl rfl rfl) <| nx ?_
    rcases qd H with ⟨q73, H⟩ | ⟨q73, H⟩
    ·refine qk (cb q73) <| qo <| qe <| qj <| qB <| qj <| qj ?_
     obtain ⟨c74, H⟩ := qa H
     obtain ⟨c77, H⟩ := qa H
     obtain ⟨c78, H⟩ := qa H
     refine Yp [LEq (.bool x8_49), LEq (.bool (!x8_49)), LEq (.bool (!x8_49)), LIf (!x8_49) (LEq (.pointer (some ⟨b1, 1, none⟩))), LIf (!x8_49) (LEq (S a1.path)), LIf (!x8_49) (LEq v14), LIf (!x8_49) (LEq (.int .i64 x9_50)), LIf (!x8_49) (yu (qg (gt x0_13 x9_50))), LIf (!x8_49) (LAt 1 (qg (gt x0_13 x9_50))), LIf (!x8_49) (LEq (S ((gt x0_13 x9_50).path))), LIf (!x8_49) (LEq (.bool (vw (cut 47 a1.path) (cut 47 ((gt x0_13 x9_50).path))))), LEq (.bool ((!x8_49) && (vw (cut 47 a1.path) (cut 47 ((gt x0_13 x9_50).path)))))] (by kernel_rfl) (by kernel_rfl) ⟨qm, qm, qm, lm, lm, lm, lm, (LIf.mono yu.mono), (LIf.mono LAt.mono), lm, lm, qm, trivial⟩ ⟨?_, ?_, ?_, ?_, ?_, ?_, ?_, ?_, ?_, ?_, ?_, ?_, trivial⟩ ?_
     ·exact fun s x e f d u => lp rfl (xm (.bool x8_49) ((f 8 rfl).trans h69)) <| se rfl rfl
     ·exact fun s x e f d u => lp rfl (yM (d 0 rfl)) <| se rfl rfl
     ·exact fun s x e f d u => lp rfl (qf (d 1 rfl)) <| se rfl rfl
     ·exact fun s x e f d u => gT rfl rfl rfl rfl (d 2 rfl) rfl fun b t => lt t rfl rfl (qb Tryz.underlying58 rfl Tryz.sizeOf9 rfl ((f 3 rfl).trans ((K64 3 rfl).trans (K36 3 rfl)))) <| sg rfl rfl b rfl
     ·exact fun s x e f d u => gT rfl rfl rfl rfl (d 2 rfl) rfl fun b t => lt t rfl rfl (qz Tryz.isAgg9 (Blk.ext k6 ((((e9.t e37).t e45).t e65).t e)) ((d 3 rfl).1 b) rfl) <| sg rfl rfl b rfl
     ·exact fun s x e f d u => gT rfl rfl rfl rfl (d 2 rfl) rfl fun b t => lt t rfl rfl (xm v14 ((f 0 rfl).trans ((K64 0 rfl).trans h39))) <| sg rfl rfl b rfl
     ·exact fun s x e f d u => gT rfl rfl rfl rfl (d 2 rfl) rfl fun b t => lt t rfl rfl (xm (.int .i64 x9_50) ((f 9 rfl).trans h70)) <| sg rfl rfl b rfl
     ·exact fun s x e f d u => gT rfl rfl rfl rfl (d 2 rfl) rfl fun b t => q4 t rfl (ltb rfl) rfl Tryz.underlying35 Tryz.sizeOf58 ((d 5 rfl).1 b) (Rd.ext h40 ((e45.t e65).t e)) ((d 6 rfl).1 b) (vE b c74) <| fun p82 h83 => sg rfl rfl b ⟨_, rfl, h83⟩
     ·intro s x e f d u
      refine gT rfl rfl rfl rfl (d 2 rfl) rfl fun b t => ?_
      obtain ⟨p84, h85, h86⟩ := ((d 7 rfl).1 b)
      exact lt t rfl rfl (qb Tryz.underlying58 rfl Tryz.sizeOf9 rfl h85) <| sg rfl rfl b ⟨_, rfl, h86⟩
     ·intro s x e f d u
      refine gT rfl rfl rfl rfl (d 2 rfl) rfl fun b t => ?_
      obtain ⟨p87, h88, h89⟩ := ((d 8 rfl).1 b)
      exact lt t rfl rfl (vT Tryz.isAgg9 (j := 1) h89 h88 rfl) <| sg rfl rfl b rfl
     ·exact fun s x e f d u => gT rfl rfl rfl rfl (d 2 rfl) rfl fun b t => vy t rfl (ltb rfl) rfl Tryz.call205 (vK.calls (w := x) (a0 := a1.path) (a1 := (gt x0_13 x9_50).path) (od (vE b c77)) (od (vE b c78))) (vc ((d 4 rfl).1 b) (vc ((d 9 rfl).1 b) rfl)) <| fun w92 e93 => sgx rfl rfl b e93 rfl
     ·exact fun s x e f d u => lp rfl (Qh (d 2 rfl) rfl fun h => ((d 10 rfl).1 h)) <| se rfl rfl
     intro s94 w95 e96 hf97 ha98
     have K99 := Kp.ofD (kp := [(39, 51)]) rfl hf97
     have d100 : s94 50 = (.bool ((!x8_49) && (vw (cut 47 a1.path) (cut 47 ((gt x0_13 x9_50).path))))) := ha98 11 rfl
     clear ha98 hf97
     refine qe ?_
     obtain ⟨z101, L102, C103⟩ := bind_some H
     clear H
     refine vD (fun s0 sQ wQ => ∃ (x7_104 : List Rec) (v105 : Value) (x8_106 : Bool), Kp [(7, 9), (51, 55)] s0 sQ ∧ sQ 7 = v105 ∧ Ow 58 5 qg w42.heap.size wQ v105 x7_104 ∧ sQ 8 = .bool x8_106 ∧ Ext w42 wQ ∧ z101 = .inr (x7_104, x8_106)) ?_ ?_
     ·have H := L102
      rcases qd H with ⟨q107, H⟩ | ⟨q107, H⟩
      ·refine qk (d100.trans (cb q107)) <| wr <| lp rfl (xm v48 ((K99 7 rfl).trans h67)) <| lp rfl (qW Tryz.isAgg58 Tryz.sizeOf58 rfl ((K99 3 rfl).trans ((K64 3 rfl).trans (K36 3 rfl))) (Blk.at0 (Blk.ext k6 ((((e9.t e37).t e45).t e65).t e96)))) <| vO (.plain rfl) rfl (ltb rfl) rfl Tryz.underlying35 Tryz.sizeOf58 Tryz.zeroValue58 rfl rfl rfl (vs := [(.agg #[(.int .i64 a1.kind), (S a1.path), (S a1.body), (.int .i64 a1.mode), (.bool a1.opq)])]) rfl (qR rfl) <| fun b108 w109 z110 z111 e112 k113 => ?_
       obtain ⟨c114, H⟩ := qa H
       refine vW (enc := qg) (.plain rfl) rfl (ltb rfl) rfl El.t35 rfl rfl (Ow.ext h68 (e96.t e112)) (Ow.rd (Ow.new (xs := [a1]) (sz := 5) (enc := qg) (base := w95.heap.size) k113 (Nat.le_of_eq z110) rfl (fun _ _ => by rfl) (Nat.le_of_ble_eq_true rfl))) (Qo _) (od c114) (((e65.t e96).t e112)).size <| fun v115 w116 o117 z118 g119 => lp rfl (xa v115 rfl) <| nx <| qG <| lp rfl (xa (.bool true) rfl) <| nx ?_
       obtain rfl := si H
       exact ⟨x7_47 ++ ([a1] : List Rec), v115, true, (ku2 (ku4 kz rfl) rfl), rfl, o117, rfl, (g119 _ ((e65.t e96).t e112)), rfl⟩
      ·refine qi (d100.trans (cb q107)) <| qo <| qe ?_
       obtain rfl := si H
       exact ⟨x7_47, v48, x8_49, kz, ((K99 7 rfl).trans h67), (Ow.ext h68 e96), ((K99 8 rfl).trans h69), (e65.t e96), rfl⟩
     ·rintro s121 w120 ⟨x7_104, v105, x8_106, K122, h125, h126, h127, e123, y124⟩
      rw [y124] at C103
      have H := C103
      refine qe <| qj ?_
      obtain ⟨c128, H⟩ := qa H
      obtain ⟨c131, H⟩ := qa H
      refine Yp [LEq v14, LEq (.int .i64 x9_50), yu (qg (gt x0_13 x9_50)), LAt 1 (qg (gt x0_13 x9_50)), LEq (S ((gt x0_13 x9_50).path)), LEq (.pointer (some ⟨b1, 1, none⟩)), LEq (S a1.path), LEq (.bool (!decide (((gt x0_13 x9_50).path) = a1.path))), LEq (.bool (!decide (((gt x0_13 x9_50).path) = a1.path))), LIf (!decide (((gt x0_13 x9_50).path) = a1.path)) (LEq (.pointer (some ⟨b1, 0, none⟩))), LIf (!decide (((gt x0_13 x9_50).path) = a1.path)) (LEq (.int .i64 a1.kind)), LIf (!decide (((gt x0_13 x9_50).path) = a1.path)) (LEq (.bool (decide (a1.kind = 3)))), LIf (!decide (((gt x0_13 x9_50).path) = a1.path)) (LEq (.bool (decide (a1.kind = 3)))), LIf (qI.e1 a1 x0_13 x9_50) (LEq v14), LIf (qI.e1 a1 x0_13 x9_50) (LEq (.int .i64 x9_50)), LIf (qI.e1 a1 x0_13 x9_50) (yu (qg (gt x0_13 x9_50))), LIf (qI.e1 a1 x0_13 x9_50) (LAt 1 (qg (gt x0_13 x9_50))), LIf (qI.e1 a1 x0_13 x9_50) (LEq (S ((gt x0_13 x9_50).path))), LIf (qI.e1 a1 x0_13 x9_50) (LEq (.pointer (some ⟨b1, 1, none⟩))), LIf (qI.e1 a1 x0_13 x9_50) (LEq (S a1.path)), LIf (qI.e1 a1 x0_13 x9_50) (LEq (.bool (qI.e2 a1 x0_13 x9_50))), LIf (qI.e1 a1 x0_13 x9_50) (LEq (.bool (!(qI.e2 a1 x0_13 x9_50)))), LIf (!decide (((gt x0_13 x9_50).path) = a1.path)) (LEq (.bool ((decide (a1.kind = 3)) || (!(qI.e2 a1 x0_13 x9_50))))), LEq (.bool ((!decide (((gt x0_13 x9_50).path) = a1.path)) && ((decide (a1.kind = 3)) || (!(qI.e2 a1 x0_13 x9_50)))))] (by kernel_rfl) (by kernel_rfl) ⟨qm, qm, yu.mono, LAt.mono, qm, qm, qm, qm, qm, lm, lm, lm, lm, lm, lm, (LIf.mono yu.mono), (LIf.mono LAt.mono), lm, lm, lm, lm, lm, lm, qm, trivial⟩ ⟨?_, ?_, ?_, ?_, ?_, ?_, ?_, ?_, ?_, ?_, ?_, ?_, ?_, ?_, ?_, ?_, ?_, ?_, ?_, ?_, ?_, ?_, ?_, ?_, trivial⟩ ?_
      ·exact fun s x e f d u => lp rfl (xm v14 ((f 0 rfl).trans ((K122 0 rfl).trans ((K99 0 rfl).trans ((K64 0 rfl).trans h39))))) <| se rfl rfl
      ·exact fun s x e f d u => lp rfl (xm (.int .i64 x9_50) ((f 9 rfl).trans ((K122 9 rfl).trans ((K99 9 rfl).trans h70)))) <| se rfl rfl
      ·exact fun s x e f d u => q4 (.plain rfl) rfl (ltb rfl) rfl Tryz.underlying35 Tryz.sizeOf58 (d 0 rfl) (Rd.ext h40 ((e45.t e123).t e)) (d 1 rfl) c128 <| fun p137 h138 => se rfl ⟨_, rfl, h138⟩
      ·intro s x e f d u
       obtain ⟨p139, h140, h141⟩ := (d 2 rfl)
       exact lp rfl (qb Tryz.underlying58 rfl Tryz.sizeOf9 rfl h140) <| se rfl ⟨_, rfl, h141⟩
      ·intro s x e f d u
       obtain ⟨p142, h143, h144⟩ := (d 3 rfl)
       exact lp rfl (vT Tryz.isAgg9 (j := 1) h144 h143 rfl) <| se rfl rfl
      ·exact fun s x e f d u => lp rfl (qb Tryz.underlying58 rfl Tryz.sizeOf9 rfl ((f 3 rfl).trans ((K122 3 rfl).trans ((K99 3 rfl).trans ((K64 3 rfl).trans (K36 3 rfl)))))) <| se rfl rfl
      ·exact fun s x e f d u => lp rfl (qz Tryz.isAgg9 (Blk.ext k6 ((((e9.t e37).t e45).t e123).t e)) (d 5 rfl) rfl) <| se rfl rfl
      ·exact fun s x e f d u => lp rfl (VK (d 4 rfl) (d 6 rfl)) <| se rfl rfl
      ·exact fun s x e f d u => lp rfl (qf (d 7 rfl)) <| se rfl rfl
      ·exact fun s x e f d u => gT rfl rfl rfl rfl (d 8 rfl) rfl fun b t => lt t rfl rfl (qb Tryz.underlying58 rfl Tryz.sizeOf3 rfl ((f 3 rfl).trans ((K122 3 rfl).trans ((K99 3 rfl).trans ((K64 3 rfl).trans (K36 3 rfl)))))) <| sg rfl rfl b rfl
      ·exact fun s x e f d u => gT rfl rfl rfl rfl (d 8 rfl) rfl fun b t => lt t rfl rfl (qz Tryz.isAgg3 (Blk.ext k6 ((((e9.t e37).t e45).t e123).t e)) ((d 9 rfl).1 b) rfl) <| sg rfl rfl b rfl
      ·exact fun s x e f d u => gT rfl rfl rfl rfl (d 8 rfl) rfl fun b t => lt t rfl rfl (yn ((d 10 rfl).1 b) rfl) <| sg rfl rfl b rfl
      ·exact fun s x e f d u => gT rfl rfl rfl rfl (d 8 rfl) rfl fun b t => lt t rfl rfl (xm (.bool (decide (a1.kind = 3))) ((d 11 rfl).1 b)) <| sg rfl rfl b rfl
      ·exact fun s x e f d u => hF rfl rfl rfl rfl (d 12 rfl) rfl fun b t => lt t rfl rfl (xm v14 ((f 0 rfl).trans ((K122 0 rfl).trans ((K99 0 rfl).trans ((K64 0 rfl).trans h39))))) <| sg rfl rfl b rfl
      ·exact fun s x e f d u => hF rfl rfl rfl rfl (d 12 rfl) rfl fun b t => lt t rfl rfl (xm (.int .i64 x9_50) ((f 9 rfl).trans ((K122 9 rfl).trans ((K99 9 rfl).trans h70)))) <| sg rfl rfl b rfl
      ·exact fun s x e f d u => hF rfl rfl rfl rfl (d 12 rfl) rfl fun b t => q4 t rfl (ltb rfl) rfl Tryz.underlying35 Tryz.sizeOf58 ((d 13 rfl).1 (qQ (y9 b) (qC (qX (ja b))))) (Rd.ext h40 ((e45.t e123).t e)) ((d 14 rfl).1 (qQ (y9 b) (qC (qX (ja b))))) (vE b c131) <| fun p146 h147 => sg rfl rfl b ⟨_, rfl, h147⟩
      ·intro s x e f d u
       refine hF rfl rfl rfl rfl (d 12 rfl) rfl fun b t => ?_
       obtain ⟨p148, h149, h150⟩ := ((d 15 rfl).1 (qQ (y9 b) (qC (qX (ja b)))))
       exact lt t rfl rfl (qb Tryz.underlying58 rfl Tryz.sizeOf9 rfl h149) <| sg rfl rfl b ⟨_, rfl, h150⟩
      ·intro s x e f d u
       refine hF rfl rfl rfl rfl (d 12 rfl) rfl fun b t => ?_
       obtain ⟨p151, h152, h153⟩ := ((d 16 rfl).1 (qQ (y9 b) (qC (qX (ja b)))))
       exact lt t rfl rfl (vT Tryz.isAgg9 (j := 1) h153 h152 rfl) <| sg rfl rfl b rfl
      ·exact fun s x e f d u => hF rfl rfl rfl rfl (d 12 rfl) rfl fun b t => lt t rfl rfl (qb Tryz.underlying58 rfl Tryz.sizeOf9 rfl ((f 3 rfl).trans ((K122 3 rfl).trans ((K99 3 rfl).trans ((K64 3 rfl).trans (K36 3 rfl)))))) <| sg rfl rfl b rfl
      ·exact fun s x e f d u => hF rfl rfl rfl rfl (d 12 rfl) rfl fun b t => lt t rfl rfl (qz Tryz.isAgg9 (Blk.ext k6 ((((e9.t e37).t e45).t e123).t e)) ((d 18 rfl).1 (qQ (y9 b) (qC (qX (ja b))))) rfl) <| sg rfl rfl b rfl
      ·exact fun s x e f d u => hF rfl rfl rfl rfl (d 12 rfl) rfl fun b t => vy t rfl (ltb rfl) rfl Tryz.call171 (j2.calls (w := x) (a0 := (gt x0_13 x9_50).path) (a1 := a1.path)) (vc ((d 17 rfl).1 (qQ (y9 b) (qC (qX (ja b))))) (vc ((d 19 rfl).1 (qQ (y9 b) (qC (qX (ja b))))) rfl)) <| fun w154 e155 => sgx rfl rfl b e155 rfl
      ·exact fun s x e f d u => hF rfl rfl rfl rfl (d 12 rfl) rfl fun b t => lt t rfl rfl (yM ((d 20 rfl).1 (qQ (y9 b) (qC (qX (ja b)))))) <| sg rfl rfl b rfl
      ·exact fun s x e f d u => gT rfl rfl rfl rfl (d 8 rfl) rfl fun b t => lt t rfl rfl (Vd ((d 12 rfl).1 b) rfl fun h => ((d 21 rfl).1 (qQ b (qC h)))) <| sg rfl rfl b rfl
      ·exact fun s x e f d u => lp rfl (Qh (d 8 rfl) rfl fun h => ((d 22 rfl).1 h)) <| se rfl rfl
      intro s156 w157 e158 hf159 ha160
      have K161 := Kp.ofD (kp := [(55, 79)]) rfl hf159
      have d162 : s156 78 = (.bool ((!decide (((gt x0_13 x9_50).path) = a1.path)) && ((decide (a1.kind = 3)) || (!(qI.e2 a1 x0_13 x9_50))))) := ha160 23 rfl
      clear ha160 hf159
      refine qe ?_
      rcases qd H with ⟨q163, H⟩ | ⟨q163, H⟩
      ·refine qk (d162.trans (cb q163)) <| qG <| lp rfl (xm v105 ((K161 7 rfl).trans h125)) <| lp rfl (xm v14 ((K161 0 rfl).trans ((K122 0 rfl).trans ((K99 0 rfl).trans ((K64 0 rfl).trans h39))))) <| lp rfl (xm (.int .i64 x9_50) ((K161 9 rfl).trans ((K122 9 rfl).trans ((K99 9 rfl).trans h70)))) ?_
       obtain ⟨c164, H⟩ := qa H
       refine q4 (.plain rfl) rfl (ltb rfl) rfl Tryz.underlying35 Tryz.sizeOf58 rfl (Rd.ext h40 ((e45.t e123).t e158)) rfl c164 <| fun p165 h166 => lp rfl (qW Tryz.isAgg58 Tryz.sizeOf58 rfl rfl h166) <| vO (.plain rfl) rfl (ltb rfl) rfl Tryz.underlying35 Tryz.sizeOf58 Tryz.zeroValue58 rfl rfl rfl (vs := [(.agg (qg (gt x0_13 x9_50)).toArray)]) rfl (qR rfl) <| fun b167 w168 z169 z170 e171 k172 => ?_
       obtain ⟨c173, H⟩ := qa H
       refine vW (enc := qg) (.plain rfl) rfl (ltb rfl) rfl El.t35 rfl rfl (Ow.ext h126 (e158.t e171)) (Ow.rd (Ow.new (xs := [gt x0_13 x9_50]) (sz := 5) (enc := qg) (base := w157.heap.size) k172 (Nat.le_of_eq z169) rfl (fun _ _ => by rfl) (Nat.le_of_ble_eq_true rfl))) (Qo _) (od c173) (((e123.t e158).t e171)).size <| fun v174 w175 o176 z177 g178 => lp rfl (xa v174 rfl) <| qJ <| vk <| qe <| qG <| lp rfl (xm (.int .i64 x9_50) ((K161 9 rfl).trans ((K122 9 rfl).trans ((K99 9 rfl).trans h70)))) <| lp rfl (vi rfl rfl) <| lp rfl (xa (.int .i64 (IntKind.wrap .i64 (x9_50 + 1))) rfl) <| nx ?_
       obtain rfl := si H
       exact ⟨_, Nat.lt_succ_self _, x7_104 ++ ([gt x0_13 x9_50] : List Rec), v174, x8_106, IntKind.wrap .i64 (x9_50 + 1), (ku3 (ku8 (Kp.cut (Kp.cut (Kp.cut (ku4 K64 rfl) K99 rfl) K122 rfl) K161 rfl) rfl) rfl), rfl, o176, ((K161 8 rfl).trans h127), rfl, (g178 _ ((e123.t e158).t e171)), S72⟩
      ·refine qi (d162.trans (cb q163)) <| qo <| vk <| qe <| qG <| lp rfl (xm (.int .i64 x9_50) ((K161 9 rfl).trans ((K122 9 rfl).trans ((K99 9 rfl).trans h70)))) <| lp rfl (vi rfl rfl) <| lp rfl (xa (.int .i64 (IntKind.wrap .i64 (x9_50 + 1))) rfl) <| nx ?_
       obtain rfl := si H
       exact ⟨_, Nat.lt_succ_self _, x7_104, v105, x8_106, IntKind.wrap .i64 (x9_50 + 1), (ku3 (Kp.cut (Kp.cut (Kp.cut (ku4 K64 rfl) K99 rfl) K122 rfl) K161 rfl) rfl), ((K161 7 rfl).trans h125), (Ow.ext h126 e158), ((K161 8 rfl).trans h127), rfl, (e123.t e158), S72⟩
    ·refine qi (cb q73) <| vH <| qY <| qY <| yF <| qe ?_
     obtain rfl := si H
     obtain rfl := si S72
     exact ⟨x7_47, v48, x8_49, (ku4 K64 rfl), h67, h68, h69, e65, rfl⟩
  ·rintro s58 w57 ⟨x7_54, v55, x8_56, K59, h179, h180, h181, e60, y182⟩
   rw [y182] at C53
   have H := C53
   replace H : _ = some _ := H
   refine qe <| qj <| wr <| lp rfl (qf h181) <| lp rfl (yM rfl) <| nx ?_
   rcases qd H with ⟨q183, H⟩ | ⟨q183, H⟩
   ·refine qk (cb q183) <| qG <| lp rfl (qf h179) <| lp rfl (qW Tryz.isAgg58 Tryz.sizeOf58 rfl ((K59 3 rfl).trans (K36 3 rfl)) (Blk.at0 (Blk.ext k6 (((e9.t e37).t e45).t e60)))) <| vO (.plain rfl) rfl (ltb rfl) rfl Tryz.underlying35 Tryz.sizeOf58 Tryz.zeroValue58 rfl rfl rfl (vs := [(.agg #[(.int .i64 a1.kind), (S a1.path), (S a1.body), (.int .i64 a1.mode), (.bool a1.opq)])]) rfl (qR rfl) <| fun b184 w185 z186 z187 e188 k189 => ?_
    obtain ⟨c190, H⟩ := qa H
    refine vW (enc := qg) (.plain rfl) rfl (ltb rfl) rfl El.t35 rfl rfl (Ow.ext h180 e188) (Ow.rd (Ow.new (xs := [a1]) (sz := 5) (enc := qg) (base := w57.heap.size) k189 (Nat.le_of_eq z186) rfl (fun _ _ => by rfl) (Nat.le_of_ble_eq_true rfl))) (Qo _) (od c190) ((e60.t e188)).size <| fun v191 w192 o193 z194 g195 => lp rfl (xa v191 rfl) <| nx <| wr <| lp rfl (xm v191 rfl) <| lp rfl (xa v191 rfl) <| nx <| qn <| qt ?_
    obtain rfl := si H
    exact Qi rfl ((((e5.t e9).t e37).t e45).t (g195 _ (e60.t e188))) o193 ((((e5.t e9).t e37).t e45)).size
   ·refine qi (cb q183) <| qo <| qe <| wr <| lp rfl (qf h179) <| lp rfl (xa v55 rfl) <| nx <| qn <| qt ?_
    obtain rfl := si H
    exact Qi rfl ((((e5.t e9).t e37).t e45).t e60) h180 ((((e5.t e9).t e37).t e45)).size

/-! spec.l03Put, by text -/
theorem Vw.all : ∀ (n : Nat) (hn : n ≤ 50) {w : World} {a0 : List Rec} {a1 : Rec} {v_a0 : Value} (f_a0 : Rd 5 qg w v_a0 a0) (h0 : putQ n a0 a1 = true), Calls Tryz.prog 202 #[v_a0, .agg (qg a1).toArray] w (Rt (RO 58 5 qg w (putG n a0 a1))) := by
  intro n
  induction n with
  | zero => intro hn w a0 a1 v f h; exact Bool.noConfusion h
  | succ n ih => intro hn w a0 a1 v f h; obtain ⟨k, H⟩ := qI.eq n (by omega) a0 a1 h; exact qI.walk (n := n) (fun f h => ih (by omega) f h) f H
theorem Vw.calls {w : World} {a0 : List Rec} {a1 : Rec} {v_a0 : Value} (f_a0 : Rd 5 qg w v_a0 a0) (h0 : VT 2 a0 a1 = true) : Calls Tryz.prog 202 #[v_a0, .agg (qg a1).toArray] w (Rt (RO 58 5 qg w (Qy 2 a0 a1))) := Vw.all 3 (by omega) f_a0 h0

/-! (*spec.l00Src).layer -/
theorem yo.walk {k : Nat} {w : World} {a0 : List Int} {a1 : DSrc} {wc : World} {cv : Value} {bs : Nat} (kc : Ext wc w) (fc : Rd 1 (Go.UL.encI .u8) wc cv a0) (hz : wc.heap.size ≤ bs) (ks : Blk w bs (vS cv a1).toArray 162) {r : List Rec × DSrc} (H : yo.sh k a0 a1 = some r) :
  Calls Tryz.prog 114 #[.pointer (some ⟨bs, 0, none⟩)] w (Rt (RSO 162 bs cv 58 5 qg w r.1 r.2)) := by
 unfold yo.sh at H
 refine qh Tryz.func114 rfl (Nat.le_of_ble_eq_true rfl) Tryz.ntmps114 rfl ?_
 refine wr <| lp rfl (xa (.slice none 0 0) rfl) <| nx <| wr <| vO (.plain rfl) rfl (ltb rfl) rfl Tryz.underlying35 Tryz.sizeOf58 Tryz.zeroValue58 rfl rfl rfl (vs := []) rfl (qR rfl) <| fun b1 w2 z3 z4 e5 k6 => lp rfl (xa (.slice (some ⟨b1, 0, none⟩) 0 0) rfl) <| nx <| qj <| wr <| lp rfl (xm (.pointer (some ⟨bs, 0, none⟩)) rfl) <| lp rfl (xm (.pointer (some ⟨bs, 0, none⟩)) rfl) ?_
 obtain ⟨z7, x8, H⟩ := bind_some H
 refine yX (.plain rfl) rfl (ltb rfl) rfl Tryz.call201 (jx.calls (w := w2) (a0 := a0) (a1 := a1) (a2 := 6) (Ext.trans kc e5) fc hz (Blk.ext ks e5) x8) rfl <| fun w11 g12 k13 => lp rfl (vi rfl rfl) ?_
 obtain ⟨z14, x15, H⟩ := bind_some H
 refine yX (.plain rfl) rfl (ltb rfl) rfl Tryz.call195 (vt.calls (w := w11) (a0 := a0) (a1 := z7.2) (a2 := IntKind.wrap .i64 (z7.1 + 3)) (Ext.gr (Ext.trans kc e5) g12 hz) fc hz k13 x15) rfl <| fun w18 g19 k20 => lp rfl (xa (.int .i64 z14.1) rfl) <| nx ?_
 obtain ⟨z25, L26, C27⟩ := bind_some H
 clear H
 refine  vD (fun s0 sQ wQ => ∃ (x3_28 : List Rec) (v29 : Value) (y30 : DSrc), Kp [(3, 6), (12, 26)] s0 sQ ∧ sQ 3 = v29 ∧ Ow 58 5 qg w18.heap.size wQ v29 x3_28 ∧ Blk wQ bs ((vS cv) y30).toArray 162 ∧ Gr bs (bs + 1) w18 wQ ∧ Ext wc wQ ∧ z25 = .inr (x3_28, y30)) ?_ ?_
 ·refine qB <| vo (fun s0 kk sQ wQ => ∃ (x3_21 : List Rec) (v22 : Value) (x4_23 : Int) (y24 : DSrc), Kp [(3, 6), (12, 26)] s0 sQ ∧ sQ 3 = v22 ∧ Ow 58 5 qg w18.heap.size wQ v22 x3_21 ∧ sQ 4 = .int .i64 x4_23 ∧ Blk wQ bs ((vS cv) y24).toArray 162 ∧ Gr bs (bs + 1) w18 wQ ∧ Ext wc wQ ∧ qp (yo.b1 a0) kk (x3_21, x4_23, y24) = some z25) k ⟨([] : List Rec), (.slice (some ⟨b1, 0, none⟩) 0 0), z14.1, z14.2, kz, rfl, (Ow.zero), rfl, k20, (Gr.refl _ _ _), (Ext.gr (Ext.gr (Ext.trans kc e5) g12 hz) g19 hz), L26⟩ ?_
  rintro k35 s36 w37 ⟨x3_21, v22, x4_23, y24, K38, h41, h42, h43, h44, e39, e39c, L40⟩
  cases k35 with
  | zero => exact absurd L40 (by simp [qp])
  | succ k35 =>
   obtain ⟨t45, H, S46⟩ := qK L40
   clear L40
   unfold yo.b1 at H
   refine qj <| wr <| lp rfl (qf h43) <| lp rfl (jJ rfl rfl) <| nx ?_
   rcases qd H with ⟨q47, H⟩ | ⟨q47, H⟩
   ·refine qk (cb q47) <| qo <| qe <| qj <| qB <| wr <| lp rfl (qf h41) <| lp rfl (xm (.pointer (some ⟨bs, 0, none⟩)) (K38 0 rfl)) <| lp rfl (xm (.pointer (some ⟨bs, 0, none⟩)) (K38 0 rfl)) ?_
    obtain ⟨z48, x49, H⟩ := bind_some H
    refine yX (.plain rfl) rfl (ltb rfl) rfl Tryz.call148 (yx.calls (w := w37) (a0 := a0) (a1 := y24) e39c fc hz h44 x49) rfl <| fun w52 g53 k54 => ?_
    obtain ⟨z55, x56, H⟩ := bind_some H
    refine yX (.plain rfl) rfl (ltb rfl) rfl Tryz.call153 (yv.calls (w := w52) (a0 := a0) (a1 := z48.2) (a2 := z48.1) (Ext.gr e39c g53 hz) fc hz k54 x56) rfl <| fun w59 g60 k61 => ?_
    obtain ⟨c62, H⟩ := qa H
    refine vp (.plain rfl) rfl (ltb rfl) rfl Tryz.call202 (Vw.calls (w := w59) (a0 := x3_21) (a1 := z55.1) (Ow.rd (Ow.later (Ow.later h42 g53 (Nat.le_trans (Blk.lt ks) ((Gr.trans (Gr.trans (Gr.ext e5) g12) g19)).size)) g60 (Nat.le_trans (Blk.lt ks) ((Gr.trans (Gr.trans (Gr.ext e5) g12) g19)).size))) (od c62)) rfl <| fun v65 w63 e64 o66 => lp rfl (xa v65 rfl) <| nx <| wr <| lp rfl (xm v65 rfl) <| lp rfl (qO Tryz.underlying35 rfl (Ow.rd o66)) <| lp rfl (Y4 rfl rfl) <| nx ?_
    rcases qd H with ⟨q67, H⟩ | ⟨q67, H⟩
    ·refine qk (cb q67) <| qG <| lp rfl (xm v65 rfl) <| lp rfl (xa v65 rfl) <| qJ <| vk <| qe <| qG <| lp rfl (qf h43) <| lp rfl (VA rfl rfl) <| lp rfl (xa (.int .i64 (IntKind.wrap .i64 (x4_23 - 1))) rfl) <| nx ?_
     obtain rfl := si H
     exact ⟨_, Nat.lt_succ_self _, (Qy 2 x3_21 z55.1), v65, IntKind.wrap .i64 (x4_23 - 1), z55.2, (ku1 (ku8 (ku8 K38 rfl) rfl) rfl), rfl, (Ow.base o66 ((Gr.trans (Gr.trans e39 g53) g60)).size), rfl, (Blk.ext k61 e64), (Gr.trans (Gr.trans (Gr.trans e39 g53) g60) (Gr.ext e64)), (Ext.trans (Ext.gr (Ext.gr e39c g53 hz) g60 hz) e64), S46⟩
    ·refine qi (cb q67) <| qo <| vk <| qe <| qG <| lp rfl (qf h43) <| lp rfl (VA rfl rfl) <| lp rfl (xa (.int .i64 (IntKind.wrap .i64 (x4_23 - 1))) rfl) <| nx ?_
     obtain rfl := si H
     exact ⟨_, Nat.lt_succ_self _, x3_21, v22, IntKind.wrap .i64 (x4_23 - 1), z55.2, (ku3 (ku4 (ku8 K38 rfl) rfl) rfl), h41, (Ow.ext (Ow.later (Ow.later h42 g53 (Nat.le_trans (Blk.lt ks) ((Gr.trans (Gr.trans (Gr.ext e5) g12) g19)).size)) g60 (Nat.le_trans (Blk.lt ks) ((Gr.trans (Gr.trans (Gr.ext e5) g12) g19)).size)) e64), rfl, (Blk.ext k61 e64), (Gr.trans (Gr.trans (Gr.trans e39 g53) g60) (Gr.ext e64)), (Ext.trans (Ext.gr (Ext.gr e39c g53 hz) g60 hz) e64), S46⟩
   ·refine qi (cb q47) <| vH <| qY <| qY <| yF <| qe ?_
    obtain rfl := si H
    obtain rfl := si S46
    exact ⟨x3_21, v22, y24, (ku2 K38 rfl), h41, h42, h44, e39, e39c, rfl⟩
 ·rintro s32 w31 ⟨x3_28, v29, y30, K33, h68, h69, h70, e34, e34c, y71⟩
  rw [y71] at C27
  have H := C27
  replace H : _ = some _ := H
  refine qe <| wr <| lp rfl (qf h68) <| lp rfl (xa v29 rfl) <| nx <| qn <| qt ?_
  obtain rfl := si H
  exact Yj rfl (Gr.trans (Gr.trans (Gr.trans (Gr.ext e5) g12) g19) e34) h70 h69 ((Gr.trans (Gr.trans (Gr.ext e5) g12) g19)).size
theorem yo.calls {w : World} {a0 : List Int} {a1 : DSrc} {r : List Rec × DSrc} {wc : World} {cv : Value} {bs : Nat} (kc : Ext wc w) (fc : Rd 1 (Go.UL.encI .u8) wc cv a0) (hz : wc.heap.size ≤ bs) (ks : Blk w bs (vS cv a1).toArray 162) (H : (yo.sh 12 a0 a1) = some r) :
  Calls Tryz.prog 114 #[.pointer (some ⟨bs, 0, none⟩)] w (Rt (RSO 162 bs cv 58 5 qg w r.1 r.2)) := by
 obtain ⟨k, h⟩ := yo.eq a0 a1 H
 exact yo.walk kc fc hz ks h
/-! (*spec.l00Src).tree -/
theorem vG.walk {k : Nat} {w : World} {a0 : List Int} {a1 : DSrc} {wc : World} {cv : Value} {bs : Nat} (kc : Ext wc w) (fc : Rd 1 (Go.UL.encI .u8) wc cv a0) (hz : wc.heap.size ≤ bs) (ks : Blk w bs (vS cv a1).toArray 162) {r : List Nd × DSrc} (H : vG.sh k a0 a1 = some r) :
  Calls Tryz.prog 116 #[.pointer (some ⟨bs, 0, none⟩)] w (Rt (RSO 162 bs cv 60 4 qr w r.1 r.2)) := by
 unfold vG.sh at H
 refine qh Tryz.func116 rfl (Nat.le_of_ble_eq_true rfl) Tryz.ntmps116 rfl ?_
 refine wr <| lp rfl (xa (.slice none 0 0) rfl) <| nx <| wr <| vO (.plain rfl) rfl (ltb rfl) rfl Tryz.underlying35 Tryz.sizeOf58 Tryz.zeroValue58 rfl rfl rfl (vs := []) rfl (qR rfl) <| fun b1 w2 z3 z4 e5 k6 => lp rfl (xa (.slice (some ⟨b1, 0, none⟩) 0 0) rfl) <| nx <| qj <| wr <| lp rfl (xm (.pointer (some ⟨bs, 0, none⟩)) rfl) <| lp rfl (xm (.pointer (some ⟨bs, 0, none⟩)) rfl) ?_
 obtain ⟨z7, x8, H⟩ := bind_some H
 refine yX (.plain rfl) rfl (ltb rfl) rfl Tryz.call201 (jx.calls (w := w2) (a0 := a0) (a1 := a1) (a2 := 7) (Ext.trans kc e5) fc hz (Blk.ext ks e5) x8) rfl <| fun w11 g12 k13 => lp rfl (vi rfl rfl) ?_
 obtain ⟨z14, x15, H⟩ := bind_some H
 refine yX (.plain rfl) rfl (ltb rfl) rfl Tryz.call195 (vt.calls (w := w11) (a0 := a0) (a1 := z7.2) (a2 := IntKind.wrap .i64 (z7.1 + 2)) (Ext.gr (Ext.trans kc e5) g12 hz) fc hz k13 x15) rfl <| fun w18 g19 k20 => lp rfl (xa (.int .i64 z14.1) rfl) <| nx ?_
 obtain ⟨z25, L26, C27⟩ := bind_some H
 clear H
 refine  vD (fun s0 sQ wQ => ∃ (x3_28 : List Rec) (v29 : Value) (y30 : DSrc), Kp [(3, 7), (15, 35)] s0 sQ ∧ sQ 3 = v29 ∧ Ow 58 5 qg w18.heap.size wQ v29 x3_28 ∧ Blk wQ bs ((vS cv) y30).toArray 162 ∧ Gr bs (bs + 1) w18 wQ ∧ Ext wc wQ ∧ z25 = .inr (x3_28, y30)) ?_ ?_
 ·refine qB <| vo (fun s0 kk sQ wQ => ∃ (x3_21 : List Rec) (v22 : Value) (x4_23 : Int) (y24 : DSrc), Kp [(3, 7), (15, 35)] s0 sQ ∧ sQ 3 = v22 ∧ Ow 58 5 qg w18.heap.size wQ v22 x3_21 ∧ sQ 4 = .int .i64 x4_23 ∧ Blk wQ bs ((vS cv) y24).toArray 162 ∧ Gr bs (bs + 1) w18 wQ ∧ Ext wc wQ ∧ qp (vG.b1 a0) kk (x3_21, x4_23, y24) = some z25) k ⟨([] : List Rec), (.slice (some ⟨b1, 0, none⟩) 0 0), z14.1, z14.2, kz, rfl, (Ow.zero), rfl, k20, (Gr.refl _ _ _), (Ext.gr (Ext.gr (Ext.trans kc e5) g12 hz) g19 hz), L26⟩ ?_
  rintro k35 s36 w37 ⟨x3_21, v22, x4_23, y24, K38, h41, h42, h43, h44, e39, e39c, L40⟩
  cases k35 with
  | zero => exact absurd L40 (by simp [qp])
  | succ k35 =>
   obtain ⟨t45, H, S46⟩ := qK L40
   clear L40
   unfold vG.b1 at H
   refine qj <| wr <| lp rfl (qf h43) <| lp rfl (jJ rfl rfl) <| nx ?_
   rcases qd H with ⟨q47, H⟩ | ⟨q47, H⟩
   ·refine qk (cb q47) <| qo <| qe <| qj <| qB <| wr <| lp rfl (xm (.pointer (some ⟨bs, 0, none⟩)) (K38 0 rfl)) <| lp rfl (xm (.pointer (some ⟨bs, 0, none⟩)) (K38 0 rfl)) ?_
    obtain ⟨z48, x49, H⟩ := bind_some H
    refine yX (.plain rfl) rfl (ltb rfl) rfl Tryz.call148 (yx.calls (w := w37) (a0 := a0) (a1 := y24) e39c fc hz h44 x49) rfl <| fun w52 g53 k54 => ?_
    obtain ⟨z55, x56, H⟩ := bind_some H
    refine yX (.plain rfl) rfl (ltb rfl) rfl Tryz.call153 (yv.calls (w := w52) (a0 := a0) (a1 := z48.2) (a2 := z48.1) (Ext.gr e39c g53 hz) fc hz k54 x56) rfl <| fun w59 g60 k61 => QA (.plain rfl) rfl (ltb rfl) rfl Tryz.zeroValue58 <| fun b62 w63 z64 z65 e66 k67 => ji (.plain rfl) rfl rfl Tryz.sizeOf58 rfl rfl rfl rfl rfl k67 <| fun w68 h69 k70 => nx <| wr <| lp rfl (qb Tryz.underlying58 rfl Tryz.sizeOf4 rfl rfl) <| Vb (.plain rfl) rfl rfl Tryz.sizeOf4 rfl rfl rfl k70 (ltb rfl) <| fun w71 h72 k73 => nx <| qj <| wr <| lp rfl (qb Tryz.underlying58 rfl Tryz.sizeOf3 rfl rfl) <| lp rfl (qz Tryz.isAgg3 k73 rfl rfl) <| lp rfl (yn rfl rfl) <| nx ?_
    rcases qd H with ⟨q74, H⟩ | ⟨q74, H⟩
    ·refine qk (cb q74) <| qG <| lp rfl (qb Tryz.underlying58 rfl Tryz.sizeOf3 rfl rfl) <| Vb (.plain rfl) rfl rfl Tryz.sizeOf3 rfl rfl rfl k73 (ltb rfl) <| fun w75 h76 k77 => nx <| wr <| lp rfl (qf h41) <| lp rfl (qW Tryz.isAgg58 Tryz.sizeOf58 rfl rfl (Blk.at0 k77)) ?_
     obtain ⟨c78, H⟩ := qa H
     refine vp (.plain rfl) rfl (ltb rfl) rfl Tryz.call202 (Vw.calls (w := w75) (a0 := x3_21) (a1 := (⟨3, z55.1.path, z55.1.body, z55.1.mode, false⟩ : Rec)) (Ow.rd (Ow.ext (Ow.later (Ow.later h42 g53 (Nat.le_trans (Blk.lt ks) ((Gr.trans (Gr.trans (Gr.ext e5) g12) g19)).size)) g60 (Nat.le_trans (Blk.lt ks) ((Gr.trans (Gr.trans (Gr.ext e5) g12) g19)).size)) (Below.trans (Below.trans (Below.trans e66 (Wr.below h69 (Nat.le_of_eq z64))) (Wr.below h72 (Nat.le_of_eq z64))) (Wr.below h76 (Nat.le_of_eq z64))))) (od c78)) rfl <| fun v81 w79 e80 o82 => lp rfl (xa v81 rfl) <| nx <| wr <| lp rfl (xm v81 rfl) <| lp rfl (qO Tryz.underlying35 rfl (Ow.rd o82)) <| lp rfl (Y4 rfl rfl) <| nx ?_
     rcases qd H with ⟨q83, H⟩ | ⟨q83, H⟩
     ·refine qk (cb q83) <| qG <| lp rfl (xm v81 rfl) <| lp rfl (xa v81 rfl) <| qJ <| vk <| qe <| qG <| lp rfl (qf h43) <| lp rfl (VA rfl rfl) <| lp rfl (xa (.int .i64 (IntKind.wrap .i64 (x4_23 - 1))) rfl) <| nx ?_
      obtain rfl := si H
      exact ⟨_, Nat.lt_succ_self _, (Qy 2 x3_21 (⟨3, z55.1.path, z55.1.body, z55.1.mode, false⟩ : Rec)), v81, IntKind.wrap .i64 (x4_23 - 1), z55.2, (ku8 (ku8 (ku8 K38 rfl) rfl) rfl), rfl, (Ow.base o82 ((Gr.trans (Gr.trans (Gr.trans e39 g53) g60) (Gr.ext (Below.trans (Below.trans (Below.trans e66 (Wr.below h69 (Nat.le_of_eq z64))) (Wr.below h72 (Nat.le_of_eq z64))) (Wr.below h76 (Nat.le_of_eq z64)))))).size), rfl, (Blk.ext k61 (Ext.trans (Below.trans (Below.trans (Below.trans e66 (Wr.below h69 (Nat.le_of_eq z64))) (Wr.below h72 (Nat.le_of_eq z64))) (Wr.below h76 (Nat.le_of_eq z64))) e80)), (Gr.trans (Gr.trans (Gr.trans (Gr.trans e39 g53) g60) (Gr.ext (Below.trans (Below.trans (Below.trans e66 (Wr.below h69 (Nat.le_of_eq z64))) (Wr.below h72 (Nat.le_of_eq z64))) (Wr.below h76 (Nat.le_of_eq z64))))) (Gr.ext e80)), (Ext.trans (Below.trans (Below.trans (Below.trans (Ext.trans (Ext.gr (Ext.gr e39c g53 hz) g60 hz) e66) (Below.mono (Wr.below h69 (Nat.le_of_eq z64)) ((Ext.gr (Ext.gr e39c g53 hz) g60 hz)).size)) (Below.mono (Wr.below h72 (Nat.le_of_eq z64)) ((Ext.gr (Ext.gr e39c g53 hz) g60 hz)).size)) (Below.mono (Wr.below h76 (Nat.le_of_eq z64)) ((Ext.gr (Ext.gr e39c g53 hz) g60 hz)).size)) e80), S46⟩
     ·refine qi (cb q83) <| qo <| vk <| qe <| qG <| lp rfl (qf h43) <| lp rfl (VA rfl rfl) <| lp rfl (xa (.int .i64 (IntKind.wrap .i64 (x4_23 - 1))) rfl) <| nx ?_
      obtain rfl := si H
      exact ⟨_, Nat.lt_succ_self _, x3_21, v22, IntKind.wrap .i64 (x4_23 - 1), z55.2, (ku2 (ku4 (ku8 (ku8 K38 rfl) rfl) rfl) rfl), h41, (Ow.ext (Ow.later (Ow.later h42 g53 (Nat.le_trans (Blk.lt ks) ((Gr.trans (Gr.trans (Gr.ext e5) g12) g19)).size)) g60 (Nat.le_trans (Blk.lt ks) ((Gr.trans (Gr.trans (Gr.ext e5) g12) g19)).size)) (Ext.trans (Below.trans (Below.trans (Below.trans e66 (Wr.below h69 (Nat.le_of_eq z64))) (Wr.below h72 (Nat.le_of_eq z64))) (Wr.below h76 (Nat.le_of_eq z64))) e80)), rfl, (Blk.ext k61 (Ext.trans (Below.trans (Below.trans (Below.trans e66 (Wr.below h69 (Nat.le_of_eq z64))) (Wr.below h72 (Nat.le_of_eq z64))) (Wr.below h76 (Nat.le_of_eq z64))) e80)), (Gr.trans (Gr.trans (Gr.trans (Gr.trans e39 g53) g60) (Gr.ext (Below.trans (Below.trans (Below.trans e66 (Wr.below h69 (Nat.le_of_eq z64))) (Wr.below h72 (Nat.le_of_eq z64))) (Wr.below h76 (Nat.le_of_eq z64))))) (Gr.ext e80)), (Ext.trans (Below.trans (Below.trans (Below.trans (Ext.trans (Ext.gr (Ext.gr e39c g53 hz) g60 hz) e66) (Below.mono (Wr.below h69 (Nat.le_of_eq z64)) ((Ext.gr (Ext.gr e39c g53 hz) g60 hz)).size)) (Below.mono (Wr.below h72 (Nat.le_of_eq z64)) ((Ext.gr (Ext.gr e39c g53 hz) g60 hz)).size)) (Below.mono (Wr.below h76 (Nat.le_of_eq z64)) ((Ext.gr (Ext.gr e39c g53 hz) g60 hz)).size)) e80), S46⟩
    ·refine qi (cb q74) <| qo <| qe <| wr <| lp rfl (qf h41) <| lp rfl (qW Tryz.isAgg58 Tryz.sizeOf58 rfl rfl (Blk.at0 k73)) ?_
     obtain ⟨c84, H⟩ := qa H
     refine vp (.plain rfl) rfl (ltb rfl) rfl Tryz.call202 (Vw.calls (w := w71) (a0 := x3_21) (a1 := (⟨z55.1.kind, z55.1.path, z55.1.body, z55.1.mode, false⟩ : Rec)) (Ow.rd (Ow.ext (Ow.later (Ow.later h42 g53 (Nat.le_trans (Blk.lt ks) ((Gr.trans (Gr.trans (Gr.ext e5) g12) g19)).size)) g60 (Nat.le_trans (Blk.lt ks) ((Gr.trans (Gr.trans (Gr.ext e5) g12) g19)).size)) (Below.trans (Below.trans e66 (Wr.below h69 (Nat.le_of_eq z64))) (Wr.below h72 (Nat.le_of_eq z64))))) (od c84)) rfl <| fun v87 w85 e86 o88 => lp rfl (xa v87 rfl) <| nx <| wr <| lp rfl (xm v87 rfl) <| lp rfl (qO Tryz.underlying35 rfl (Ow.rd o88)) <| lp rfl (Y4 rfl rfl) <| nx ?_
     rcases qd H with ⟨q89, H⟩ | ⟨q89, H⟩
     ·refine qk (cb q89) <| qG <| lp rfl (xm v87 rfl) <| lp rfl (xa v87 rfl) <| qJ <| vk <| qe <| qG <| lp rfl (qf h43) <| lp rfl (VA rfl rfl) <| lp rfl (xa (.int .i64 (IntKind.wrap .i64 (x4_23 - 1))) rfl) <| nx ?_
      obtain rfl := si H
      exact ⟨_, Nat.lt_succ_self _, (Qy 2 x3_21 (⟨z55.1.kind, z55.1.path, z55.1.body, z55.1.mode, false⟩ : Rec)), v87, IntKind.wrap .i64 (x4_23 - 1), z55.2, (ku3 (ku4 (ku8 (ku8 K38 rfl) rfl) rfl) rfl), rfl, (Ow.base o88 ((Gr.trans (Gr.trans (Gr.trans e39 g53) g60) (Gr.ext (Below.trans (Below.trans e66 (Wr.below h69 (Nat.le_of_eq z64))) (Wr.below h72 (Nat.le_of_eq z64)))))).size), rfl, (Blk.ext k61 (Ext.trans (Below.trans (Below.trans e66 (Wr.below h69 (Nat.le_of_eq z64))) (Wr.below h72 (Nat.le_of_eq z64))) e86)), (Gr.trans (Gr.trans (Gr.trans (Gr.trans e39 g53) g60) (Gr.ext (Below.trans (Below.trans e66 (Wr.below h69 (Nat.le_of_eq z64))) (Wr.below h72 (Nat.le_of_eq z64))))) (Gr.ext e86)), (Ext.trans (Below.trans (Below.trans (Ext.trans (Ext.gr (Ext.gr e39c g53 hz) g60 hz) e66) (Below.mono (Wr.below h69 (Nat.le_of_eq z64)) ((Ext.gr (Ext.gr e39c g53 hz) g60 hz)).size)) (Below.mono (Wr.below h72 (Nat.le_of_eq z64)) ((Ext.gr (Ext.gr e39c g53 hz) g60 hz)).size)) e86), S46⟩
     ·refine qi (cb q89) <| qo <| vk <| qe <| qG <| lp rfl (qf h43) <| lp rfl (VA rfl rfl) <| lp rfl (xa (.int .i64 (IntKind.wrap .i64 (x4_23 - 1))) rfl) <| nx ?_
      obtain rfl := si H
      exact ⟨_, Nat.lt_succ_self _, x3_21, v22, IntKind.wrap .i64 (x4_23 - 1), z55.2, (ku1 (ku4 (ku8 (ku8 K38 rfl) rfl) rfl) rfl), h41, (Ow.ext (Ow.later (Ow.later h42 g53 (Nat.le_trans (Blk.lt ks) ((Gr.trans (Gr.trans (Gr.ext e5) g12) g19)).size)) g60 (Nat.le_trans (Blk.lt ks) ((Gr.trans (Gr.trans (Gr.ext e5) g12) g19)).size)) (Ext.trans (Below.trans (Below.trans e66 (Wr.below h69 (Nat.le_of_eq z64))) (Wr.below h72 (Nat.le_of_eq z64))) e86)), rfl, (Blk.ext k61 (Ext.trans (Below.trans (Below.trans e66 (Wr.below h69 (Nat.le_of_eq z64))) (Wr.below h72 (Nat.le_of_eq z64))) e86)), (Gr.trans (Gr.trans (Gr.trans (Gr.trans e39 g53) g60) (Gr.ext (Below.trans (Below.trans e66 (Wr.below h69 (Nat.le_of_eq z64))) (Wr.below h72 (Nat.le_of_eq z64))))) (Gr.ext e86)), (Ext.trans (Below.trans (Below.trans (Ext.trans (Ext.gr (Ext.gr e39c g53 hz) g60 hz) e66) (Below.mono (Wr.below h69 (Nat.le_of_eq z64)) ((Ext.gr (Ext.gr e39c g53 hz) g60 hz)).size)) (Below.mono (Wr.below h72 (Nat.le_of_eq z64)) ((Ext.gr (Ext.gr e39c g53 hz) g60 hz)).size)) e86), S46⟩
   ·refine qi (cb q47) <| vH <| qY <| qY <| yF <| qe ?_
    obtain rfl := si H
    obtain rfl := si S46
    exact ⟨x3_21, v22, y24, (ku2 K38 rfl), h41, h42, h44, e39, e39c, rfl⟩
 ·rintro s32 w31 ⟨x3_28, v29, y30, K33, h90, h91, h92, e34, e34c, y93⟩
  rw [y93] at C27
  have H := C27
  replace H : _ = some _ := H
  refine qe <| wr <| vO (.plain rfl) rfl (ltb rfl) rfl Tryz.underlying29 Tryz.sizeOf60 Tryz.zeroValue60 rfl rfl rfl (vs := []) rfl (qR rfl) <| fun b94 w95 z96 z97 e98 k99 => lp rfl (xa (.slice (some ⟨b94, 0, none⟩) 0 0) rfl) <| nx <| qj <| wr <| lp rfl (xa (.int .i64 0) rfl) <| nx ?_
  obtain ⟨z103, L104, C105⟩ := bind_some H
  clear H
  refine  vD (fun s0 sQ wQ => ∃ (x7_106 : List Nd) (v107 : Value), Kp [(7, 9), (36, 50)] s0 sQ ∧ sQ 7 = v107 ∧ Ow 60 4 qr w95.heap.size wQ v107 x7_106 ∧ Blk wQ bs ((vS cv) y30).toArray 162 ∧ Gr bs (bs + 1) w95 wQ ∧ Ext wc wQ ∧ z103 = .inr x7_106) ?_ ?_
  ·refine qB <| vo (fun s0 kk sQ wQ => ∃ (x7_100 : List Nd) (v101 : Value) (x8_102 : Int), Kp [(7, 9), (36, 50)] s0 sQ ∧ sQ 7 = v101 ∧ Ow 60 4 qr w95.heap.size wQ v101 x7_100 ∧ sQ 8 = .int .i64 x8_102 ∧ Blk wQ bs ((vS cv) y30).toArray 162 ∧ Ow 58 5 qg w18.heap.size wQ v29 x3_28 ∧ Gr bs (bs + 1) w95 wQ ∧ Ext wc wQ ∧ qp (vG.b2 x3_28) kk (x7_100, x8_102) = some z103) k ⟨([] : List Nd), (.slice (some ⟨b94, 0, none⟩) 0 0), 0, kz, rfl, (Ow.zero), rfl, (Blk.ext h92 e98), (Ow.ext h91 e98), (Gr.refl _ _ _), (Ext.trans e34c e98), L104⟩ ?_
   rintro k112 s113 w114 ⟨x7_100, v101, x8_102, K115, h118, h119, h120, h121, h122, e116, e116c, L117⟩
   cases k112 with
   | zero => exact absurd L117 (by simp [qp])
   | succ k112 =>
    obtain ⟨t123, H, S124⟩ := qK L117
    clear L117
    unfold vG.b2 at H
    refine qj <| wr <| lp rfl (qf h120) <| lp rfl (xm v29 ((K115 3 rfl).trans h90)) <| lp rfl (qO Tryz.underlying35 rfl (Ow.rd h122)) <| lp rfl (yl rfl rfl) <| nx ?_
    rcases qd H with ⟨q125, H⟩ | ⟨q125, H⟩
    ·refine qk (cb q125) <| qo <| qe <| qj <| qB <| qG <| lp rfl (qf h118) <| lp rfl (xm v29 ((K115 3 rfl).trans h90)) <| lp rfl (qf h120) ?_
     obtain ⟨c126, H⟩ := qa H
     refine q4 (.plain rfl) rfl (ltb rfl) rfl Tryz.underlying35 Tryz.sizeOf58 rfl (Ow.rd h122) rfl c126 <| fun p127 h128 => lp rfl (qW Tryz.isAgg58 Tryz.sizeOf58 rfl rfl h128) <| lc rfl rfl Tryz.call203 (Qq.calls (w := w114) (a0 := gt x3_28 x8_102)) rfl <| fun w129 e130 => vO (.plain rfl) rfl (ltb rfl) rfl Tryz.underlying29 Tryz.sizeOf60 Tryz.zeroValue60 rfl rfl rfl (vs := [(.agg (qr (jP (gt x3_28 x8_102))).toArray)]) rfl (qR rfl) <| fun b131 w132 z133 z134 e135 k136 => ?_
     obtain ⟨c137, H⟩ := qa H
     refine vW (enc := qr) (.plain rfl) rfl (ltb rfl) rfl El.t29 rfl rfl (Ow.ext h119 (e130.t e135)) (Ow.rd (Ow.new (xs := [(jP (gt x3_28 x8_102))]) (sz := 4) (enc := qr) (base := w129.heap.size) k136 (Nat.le_of_eq z133) rfl (fun _ _ => by rfl) (Nat.le_of_ble_eq_true rfl))) (QV _) (od c137) ((Gr.trans (Gr.trans e116 (Gr.ext e130)) (Gr.ext e135))).size <| fun v138 w139 o140 z141 g142 => lp rfl (xa v138 rfl) <| qJ <| vk <| qe <| qG <| lp rfl (qf h120) <| lp rfl (vi rfl rfl) <| lp rfl (xa (.int .i64 (IntKind.wrap .i64 (x8_102 + 1))) rfl) <| nx ?_
     obtain rfl := si H
     exact ⟨_, Nat.lt_succ_self _, x7_100 ++ ([(jP (gt x3_28 x8_102))] : List Nd), v138, IntKind.wrap .i64 (x8_102 + 1), (ku8 (ku8 K115 rfl) rfl), rfl, o140, rfl, (Gr.blk (Gr.ofBelow (g142 _ (Below.refl _ _))) (Blk.ext h121 (e130.t e135)) (Or.inr (Nat.le_trans (Blk.lt ks) ((Gr.trans (Gr.trans (Gr.trans (Gr.trans (Gr.ext e5) g12) g19) e34) (Gr.ext e98))).size))), (Ow.before (Ow.ext h122 (e130.t e135)) (Gr.ofBelow (g142 _ (Below.refl _ _))) (Ow.hb h91) (e98).size), (Gr.thn (Gr.trans (Gr.trans e116 (Gr.ext e130)) (Gr.ext e135)) (g142 _ (Below.refl _ _))), (Below.trans (Ext.trans (Ext.trans e116c e130) e135) (Below.mono (g142 _ (Below.refl _ _)) ((Ext.trans e34c e98)).size)), S124⟩
    ·refine qi (cb q125) <| vH <| qY <| qY <| yF <| qe ?_
     obtain rfl := si H
     obtain rfl := si S124
     exact ⟨x7_100, v101, (ku4 K115 rfl), h118, h119, h121, e116, e116c, rfl⟩
  ·rintro s109 w108 ⟨x7_106, v107, K110, h143, h144, h145, e111, e111c, y146⟩
   rw [y146] at C105
   have H := C105
   replace H : _ = some _ := H
   refine qe <| wr <| lp rfl (qf h143) <| lp rfl (xa v107 rfl) <| nx <| qn <| qt ?_
   obtain rfl := si H
   exact Yj rfl (Gr.trans (Gr.trans (Gr.trans (Gr.trans (Gr.trans (Gr.ext e5) g12) g19) e34) (Gr.ext e98)) e111) h145 h144 ((Gr.trans (Gr.trans (Gr.trans (Gr.trans (Gr.ext e5) g12) g19) e34) (Gr.ext e98))).size
theorem vG.calls {w : World} {a0 : List Int} {a1 : DSrc} {r : List Nd × DSrc} {wc : World} {cv : Value} {bs : Nat} (kc : Ext wc w) (fc : Rd 1 (Go.UL.encI .u8) wc cv a0) (hz : wc.heap.size ≤ bs) (ks : Blk w bs (vS cv a1).toArray 162) (H : (vG.sh 24 a0 a1) = some r) :
  Calls Tryz.prog 116 #[.pointer (some ⟨bs, 0, none⟩)] w (Rt (RSO 162 bs cv 60 4 qr w r.1 r.2)) := by
 obtain ⟨k, h⟩ := vG.eq a0 a1 H
 exact vG.walk kc fc hz ks h
/-! (*spec.l00Src).akin -/
theorem jT.walk {w : World} {a0 : List Int} {a1 : DSrc} {a2 : List Rec} {wc : World} {cv : Value} {bs : Nat} (kc : Ext wc w) (fc : Rd 1 (Go.UL.encI .u8) wc cv a0) (hz : wc.heap.size ≤ bs) (ks : Blk w bs (vS cv a1).toArray 162) {v_a2 : Value} (f_a2 : Rd 5 qg wc v_a2 a2) {r : List Rec × DSrc} (H : jT.sh a0 a1 a2 = some r) :
  Calls Tryz.prog 115 #[.pointer (some ⟨bs, 0, none⟩), v_a2] w (Rt (RSO 162 bs cv 58 5 qg w r.1 r.2)) := by
 unfold jT.sh at H
 refine qh Tryz.func115 rfl (Nat.le_of_ble_eq_true rfl) Tryz.ntmps115 rfl ?_
 refine wr <| lp rfl (xa (.slice none 0 0) rfl) <| nx <| wr <| vO (.plain rfl) rfl (ltb rfl) rfl Tryz.underlying35 Tryz.sizeOf58 Tryz.zeroValue58 rfl rfl rfl (vs := []) rfl (qR rfl) <| fun b1 w2 z3 z4 e5 k6 => lp rfl (xm v_a2 rfl) ?_
 obtain ⟨c7, H⟩ := qa H
 refine vW (enc := qg) (.plain rfl) rfl (ltb rfl) rfl El.t35 rfl rfl (Ow.zero (base := w2.heap.size) (w := w2)) (Rd.ext f_a2 (Ext.trans kc e5)) (Qo _) (od c7) (Nat.le_refl _) <| fun v8 w9 o10 z11 g12 => lp rfl (xa v8 rfl) <| nx <| wr <| lp rfl (xm v8 rfl) <| lp rfl (qO Tryz.underlying35 rfl (Ow.rd o10)) <| lp rfl (xa (.int .i64 ((([] : List Rec) ++ a2).length : Int)) rfl) <| nx <| qj <| wr <| lp rfl (xm (.int .i64 ((([] : List Rec) ++ a2).length : Int)) rfl) <| lp rfl (yn rfl rfl) <| nx ?_
 rcases qd H with ⟨q13, H⟩ | ⟨q13, H⟩
 ·refine qk (cb q13) <| wr <| lp rfl (xm v8 rfl) <| lp rfl (xa v8 rfl) <| nx <| qn <| qw <| qt ?_
  obtain rfl := si H
  exact Yj rfl (Gr.trans (Gr.ext e5) (Gr.ext (Below.trans er (g12 _ (Below.refl _ _))))) (Blk.ext ks (e5.t (Below.trans er (g12 _ (Below.refl _ _))))) o10 (e5).size
 ·refine qi (cb q13) <| qo <| qe <| wr <| lp rfl (xm (.pointer (some ⟨bs, 0, none⟩)) rfl) <| lp rfl (xm (.int .i64 ((([] : List Rec) ++ a2).length : Int)) rfl) ?_
  obtain ⟨z14, x15, H⟩ := bind_some H
  refine yX (.plain rfl) rfl (ltb rfl) rfl Tryz.call195 (vt.calls (w := w9) (a0 := a0) (a1 := a1) (a2 := ((([] : List Rec) ++ a2).length : Int)) (Below.trans (Ext.trans kc e5) (Below.mono (g12 _ (Below.refl _ _)) ((Ext.trans kc e5)).size)) fc hz (Blk.ext ks (e5.t (Below.trans er (g12 _ (Below.refl _ _))))) x15) rfl <| fun w18 g19 k20 => lp rfl (xa (.int .i64 z14.1) rfl) <| nx <| qj <| wr <| lp rfl (xm (.pointer (some ⟨bs, 0, none⟩)) rfl) ?_
  obtain ⟨z21, x22, H⟩ := bind_some H
  refine yX (.plain rfl) rfl (ltb rfl) rfl Tryz.call195 (vt.calls (w := w18) (a0 := a0) (a1 := z14.2) (a2 := 6) (Ext.gr (Below.trans (Ext.trans kc e5) (Below.mono (g12 _ (Below.refl _ _)) ((Ext.trans kc e5)).size)) g19 hz) fc hz k20 x22) rfl <| fun w25 g26 k27 => nx <| qB <| wr <| lp rfl (yn rfl rfl) <| lp rfl (xa (.bool (decide (z21.1 = 0))) rfl) <| nx ?_
  rcases qd H with ⟨q28, H⟩ | ⟨q28, H⟩
  ·refine qk (cb q28) <| wr <| lp rfl (xm v8 rfl) ?_
   obtain ⟨c29, H⟩ := qa H
   obtain ⟨c30, H⟩ := qa H
   refine vp (.plain rfl) rfl (ltb rfl) rfl Tryz.call124 (yh.calls (w := w25) (a0 := ([] : List Rec) ++ a2) (Ow.rd (Ow.later (Ow.later o10 g19 (Nat.le_trans (Blk.lt ks) (e5).size)) g26 (Nat.le_trans (Blk.lt ks) (e5).size))) (od c29) (od c30)) rfl <| fun v33 w31 e32 o34 => lp rfl (xa v33 rfl) <| nx <| qn <| vv <| qw <| qt ?_
   obtain rfl := si H
   exact Yj rfl (Gr.trans (Gr.trans (Gr.trans (Gr.trans (Gr.ext e5) (Gr.ext (Below.trans er (g12 _ (Below.refl _ _))))) g19) g26) (Gr.ext e32)) (Blk.ext k27 e32) o34 ((Gr.trans (Gr.trans (Gr.trans (Gr.ext e5) (Gr.ext (Below.trans er (g12 _ (Below.refl _ _))))) g19) g26)).size
  ·refine qi (cb q28) <| wr <| lp rfl (yn rfl rfl) <| lp rfl (xa (.bool (decide (z21.1 = 1))) rfl) <| nx ?_
   rcases qd H with ⟨q35, H⟩ | ⟨q35, H⟩
   ·refine qk (cb q35) <| wr <| lp rfl (xm v8 rfl) <| lp rfl (xm (.int .i64 z14.1) rfl) ?_
    obtain ⟨c36, H⟩ := qa H
    refine q4 (.plain rfl) rfl (ltb rfl) rfl Tryz.underlying35 Tryz.sizeOf58 rfl (Ow.rd (Ow.later (Ow.later o10 g19 (Nat.le_trans (Blk.lt ks) (e5).size)) g26 (Nat.le_trans (Blk.lt ks) (e5).size))) rfl c36 <| fun p37 h38 => lp rfl (qb Tryz.underlying58 rfl Tryz.sizeOf3 rfl rfl) <| lp rfl (vT Tryz.isAgg3 (j := 0) h38 rfl rfl) <| lp rfl (yn rfl rfl) <| nx ?_
    rcases qd H with ⟨q39, H⟩ | ⟨q39, H⟩
    ·refine qk (cb q39) <| qG <| lp rfl (xm v8 rfl) <| lp rfl (xm (.int .i64 z14.1) rfl) <| lp rfl (xm v8 rfl) <| lp rfl (xm (.int .i64 z14.1) rfl) ?_
     obtain ⟨c40, H⟩ := qa H
     refine q4 (.plain rfl) rfl (ltb rfl) rfl Tryz.underlying35 Tryz.sizeOf58 rfl (Ow.rd (Ow.later (Ow.later o10 g19 (Nat.le_trans (Blk.lt ks) (e5).size)) g26 (Nat.le_trans (Blk.lt ks) (e5).size))) rfl c40 <| fun p41 h42 => lp rfl (qb Tryz.underlying58 rfl Tryz.sizeOf4 rfl rfl) <| lp rfl (vT Tryz.isAgg4 (j := 4) h42 rfl rfl) <| lp rfl (yM rfl) ?_
     obtain ⟨c45, H⟩ := qa H
     refine L_idxO (.plain rfl) rfl (ltb rfl) rfl Tryz.underlying35 Tryz.sizeOf58 rfl (Ow.later (Ow.later o10 g19 (Nat.le_trans (Blk.lt ks) (e5).size)) g26 (Nat.le_trans (Blk.lt ks) (e5).size)) rfl c45 <| fun p43 h44 => lp rfl (qb Tryz.underlying58 rfl Tryz.sizeOf4 rfl rfl) <| Gs (a := (⟨(gt (([] : List Rec) ++ a2) z14.1).kind, (gt (([] : List Rec) ++ a2) z14.1).path, (gt (([] : List Rec) ++ a2) z14.1).body, (gt (([] : List Rec) ++ a2) z14.1).mode, (!((gt (([] : List Rec) ++ a2) z14.1).opq))⟩ : Rec)) (vs := [(.bool (!((gt (([] : List Rec) ++ a2) z14.1).opq)))]) (off := 4) (.plain rfl) rfl rfl Tryz.sizeOf4 rfl h44 rfl rfl rfl rfl rfl rfl <| fun b46 w47 h48 h49 h50 o51 => qJ <| vk <| qe <| wr <| lp rfl (xm v8 rfl) <| lp rfl (xa v8 rfl) <| nx <| qn <| qt ?_
     obtain rfl := si H
     exact Yj rfl (Gr.trans (Gr.ext e5) (Gr.thn (Gr.trans (Gr.trans (Gr.ext (Below.trans er (g12 _ (Below.refl _ _)))) g19) g26) (Wr.below h50 h49))) (Gr.blk (Gr.ofBelow (Wr.below h50 h49)) k27 (Or.inr (Nat.le_trans (Blk.lt ks) (e5).size))) o51 (e5).size
    ·refine qi (cb q39) <| qo <| vk <| qe <| wr <| lp rfl (xm v8 rfl) <| lp rfl (xa v8 rfl) <| nx <| qn <| qt ?_
     obtain rfl := si H
     exact Yj rfl (Gr.trans (Gr.trans (Gr.trans (Gr.ext e5) (Gr.ext (Below.trans er (g12 _ (Below.refl _ _))))) g19) g26) k27 (Ow.later (Ow.later o10 g19 (Nat.le_trans (Blk.lt ks) (e5).size)) g26 (Nat.le_trans (Blk.lt ks) (e5).size)) (e5).size
   ·refine qi (cb q35) <| wr <| lp rfl (yn rfl rfl) <| lp rfl (xa (.bool (decide (z21.1 = 2))) rfl) <| nx ?_
    rcases qd H with ⟨q52, H⟩ | ⟨q52, H⟩
    ·refine qk (cb q52) <| wr <| lp rfl (xm v8 rfl) <| lp rfl (xm (.int .i64 ((([] : List Rec) ++ a2).length : Int)) rfl) <| lp rfl (VA rfl rfl) ?_
     obtain ⟨c53, H⟩ := qa H
     refine L_front (.plain rfl) rfl (ltb rfl) rfl Tryz.underlying35 Tryz.sizeOf58 rfl (Ow.later (Ow.later o10 g19 (Nat.le_trans (Blk.lt ks) (e5).size)) g26 (Nat.le_trans (Blk.lt ks) (e5).size)) (h := IntKind.wrap .i64 (((([] : List Rec) ++ a2).length : Int) - 1)) ⟨_, rfl⟩ c53 <| fun v54 h55 => lp rfl (xa v54 rfl) <| nx <| qn <| vv <| qw <| qt ?_
     obtain rfl := si H
     exact Yj rfl (Gr.trans (Gr.trans (Gr.trans (Gr.ext e5) (Gr.ext (Below.trans er (g12 _ (Below.refl _ _))))) g19) g26) k27 h55 (e5).size
    ·refine qi (cb q52) <| wr <| lp rfl (yn rfl rfl) <| lp rfl (xa (.bool (decide (z21.1 = 3))) rfl) <| nx ?_
     rcases qd H with ⟨q56, H⟩ | ⟨q56, H⟩
     ·refine qk (cb q56) <| wr <| lp rfl (xm v8 rfl) <| lp rfl (xm (.pointer (some ⟨bs, 0, none⟩)) rfl) <| lp rfl (xm v8 rfl) <| lp rfl (xm (.int .i64 z14.1) rfl) ?_
      obtain ⟨c57, H⟩ := qa H
      refine q4 (.plain rfl) rfl (ltb rfl) rfl Tryz.underlying35 Tryz.sizeOf58 rfl (Ow.rd (Ow.later (Ow.later o10 g19 (Nat.le_trans (Blk.lt ks) (e5).size)) g26 (Nat.le_trans (Blk.lt ks) (e5).size))) rfl c57 <| fun p58 h59 => lp rfl (qb Tryz.underlying58 rfl Tryz.sizeOf9 rfl rfl) <| lp rfl (vT Tryz.isAgg9 (j := 1) h59 rfl rfl) ?_
      obtain ⟨z60, x61, H⟩ := bind_some H
      refine yX (.plain rfl) rfl (ltb rfl) rfl Tryz.call153 (yv.calls (w := w25) (a0 := a0) (a1 := z21.2) (a2 := (gt (([] : List Rec) ++ a2) z14.1).path) (Ext.gr (Ext.gr (Below.trans (Ext.trans kc e5) (Below.mono (g12 _ (Below.refl _ _)) ((Ext.trans kc e5)).size)) g19 hz) g26 hz) fc hz k27 x61) rfl <| fun w64 g65 k66 => ?_
      obtain ⟨c67, H⟩ := qa H
      refine vp (.plain rfl) rfl (ltb rfl) rfl Tryz.call202 (Vw.calls (w := w64) (a0 := ([] : List Rec) ++ a2) (a1 := z60.1) (Ow.rd (Ow.later (Ow.later (Ow.later o10 g19 (Nat.le_trans (Blk.lt ks) (e5).size)) g26 (Nat.le_trans (Blk.lt ks) (e5).size)) g65 (Nat.le_trans (Blk.lt ks) (e5).size))) (od c67)) rfl <| fun v70 w68 e69 o71 => lp rfl (xa v70 rfl) <| nx <| wr <| lp rfl (xm v70 rfl) <| lp rfl (qO Tryz.underlying35 rfl (Ow.rd o71)) <| lp rfl (Y4 rfl rfl) <| nx ?_
      rcases qd H with ⟨q72, H⟩ | ⟨q72, H⟩
      ·refine qk (cb q72) <| wr <| lp rfl (xm v70 rfl) <| lp rfl (xa v70 rfl) <| nx <| qn <| vv <| qw <| qt ?_
       obtain rfl := si H
       exact Yj rfl (Gr.trans (Gr.trans (Gr.trans (Gr.trans (Gr.trans (Gr.ext e5) (Gr.ext (Below.trans er (g12 _ (Below.refl _ _))))) g19) g26) g65) (Gr.ext e69)) (Blk.ext k66 e69) o71 ((Gr.trans (Gr.trans (Gr.trans (Gr.trans (Gr.ext e5) (Gr.ext (Below.trans er (g12 _ (Below.refl _ _))))) g19) g26) g65)).size
      ·refine qi (cb q72) <| qo <| vk <| qe <| wr <| lp rfl (xm v8 rfl) <| lp rfl (xa v8 rfl) <| nx <| qn <| qt ?_
       obtain rfl := si H
       exact Yj rfl (Gr.trans (Gr.trans (Gr.trans (Gr.trans (Gr.trans (Gr.ext e5) (Gr.ext (Below.trans er (g12 _ (Below.refl _ _))))) g19) g26) g65) (Gr.ext e69)) (Blk.ext k66 e69) (Ow.ext (Ow.later (Ow.later (Ow.later o10 g19 (Nat.le_trans (Blk.lt ks) (e5).size)) g26 (Nat.le_trans (Blk.lt ks) (e5).size)) g65 (Nat.le_trans (Blk.lt ks) (e5).size)) e69) (e5).size
     ·refine qi (cb q56) <| wr <| lp rfl (yn rfl rfl) <| lp rfl (xa (.bool (decide (z21.1 = 4))) rfl) <| nx ?_
      rcases qd H with ⟨q73, H⟩ | ⟨q73, H⟩
      ·refine qk (cb q73) <| wr <| lp rfl (xm v8 rfl) <| lp rfl (xm (.int .i64 z14.1) rfl) ?_
       obtain ⟨c74, H⟩ := qa H
       refine q4 (.plain rfl) rfl (ltb rfl) rfl Tryz.underlying35 Tryz.sizeOf58 rfl (Ow.rd (Ow.later (Ow.later o10 g19 (Nat.le_trans (Blk.lt ks) (e5).size)) g26 (Nat.le_trans (Blk.lt ks) (e5).size))) rfl c74 <| fun p75 h76 => lp rfl (qb Tryz.underlying58 rfl Tryz.sizeOf3 rfl rfl) <| lp rfl (vT Tryz.isAgg3 (j := 0) h76 rfl rfl) <| lp rfl (yn rfl rfl) <| nx ?_
       rcases qd H with ⟨q77, H⟩ | ⟨q77, H⟩
       ·refine qk (cb q77) <| qG <| lp rfl (xm v8 rfl) <| lp rfl (xm (.int .i64 z14.1) rfl) ?_
        obtain ⟨c80, H⟩ := qa H
        refine L_idxO (.plain rfl) rfl (ltb rfl) rfl Tryz.underlying35 Tryz.sizeOf58 rfl (Ow.later (Ow.later o10 g19 (Nat.le_trans (Blk.lt ks) (e5).size)) g26 (Nat.le_trans (Blk.lt ks) (e5).size)) rfl c80 <| fun p78 h79 => lp rfl (qb Tryz.underlying58 rfl Tryz.sizeOf9 rfl rfl) <| Gs (a := (⟨(gt (([] : List Rec) ++ a2) z14.1).kind, (gt (([] : List Rec) ++ a2) z14.1).path, ([111, 116, 104, 101, 114] : List UInt8), (gt (([] : List Rec) ++ a2) z14.1).mode, (gt (([] : List Rec) ++ a2) z14.1).opq⟩ : Rec)) (vs := [(S ([111, 116, 104, 101, 114] : List UInt8))]) (off := 2) (.plain rfl) rfl rfl Tryz.sizeOf9 rfl h79 rfl rfl rfl rfl rfl rfl <| fun b81 w82 h83 h84 h85 o86 => qJ <| vk <| qe <| wr <| lp rfl (xm v8 rfl) <| lp rfl (xa v8 rfl) <| nx <| qn <| qt ?_
        obtain rfl := si H
        exact Yj rfl (Gr.trans (Gr.ext e5) (Gr.thn (Gr.trans (Gr.trans (Gr.ext (Below.trans er (g12 _ (Below.refl _ _)))) g19) g26) (Wr.below h85 h84))) (Gr.blk (Gr.ofBelow (Wr.below h85 h84)) k27 (Or.inr (Nat.le_trans (Blk.lt ks) (e5).size))) o86 (e5).size
       ·refine qi (cb q77) <| qo <| vk <| qe <| wr <| lp rfl (xm v8 rfl) <| lp rfl (xa v8 rfl) <| nx <| qn <| qt ?_
        obtain rfl := si H
        exact Yj rfl (Gr.trans (Gr.trans (Gr.trans (Gr.ext e5) (Gr.ext (Below.trans er (g12 _ (Below.refl _ _))))) g19) g26) k27 (Ow.later (Ow.later o10 g19 (Nat.le_trans (Blk.lt ks) (e5).size)) g26 (Nat.le_trans (Blk.lt ks) (e5).size)) (e5).size
      ·refine qi (cb q73) <| qo <| vk <| qe <| wr <| lp rfl (xm v8 rfl) <| lp rfl (xa v8 rfl) <| nx <| qn <| qt ?_
       obtain rfl := si H
       exact Yj rfl (Gr.trans (Gr.trans (Gr.trans (Gr.ext e5) (Gr.ext (Below.trans er (g12 _ (Below.refl _ _))))) g19) g26) k27 (Ow.later (Ow.later o10 g19 (Nat.le_trans (Blk.lt ks) (e5).size)) g26 (Nat.le_trans (Blk.lt ks) (e5).size)) (e5).size
theorem jT.calls {w : World} {a0 : List Int} {a1 : DSrc} {a2 : List Rec} {r : List Rec × DSrc} {wc : World} {cv : Value} {bs : Nat} (kc : Ext wc w) (fc : Rd 1 (Go.UL.encI .u8) wc cv a0) (hz : wc.heap.size ≤ bs) (ks : Blk w bs (vS cv a1).toArray 162) {v_a2 : Value} (f_a2 : Rd 5 qg wc v_a2 a2) (H : (jT.sh a0 a1 a2) = some r) :
  Calls Tryz.prog 115 #[.pointer (some ⟨bs, 0, none⟩), v_a2] w (Rt (RSO 162 bs cv 58 5 qg w r.1 r.2)) := jT.walk kc fc hz ks f_a2 (jT.eq a0 a1 a2 H)
/-! spec.LayerDrawn -/
theorem vF.walk {w : World} {a0 : List Int} {v_a0 : Value} (f_a0 : Rd 1 (Go.UL.encI .u8) w v_a0 a0) {r : List Rec} (H : vF.sh a0 = some r) :
  Calls Tryz.prog 23 #[v_a0] w (Rt (RO 58 5 qg w r)) := by
 unfold vF.sh at H
 refine qh Tryz.func23 rfl (Nat.le_of_ble_eq_true rfl) Tryz.ntmps23 rfl ?_
 refine wr <| lp rfl (xa (.slice none 0 0) rfl) <| nx <| wr <| lp rfl (xm v_a0 rfl) ?_
 obtain ⟨z1, x2, H⟩ := bind_some H
 refine L_callSN (.plain rfl) rfl (ltb rfl) rfl Tryz.call103 (vI.calls (w := w) (a0 := a0) f_a0 x2) rfl <| fun b5 w3 z6 e4 k7 => ?_
 obtain ⟨z8, x9, H⟩ := bind_some H
 refine XN (.plain rfl) rfl (ltb rfl) rfl Tryz.call114 (yo.calls (w := w3) (a0 := a0) (a1 := z1) e4 f_a0 z6 k7 x9) rfl <| fun v15 w12 g13 k14 o16 => lp rfl (xa v15 rfl) <| nx <| qn <| qt ?_
 obtain rfl := si H
 exact Qi rfl (Ext.gr e4 g13 z6) o16 (e4).size
theorem vF.calls {w : World} {a0 : List Int} {r : List Rec} {v_a0 : Value} (f_a0 : Rd 1 (Go.UL.encI .u8) w v_a0 a0) (H : (vF.sh a0) = some r) :
  Calls Tryz.prog 23 #[v_a0] w (Rt (RO 58 5 qg w r)) := vF.walk f_a0 (vF.eq a0 H)
/-! spec.AkinDrawn -/
theorem yb.walk {w : World} {a0 : List Int} {a1 : List Rec} {v_a0 : Value} (f_a0 : Rd 1 (Go.UL.encI .u8) w v_a0 a0) {v_a1 : Value} (f_a1 : Rd 5 qg w v_a1 a1) {r : List Rec} (H : yb.sh a0 a1 = some r) :
  Calls Tryz.prog 24 #[v_a0, v_a1] w (Rt (RO 58 5 qg w r)) := by
 unfold yb.sh at H
 refine qh Tryz.func24 rfl (Nat.le_of_ble_eq_true rfl) Tryz.ntmps24 rfl ?_
 refine wr <| lp rfl (xa (.slice none 0 0) rfl) <| nx <| wr <| lp rfl (xm v_a0 rfl) ?_
 obtain ⟨z1, x2, H⟩ := bind_some H
 refine L_callSN (.plain rfl) rfl (ltb rfl) rfl Tryz.call103 (vI.calls (w := w) (a0 := a0) f_a0 x2) rfl <| fun b5 w3 z6 e4 k7 => lp rfl (xm v_a1 rfl) ?_
 obtain ⟨z8, x9, H⟩ := bind_some H
 refine XN (.plain rfl) rfl (ltb rfl) rfl Tryz.call115 (jT.calls (w := w3) (a0 := a0) (a1 := z1) (a2 := a1) e4 f_a0 z6 k7 f_a1 x9) rfl <| fun v15 w12 g13 k14 o16 => lp rfl (xa v15 rfl) <| nx <| qn <| qt ?_
 obtain rfl := si H
 exact Qi rfl (Ext.gr e4 g13 z6) o16 (e4).size
theorem yb.calls {w : World} {a0 : List Int} {a1 : List Rec} {r : List Rec} {v_a0 : Value} (f_a0 : Rd 1 (Go.UL.encI .u8) w v_a0 a0) {v_a1 : Value} (f_a1 : Rd 5 qg w v_a1 a1) (H : (yb.sh a0 a1) = some r) :
  Calls Tryz.prog 24 #[v_a0, v_a1] w (Rt (RO 58 5 qg w r)) := yb.walk f_a0 f_a1 (yb.eq a0 a1 H)
/-! spec.TreeDrawn -/
theorem yj.walk {w : World} {a0 : List Int} {v_a0 : Value} (f_a0 : Rd 1 (Go.UL.encI .u8) w v_a0 a0) {r : List Nd} (H : yj.sh a0 = some r) :
  Calls Tryz.prog 25 #[v_a0] w (Rt (RO 60 4 qr w r)) := by
 unfold yj.sh at H
 refine qh Tryz.func25 rfl (Nat.le_of_ble_eq_true rfl) Tryz.ntmps25 rfl ?_
 refine wr <| lp rfl (xa (.slice none 0 0) rfl) <| nx <| wr <| lp rfl (xm v_a0 rfl) ?_
 obtain ⟨z1, x2, H⟩ := bind_some H
 refine L_callSN (.plain rfl) rfl (ltb rfl) rfl Tryz.call103 (vI.calls (w := w) (a0 := a0) f_a0 x2) rfl <| fun b5 w3 z6 e4 k7 => ?_
 obtain ⟨z8, x9, H⟩ := bind_some H
 refine XN (.plain rfl) rfl (ltb rfl) rfl Tryz.call116 (vG.calls (w := w3) (a0 := a0) (a1 := z1) e4 f_a0 z6 k7 x9) rfl <| fun v15 w12 g13 k14 o16 => lp rfl (xa v15 rfl) <| nx <| qn <| qt ?_
 obtain rfl := si H
 exact Qi rfl (Ext.gr e4 g13 z6) o16 (e4).size
theorem yj.calls {w : World} {a0 : List Int} {r : List Nd} {v_a0 : Value} (f_a0 : Rd 1 (Go.UL.encI .u8) w v_a0 a0) (H : (yj.sh a0) = some r) :
  Calls Tryz.prog 25 #[v_a0] w (Rt (RO 60 4 qr w r)) := yj.walk f_a0 (yj.eq a0 H)
/-! laws.FnSquash -/
theorem law_FnSquash.walk {w : World} {a0 : List Int} {a1 : List Int} (gv : GV 0 w) {v_a0 : Value} (f_a0 : Rd 1 (Go.UL.encI .u8) w v_a0 a0) {v_a1 : Value} (f_a1 : Rd 1 (Go.UL.encI .u8) w v_a1 a1) {r : Bool} (H : law_FnSquash.sh a0 a1 = some r) :
  Calls Tryz.prog 4 #[v_a0, v_a1] w (Rt (RP w (.bool r))) := by
 unfold law_FnSquash.sh at H
 refine qh Tryz.func4 rfl (Nat.le_of_ble_eq_true rfl) Tryz.ntmps4 rfl ?_
 refine wr <| lp rfl (xa (.bool false) rfl) <| nx <| qj <| wr <| lp rfl (xm v_a0 rfl) <| lp rfl (qO Tryz.underlying22 rfl f_a0) <| lp rfl (jJ rfl rfl) <| lp rfl (xm (.bool (decide (1048576 < (a0.length : Int)))) rfl) ?_
 obtain ⟨z2, x3, H⟩ := bind_some H
 refine yk 4 [(32, 36)] 35 (fun q => q = z2) ?_ ?_
 ·rcases qd x3 with ⟨b0_, H⟩ | ⟨b0_, H⟩
  ·refine ls rfl rfl rfl (cb b0_) rfl <| ls rfl rfl rfl (cb b0_) rfl <| ls rfl rfl rfl (cb b0_) rfl <| lp rfl (qu (b := true) (v := (.bool true)) (cb b0_) rfl) ?_
   obtain rfl := si H
   exact nx ⟨(ku4 kz rfl), ⟨_, rfl, rfl⟩, er⟩
  ·refine lg rfl rfl rfl rfl (cb b0_) (xm v_a1 rfl) <| lg rfl rfl rfl rfl (cb b0_) (qO Tryz.underlying22 rfl f_a1) <| lg rfl rfl rfl rfl (cb b0_) (jJ rfl rfl) <| lp rfl (qu (b := false) (v := (.bool (decide (1048576 < (a1.length : Int))))) (cb b0_) rfl) ?_
   obtain rfl := si H
   exact nx ⟨(ku4 kz rfl), ⟨_, rfl, rfl⟩, er⟩
 intro s8 w4 z9 K5 hq h6 e7
 rw [hq] at h6; clear hq
 refine nx ?_
 rcases qd H with ⟨q10, H⟩ | ⟨q10, H⟩
 ·refine qk (h6.trans (cb q10)) <| wr <| lp rfl (xa (.bool true) rfl) <| nx <| qn <| qw <| qt ?_
  obtain rfl := si H
  exact vh rfl e7
 ·refine qi (h6.trans (cb q10)) <| qo <| qe <| wr <| lp rfl (xm v_a0 (K5 0 rfl)) ?_
  obtain ⟨z11, x12, H⟩ := bind_some H
  refine vp (.plain rfl) rfl (ltb rfl) rfl Tryz.call23 (vF.calls (w := w4) (a0 := a0) (Rd.ext f_a0 e7) x12) rfl <| fun v15 w13 e14 o16 => lp rfl (xa v15 rfl) <| nx <| wr <| lp rfl (xm v_a1 (K5 1 rfl)) ?_
  obtain ⟨z17, x18, H⟩ := bind_some H
  refine vp (.plain rfl) rfl (ltb rfl) rfl Tryz.call23 (vF.calls (w := w13) (a0 := a1) (Rd.ext f_a1 (e7.t e14)) x18) rfl <| fun v21 w19 e20 o22 => lp rfl (xa v21 rfl) <| nx <| qj <| wr <| lp rfl (xm v_a1 (K5 1 rfl)) ?_
  obtain ⟨z23, x24, H⟩ := bind_some H
  refine lc rfl rfl Tryz.call15 (jZ.calls (w := w19) (a0 := a1) (a1 := 0) (a2 := 2) (Rd.ext f_a1 ((e7.t e14).t e20)) x24) rfl <| fun w25 e26 => lp rfl (yn rfl rfl) <| nx ?_
  obtain ⟨z27, L28, C29⟩ := bind_some H
  clear H
  refine vD (fun s0 sQ wQ => ∃ (x6_30 : List Rec) (v31 : Value), Kp [(6, 7), (43, 46)] s0 sQ ∧ sQ 6 = v31 ∧ Ow 58 5 qg w13.heap.size wQ v31 x6_30 ∧ Ext w25 wQ ∧ z27 = .inr x6_30) ?_ ?_
  ·have H := L28
   rcases qd H with ⟨q32, H⟩ | ⟨q32, H⟩
   ·refine qk (cb q32) <| qG <| lp rfl (xm v_a1 (K5 1 rfl)) <| lp rfl (xm v15 rfl) ?_
    obtain ⟨z33, x34, H⟩ := bind_some H
    refine vp (.plain rfl) rfl (ltb rfl) rfl Tryz.call24 (yb.calls (w := w25) (a0 := a1) (a1 := z11) (Rd.ext f_a1 (((e7.t e14).t e20).t e26)) (Ow.rd (Ow.ext o16 (e20.t e26))) x34) rfl <| fun v37 w35 e36 o38 => lp rfl (xa v37 rfl) <| nx ?_
    obtain rfl := si H
    exact ⟨z33, v37, (ku4 kz rfl), rfl, (Ow.base o38 (e20.t e26).size), e36, rfl⟩
   ·refine qi (cb q32) <| qo <| qe ?_
    obtain rfl := si H
    exact ⟨z17, v21, kz, rfl, (Ow.ext o22 e26), er, rfl⟩
  ·rintro s40 w39 ⟨x6_30, v31, K41, h44, h45, e42, y43⟩
   rw [y43] at C29
   have H := C29
   refine qe <| wr <| lp rfl (xm v_a1 ((K41 1 rfl).trans (K5 1 rfl))) ?_
   obtain ⟨z46, x47, H⟩ := bind_some H
   refine vp (.plain rfl) rfl (ltb rfl) rfl Tryz.call26 (Qn.calls (w := w39) (a0 := 2) (a1 := a1) (Rd.ext f_a1 ((((e7.t e14).t e20).t e26).t e42)) x47) rfl <| fun v50 w48 e49 o51 => ?_
   obtain ⟨z52, x53, H⟩ := bind_some H
   refine vp (.plain rfl) rfl (ltb rfl) rfl Tryz.call25 (yj.calls (w := w48) (a0 := z46) (Ow.rd o51) x53) rfl <| fun v56 w54 e55 o57 => lp rfl (xa v56 rfl) <| nx <| wr <| lp rfl (xm v15 (K41 5 rfl)) <| lp rfl (qf h44) ?_
   obtain ⟨c58, H⟩ := qa H
   obtain ⟨c59, H⟩ := qa H
   obtain ⟨c60, H⟩ := qa H
   obtain ⟨c61, H⟩ := qa H
   refine V8 (.plain rfl) rfl (ltb rfl) rfl Tryz.call27 (jz.calls (w := w54) (a0 := z11) (a1 := x6_30) (GV.ext gv ((((((e7.t e14).t e20).t e26).t e42).t e49).t e55)) (Ow.rd (Ow.ext o16 ((((e20.t e26).t e42).t e49).t e55))) (Ow.rd (Ow.ext h45 (e49.t e55))) (od c58) (od c59) (od c60) (od c61)) rfl <| fun v64 w62 e63 o65 => lp rfl (xm (.tuple #[v64, (.int .i64 ((qE z11 x6_30).2))]) rfl) <| lp rfl (vq (v := v64) rfl rfl) <| lp rfl (vq (v := (.int .i64 ((qE z11 x6_30).2))) rfl rfl) <| lp rfl (xa v64 rfl) <| lp rfl (xa (.int .i64 ((qE z11 x6_30).2)) rfl) <| nx <| wr <| lp rfl (xm v15 (K41 5 rfl)) <| lp rfl (qf h44) ?_
   obtain ⟨c66, H⟩ := qa H
   obtain ⟨c67, H⟩ := qa H
   obtain ⟨c68, H⟩ := qa H
   obtain ⟨c69, H⟩ := qa H
   refine V8 (.plain rfl) rfl (ltb rfl) rfl Tryz.call28 (j8.calls (w := w62) (a0 := z11) (a1 := x6_30) (Ow.rd (Ow.ext o16 (((((e20.t e26).t e42).t e49).t e55).t e63))) (Ow.rd (Ow.ext h45 ((e49.t e55).t e63))) (od c66) (od c67) (od c68) (od c69)) rfl <| fun v72 w70 e71 o73 => lp rfl (xm (.tuple #[v72, (.int .i64 ((qE z11 x6_30).2))]) rfl) <| lp rfl (vq (v := v72) rfl rfl) <| lp rfl (vq (v := (.int .i64 ((qE z11 x6_30).2))) rfl rfl) <| lp rfl (xa v72 rfl) <| lp rfl (xa (.int .i64 ((qE z11 x6_30).2)) rfl) <| nx <| wr <| lp rfl (xm v15 (K41 5 rfl)) <| lp rfl (qf h44) ?_
   obtain ⟨c74, H⟩ := qa H
   obtain ⟨c75, H⟩ := qa H
   obtain ⟨c76, H⟩ := qa H
   obtain ⟨c77, H⟩ := qa H
   refine V8 (.plain rfl) rfl (ltb rfl) rfl Tryz.call29 (yG.calls (w := w70) (a0 := z11) (a1 := x6_30) (GV.ext gv ((((((((e7.t e14).t e20).t e26).t e42).t e49).t e55).t e63).t e71)) (Ow.rd (Ow.ext o16 ((((((e20.t e26).t e42).t e49).t e55).t e63).t e71))) (Ow.rd (Ow.ext h45 (((e49.t e55).t e63).t e71))) (od c74) (od c75) (od c76) (od c77)) rfl <| fun v80 w78 e79 o81 => lp rfl (xm (.tuple #[v80, (.int .i64 ((yL z11 x6_30).2))]) rfl) <| lp rfl (vq (v := v80) rfl rfl) <| lp rfl (vq (v := (.int .i64 ((yL z11 x6_30).2))) rfl rfl) <| lp rfl (xa v80 rfl) <| lp rfl (xa (.int .i64 ((yL z11 x6_30).2)) rfl) <| nx <| wr <| lp rfl (xm v15 (K41 5 rfl)) <| lp rfl (qf h44) ?_
   obtain ⟨c82, H⟩ := qa H
   obtain ⟨c83, H⟩ := qa H
   obtain ⟨c84, H⟩ := qa H
   obtain ⟨c85, H⟩ := qa H
   refine V8 (.plain rfl) rfl (ltb rfl) rfl Tryz.call30 (yH.calls (w := w78) (a0 := z11) (a1 := x6_30) (Ow.rd (Ow.ext o16 (((((((e20.t e26).t e42).t e49).t e55).t e63).t e71).t e79))) (Ow.rd (Ow.ext h45 ((((e49.t e55).t e63).t e71).t e79))) (od c82) (od c83) (od c84) (od c85)) rfl <| fun v88 w86 e87 o89 => lp rfl (xm (.tuple #[v88, (.int .i64 ((yL z11 x6_30).2))]) rfl) <| lp rfl (vq (v := v88) rfl rfl) <| lp rfl (vq (v := (.int .i64 ((yL z11 x6_30).2))) rfl rfl) <| lp rfl (xa v88 rfl) <| lp rfl (xa (.int .i64 ((yL z11 x6_30).2)) rfl) <| nx <| qj <| wr <| lp rfl (xm (.int .i64 ((qE z11 x6_30).2)) rfl) <| lp rfl (xm (.int .i64 ((qE z11 x6_30).2)) rfl) <| lp rfl (j6 rfl rfl) <| lp rfl (qf rfl) ?_
   obtain ⟨z91, x92, H⟩ := bind_some H
   refine yk 5 [(77, 82)] 81 (fun q => q = z91) ?_ ?_
   ·rcases qd x92 with ⟨b89_, H⟩ | ⟨b89_, H⟩
    ·refine ls rfl rfl rfl (cb b89_) rfl <| ls rfl rfl rfl (cb b89_) rfl <| ls rfl rfl rfl (cb b89_) rfl <| ls rfl rfl rfl (cb b89_) rfl <| lp rfl (qu (b := true) (v := (.bool true)) (cb b89_) rfl) ?_
     obtain rfl := si H
     exact nx ⟨(ku1 (ku4 kz rfl) rfl), ⟨_, rfl, rfl⟩, er⟩
    ·refine lg rfl rfl rfl rfl (cb b89_) (xm v64 rfl) <| lg rfl rfl rfl rfl (cb b89_) (xm v72 rfl) ?_
     obtain ⟨c91, H⟩ := qa H
     refine vy (tg rfl rfl rfl (cb b89_)) rfl (ltb rfl) rfl Tryz.call31 (vN.calls (w := w86) (a0 := (qE z11 x6_30).1) (a1 := (qE z11 x6_30).1) (Ow.rd (Ow.ext o65 ((e71.t e79).t e87))) (Ow.rd (Ow.ext o73 (e79.t e87))) (od c91)) rfl <| fun w92 e93 => lg rfl rfl rfl rfl (cb b89_) (yM rfl) <| lp rfl (qu (b := false) (v := (.bool (!(decide (((qE z11 x6_30).1) = ((qE z11 x6_30).1)))))) (cb b89_) rfl) ?_
     obtain rfl := si H
     exact nx ⟨(ku1 (ku4 kz rfl) rfl), ⟨_, rfl, rfl⟩, e93⟩
   intro s97 w93 z98 K94 hq h95 e96
   rw [hq] at h95; clear hq
   refine lp rfl (qf h95) ?_
   obtain ⟨z100, x101, H⟩ := bind_some H
   refine yk 3 [(83, 86)] 85 (fun q => q = z100) ?_ ?_
   ·rcases qd x101 with ⟨b98_, H⟩ | ⟨b98_, H⟩
    ·refine ls rfl rfl rfl (cb b98_) rfl <| ls rfl rfl rfl (cb b98_) rfl <| lp rfl (qu (b := true) (v := (.bool true)) (cb b98_) rfl) ?_
     obtain rfl := si H
     exact nx ⟨(ku3 kz rfl), ⟨_, rfl, rfl⟩, er⟩
    ·refine lg rfl rfl rfl rfl (cb b98_) (xm (.int .i64 ((yL z11 x6_30).2)) (K94 13 rfl)) <| lg rfl rfl rfl rfl (cb b98_) (j6 rfl rfl) <| lp rfl (qu (b := false) (v := (.bool (!decide (((yL z11 x6_30).2) = 0)))) (cb b98_) rfl) ?_
     obtain rfl := si H
     exact nx ⟨(ku3 kz rfl), ⟨_, rfl, rfl⟩, er⟩
   intro s106 w102 z107 K103 hq h104 e105
   rw [hq] at h104; clear hq
   refine lp rfl (qf h104) ?_
   obtain ⟨z109, x110, H⟩ := bind_some H
   refine yk 5 [(87, 92)] 91 (fun q => q = z109) ?_ ?_
   ·rcases qd x110 with ⟨b107_, H⟩ | ⟨b107_, H⟩
    ·refine ls rfl rfl rfl (cb b107_) rfl <| ls rfl rfl rfl (cb b107_) rfl <| ls rfl rfl rfl (cb b107_) rfl <| ls rfl rfl rfl (cb b107_) rfl <| lp rfl (qu (b := true) (v := (.bool true)) (cb b107_) rfl) ?_
     obtain rfl := si H
     exact nx ⟨(ku1 (ku4 kz rfl) rfl), ⟨_, rfl, rfl⟩, er⟩
    ·refine lg rfl rfl rfl rfl (cb b107_) (xm v80 ((K103 12 rfl).trans (K94 12 rfl))) <| lg rfl rfl rfl rfl (cb b107_) (xm v88 ((K103 14 rfl).trans (K94 14 rfl))) ?_
     obtain ⟨c109, H⟩ := qa H
     refine vy (tg rfl rfl rfl (cb b107_)) rfl (ltb rfl) rfl Tryz.call32 (yN.calls (w := w102) (a0 := (yL z11 x6_30).1) (a1 := (yL z11 x6_30).1) (Ow.rd (Ow.ext o81 ((e87.t e96).t e105))) (Ow.rd (Ow.ext o89 (e96.t e105))) (od c109)) rfl <| fun w110 e111 => lg rfl rfl rfl rfl (cb b107_) (yM rfl) <| lp rfl (qu (b := false) (v := (.bool (!(decide (((yL z11 x6_30).1) = ((yL z11 x6_30).1)))))) (cb b107_) rfl) ?_
     obtain rfl := si H
     exact nx ⟨(ku1 (ku4 kz rfl) rfl), ⟨_, rfl, rfl⟩, e111⟩
   intro s115 w111 z116 K112 hq h113 e114
   rw [hq] at h113; clear hq
   refine nx ?_
   rcases qd H with ⟨q117, H⟩ | ⟨q117, H⟩
   ·refine qk (h113.trans (cb q117)) <| wr <| lp rfl (xa (.bool false) rfl) <| nx <| qn <| qw <| qt ?_
    obtain rfl := si H
    exact vh rfl (((((((((((((e7.t e14).t e20).t e26).t e42).t e49).t e55).t e63).t e71).t e79).t e87).t e96).t e105).t e114)
   ·refine qi (h113.trans (cb q117)) <| qo <| qe <| wr <| lp rfl (xm v15 ((K112 5 rfl).trans ((K103 5 rfl).trans ((K94 5 rfl).trans (K41 5 rfl))))) ?_
    obtain ⟨c118, H⟩ := qa H
    obtain ⟨c119, H⟩ := qa H
    refine V8 (.plain rfl) rfl (ltb rfl) rfl Tryz.call33 (jj.calls (w := w111) (a0 := z11) (Ow.rd (Ow.ext o16 (((((((((((e20.t e26).t e42).t e49).t e55).t e63).t e71).t e79).t e87).t e96).t e105).t e114))) (od c118) (od c119)) rfl <| fun v122 w120 e121 o123 => lp rfl (xm (.tuple #[v122, (.int .i64 ((Qz z11).2))]) rfl) <| lp rfl (vq (v := v122) rfl rfl) <| lp rfl (vq (v := (.int .i64 ((Qz z11).2))) rfl rfl) <| lp rfl (xa v122 rfl) <| lp rfl (xa (.int .i64 ((Qz z11).2)) rfl) <| nx <| wr <| lp rfl (xm v15 ((K112 5 rfl).trans ((K103 5 rfl).trans ((K94 5 rfl).trans (K41 5 rfl))))) ?_
    obtain ⟨c124, H⟩ := qa H
    obtain ⟨c125, H⟩ := qa H
    obtain ⟨c126, H⟩ := qa H
    obtain ⟨c127, H⟩ := qa H
    refine V8 (.plain rfl) rfl (ltb rfl) rfl Tryz.call27 (jz.calls (w := w120) (a0 := ([] : List Rec)) (a1 := z11) (GV.ext gv ((((((((((((((e7.t e14).t e20).t e26).t e42).t e49).t e55).t e63).t e71).t e79).t e87).t e96).t e105).t e114).t e121)) (Rd.nil _ _ _) (Ow.rd (Ow.ext o16 ((((((((((((e20.t e26).t e42).t e49).t e55).t e63).t e71).t e79).t e87).t e96).t e105).t e114).t e121))) (od c124) (od c125) (od c126) (od c127)) rfl <| fun v130 w128 e129 o131 => lp rfl (xm (.tuple #[v130, (.int .i64 ((qE ([] : List Rec) z11).2))]) rfl) <| lp rfl (vq (v := v130) rfl rfl) <| lp rfl (vq (v := (.int .i64 ((qE ([] : List Rec) z11).2))) rfl rfl) <| lp rfl (xa v130 rfl) <| lp rfl (xa (.int .i64 ((qE ([] : List Rec) z11).2)) rfl) <| nx <| wr <| lp rfl (xm v15 ((K112 5 rfl).trans ((K103 5 rfl).trans ((K94 5 rfl).trans (K41 5 rfl))))) ?_
    obtain ⟨c132, H⟩ := qa H
    obtain ⟨c133, H⟩ := qa H
    obtain ⟨c134, H⟩ := qa H
    obtain ⟨c135, H⟩ := qa H
    refine V8 (.plain rfl) rfl (ltb rfl) rfl Tryz.call27 (jz.calls (w := w128) (a0 := z11) (a1 := ([] : List Rec)) (GV.ext gv (((((((((((((((e7.t e14).t e20).t e26).t e42).t e49).t e55).t e63).t e71).t e79).t e87).t e96).t e105).t e114).t e121).t e129)) (Ow.rd (Ow.ext o16 (((((((((((((e20.t e26).t e42).t e49).t e55).t e63).t e71).t e79).t e87).t e96).t e105).t e114).t e121).t e129))) (Rd.nil _ _ _) (od c132) (od c133) (od c134) (od c135)) rfl <| fun v138 w136 e137 o139 => lp rfl (xm (.tuple #[v138, (.int .i64 ((qE z11 ([] : List Rec)).2))]) rfl) <| lp rfl (vq (v := v138) rfl rfl) <| lp rfl (vq (v := (.int .i64 ((qE z11 ([] : List Rec)).2))) rfl rfl) <| lp rfl (xa v138 rfl) <| lp rfl (xa (.int .i64 ((qE z11 ([] : List Rec)).2)) rfl) <| nx <| qj <| wr <| lp rfl (xm (.int .i64 ((qE ([] : List Rec) z11).2)) rfl) <| lp rfl (j6 rfl rfl) <| lp rfl (xm (.bool (!decide (((qE ([] : List Rec) z11).2) = 0))) rfl) ?_
    obtain ⟨z141, x142, H⟩ := bind_some H
    refine yk 3 [(110, 113)] 112 (fun q => q = z141) ?_ ?_
    ·rcases qd x142 with ⟨b139_, H⟩ | ⟨b139_, H⟩
     ·refine ls rfl rfl rfl (cb b139_) rfl <| ls rfl rfl rfl (cb b139_) rfl <| lp rfl (qu (b := true) (v := (.bool true)) (cb b139_) rfl) ?_
      obtain rfl := si H
      exact nx ⟨(ku3 kz rfl), ⟨_, rfl, rfl⟩, er⟩
     ·refine lg rfl rfl rfl rfl (cb b139_) (xm (.int .i64 ((qE z11 ([] : List Rec)).2)) rfl) <| lg rfl rfl rfl rfl (cb b139_) (j6 rfl rfl) <| lp rfl (qu (b := false) (v := (.bool (!decide (((qE z11 ([] : List Rec)).2) = 0)))) (cb b139_) rfl) ?_
      obtain rfl := si H
      exact nx ⟨(ku3 kz rfl), ⟨_, rfl, rfl⟩, er⟩
    intro s147 w143 z148 K144 hq h145 e146
    rw [hq] at h145; clear hq
    refine lp rfl (qf h145) ?_
    obtain ⟨z150, x151, H⟩ := bind_some H
    refine yk 5 [(114, 119)] 118 (fun q => q = z150) ?_ ?_
    ·rcases qd x151 with ⟨b148_, H⟩ | ⟨b148_, H⟩
     ·refine ls rfl rfl rfl (cb b148_) rfl <| ls rfl rfl rfl (cb b148_) rfl <| ls rfl rfl rfl (cb b148_) rfl <| ls rfl rfl rfl (cb b148_) rfl <| lp rfl (qu (b := true) (v := (.bool true)) (cb b148_) rfl) ?_
      obtain rfl := si H
      exact nx ⟨(ku1 (ku4 kz rfl) rfl), ⟨_, rfl, rfl⟩, er⟩
     ·refine lg rfl rfl rfl rfl (cb b148_) (xm v130 (K144 18 rfl)) <| lg rfl rfl rfl rfl (cb b148_) (xm v122 (K144 16 rfl)) ?_
      obtain ⟨c150, H⟩ := qa H
      refine vy (tg rfl rfl rfl (cb b148_)) rfl (ltb rfl) rfl Tryz.call31 (vN.calls (w := w143) (a0 := (qE ([] : List Rec) z11).1) (a1 := (Qz z11).1) (Ow.rd (Ow.ext o131 (e137.t e146))) (Ow.rd (Ow.ext o123 ((e129.t e137).t e146))) (od c150)) rfl <| fun w151 e152 => lg rfl rfl rfl rfl (cb b148_) (yM rfl) <| lp rfl (qu (b := false) (v := (.bool (!(decide (((qE ([] : List Rec) z11).1) = ((Qz z11).1)))))) (cb b148_) rfl) ?_
      obtain rfl := si H
      exact nx ⟨(ku1 (ku4 kz rfl) rfl), ⟨_, rfl, rfl⟩, e152⟩
    intro s156 w152 z157 K153 hq h154 e155
    rw [hq] at h154; clear hq
    refine lp rfl (qf h154) ?_
    obtain ⟨z159, x160, H⟩ := bind_some H
    refine yk 5 [(120, 125)] 124 (fun q => q = z159) ?_ ?_
    ·rcases qd x160 with ⟨b157_, H⟩ | ⟨b157_, H⟩
     ·refine ls rfl rfl rfl (cb b157_) rfl <| ls rfl rfl rfl (cb b157_) rfl <| ls rfl rfl rfl (cb b157_) rfl <| ls rfl rfl rfl (cb b157_) rfl <| lp rfl (qu (b := true) (v := (.bool true)) (cb b157_) rfl) ?_
      obtain rfl := si H
      exact nx ⟨(ku1 (ku4 kz rfl) rfl), ⟨_, rfl, rfl⟩, er⟩
     ·refine lg rfl rfl rfl rfl (cb b157_) (xm v138 ((K153 20 rfl).trans (K144 20 rfl))) <| lg rfl rfl rfl rfl (cb b157_) (xm v122 ((K153 16 rfl).trans (K144 16 rfl))) ?_
      obtain ⟨c159, H⟩ := qa H
      refine vy (tg rfl rfl rfl (cb b157_)) rfl (ltb rfl) rfl Tryz.call31 (vN.calls (w := w152) (a0 := (qE z11 ([] : List Rec)).1) (a1 := (Qz z11).1) (Ow.rd (Ow.ext o139 (e146.t e155))) (Ow.rd (Ow.ext o123 (((e129.t e137).t e146).t e155))) (od c159)) rfl <| fun w160 e161 => lg rfl rfl rfl rfl (cb b157_) (yM rfl) <| lp rfl (qu (b := false) (v := (.bool (!(decide (((qE z11 ([] : List Rec)).1) = ((Qz z11).1)))))) (cb b157_) rfl) ?_
      obtain rfl := si H
      exact nx ⟨(ku1 (ku4 kz rfl) rfl), ⟨_, rfl, rfl⟩, e161⟩
    intro s165 w161 z166 K162 hq h163 e164
    rw [hq] at h163; clear hq
    refine nx ?_
    rcases qd H with ⟨q167, H⟩ | ⟨q167, H⟩
    ·refine qk (h163.trans (cb q167)) <| wr <| lp rfl (xa (.bool false) rfl) <| nx <| qn <| qw <| qt ?_
     obtain rfl := si H
     exact vh rfl (((((((((((((((((((e7.t e14).t e20).t e26).t e42).t e49).t e55).t e63).t e71).t e79).t e87).t e96).t e105).t e114).t e121).t e129).t e137).t e146).t e155).t e164)
    ·refine qi (h163.trans (cb q167)) <| qo <| qe <| qj <| wr <| lp rfl (xm (.int .i64 ((qE z11 x6_30).2)) ((K162 11 rfl).trans ((K153 11 rfl).trans ((K144 11 rfl).trans ((K112 11 rfl).trans ((K103 11 rfl).trans (K94 11 rfl))))))) <| lp rfl (j6 rfl rfl) <| nx ?_
     rcases qd H with ⟨q168, H⟩ | ⟨q168, H⟩
     ·refine qk (cb q168) <| wr <| lp rfl (xm (.int .i64 ((qE z11 x6_30).2)) ((K162 11 rfl).trans ((K153 11 rfl).trans ((K144 11 rfl).trans ((K112 11 rfl).trans ((K103 11 rfl).trans (K94 11 rfl))))))) <| lp rfl (yn rfl rfl) <| lp rfl (xa (.bool (decide (((qE z11 x6_30).2) = 7))) rfl) <| nx <| qn <| qw <| qt ?_
      obtain rfl := si H
      exact vh rfl (((((((((((((((((((e7.t e14).t e20).t e26).t e42).t e49).t e55).t e63).t e71).t e79).t e87).t e96).t e105).t e114).t e121).t e129).t e137).t e146).t e155).t e164)
     ·refine qi (cb q168) <| qo <| qe <| wr <| lp rfl (xm v64 ((K162 8 rfl).trans ((K153 8 rfl).trans ((K144 8 rfl).trans ((K112 8 rfl).trans ((K103 8 rfl).trans (K94 8 rfl))))))) <| lp rfl (xm v56 ((K162 7 rfl).trans ((K153 7 rfl).trans ((K144 7 rfl).trans ((K112 7 rfl).trans ((K103 7 rfl).trans (K94 7 rfl))))))) ?_
      obtain ⟨c169, H⟩ := qa H
      obtain ⟨c170, H⟩ := qa H
      obtain ⟨c171, H⟩ := qa H
      obtain ⟨c172, H⟩ := qa H
      refine V8 (.plain rfl) rfl (ltb rfl) rfl Tryz.call34 (Qv.calls (w := w161) (a0 := (qE z11 x6_30).1) (a1 := z52) (GV.ext gv (((((((((((((((((((e7.t e14).t e20).t e26).t e42).t e49).t e55).t e63).t e71).t e79).t e87).t e96).t e105).t e114).t e121).t e129).t e137).t e146).t e155).t e164)) (Ow.rd (Ow.ext o65 (((((((((((e71.t e79).t e87).t e96).t e105).t e114).t e121).t e129).t e137).t e146).t e155).t e164))) (Ow.rd (Ow.ext o57 ((((((((((((e63.t e71).t e79).t e87).t e96).t e105).t e114).t e121).t e129).t e137).t e146).t e155).t e164))) (od c169) (od c170) (od c171) (od c172)) rfl <| fun v175 w173 e174 o176 => lp rfl (qf rfl) <| lp rfl (vq (v := v175) rfl rfl) <| lp rfl (vq (v := (.int .i64 ((QB ((qE z11 x6_30).1) z52).2))) rfl rfl) <| lp rfl (xa v175 rfl) <| lp rfl (xa (.int .i64 ((QB ((qE z11 x6_30).1) z52).2)) rfl) <| nx <| wr <| lp rfl (xm v15 ((K162 5 rfl).trans ((K153 5 rfl).trans ((K144 5 rfl).trans ((K112 5 rfl).trans ((K103 5 rfl).trans ((K94 5 rfl).trans (K41 5 rfl)))))))) <| lp rfl (xm v31 ((K162 6 rfl).trans ((K153 6 rfl).trans ((K144 6 rfl).trans ((K112 6 rfl).trans ((K103 6 rfl).trans ((K94 6 rfl).trans h44))))))) <| vO (.plain rfl) rfl (ltb rfl) rfl Tryz.underlying23 Tryz.sizeOf35 Tryz.zeroValue35 rfl rfl rfl (vs := [v15, v31]) rfl (by simp; exact ⟨(Rd.one (Ow.rd (Ow.ext o16 ((((((((((((((((((e20.t e26).t e42).t e49).t e55).t e63).t e71).t e79).t e87).t e96).t e105).t e114).t e121).t e129).t e137).t e146).t e155).t e164).t e174)))), (Rd.one (Ow.rd (Ow.ext h45 (((((((((((((((e49.t e55).t e63).t e71).t e79).t e87).t e96).t e105).t e114).t e121).t e129).t e137).t e146).t e155).t e164).t e174))))⟩) <| fun b177 w178 z179 z180 e181 k182 => lp rfl (xm v56 ((K162 7 rfl).trans ((K153 7 rfl).trans ((K144 7 rfl).trans ((K112 7 rfl).trans ((K103 7 rfl).trans (K94 7 rfl))))))) ?_
      obtain ⟨c183, H⟩ := qa H
      obtain ⟨c184, H⟩ := qa H
      obtain ⟨c185, H⟩ := qa H
      obtain ⟨c186, H⟩ := qa H
      obtain ⟨c187, H⟩ := qa H
      obtain ⟨z190, x191, H⟩ := bind_some H
      replace x191 := si x191
      obtain ⟨z192, x193, H⟩ := bind_some H
      replace x193 := si x193
      refine V8 (.plain rfl) rfl (ltb rfl) rfl Tryz.call35 (jr.calls (w := w178) (a0 := ([z11, x6_30] : List (List Rec))) (a1 := z52) (GV.ext gv (((((((((((((((((((((e7.t e14).t e20).t e26).t e42).t e49).t e55).t e63).t e71).t e79).t e87).t e96).t e105).t e114).t e121).t e129).t e137).t e146).t e155).t e164).t e174).t e181)) (Rd2.new (vs := [v15, v31]) k182 ⟨(Ow.rd (Ow.ext o16 (((((((((((((((((((e20.t e26).t e42).t e49).t e55).t e63).t e71).t e79).t e87).t e96).t e105).t e114).t e121).t e129).t e137).t e146).t e155).t e164).t e174).t e181))), (Ow.rd (Ow.ext h45 ((((((((((((((((e49.t e55).t e63).t e71).t e79).t e87).t e96).t e105).t e114).t e121).t e129).t e137).t e146).t e155).t e164).t e174).t e181))), trivial⟩ (Nat.le_of_ble_eq_true rfl)) (Ow.rd (Ow.ext o57 ((((((((((((((e63.t e71).t e79).t e87).t e96).t e105).t e114).t e121).t e129).t e137).t e146).t e155).t e164).t e174).t e181))) (od c183) (od c184) (od c185) (od c186) (od c187)) rfl <| fun v194 w188 e189 o195 => lp rfl (qf rfl) <| lp rfl (vq (v := v194) rfl rfl) <| lp rfl (vq (v := (.int .i64 ((yT ([z11, x6_30] : List (List Rec)) z52).2))) rfl rfl) <| lp rfl (xa v194 rfl) <| lp rfl (xa (.int .i64 z192) (congrArg (Value.int .i64) x193)) <| nx <| wr <| lp rfl (xm v15 ((K162 5 rfl).trans ((K153 5 rfl).trans ((K144 5 rfl).trans ((K112 5 rfl).trans ((K103 5 rfl).trans ((K94 5 rfl).trans (K41 5 rfl)))))))) <| lp rfl (xm v31 ((K162 6 rfl).trans ((K153 6 rfl).trans ((K144 6 rfl).trans ((K112 6 rfl).trans ((K103 6 rfl).trans ((K94 6 rfl).trans h44))))))) <| vO (.plain rfl) rfl (ltb rfl) rfl Tryz.underlying23 Tryz.sizeOf35 Tryz.zeroValue35 rfl rfl rfl (vs := [v15, v31]) rfl (by simp; exact ⟨(Rd.one (Ow.rd (Ow.ext o16 ((((((((((((((((((((e20.t e26).t e42).t e49).t e55).t e63).t e71).t e79).t e87).t e96).t e105).t e114).t e121).t e129).t e137).t e146).t e155).t e164).t e174).t e181).t e189)))), (Rd.one (Ow.rd (Ow.ext h45 (((((((((((((((((e49.t e55).t e63).t e71).t e79).t e87).t e96).t e105).t e114).t e121).t e129).t e137).t e146).t e155).t e164).t e174).t e181).t e189))))⟩) <| fun b196 w197 z198 z199 e200 k201 => lp rfl (xm v56 ((K162 7 rfl).trans ((K153 7 rfl).trans ((K144 7 rfl).trans ((K112 7 rfl).trans ((K103 7 rfl).trans (K94 7 rfl))))))) ?_
      obtain ⟨c202, H⟩ := qa H
      obtain ⟨c203, H⟩ := qa H
      obtain ⟨c204, H⟩ := qa H
      obtain ⟨c205, H⟩ := qa H
      obtain ⟨c206, H⟩ := qa H
      obtain ⟨z209, x210, H⟩ := bind_some H
      replace x210 := si x210
      obtain ⟨z211, x212, H⟩ := bind_some H
      replace x212 := si x212
      refine V8 (.plain rfl) rfl (ltb rfl) rfl Tryz.call36 (js.calls (w := w197) (a0 := ([z11, x6_30] : List (List Rec))) (a1 := z52) (Rd2.new (vs := [v15, v31]) k201 ⟨(Ow.rd (Ow.ext o16 (((((((((((((((((((((e20.t e26).t e42).t e49).t e55).t e63).t e71).t e79).t e87).t e96).t e105).t e114).t e121).t e129).t e137).t e146).t e155).t e164).t e174).t e181).t e189).t e200))), (Ow.rd (Ow.ext h45 ((((((((((((((((((e49.t e55).t e63).t e71).t e79).t e87).t e96).t e105).t e114).t e121).t e129).t e137).t e146).t e155).t e164).t e174).t e181).t e189).t e200))), trivial⟩ (Nat.le_of_ble_eq_true rfl)) (Ow.rd (Ow.ext o57 ((((((((((((((((e63.t e71).t e79).t e87).t e96).t e105).t e114).t e121).t e129).t e137).t e146).t e155).t e164).t e174).t e181).t e189).t e200))) (od c202) (od c203) (od c204) (od c205) (od c206)) rfl <| fun v213 w207 e208 o214 => lp rfl (qf rfl) <| lp rfl (vq (v := v213) rfl rfl) <| lp rfl (vq (v := (.int .i64 ((yT ([z11, x6_30] : List (List Rec)) z52).2))) rfl rfl) <| lp rfl (xa v213 rfl) <| lp rfl (xa (.int .i64 z211) (congrArg (Value.int .i64) x212)) <| nx <| wr <| lp rfl (xm v64 ((K162 8 rfl).trans ((K153 8 rfl).trans ((K144 8 rfl).trans ((K112 8 rfl).trans ((K103 8 rfl).trans (K94 8 rfl))))))) ?_
      obtain ⟨c215, H⟩ := qa H
      obtain ⟨c216, H⟩ := qa H
      refine lc rfl rfl Tryz.call37 (jG.calls (w := w207) (a0 := (qE z11 x6_30).1) (GV.ext gv ((((((((((((((((((((((((e7.t e14).t e20).t e26).t e42).t e49).t e55).t e63).t e71).t e79).t e87).t e96).t e105).t e114).t e121).t e129).t e137).t e146).t e155).t e164).t e174).t e181).t e189).t e200).t e208)) (Ow.rd (Ow.ext o65 ((((((((((((((((e71.t e79).t e87).t e96).t e105).t e114).t e121).t e129).t e137).t e146).t e155).t e164).t e174).t e181).t e189).t e200).t e208))) (od c215) (od c216)) rfl <| fun w217 e218 => lp rfl (xm (.bool (YP ((qE z11 x6_30).1))) rfl) ?_
      obtain ⟨z220, x221, H⟩ := bind_some H
      refine yk 4 [(154, 158)] 157 (fun q => q = z220) ?_ ?_
      ·rcases qd x221 with ⟨b218_, H⟩ | ⟨b218_, H⟩
       ·refine lg rfl rfl rfl rfl (cb b218_) (xm (.int .i64 ((QB ((qE z11 x6_30).1) z52).2)) rfl) <| lg rfl rfl rfl rfl (cb b218_) (xm (.int .i64 z211) rfl) <| lg rfl rfl rfl rfl (cb b218_) (yn rfl rfl) <| lp rfl (qu (b := true) (v := (.bool (decide (((QB ((qE z11 x6_30).1) z52).2) = z211)))) (cb b218_) rfl) ?_
        obtain rfl := si H
        exact nx ⟨(ku4 kz rfl), ⟨_, rfl, rfl⟩, er⟩
       ·refine ls rfl rfl rfl (cb b218_) rfl <| ls rfl rfl rfl (cb b218_) rfl <| ls rfl rfl rfl (cb b218_) rfl <| lp rfl (qu (b := false) (v := (.bool false)) (cb b218_) rfl) ?_
        obtain rfl := si H
        exact nx ⟨(ku4 kz rfl), ⟨_, rfl, rfl⟩, er⟩
      intro s226 w222 z227 K223 hq h224 e225
      rw [hq] at h224; clear hq
      refine lp rfl (qf h224) <| jI 4 [(159, 163)] 162 (.bool (z220 && (decide (z192 = z211)))) ?_ ?_
      ·rcases ql z220 with b227_ | b227_
       ·exact lg rfl rfl rfl rfl (cb b227_) (xm (.int .i64 z192) (K223 25 rfl)) <| lg rfl rfl rfl rfl (cb b227_) (xm (.int .i64 z211) (K223 27 rfl)) <| lg rfl rfl rfl rfl (cb b227_) (yn rfl rfl) <| lp rfl (qu (b := true) (v := (.bool (decide (z192 = z211)))) (cb b227_) rfl) <| nx ⟨(ku4 kz rfl), (VP b227_), er⟩
       ·exact ls rfl rfl rfl (cb b227_) rfl <| ls rfl rfl rfl (cb b227_) rfl <| ls rfl rfl rfl (cb b227_) rfl <| lp rfl (qu (b := false) (v := (.bool false)) (cb b227_) rfl) <| nx ⟨(ku4 kz rfl), (VS b227_), er⟩
      intro s233 w229 K230 h231 e232
      refine lp rfl (qf h231) ?_
      obtain ⟨z235, x236, H⟩ := bind_some H
      refine yk 4 [(164, 168)] 167 (fun q => q = z235) ?_ ?_
      ·rcases qd x236 with ⟨b233_, H⟩ | ⟨b233_, H⟩
       ·refine lg rfl rfl rfl rfl (cb b233_) (xm v175 ((K230 22 rfl).trans (K223 22 rfl))) <| lg rfl rfl rfl rfl (cb b233_) (xm v213 ((K230 26 rfl).trans (K223 26 rfl))) ?_
        obtain ⟨c235, H⟩ := qa H
        refine vy (tg rfl rfl rfl (cb b233_)) rfl (ltb rfl) rfl Tryz.call22 (yw.calls (w := w229) (a0 := (QB ((qE z11 x6_30).1) z52).1) (a1 := z209) (Ow.rd (Ow.ext o176 ((((((e181.t e189).t e200).t e208).t e218).t e225).t e232))) (Ow.rd (Ow.ext (x210 ▸ o214) ((e218.t e225).t e232))) (od c235)) rfl <| fun w236 e237 => lp rfl (qu (b := true) (v := (.bool (decide (((QB ((qE z11 x6_30).1) z52).1) = z209)))) (cb b233_) rfl) ?_
        obtain rfl := si H
        exact nx ⟨(ku4 kz rfl), ⟨_, rfl, rfl⟩, e237⟩
       ·refine ls rfl rfl rfl (cb b233_) rfl <| ls rfl rfl rfl (cb b233_) rfl <| ls rfl rfl rfl (cb b233_) rfl <| lp rfl (qu (b := false) (v := (.bool false)) (cb b233_) rfl) ?_
        obtain rfl := si H
        exact nx ⟨(ku4 kz rfl), ⟨_, rfl, rfl⟩, er⟩
      intro s241 w237 z242 K238 hq h239 e240
      rw [hq] at h239; clear hq
      refine lp rfl (qf h239) ?_
      obtain ⟨z244, x245, H⟩ := bind_some H
      refine yk 4 [(169, 173)] 172 (fun q => q = z244) ?_ ?_
      ·rcases qd x245 with ⟨b242_, H⟩ | ⟨b242_, H⟩
       ·refine lg rfl rfl rfl rfl (cb b242_) (xm v194 ((K238 24 rfl).trans ((K230 24 rfl).trans (K223 24 rfl)))) <| lg rfl rfl rfl rfl (cb b242_) (xm v213 ((K238 26 rfl).trans ((K230 26 rfl).trans (K223 26 rfl)))) ?_
        obtain ⟨c244, H⟩ := qa H
        refine vy (tg rfl rfl rfl (cb b242_)) rfl (ltb rfl) rfl Tryz.call22 (yw.calls (w := w237) (a0 := z190) (a1 := z209) (Ow.rd (Ow.ext (x191 ▸ o195) (((((e200.t e208).t e218).t e225).t e232).t e240))) (Ow.rd (Ow.ext (x210 ▸ o214) (((e218.t e225).t e232).t e240))) (od c244)) rfl <| fun w245 e246 => lp rfl (qu (b := true) (v := (.bool (decide (z190 = z209)))) (cb b242_) rfl) ?_
        obtain rfl := si H
        exact nx ⟨(ku4 kz rfl), ⟨_, rfl, rfl⟩, e246⟩
       ·refine ls rfl rfl rfl (cb b242_) rfl <| ls rfl rfl rfl (cb b242_) rfl <| ls rfl rfl rfl (cb b242_) rfl <| lp rfl (qu (b := false) (v := (.bool false)) (cb b242_) rfl) ?_
        obtain rfl := si H
        exact nx ⟨(ku4 kz rfl), ⟨_, rfl, rfl⟩, er⟩
      intro s250 w246 z251 K247 hq h248 e249
      rw [hq] at h248; clear hq
      refine lp rfl (qA h248) <| nx <| qn <| qt ?_
      obtain rfl := si H
      exact vh rfl (((((((((((((((((((((((((((((e7.t e14).t e20).t e26).t e42).t e49).t e55).t e63).t e71).t e79).t e87).t e96).t e105).t e114).t e121).t e129).t e137).t e146).t e155).t e164).t e174).t e181).t e189).t e200).t e208).t e218).t e225).t e232).t e240).t e249)
theorem law_FnSquash.calls {w : World} {a0 : List Int} {a1 : List Int} (gv : GV 0 w) {v_a0 : Value} (f_a0 : Rd 1 (Go.UL.encI .u8) w v_a0 a0) {v_a1 : Value} (f_a1 : Rd 1 (Go.UL.encI .u8) w v_a1 a1) (h0 : ∀ x ∈ a0, okB x) (h1 : a0.length ≤ 9223372036854775807) (h2 : ∀ x ∈ a1, okB x) (h3 : a1.length ≤ 9223372036854775807) :
  Calls Tryz.prog 4 #[v_a0, v_a1] w (Rt (RP w (.bool true))) := law_FnSquash.walk gv f_a0 f_a1 (law_FnSquash.eq a0 a1 h0 h1 h2 h3)
end Go.Proofs.YtfefjaohlhkmaaaGreatDoor
