/- The walks, by program (wip/tools). -/
import Derived.Test.YtfefjaohlhkmaaaGreatDoorProg
import Derived.Test.YtfefjaohlhkmaaaGreatDoorKJ
import Derived.Test.YtfefjaohlhkmaaaGreatDoorKL
import Derived.Test.YtfefjaohlhkmaaaGreatDooraWB
set_option linter.unusedVariables false
set_option linter.unusedSimpArgs false
set_option maxRecDepth 10000
namespace Go.Proofs.YtfefjaohlhkmaaaGreatDoor
open Go.UL Go.RowKit
/-! (*spec.l00Src).tree -/
theorem draw_tree.walk {k : Nat} {w : World} {a0 : List Int} {a1 : DSrc} {wc : World} {cv : Value} {bs : Nat} (kc : Ext wc w) (fc : Rd 1 (Go.UL.encI .u8) wc cv a0) (hz : wc.heap.size ≤ bs) (ks : Blk w bs (encSrc cv a1).toArray 162) {r : List Nd × DSrc} (H : draw_tree.sh k a0 a1 = some r) :
  Calls Tryz.prog 116 #[.pointer (some ⟨bs, 0, none⟩)] w (Rt (RSO 162 bs cv 60 4 encNd w r.1 r.2)) := by
 unfold draw_tree.sh at H
 refine calls_of_W Tryz.func116 rfl (Nat.le_of_ble_eq_true rfl) Tryz.ntmps116 rfl ?_
 refine wr <| lp rfl rfl (X_assign (v := (.slice none 0 0)) rfl) <| nx <| wr <| L_lit (.plain rfl) rfl (ltb rfl) rfl Tryz.underlying35 Tryz.sizeOf58 Tryz.zeroValue58 rfl rfl rfl (vs := []) rfl (lit_all rfl) <| fun b1 w2 z3 z4 e5 k6 => lp rfl rfl (X_assign (v := (.slice (some ⟨b1, 0, none⟩) 0 0)) rfl) <| nx <| W_seq <| wr <| lp rfl rfl (X_move (v := (.pointer (some ⟨bs, 0, none⟩))) rfl) <| lp rfl rfl (X_move (v := (.pointer (some ⟨bs, 0, none⟩))) rfl) ?_
 obtain ⟨z7, x8, H⟩ := bind_some H
 refine L_callS (.plain rfl) rfl (ltb rfl) rfl Tryz.call201 (draw_room.calls (w := w2) (a0 := a0) (a1 := a1) (a2 := 7) (Ext.trans kc e5) fc hz (Blk.ext ks e5) x8) rfl <| fun w11 g12 k13 => lp rfl rfl (X_add rfl rfl) ?_
 obtain ⟨z14, x15, H⟩ := bind_some H
 refine L_callS (.plain rfl) rfl (ltb rfl) rfl Tryz.call195 (draw_next.calls (w := w11) (a0 := a0) (a1 := z7.2) (a2 := IntKind.wrap .i64 (z7.1 + 2)) (Ext.gr (Ext.trans kc e5) g12 hz) fc hz k13 x15) rfl <| fun w18 g19 k20 => lp rfl rfl (X_assign (v := (.int .i64 z14.1)) rfl) <| nx ?_
 obtain ⟨z25, L26, C27⟩ := bind_some H
 clear H
 refine  W_cutQ (fun s0 sQ wQ => ∃ (x3_28 : List Rec) (v29 : Value) (y30 : DSrc), Kp [(3, 7), (15, 35)] s0 sQ ∧ sQ 3 = v29 ∧ Ow 58 5 encRec w18.heap.size wQ v29 x3_28 ∧ Blk wQ bs ((encSrc cv) y30).toArray 162 ∧ Gr bs (bs + 1) w18 wQ ∧ Ext wc wQ ∧ z25 = .inr (x3_28, y30)) ?_ ?_
 ·refine W_block <| W_loopI (fun s0 kk sQ wQ => ∃ (x3_21 : List Rec) (v22 : Value) (x4_23 : Int) (y24 : DSrc), Kp [(3, 7), (15, 35)] s0 sQ ∧ sQ 3 = v22 ∧ Ow 58 5 encRec w18.heap.size wQ v22 x3_21 ∧ sQ 4 = .int .i64 x4_23 ∧ Blk wQ bs ((encSrc cv) y24).toArray 162 ∧ Gr bs (bs + 1) w18 wQ ∧ Ext wc wQ ∧ loopF (draw_tree.b1 a0) kk (x3_21, x4_23, y24) = some z25) k ⟨([] : List Rec), (.slice (some ⟨b1, 0, none⟩) 0 0), z14.1, z14.2, kz, rfl, (Ow.zero), rfl, k20, (Gr.refl _ _ _), (Ext.gr (Ext.gr (Ext.trans kc e5) g12 hz) g19 hz), L26⟩ ?_
  rintro k35 s36 w37 ⟨x3_21, v22, x4_23, y24, K38, h41, h42, h43, h44, e39, e39c, L40⟩
  cases k35 with
  | zero => exact absurd L40 (by simp [loopF])
  | succ k35 =>
   obtain ⟨t45, H, S46⟩ := loopF_succ L40
   clear L40
   unfold draw_tree.b1 at H
   refine W_seq <| wr <| lp rfl rfl (X_move h43) <| lp rfl rfl (X_gtr rfl rfl) <| nx ?_
   rcases bif_two H with ⟨q47, H⟩ | ⟨q47, H⟩
   ·refine W_true (cb q47) <| W_skip <| thn_n <| W_seq <| W_block <| wr <| lp rfl rfl (X_move (v := (.pointer (some ⟨bs, 0, none⟩))) (K38 0 rfl)) <| lp rfl rfl (X_move (v := (.pointer (some ⟨bs, 0, none⟩))) (K38 0 rfl)) ?_
    obtain ⟨z48, x49, H⟩ := bind_some H
    refine L_callS (.plain rfl) rfl (ltb rfl) rfl Tryz.call148 (draw_path.calls (w := w37) (a0 := a0) (a1 := y24) e39c fc hz h44 x49) rfl <| fun w52 g53 k54 => ?_
    obtain ⟨z55, x56, H⟩ := bind_some H
    refine L_callS (.plain rfl) rfl (ltb rfl) rfl Tryz.call153 (draw_record.calls (w := w52) (a0 := a0) (a1 := z48.2) (a2 := z48.1) (Ext.gr e39c g53 hz) fc hz k54 x56) rfl <| fun w59 g60 k61 => L_alloc (.plain rfl) rfl (ltb rfl) rfl Tryz.zeroValue58 <| fun b62 w63 z64 z65 e66 k67 => L_storeA (.plain rfl) rfl rfl Tryz.sizeOf58 rfl rfl rfl rfl rfl k67 <| fun w68 h69 k70 => nx <| wr <| lp rfl rfl (X_fieldAddr Tryz.underlying58 rfl Tryz.sizeOf4 rfl rfl) <| L_store1 (.plain rfl) rfl rfl Tryz.sizeOf4 rfl rfl rfl k70 (ltb rfl) <| fun w71 h72 k73 => nx <| W_seq <| wr <| lp rfl rfl (X_fieldAddr Tryz.underlying58 rfl Tryz.sizeOf3 rfl rfl) <| lp rfl rfl (X_loadB Tryz.isAgg3 k73 rfl rfl) <| lp rfl rfl (X_eql rfl rfl) <| nx ?_
    rcases bif_two H with ⟨q74, H⟩ | ⟨q74, H⟩
    ·refine W_true (cb q74) <| W_reg <| lp rfl rfl (X_fieldAddr Tryz.underlying58 rfl Tryz.sizeOf3 rfl rfl) <| L_store1 (.plain rfl) rfl rfl Tryz.sizeOf3 rfl rfl rfl k73 (ltb rfl) <| fun w75 h76 k77 => nx <| wr <| lp rfl rfl (X_move h41) <| lp rfl rfl (X_loadS Tryz.isAgg58 Tryz.sizeOf58 rfl rfl (Blk.at0 k77)) ?_
     obtain ⟨c78, H⟩ := bif_some H
     refine L_callO (.plain rfl) rfl (ltb rfl) rfl Tryz.call202 (spec_l03Put.calls (w := w75) (a0 := x3_21) (a1 := (⟨3, z55.1.path, z55.1.body, z55.1.mode, false⟩ : Rec)) (Ow.rd (Ow.ext (Ow.later (Ow.later h42 g53 (Nat.le_trans (Blk.lt ks) ((Gr.trans (Gr.trans (Gr.ext e5) g12) g19)).size)) g60 (Nat.le_trans (Blk.lt ks) ((Gr.trans (Gr.trans (Gr.ext e5) g12) g19)).size)) (Below.trans (Below.trans (Below.trans e66 (Wr.below h69 (Nat.le_of_eq z64))) (Wr.below h72 (Nat.le_of_eq z64))) (Wr.below h76 (Nat.le_of_eq z64))))) (od c78)) rfl <| fun v81 w79 e80 o82 => lp rfl rfl (X_assign (v := v81) rfl) <| nx <| wr <| lp rfl rfl (X_move (v := v81) rfl) <| lp rfl rfl (X_lenR Tryz.underlying35 rfl (Ow.rd o82)) <| lp rfl rfl (X_leq rfl rfl) <| nx ?_
     rcases bif_two H with ⟨q83, H⟩ | ⟨q83, H⟩
     ·refine W_true (cb q83) <| W_reg <| lp rfl rfl (X_move (v := v81) rfl) <| lp rfl rfl (X_assign (v := v81) rfl) <| L_nil <| blk_n <| thn_n <| W_reg <| lp rfl rfl (X_move h43) <| lp rfl rfl (X_sub rfl rfl) <| lp rfl rfl (X_assign (v := (.int .i64 (IntKind.wrap .i64 (x4_23 - 1)))) rfl) <| nx ?_
      obtain rfl := si H
      exact ⟨_, Nat.lt_succ_self _, (putR 2 x3_21 (⟨3, z55.1.path, z55.1.body, z55.1.mode, false⟩ : Rec)), v81, IntKind.wrap .i64 (x4_23 - 1), z55.2, (ku8 (ku8 (ku8 K38 rfl) rfl) rfl), rfl, (Ow.base o82 ((Gr.trans (Gr.trans (Gr.trans e39 g53) g60) (Gr.ext (Below.trans (Below.trans (Below.trans e66 (Wr.below h69 (Nat.le_of_eq z64))) (Wr.below h72 (Nat.le_of_eq z64))) (Wr.below h76 (Nat.le_of_eq z64)))))).size), rfl, (Blk.ext k61 (Ext.trans (Below.trans (Below.trans (Below.trans e66 (Wr.below h69 (Nat.le_of_eq z64))) (Wr.below h72 (Nat.le_of_eq z64))) (Wr.below h76 (Nat.le_of_eq z64))) e80)), (Gr.trans (Gr.trans (Gr.trans (Gr.trans e39 g53) g60) (Gr.ext (Below.trans (Below.trans (Below.trans e66 (Wr.below h69 (Nat.le_of_eq z64))) (Wr.below h72 (Nat.le_of_eq z64))) (Wr.below h76 (Nat.le_of_eq z64))))) (Gr.ext e80)), (Ext.trans (Below.trans (Below.trans (Below.trans (Ext.trans (Ext.gr (Ext.gr e39c g53 hz) g60 hz) e66) (Below.mono (Wr.below h69 (Nat.le_of_eq z64)) ((Ext.gr (Ext.gr e39c g53 hz) g60 hz)).size)) (Below.mono (Wr.below h72 (Nat.le_of_eq z64)) ((Ext.gr (Ext.gr e39c g53 hz) g60 hz)).size)) (Below.mono (Wr.below h76 (Nat.le_of_eq z64)) ((Ext.gr (Ext.gr e39c g53 hz) g60 hz)).size)) e80), S46⟩
     ·refine W_false (cb q83) <| W_skip <| blk_n <| thn_n <| W_reg <| lp rfl rfl (X_move h43) <| lp rfl rfl (X_sub rfl rfl) <| lp rfl rfl (X_assign (v := (.int .i64 (IntKind.wrap .i64 (x4_23 - 1)))) rfl) <| nx ?_
      obtain rfl := si H
      exact ⟨_, Nat.lt_succ_self _, x3_21, v22, IntKind.wrap .i64 (x4_23 - 1), z55.2, (ku2 (ku4 (ku8 (ku8 K38 rfl) rfl) rfl) rfl), h41, (Ow.ext (Ow.later (Ow.later h42 g53 (Nat.le_trans (Blk.lt ks) ((Gr.trans (Gr.trans (Gr.ext e5) g12) g19)).size)) g60 (Nat.le_trans (Blk.lt ks) ((Gr.trans (Gr.trans (Gr.ext e5) g12) g19)).size)) (Ext.trans (Below.trans (Below.trans (Below.trans e66 (Wr.below h69 (Nat.le_of_eq z64))) (Wr.below h72 (Nat.le_of_eq z64))) (Wr.below h76 (Nat.le_of_eq z64))) e80)), rfl, (Blk.ext k61 (Ext.trans (Below.trans (Below.trans (Below.trans e66 (Wr.below h69 (Nat.le_of_eq z64))) (Wr.below h72 (Nat.le_of_eq z64))) (Wr.below h76 (Nat.le_of_eq z64))) e80)), (Gr.trans (Gr.trans (Gr.trans (Gr.trans e39 g53) g60) (Gr.ext (Below.trans (Below.trans (Below.trans e66 (Wr.below h69 (Nat.le_of_eq z64))) (Wr.below h72 (Nat.le_of_eq z64))) (Wr.below h76 (Nat.le_of_eq z64))))) (Gr.ext e80)), (Ext.trans (Below.trans (Below.trans (Below.trans (Ext.trans (Ext.gr (Ext.gr e39c g53 hz) g60 hz) e66) (Below.mono (Wr.below h69 (Nat.le_of_eq z64)) ((Ext.gr (Ext.gr e39c g53 hz) g60 hz)).size)) (Below.mono (Wr.below h72 (Nat.le_of_eq z64)) ((Ext.gr (Ext.gr e39c g53 hz) g60 hz)).size)) (Below.mono (Wr.below h76 (Nat.le_of_eq z64)) ((Ext.gr (Ext.gr e39c g53 hz) g60 hz)).size)) e80), S46⟩
    ·refine W_false (cb q74) <| W_skip <| thn_n <| wr <| lp rfl rfl (X_move h41) <| lp rfl rfl (X_loadS Tryz.isAgg58 Tryz.sizeOf58 rfl rfl (Blk.at0 k73)) ?_
     obtain ⟨c84, H⟩ := bif_some H
     refine L_callO (.plain rfl) rfl (ltb rfl) rfl Tryz.call202 (spec_l03Put.calls (w := w71) (a0 := x3_21) (a1 := (⟨z55.1.kind, z55.1.path, z55.1.body, z55.1.mode, false⟩ : Rec)) (Ow.rd (Ow.ext (Ow.later (Ow.later h42 g53 (Nat.le_trans (Blk.lt ks) ((Gr.trans (Gr.trans (Gr.ext e5) g12) g19)).size)) g60 (Nat.le_trans (Blk.lt ks) ((Gr.trans (Gr.trans (Gr.ext e5) g12) g19)).size)) (Below.trans (Below.trans e66 (Wr.below h69 (Nat.le_of_eq z64))) (Wr.below h72 (Nat.le_of_eq z64))))) (od c84)) rfl <| fun v87 w85 e86 o88 => lp rfl rfl (X_assign (v := v87) rfl) <| nx <| wr <| lp rfl rfl (X_move (v := v87) rfl) <| lp rfl rfl (X_lenR Tryz.underlying35 rfl (Ow.rd o88)) <| lp rfl rfl (X_leq rfl rfl) <| nx ?_
     rcases bif_two H with ⟨q89, H⟩ | ⟨q89, H⟩
     ·refine W_true (cb q89) <| W_reg <| lp rfl rfl (X_move (v := v87) rfl) <| lp rfl rfl (X_assign (v := v87) rfl) <| L_nil <| blk_n <| thn_n <| W_reg <| lp rfl rfl (X_move h43) <| lp rfl rfl (X_sub rfl rfl) <| lp rfl rfl (X_assign (v := (.int .i64 (IntKind.wrap .i64 (x4_23 - 1)))) rfl) <| nx ?_
      obtain rfl := si H
      exact ⟨_, Nat.lt_succ_self _, (putR 2 x3_21 (⟨z55.1.kind, z55.1.path, z55.1.body, z55.1.mode, false⟩ : Rec)), v87, IntKind.wrap .i64 (x4_23 - 1), z55.2, (ku3 (ku4 (ku8 (ku8 K38 rfl) rfl) rfl) rfl), rfl, (Ow.base o88 ((Gr.trans (Gr.trans (Gr.trans e39 g53) g60) (Gr.ext (Below.trans (Below.trans e66 (Wr.below h69 (Nat.le_of_eq z64))) (Wr.below h72 (Nat.le_of_eq z64)))))).size), rfl, (Blk.ext k61 (Ext.trans (Below.trans (Below.trans e66 (Wr.below h69 (Nat.le_of_eq z64))) (Wr.below h72 (Nat.le_of_eq z64))) e86)), (Gr.trans (Gr.trans (Gr.trans (Gr.trans e39 g53) g60) (Gr.ext (Below.trans (Below.trans e66 (Wr.below h69 (Nat.le_of_eq z64))) (Wr.below h72 (Nat.le_of_eq z64))))) (Gr.ext e86)), (Ext.trans (Below.trans (Below.trans (Ext.trans (Ext.gr (Ext.gr e39c g53 hz) g60 hz) e66) (Below.mono (Wr.below h69 (Nat.le_of_eq z64)) ((Ext.gr (Ext.gr e39c g53 hz) g60 hz)).size)) (Below.mono (Wr.below h72 (Nat.le_of_eq z64)) ((Ext.gr (Ext.gr e39c g53 hz) g60 hz)).size)) e86), S46⟩
     ·refine W_false (cb q89) <| W_skip <| blk_n <| thn_n <| W_reg <| lp rfl rfl (X_move h43) <| lp rfl rfl (X_sub rfl rfl) <| lp rfl rfl (X_assign (v := (.int .i64 (IntKind.wrap .i64 (x4_23 - 1)))) rfl) <| nx ?_
      obtain rfl := si H
      exact ⟨_, Nat.lt_succ_self _, x3_21, v22, IntKind.wrap .i64 (x4_23 - 1), z55.2, (ku1 (ku4 (ku8 (ku8 K38 rfl) rfl) rfl) rfl), h41, (Ow.ext (Ow.later (Ow.later h42 g53 (Nat.le_trans (Blk.lt ks) ((Gr.trans (Gr.trans (Gr.ext e5) g12) g19)).size)) g60 (Nat.le_trans (Blk.lt ks) ((Gr.trans (Gr.trans (Gr.ext e5) g12) g19)).size)) (Ext.trans (Below.trans (Below.trans e66 (Wr.below h69 (Nat.le_of_eq z64))) (Wr.below h72 (Nat.le_of_eq z64))) e86)), rfl, (Blk.ext k61 (Ext.trans (Below.trans (Below.trans e66 (Wr.below h69 (Nat.le_of_eq z64))) (Wr.below h72 (Nat.le_of_eq z64))) e86)), (Gr.trans (Gr.trans (Gr.trans (Gr.trans e39 g53) g60) (Gr.ext (Below.trans (Below.trans e66 (Wr.below h69 (Nat.le_of_eq z64))) (Wr.below h72 (Nat.le_of_eq z64))))) (Gr.ext e86)), (Ext.trans (Below.trans (Below.trans (Ext.trans (Ext.gr (Ext.gr e39c g53 hz) g60 hz) e66) (Below.mono (Wr.below h69 (Nat.le_of_eq z64)) ((Ext.gr (Ext.gr e39c g53 hz) g60 hz)).size)) (Below.mono (Wr.below h72 (Nat.le_of_eq z64)) ((Ext.gr (Ext.gr e39c g53 hz) g60 hz)).size)) e86), S46⟩
   ·refine W_false (cb q47) <| W_exit <| thn_x <| thn_x <| blk_x <| thn_n ?_
    obtain rfl := si H
    obtain rfl := si S46
    exact ⟨x3_21, v22, y24, (ku2 K38 rfl), h41, h42, h44, e39, e39c, rfl⟩
 ·rintro s32 w31 ⟨x3_28, v29, y30, K33, h90, h91, h92, e34, e34c, y93⟩
  rw [y93] at C27
  have H := C27
  replace H : _ = some _ := H
  refine thn_n <| wr <| L_lit (.plain rfl) rfl (ltb rfl) rfl Tryz.underlying29 Tryz.sizeOf60 Tryz.zeroValue60 rfl rfl rfl (vs := []) rfl (lit_all rfl) <| fun b94 w95 z96 z97 e98 k99 => lp rfl rfl (X_assign (v := (.slice (some ⟨b94, 0, none⟩) 0 0)) rfl) <| nx <| W_seq <| wr <| lp rfl rfl (X_assign (v := (.int .i64 0)) rfl) <| nx ?_
  obtain ⟨z103, L104, C105⟩ := bind_some H
  clear H
  refine  W_cutQ (fun s0 sQ wQ => ∃ (x7_106 : List Nd) (v107 : Value), Kp [(7, 9), (36, 50)] s0 sQ ∧ sQ 7 = v107 ∧ Ow 60 4 encNd w95.heap.size wQ v107 x7_106 ∧ Blk wQ bs ((encSrc cv) y30).toArray 162 ∧ Gr bs (bs + 1) w95 wQ ∧ Ext wc wQ ∧ z103 = .inr x7_106) ?_ ?_
  ·refine W_block <| W_loopI (fun s0 kk sQ wQ => ∃ (x7_100 : List Nd) (v101 : Value) (x8_102 : Int), Kp [(7, 9), (36, 50)] s0 sQ ∧ sQ 7 = v101 ∧ Ow 60 4 encNd w95.heap.size wQ v101 x7_100 ∧ sQ 8 = .int .i64 x8_102 ∧ Blk wQ bs ((encSrc cv) y30).toArray 162 ∧ Ow 58 5 encRec w18.heap.size wQ v29 x3_28 ∧ Gr bs (bs + 1) w95 wQ ∧ Ext wc wQ ∧ loopF (draw_tree.b2 x3_28) kk (x7_100, x8_102) = some z103) k ⟨([] : List Nd), (.slice (some ⟨b94, 0, none⟩) 0 0), 0, kz, rfl, (Ow.zero), rfl, (Blk.ext h92 e98), (Ow.ext h91 e98), (Gr.refl _ _ _), (Ext.trans e34c e98), L104⟩ ?_
   rintro k112 s113 w114 ⟨x7_100, v101, x8_102, K115, h118, h119, h120, h121, h122, e116, e116c, L117⟩
   cases k112 with
   | zero => exact absurd L117 (by simp [loopF])
   | succ k112 =>
    obtain ⟨t123, H, S124⟩ := loopF_succ L117
    clear L117
    unfold draw_tree.b2 at H
    refine W_seq <| wr <| lp rfl rfl (X_move h120) <| lp rfl rfl (X_move (v := v29) ((K115 3 rfl).trans h90)) <| lp rfl rfl (X_lenR Tryz.underlying35 rfl (Ow.rd h122)) <| lp rfl rfl (X_lss rfl rfl) <| nx ?_
    rcases bif_two H with ⟨q125, H⟩ | ⟨q125, H⟩
    ·refine W_true (cb q125) <| W_skip <| thn_n <| W_seq <| W_block <| W_reg <| lp rfl rfl (X_move h118) <| lp rfl rfl (X_move (v := v29) ((K115 3 rfl).trans h90)) <| lp rfl rfl (X_move h120) ?_
     obtain ⟨c126, H⟩ := bif_some H
     refine L_idx (.plain rfl) rfl (ltb rfl) rfl Tryz.underlying35 Tryz.sizeOf58 rfl (Ow.rd h122) rfl c126 <| fun p127 h128 => lp rfl rfl (X_loadS Tryz.isAgg58 Tryz.sizeOf58 rfl rfl h128) <| lc rfl rfl rfl Tryz.call203 (spec_l04Node.calls (w := w114) (a0 := gt x3_28 x8_102)) rfl <| fun w129 e130 => L_lit (.plain rfl) rfl (ltb rfl) rfl Tryz.underlying29 Tryz.sizeOf60 Tryz.zeroValue60 rfl rfl rfl (vs := [(.agg (encNd (ndOf (gt x3_28 x8_102))).toArray)]) rfl (lit_all rfl) <| fun b131 w132 z133 z134 e135 k136 => ?_
     obtain ⟨c137, H⟩ := bif_some H
     refine L_append (enc := encNd) (.plain rfl) rfl (ltb rfl) rfl El.t29 rfl rfl (Ow.ext h119 (e130.t e135)) (Ow.rd (Ow.new (xs := [(ndOf (gt x3_28 x8_102))]) (sz := 4) (enc := encNd) (base := w129.heap.size) k136 (Nat.le_of_eq z133) rfl (fun _ _ => by rfl) (Nat.le_of_ble_eq_true rfl))) (ones_Nd _) (od c137) ((Gr.trans (Gr.trans e116 (Gr.ext e130)) (Gr.ext e135))).size <| fun v138 w139 o140 z141 g142 => lp rfl rfl (X_assign (v := v138) rfl) <| L_nil <| blk_n <| thn_n <| W_reg <| lp rfl rfl (X_move h120) <| lp rfl rfl (X_add rfl rfl) <| lp rfl rfl (X_assign (v := (.int .i64 (IntKind.wrap .i64 (x8_102 + 1)))) rfl) <| nx ?_
     obtain rfl := si H
     exact ⟨_, Nat.lt_succ_self _, x7_100 ++ ([(ndOf (gt x3_28 x8_102))] : List Nd), v138, IntKind.wrap .i64 (x8_102 + 1), (ku8 (ku8 K115 rfl) rfl), rfl, o140, rfl, (Gr.blk (Gr.ofBelow (g142 _ (Below.refl _ _))) (Blk.ext h121 (e130.t e135)) (Or.inr (Nat.le_trans (Blk.lt ks) ((Gr.trans (Gr.trans (Gr.trans (Gr.trans (Gr.ext e5) g12) g19) e34) (Gr.ext e98))).size))), (Ow.before (Ow.ext h122 (e130.t e135)) (Gr.ofBelow (g142 _ (Below.refl _ _))) (Ow.hb h91) (e98).size), (Gr.thn (Gr.trans (Gr.trans e116 (Gr.ext e130)) (Gr.ext e135)) (g142 _ (Below.refl _ _))), (Below.trans (Ext.trans (Ext.trans e116c e130) e135) (Below.mono (g142 _ (Below.refl _ _)) ((Ext.trans e34c e98)).size)), S124⟩
    ·refine W_false (cb q125) <| W_exit <| thn_x <| thn_x <| blk_x <| thn_n ?_
     obtain rfl := si H
     obtain rfl := si S124
     exact ⟨x7_100, v101, (ku4 K115 rfl), h118, h119, h121, e116, e116c, rfl⟩
  ·rintro s109 w108 ⟨x7_106, v107, K110, h143, h144, h145, e111, e111c, y146⟩
   rw [y146] at C105
   have H := C105
   replace H : _ = some _ := H
   refine thn_n <| wr <| lp rfl rfl (X_move h143) <| lp rfl rfl (X_assign (v := v107) rfl) <| nx <| W_ret <| fin_r ?_
   obtain rfl := si H
   exact fin1so rfl (Gr.trans (Gr.trans (Gr.trans (Gr.trans (Gr.trans (Gr.ext e5) g12) g19) e34) (Gr.ext e98)) e111) h145 h144 ((Gr.trans (Gr.trans (Gr.trans (Gr.trans (Gr.ext e5) g12) g19) e34) (Gr.ext e98))).size
theorem draw_tree.calls {w : World} {a0 : List Int} {a1 : DSrc} {r : List Nd × DSrc} {wc : World} {cv : Value} {bs : Nat} (kc : Ext wc w) (fc : Rd 1 (Go.UL.encI .u8) wc cv a0) (hz : wc.heap.size ≤ bs) (ks : Blk w bs (encSrc cv a1).toArray 162) (H : (draw_tree.sh 24 a0 a1) = some r) :
  Calls Tryz.prog 116 #[.pointer (some ⟨bs, 0, none⟩)] w (Rt (RSO 162 bs cv 60 4 encNd w r.1 r.2)) := by
 obtain ⟨k, h⟩ := draw_tree.eq a0 a1 H
 exact draw_tree.walk kc fc hz ks h
/-! spec.LayerDrawn -/
theorem spec_LayerDrawn.walk {w : World} {a0 : List Int} {v_a0 : Value} (f_a0 : Rd 1 (Go.UL.encI .u8) w v_a0 a0) {r : List Rec} (H : spec_LayerDrawn.sh a0 = some r) :
  Calls Tryz.prog 23 #[v_a0] w (Rt (RO 58 5 encRec w r)) := by
 unfold spec_LayerDrawn.sh at H
 refine calls_of_W Tryz.func23 rfl (Nat.le_of_ble_eq_true rfl) Tryz.ntmps23 rfl ?_
 refine wr <| lp rfl rfl (X_assign (v := (.slice none 0 0)) rfl) <| nx <| wr <| lp rfl rfl (X_move (v := v_a0) rfl) ?_
 obtain ⟨z1, x2, H⟩ := bind_some H
 refine L_callSN (.plain rfl) rfl (ltb rfl) rfl Tryz.call103 (spec_l00Source.calls (w := w) (a0 := a0) f_a0 x2) rfl <| fun b5 w3 z6 e4 k7 => ?_
 obtain ⟨z8, x9, H⟩ := bind_some H
 refine L_callSO (.plain rfl) rfl (ltb rfl) rfl Tryz.call114 (draw_layer.calls (w := w3) (a0 := a0) (a1 := z1) e4 f_a0 z6 k7 x9) rfl <| fun v15 w12 g13 k14 o16 => lp rfl rfl (X_assign (v := v15) rfl) <| nx <| W_ret <| fin_r ?_
 obtain rfl := si H
 exact fin1o rfl (Ext.gr e4 g13 z6) o16 (e4).size
theorem spec_LayerDrawn.calls {w : World} {a0 : List Int} {r : List Rec} {v_a0 : Value} (f_a0 : Rd 1 (Go.UL.encI .u8) w v_a0 a0) (H : (spec_LayerDrawn.sh a0) = some r) :
  Calls Tryz.prog 23 #[v_a0] w (Rt (RO 58 5 encRec w r)) := spec_LayerDrawn.walk f_a0 (spec_LayerDrawn.eq a0 H)
/-! spec.TreeDrawn -/
theorem spec_TreeDrawn.walk {w : World} {a0 : List Int} {v_a0 : Value} (f_a0 : Rd 1 (Go.UL.encI .u8) w v_a0 a0) {r : List Nd} (H : spec_TreeDrawn.sh a0 = some r) :
  Calls Tryz.prog 25 #[v_a0] w (Rt (RO 60 4 encNd w r)) := by
 unfold spec_TreeDrawn.sh at H
 refine calls_of_W Tryz.func25 rfl (Nat.le_of_ble_eq_true rfl) Tryz.ntmps25 rfl ?_
 refine wr <| lp rfl rfl (X_assign (v := (.slice none 0 0)) rfl) <| nx <| wr <| lp rfl rfl (X_move (v := v_a0) rfl) ?_
 obtain ⟨z1, x2, H⟩ := bind_some H
 refine L_callSN (.plain rfl) rfl (ltb rfl) rfl Tryz.call103 (spec_l00Source.calls (w := w) (a0 := a0) f_a0 x2) rfl <| fun b5 w3 z6 e4 k7 => ?_
 obtain ⟨z8, x9, H⟩ := bind_some H
 refine L_callSO (.plain rfl) rfl (ltb rfl) rfl Tryz.call116 (draw_tree.calls (w := w3) (a0 := a0) (a1 := z1) e4 f_a0 z6 k7 x9) rfl <| fun v15 w12 g13 k14 o16 => lp rfl rfl (X_assign (v := v15) rfl) <| nx <| W_ret <| fin_r ?_
 obtain rfl := si H
 exact fin1o rfl (Ext.gr e4 g13 z6) o16 (e4).size
theorem spec_TreeDrawn.calls {w : World} {a0 : List Int} {r : List Nd} {v_a0 : Value} (f_a0 : Rd 1 (Go.UL.encI .u8) w v_a0 a0) (H : (spec_TreeDrawn.sh a0) = some r) :
  Calls Tryz.prog 25 #[v_a0] w (Rt (RO 60 4 encNd w r)) := spec_TreeDrawn.walk f_a0 (spec_TreeDrawn.eq a0 H)
/-! laws.FnApply -/
abbrev law_FnApply.e1 (x13_85 : Int) (z109 : Int) (z11 : List Rec) := ((!(!decide ((decide (z109 < 0)) = (decide (((gt z11 x13_85).kind) = 4))))) && (decide (0 ≤ z109)))
abbrev law_FnApply.e2 (x15_204 : Int) (z11 : List Rec) (z17 : List Nd) := ((decide (((findRec z11 ((gt z17 x15_204).path)).2) = 5)) && (!((cutsOf z11 ((gt z17 x15_204).path)).1)))
abbrev law_FnApply.e3 (x13_85 : Int) (z109 : Int) (z11 : List Rec) (z17 : List Nd) := ((!decide (((gt ((applyOf z11 z17).1) z109).kind) = ((gt z11 x13_85).kind))) || (!decide (((gt ((applyOf z11 z17).1) z109).body) = ((gt z11 x13_85).body))))
abbrev law_FnApply.e4 (x15_204 : Int) (z11 : List Rec) (z17 : List Nd) (z245 : Int) := ((law_FnApply.e2 x15_204 z11 z17) && ((decide (z245 < 0)) || (!decide ((gt ((applyOf z11 z17).1) z245) = (gt z17 x15_204)))))
abbrev law_FnApply.e5 (x13_85 : Int) (z109 : Int) (z11 : List Rec) (z17 : List Nd) := ((law_FnApply.e1 x13_85 z109 z11) && (!(!decide (((gt ((applyOf z11 z17).1) z109).kind) = ((gt z11 x13_85).kind)))))
abbrev law_FnApply.e6 (x15_204 : Int) (z11 : List Rec) (z17 : List Nd) := ((decide (((findRec z11 ((gt z17 x15_204).path)).2) = 5)) && ((cutsOf z11 ((gt z17 x15_204).path)).1))
abbrev law_FnApply.e7 (x13_85 : Int) (z109 : Int) (z11 : List Rec) (z17 : List Nd) := ((law_FnApply.e1 x13_85 z109 z11) && (!(law_FnApply.e3 x13_85 z109 z11 z17)))
abbrev law_FnApply.e8 (x13_85 : Int) (z109 : Int) (z11 : List Rec) := (!decide ((decide (z109 < 0)) = (decide (((gt z11 x13_85).kind) = 4))))
abbrev law_FnApply.e9 (x13_85 : Int) (z109 : Int) (z11 : List Rec) (z17 : List Nd) := ((law_FnApply.e3 x13_85 z109 z11 z17) || (!decide (((gt ((applyOf z11 z17).1) z109).mode) = ((gt z11 x13_85).mode))))
theorem law_FnApply.walk {k : Nat} {w : World} {a0 : List Int} {a1 : List Int} (gv : GV 0 w) {v_a0 : Value} (f_a0 : Rd 1 (Go.UL.encI .u8) w v_a0 a0) {v_a1 : Value} (f_a1 : Rd 1 (Go.UL.encI .u8) w v_a1 a1) {r : Bool} (H : law_FnApply.sh k a0 a1 = some r) :
  Calls Tryz.prog 6 #[v_a0, v_a1] w (Rt (RP w (.bool r))) := by
 unfold law_FnApply.sh at H
 refine calls_of_W Tryz.func6 rfl (Nat.le_of_ble_eq_true rfl) Tryz.ntmps6 rfl ?_
 refine wr <| lp rfl rfl (X_assign (v := (.bool false)) rfl) <| nx <| W_seq <| wr <| lp rfl rfl (X_move (v := v_a0) rfl) <| lp rfl rfl (X_lenR Tryz.underlying22 rfl f_a0) <| lp rfl rfl (X_gtr rfl rfl) <| lp rfl rfl (X_move (v := (.bool (decide (1048576 < (a0.length : Int))))) rfl) ?_
 obtain ⟨z2, x3, H⟩ := bind_some H
 refine L_grpE 4 [(28, 32)] 31 (fun q => q = z2) ?_ ?_
 ·rcases bif_two x3 with ⟨b0_, H⟩ | ⟨b0_, H⟩
  ·refine ls rfl rfl rfl (cb b0_) rfl <| ls rfl rfl rfl (cb b0_) rfl <| ls rfl rfl rfl (cb b0_) rfl <| lp rfl rfl (X_pick (b := true) (v := (.bool true)) (cb b0_) rfl) ?_
   obtain rfl := si H
   exact nx ⟨(ku4 kz rfl), ⟨_, rfl, rfl⟩, er⟩
  ·refine lg rfl rfl rfl rfl (cb b0_) (X_move (v := v_a1) rfl) <| lg rfl rfl rfl rfl (cb b0_) (X_lenR Tryz.underlying22 rfl f_a1) <| lg rfl rfl rfl rfl (cb b0_) (X_gtr rfl rfl) <| lp rfl rfl (X_pick (b := false) (v := (.bool (decide (1048576 < (a1.length : Int))))) (cb b0_) rfl) ?_
   obtain rfl := si H
   exact nx ⟨(ku4 kz rfl), ⟨_, rfl, rfl⟩, er⟩
 intro s8 w4 z9 K5 hq h6 e7
 rw [hq] at h6; clear hq
 refine nx ?_
 rcases bif_two H with ⟨q10, H⟩ | ⟨q10, H⟩
 ·refine W_true (h6.trans (cb q10)) <| wr <| lp rfl rfl (X_assign (v := (.bool true)) rfl) <| nx <| W_ret <| thn_r <| fin_r ?_
  obtain rfl := si H
  exact fin1 rfl e7
 ·refine W_false (h6.trans (cb q10)) <| W_skip <| thn_n <| wr <| lp rfl rfl (X_move (v := v_a0) (K5 0 rfl)) ?_
  obtain ⟨z11, x12, H⟩ := bind_some H
  refine L_callO (.plain rfl) rfl (ltb rfl) rfl Tryz.call23 (spec_LayerDrawn.calls (w := w4) (a0 := a0) (Rd.ext f_a0 e7) x12) rfl <| fun v15 w13 e14 o16 => lp rfl rfl (X_assign (v := v15) rfl) <| nx <| wr <| lp rfl rfl (X_move (v := v_a1) (K5 1 rfl)) ?_
  obtain ⟨z17, x18, H⟩ := bind_some H
  refine L_callO (.plain rfl) rfl (ltb rfl) rfl Tryz.call25 (spec_TreeDrawn.calls (w := w13) (a0 := a1) (Rd.ext f_a1 (e7.t e14)) x18) rfl <| fun v21 w19 e20 o22 => lp rfl rfl (X_assign (v := v21) rfl) <| nx <| wr <| lp rfl rfl (X_move (v := v15) rfl) <| lp rfl rfl (X_move (v := v21) rfl) ?_
  obtain ⟨c23, H⟩ := bif_some H
  obtain ⟨c24, H⟩ := bif_some H
  obtain ⟨c25, H⟩ := bif_some H
  obtain ⟨c26, H⟩ := bif_some H
  refine L_callT (.plain rfl) rfl (ltb rfl) rfl Tryz.call34 (impl_Apply.calls (w := w19) (a0 := z11) (a1 := z17) (GV.ext gv ((e7.t e14).t e20)) (Ow.rd (Ow.ext o16 e20)) (Ow.rd o22) (od c23) (od c24) (od c25) (od c26)) rfl <| fun v29 w27 e28 o30 => lp rfl rfl (X_move (v := (.tuple #[v29, (.int .i64 ((applyOf z11 z17).2))])) rfl) <| lp rfl rfl (X_extract (v := v29) rfl rfl) <| lp rfl rfl (X_extract (v := (.int .i64 ((applyOf z11 z17).2))) rfl rfl) <| lp rfl rfl (X_assign (v := v29) rfl) <| lp rfl rfl (X_assign (v := (.int .i64 ((applyOf z11 z17).2))) rfl) <| nx <| wr <| lp rfl rfl (X_move (v := v15) rfl) <| lp rfl rfl (X_move (v := v21) rfl) ?_
  obtain ⟨c31, H⟩ := bif_some H
  obtain ⟨c32, H⟩ := bif_some H
  obtain ⟨c33, H⟩ := bif_some H
  obtain ⟨c34, H⟩ := bif_some H
  refine L_callT (.plain rfl) rfl (ltb rfl) rfl Tryz.call42 (spec_Apply.calls (w := w27) (a0 := z11) (a1 := z17) (Ow.rd (Ow.ext o16 (e20.t e28))) (Ow.rd (Ow.ext o22 e28)) (od c31) (od c32) (od c33) (od c34)) rfl <| fun v37 w35 e36 o38 => lp rfl rfl (X_move (v := (.tuple #[v37, (.int .i64 ((applyOf z11 z17).2))])) rfl) <| lp rfl rfl (X_extract (v := v37) rfl rfl) <| lp rfl rfl (X_extract (v := (.int .i64 ((applyOf z11 z17).2))) rfl rfl) <| lp rfl rfl (X_assign (v := v37) rfl) <| lp rfl rfl (X_assign (v := (.int .i64 ((applyOf z11 z17).2))) rfl) <| nx <| wr <| lp rfl rfl (X_move (v := v15) rfl) <| lp rfl rfl (X_move (v := v21) rfl) ?_
  obtain ⟨c39, H⟩ := bif_some H
  obtain ⟨c40, H⟩ := bif_some H
  obtain ⟨c41, H⟩ := bif_some H
  obtain ⟨c42, H⟩ := bif_some H
  refine lc rfl rfl rfl Tryz.call44 (impl_Changes.calls (w := w35) (a0 := z11) (a1 := z17) (GV.ext gv ((((e7.t e14).t e20).t e28).t e36)) (Ow.rd (Ow.ext o16 ((e20.t e28).t e36))) (Ow.rd (Ow.ext o22 (e28.t e36))) (od c39) (od c40) (od c41) (od c42)) rfl <| fun w43 e44 => lp rfl rfl (X_move rfl) <| lp rfl rfl (X_extract (v := (.bool ((changesOf z11 z17).1))) rfl rfl) <| lp rfl rfl (X_extract (v := (.int .i64 ((changesOf z11 z17).2))) rfl rfl) <| lp rfl rfl (X_assign (v := (.bool ((changesOf z11 z17).1))) rfl) <| lp rfl rfl (X_assign (v := (.int .i64 ((changesOf z11 z17).2))) rfl) <| nx <| W_seq <| wr <| lp rfl rfl (X_move (v := (.int .i64 ((applyOf z11 z17).2))) rfl) <| lp rfl rfl (X_move (v := (.int .i64 ((applyOf z11 z17).2))) rfl) <| lp rfl rfl (X_neq rfl rfl) <| lp rfl rfl (X_move (v := (.bool (!decide (((applyOf z11 z17).2) = ((applyOf z11 z17).2))))) rfl) ?_
  obtain ⟨z46, x47, H⟩ := bind_some H
  refine L_grpE 5 [(58, 63)] 62 (fun q => q = z46) ?_ ?_
  ·rcases bif_two x47 with ⟨b44_, H⟩ | ⟨b44_, H⟩
   ·refine ls rfl rfl rfl (cb b44_) rfl <| ls rfl rfl rfl (cb b44_) rfl <| ls rfl rfl rfl (cb b44_) rfl <| ls rfl rfl rfl (cb b44_) rfl <| lp rfl rfl (X_pick (b := true) (v := (.bool true)) (cb b44_) rfl) ?_
    obtain rfl := si H
    exact nx ⟨(ku1 (ku4 kz rfl) rfl), ⟨_, rfl, rfl⟩, er⟩
   ·refine lg rfl rfl rfl rfl (cb b44_) (X_move (v := v29) rfl) <| lg rfl rfl rfl rfl (cb b44_) (X_move (v := v37) rfl) ?_
    obtain ⟨c46, H⟩ := bif_some H
    refine L_callP (tg rfl rfl rfl (cb b44_)) rfl (ltb rfl) rfl Tryz.call22 (laws_sameNodes.calls (w := w43) (a0 := (applyOf z11 z17).1) (a1 := (applyOf z11 z17).1) (Ow.rd (Ow.ext o30 (e36.t e44))) (Ow.rd (Ow.ext o38 e44)) (od c46)) rfl <| fun w47 e48 => lg rfl rfl rfl rfl (cb b44_) (X_not rfl) <| lp rfl rfl (X_pick (b := false) (v := (.bool (!(decide (((applyOf z11 z17).1) = ((applyOf z11 z17).1)))))) (cb b44_) rfl) ?_
    obtain rfl := si H
    exact nx ⟨(ku1 (ku4 kz rfl) rfl), ⟨_, rfl, rfl⟩, e48⟩
  intro s52 w48 z53 K49 hq h50 e51
  rw [hq] at h50; clear hq
  refine lp rfl rfl (X_move h50) ?_
  obtain ⟨z55, x56, H⟩ := bind_some H
  refine L_grpE 3 [(64, 67)] 66 (fun q => q = z55) ?_ ?_
  ·rcases bif_two x56 with ⟨b53_, H⟩ | ⟨b53_, H⟩
   ·refine ls rfl rfl rfl (cb b53_) rfl <| ls rfl rfl rfl (cb b53_) rfl <| lp rfl rfl (X_pick (b := true) (v := (.bool true)) (cb b53_) rfl) ?_
    obtain rfl := si H
    exact nx ⟨(ku3 kz rfl), ⟨_, rfl, rfl⟩, er⟩
   ·refine lg rfl rfl rfl rfl (cb b53_) (X_move (v := (.int .i64 ((changesOf z11 z17).2))) (K49 12 rfl)) <| lg rfl rfl rfl rfl (cb b53_) (X_neq rfl rfl) <| lp rfl rfl (X_pick (b := false) (v := (.bool (!decide (((changesOf z11 z17).2) = 0)))) (cb b53_) rfl) ?_
    obtain rfl := si H
    exact nx ⟨(ku3 kz rfl), ⟨_, rfl, rfl⟩, er⟩
  intro s61 w57 z62 K58 hq h59 e60
  rw [hq] at h59; clear hq
  refine lp rfl rfl (X_move h59) ?_
  obtain ⟨z64, x65, H⟩ := bind_some H
  refine L_grpE 11 [(68, 79)] 78 (fun q => q = z64) ?_ ?_
  ·rcases bif_two x65 with ⟨b62_, H⟩ | ⟨b62_, H⟩
   ·refine ls rfl rfl rfl (cb b62_) rfl <| ls rfl rfl rfl (cb b62_) rfl <| ls rfl rfl rfl (cb b62_) rfl <| ls rfl rfl rfl (cb b62_) rfl <| ls rfl rfl rfl (cb b62_) rfl <| ls rfl rfl rfl (cb b62_) rfl <| ls rfl rfl rfl (cb b62_) rfl <| lu rfl rfl rfl rfl rfl <| lu rfl rfl rfl rfl rfl <| ls rfl rfl rfl (cb b62_) rfl <| lp rfl rfl (X_pick (b := true) (v := (.bool true)) (cb b62_) rfl) ?_
    obtain rfl := si H
    exact nx ⟨(ku3 (ku8 kz rfl) rfl), ⟨_, rfl, rfl⟩, er⟩
   ·refine lg rfl rfl rfl rfl (cb b62_) (X_move (v := (.bool ((changesOf z11 z17).1))) ((K58 11 rfl).trans (K49 11 rfl))) <| lg rfl rfl rfl rfl (cb b62_) (X_move (v := v37) ((K58 9 rfl).trans (K49 9 rfl))) <| lg rfl rfl rfl rfl (cb b62_) (X_move (v := v21) ((K58 6 rfl).trans (K49 6 rfl))) ?_
    obtain ⟨c64, H⟩ := bif_some H
    refine L_callP (tg rfl rfl rfl (cb b62_)) rfl (ltb rfl) rfl Tryz.call22 (laws_sameNodes.calls (w := w57) (a0 := (applyOf z11 z17).1) (a1 := z17) (Ow.rd (Ow.ext o38 ((e44.t e51).t e60))) (Ow.rd (Ow.ext o22 ((((e28.t e36).t e44).t e51).t e60))) (od c64)) rfl <| fun w65 e66 => lg rfl rfl rfl rfl (cb b62_) (X_not rfl) <| lg rfl rfl rfl rfl (cb b62_) (X_bne Tryz.underlying4 rfl rfl) <| lg rfl rfl rfl rfl (cb b62_) (X_move rfl) ?_
    obtain ⟨z68, x69, H⟩ := bind_some H
    refine L_grpE 3 [(75, 78)] 77 (fun q => q = z68) ?_ ?_
    ·rcases bif_two x69 with ⟨b66_, H⟩ | ⟨b66_, H⟩
     ·refine lg rfl rfl rfl rfl (cb b66_) (X_move (v := (.int .i64 ((applyOf z11 z17).2))) ((K58 10 rfl).trans (K49 10 rfl))) <| lg rfl rfl rfl rfl (cb b66_) (X_eql rfl rfl) <| lg rfl rfl rfl rfl (cb b62_) (X_pick (b := true) (v := (.bool (decide (((applyOf z11 z17).2) = 0)))) (cb b66_) rfl) ?_
      obtain rfl := si H
      exact nx ⟨(ku3 kz rfl), ⟨_, rfl, rfl⟩, er⟩
     ·refine ls rfl rfl rfl (cb b66_) rfl <| ls rfl rfl rfl (cb b66_) rfl <| lg rfl rfl rfl rfl (cb b62_) (X_pick (b := false) (v := (.bool false)) (cb b66_) rfl) ?_
      obtain rfl := si H
      exact nx ⟨(ku3 kz rfl), ⟨_, rfl, rfl⟩, er⟩
    intro s74 w70 z75 K71 hq h72 e73
    rw [hq] at h72; clear hq
    refine lp rfl rfl (X_pick (b := false) (v := (.bool z68)) ((K71 67 rfl).trans (cb b62_)) h72) ?_
    obtain rfl := si H
    exact nx ⟨(ku1 (Kp.cut (ku3 (ku4 kz rfl) rfl) K71 rfl) rfl), ⟨_, rfl, rfl⟩, (e66.t e73)⟩
  intro s76 w66 z77 K67 hq h68 e69
  rw [hq] at h68; clear hq
  refine nx ?_
  rcases bif_two H with ⟨q78, H⟩ | ⟨q78, H⟩
  ·refine W_true (h68.trans (cb q78)) <| wr <| lp rfl rfl (X_assign (v := (.bool false)) rfl) <| nx <| W_ret <| thn_r <| fin_r ?_
   obtain rfl := si H
   exact fin1 rfl ((((((((e7.t e14).t e20).t e28).t e36).t e44).t e51).t e60).t e69)
  ·refine W_false (h68.trans (cb q78)) <| W_skip <| thn_n <| W_seq <| wr <| lp rfl rfl (X_move (v := (.int .i64 ((applyOf z11 z17).2))) ((K67 10 rfl).trans ((K58 10 rfl).trans (K49 10 rfl)))) <| lp rfl rfl (X_neq rfl rfl) <| nx ?_
   rcases bif_two H with ⟨q79, H⟩ | ⟨q79, H⟩
   ·refine W_true (cb q79) <| wr <| lp rfl rfl (X_move (v := (.int .i64 ((applyOf z11 z17).2))) ((K67 10 rfl).trans ((K58 10 rfl).trans (K49 10 rfl)))) <| lp rfl rfl (X_eql rfl rfl) <| lp rfl rfl (X_assign (v := (.bool (decide (((applyOf z11 z17).2) = 7)))) rfl) <| nx <| W_ret <| thn_r <| fin_r ?_
    obtain rfl := si H
    exact fin1 rfl ((((((((e7.t e14).t e20).t e28).t e36).t e44).t e51).t e60).t e69)
   ·refine W_false (cb q79) <| W_skip <| thn_n <| W_seq <| wr <| lp rfl rfl (X_move (v := v29) ((K67 7 rfl).trans ((K58 7 rfl).trans (K49 7 rfl)))) ?_
    obtain ⟨c80, H⟩ := bif_some H
    obtain ⟨c81, H⟩ := bif_some H
    refine lc rfl rfl rfl Tryz.call43 (impl_TreeOK.calls (w := w66) (a0 := (applyOf z11 z17).1) (GV.ext gv ((((((((e7.t e14).t e20).t e28).t e36).t e44).t e51).t e60).t e69)) (Ow.rd (Ow.ext o30 ((((e36.t e44).t e51).t e60).t e69))) (od c80) (od c81)) rfl <| fun w82 e83 => lp rfl rfl (X_not rfl) <| nx ?_
    rcases bif_two H with ⟨q84, H⟩ | ⟨q84, H⟩
    ·refine W_true (cb q84) <| wr <| lp rfl rfl (X_assign (v := (.bool false)) rfl) <| nx <| W_ret <| thn_r <| fin_r ?_
     obtain rfl := si H
     exact fin1 rfl (((((((((e7.t e14).t e20).t e28).t e36).t e44).t e51).t e60).t e69).t e83)
    ·refine W_false (cb q84) <| W_skip <| thn_n <| W_seq <| wr <| lp rfl rfl (X_assign (v := (.int .i64 0)) rfl) <| nx ?_
     obtain ⟨z86, L87, C88⟩ := bind_some H
     clear H
     refine  W_cutQ (fun s0 sQ wQ => Kp [(4, 5), (13, 15), (86, 151)] s0 sQ ∧ Ext w82 wQ ∧ z86 = .inr ()) ?_ ?_
     ·refine W_block <| W_loopI (fun s0 kk sQ wQ => ∃ (x13_85 : Int), Kp [(4, 5), (13, 15), (86, 151)] s0 sQ ∧ sQ 13 = .int .i64 x13_85 ∧ Ext w82 wQ ∧ loopF (law_FnApply.b1 z11 z17) kk x13_85 = some z86) k ⟨0, kz, rfl, er, L87⟩ ?_
      rintro k93 s94 w95 ⟨x13_85, K96, h99, e97, L98⟩
      cases k93 with
      | zero => exact absurd L98 (by simp [loopF])
      | succ k93 =>
       obtain ⟨t100, H, S101⟩ := loopF_succ L98
       clear L98
       unfold law_FnApply.b1 at H
       refine W_seq <| wr <| lp rfl rfl (X_move h99) <| lp rfl rfl (X_move (v := v15) ((K96 5 rfl).trans ((K67 5 rfl).trans ((K58 5 rfl).trans (K49 5 rfl))))) <| lp rfl rfl (X_lenR Tryz.underlying35 rfl (Ow.rd (Ow.ext o16 ((((((((e20.t e28).t e36).t e44).t e51).t e60).t e69).t e83).t e97)))) <| lp rfl rfl (X_lss rfl rfl) <| nx ?_
       rcases bif_two H with ⟨q102, H⟩ | ⟨q102, H⟩
       ·refine W_true (cb q102) <| W_skip <| thn_n <| W_seq <| W_block <| wr <| lp rfl rfl (X_move (v := v29) ((K96 7 rfl).trans ((K67 7 rfl).trans ((K58 7 rfl).trans (K49 7 rfl))))) <| lp rfl rfl (X_move (v := v15) ((K96 5 rfl).trans ((K67 5 rfl).trans ((K58 5 rfl).trans (K49 5 rfl))))) <| lp rfl rfl (X_move h99) ?_
        obtain ⟨c103, H⟩ := bif_some H
        refine L_idx (.plain rfl) rfl (ltb rfl) rfl Tryz.underlying35 Tryz.sizeOf58 rfl (Ow.rd (Ow.ext o16 ((((((((e20.t e28).t e36).t e44).t e51).t e60).t e69).t e83).t e97))) rfl c103 <| fun p104 h105 => lp rfl rfl (X_fieldAddr Tryz.underlying58 rfl Tryz.sizeOf9 rfl rfl) <| lp rfl rfl (X_loadF Tryz.isAgg9 (j := 1) h105 rfl rfl) ?_
        obtain ⟨c106, H⟩ := bif_some H
        obtain ⟨z109, x110, H⟩ := bind_some H
        replace x110 := si x110
        refine lc rfl rfl rfl Tryz.call45 (laws_find.calls (w := w95) (a0 := (applyOf z11 z17).1) (a1 := (gt z11 x13_85).path) (Ow.rd (Ow.ext o30 ((((((e36.t e44).t e51).t e60).t e69).t e83).t e97))) (od c106)) rfl <| fun w107 e108 => lp rfl rfl (X_assign (v := (.int .i64 z109)) (congrArg (Value.int .i64) x110)) <| nx <| W_seq ?_
        obtain ⟨c111, H⟩ := bif_some H
        obtain ⟨c114, H⟩ := bif_some H
        obtain ⟨c117, H⟩ := bif_some H
        obtain ⟨c120, H⟩ := bif_some H
        obtain ⟨c123, H⟩ := bif_some H
        obtain ⟨c126, H⟩ := bif_some H
        obtain ⟨c129, H⟩ := bif_some H
        refine W_dM [LEq (.int .i64 z109), LEq (.bool (decide (z109 < 0))), LEq v15, LEq (.int .i64 x13_85), LAt0 (encRec (gt z11 x13_85)), LAt 0 (encRec (gt z11 x13_85)), LEq (.int .i64 ((gt z11 x13_85).kind)), LEq (.bool (decide (((gt z11 x13_85).kind) = 4))), LEq (.bool (law_FnApply.e8 x13_85 z109 z11)), LEq (.bool (law_FnApply.e8 x13_85 z109 z11)), LIf (!(law_FnApply.e8 x13_85 z109 z11)) (LEq (.int .i64 z109)), LIf (!(law_FnApply.e8 x13_85 z109 z11)) (LEq (.bool (decide (0 ≤ z109)))), LIf (!(law_FnApply.e8 x13_85 z109 z11)) (LEq (.bool (decide (0 ≤ z109)))), LIf (law_FnApply.e1 x13_85 z109 z11) (LEq v29), LIf (law_FnApply.e1 x13_85 z109 z11) (LEq (.int .i64 z109)), LIf (law_FnApply.e1 x13_85 z109 z11) (LAt0 (encNd (gt ((applyOf z11 z17).1) z109))), LIf (law_FnApply.e1 x13_85 z109 z11) (LAt 0 (encNd (gt ((applyOf z11 z17).1) z109))), LIf (law_FnApply.e1 x13_85 z109 z11) (LEq (.int .i64 ((gt ((applyOf z11 z17).1) z109).kind))), LIf (law_FnApply.e1 x13_85 z109 z11) (LEq v15), LIf (law_FnApply.e1 x13_85 z109 z11) (LEq (.int .i64 x13_85)), LIf (law_FnApply.e1 x13_85 z109 z11) (LAt0 (encRec (gt z11 x13_85))), LIf (law_FnApply.e1 x13_85 z109 z11) (LAt 0 (encRec (gt z11 x13_85))), LIf (law_FnApply.e1 x13_85 z109 z11) (LEq (.int .i64 ((gt z11 x13_85).kind))), LIf (law_FnApply.e1 x13_85 z109 z11) (LEq (.bool (!decide (((gt ((applyOf z11 z17).1) z109).kind) = ((gt z11 x13_85).kind))))), LIf (law_FnApply.e1 x13_85 z109 z11) (LEq (.bool (!decide (((gt ((applyOf z11 z17).1) z109).kind) = ((gt z11 x13_85).kind))))), LIf (law_FnApply.e5 x13_85 z109 z11 z17) (LEq v29), LIf (law_FnApply.e5 x13_85 z109 z11 z17) (LEq (.int .i64 z109)), LIf (law_FnApply.e5 x13_85 z109 z11 z17) (LAt0 (encNd (gt ((applyOf z11 z17).1) z109))), LIf (law_FnApply.e5 x13_85 z109 z11 z17) (LAt 2 (encNd (gt ((applyOf z11 z17).1) z109))), LIf (law_FnApply.e5 x13_85 z109 z11 z17) (LEq (S ((gt ((applyOf z11 z17).1) z109).body))), LIf (law_FnApply.e5 x13_85 z109 z11 z17) (LEq v15), LIf (law_FnApply.e5 x13_85 z109 z11 z17) (LEq (.int .i64 x13_85)), LIf (law_FnApply.e5 x13_85 z109 z11 z17) (LAt0 (encRec (gt z11 x13_85))), LIf (law_FnApply.e5 x13_85 z109 z11 z17) (LAt 2 (encRec (gt z11 x13_85))), LIf (law_FnApply.e5 x13_85 z109 z11 z17) (LEq (S ((gt z11 x13_85).body))), LIf (law_FnApply.e5 x13_85 z109 z11 z17) (LEq (.bool (!decide (((gt ((applyOf z11 z17).1) z109).body) = ((gt z11 x13_85).body))))), LIf (law_FnApply.e1 x13_85 z109 z11) (LEq (.bool (law_FnApply.e3 x13_85 z109 z11 z17))), LIf (law_FnApply.e1 x13_85 z109 z11) (LEq (.bool (law_FnApply.e3 x13_85 z109 z11 z17))), LIf (law_FnApply.e7 x13_85 z109 z11 z17) (LEq v29), LIf (law_FnApply.e7 x13_85 z109 z11 z17) (LEq (.int .i64 z109)), LIf (law_FnApply.e7 x13_85 z109 z11 z17) (LAt0 (encNd (gt ((applyOf z11 z17).1) z109))), LIf (law_FnApply.e7 x13_85 z109 z11 z17) (LAt 3 (encNd (gt ((applyOf z11 z17).1) z109))), LIf (law_FnApply.e7 x13_85 z109 z11 z17) (LEq (.int .i64 ((gt ((applyOf z11 z17).1) z109).mode))), LIf (law_FnApply.e7 x13_85 z109 z11 z17) (LEq v15), LIf (law_FnApply.e7 x13_85 z109 z11 z17) (LEq (.int .i64 x13_85)), LIf (law_FnApply.e7 x13_85 z109 z11 z17) (LAt0 (encRec (gt z11 x13_85))), LIf (law_FnApply.e7 x13_85 z109 z11 z17) (LAt 3 (encRec (gt z11 x13_85))), LIf (law_FnApply.e7 x13_85 z109 z11 z17) (LEq (.int .i64 ((gt z11 x13_85).mode))), LIf (law_FnApply.e7 x13_85 z109 z11 z17) (LEq (.bool (!decide (((gt ((applyOf z11 z17).1) z109).mode) = ((gt z11 x13_85).mode))))), LIf (law_FnApply.e1 x13_85 z109 z11) (LEq (.bool (law_FnApply.e9 x13_85 z109 z11 z17))), LIf (!(law_FnApply.e8 x13_85 z109 z11)) (LEq (.bool ((decide (0 ≤ z109)) && (law_FnApply.e9 x13_85 z109 z11 z17)))), LEq (.bool ((law_FnApply.e8 x13_85 z109 z11) || ((decide (0 ≤ z109)) && (law_FnApply.e9 x13_85 z109 z11 z17))))] (by kernel_rfl) (by kernel_rfl) ⟨LEq.mono, LEq.mono, LEq.mono, LEq.mono, LAt0.mono, LAt.mono, LEq.mono, LEq.mono, LEq.mono, LEq.mono, (LIf.mono LEq.mono), (LIf.mono LEq.mono), (LIf.mono LEq.mono), (LIf.mono LEq.mono), (LIf.mono LEq.mono), (LIf.mono LAt0.mono), (LIf.mono LAt.mono), (LIf.mono LEq.mono), (LIf.mono LEq.mono), (LIf.mono LEq.mono), (LIf.mono LAt0.mono), (LIf.mono LAt.mono), (LIf.mono LEq.mono), (LIf.mono LEq.mono), (LIf.mono LEq.mono), (LIf.mono LEq.mono), (LIf.mono LEq.mono), (LIf.mono LAt0.mono), (LIf.mono LAt.mono), (LIf.mono LEq.mono), (LIf.mono LEq.mono), (LIf.mono LEq.mono), (LIf.mono LAt0.mono), (LIf.mono LAt.mono), (LIf.mono LEq.mono), (LIf.mono LEq.mono), (LIf.mono LEq.mono), (LIf.mono LEq.mono), (LIf.mono LEq.mono), (LIf.mono LEq.mono), (LIf.mono LAt0.mono), (LIf.mono LAt.mono), (LIf.mono LEq.mono), (LIf.mono LEq.mono), (LIf.mono LEq.mono), (LIf.mono LAt0.mono), (LIf.mono LAt.mono), (LIf.mono LEq.mono), (LIf.mono LEq.mono), (LIf.mono LEq.mono), (LIf.mono LEq.mono), LEq.mono, trivial⟩ ⟨?_, ?_, ?_, ?_, ?_, ?_, ?_, ?_, ?_, ?_, ?_, ?_, ?_, ?_, ?_, ?_, ?_, ?_, ?_, ?_, ?_, ?_, ?_, ?_, ?_, ?_, ?_, ?_, ?_, ?_, ?_, ?_, ?_, ?_, ?_, ?_, ?_, ?_, ?_, ?_, ?_, ?_, ?_, ?_, ?_, ?_, ?_, ?_, ?_, ?_, ?_, ?_, trivial⟩ ?_
        ·exact fun s x e f d u => lp rfl rfl (X_move (v := (.int .i64 z109)) (f 14 rfl)) <| se rfl rfl
        ·exact fun s x e f d u => lp rfl rfl (X_lss (d 0 rfl) rfl) <| se rfl rfl
        ·exact fun s x e f d u => lp rfl rfl (X_move (v := v15) ((f 5 rfl).trans ((K96 5 rfl).trans ((K67 5 rfl).trans ((K58 5 rfl).trans (K49 5 rfl)))))) <| se rfl rfl
        ·exact fun s x e f d u => lp rfl rfl (X_move (v := (.int .i64 x13_85)) ((f 13 rfl).trans h99)) <| se rfl rfl
        ·exact fun s x e f d u => L_idx (.plain rfl) rfl (ltb rfl) rfl Tryz.underlying35 Tryz.sizeOf58 (d 2 rfl) (Ow.rd (Ow.ext o16 ((((((((((e20.t e28).t e36).t e44).t e51).t e60).t e69).t e83).t e97).t e108).t e))) (d 3 rfl) c111 <| fun p133 h134 => se rfl ⟨_, rfl, h134⟩
        ·intro s x e f d u
         obtain ⟨p135, h136, h137⟩ := (d 4 rfl)
         exact lp rfl rfl (X_fieldAddr Tryz.underlying58 rfl Tryz.sizeOf3 rfl h136) <| se rfl ⟨_, rfl, h137⟩
        ·intro s x e f d u
         obtain ⟨p138, h139, h140⟩ := (d 5 rfl)
         exact lp rfl rfl (X_loadF Tryz.isAgg3 (j := 0) h140 h139 rfl) <| se rfl rfl
        ·exact fun s x e f d u => lp rfl rfl (X_eql (d 6 rfl) rfl) <| se rfl rfl
        ·exact fun s x e f d u => lp rfl rfl (X_bne Tryz.underlying4 (d 1 rfl) (d 7 rfl)) <| se rfl rfl
        ·exact fun s x e f d u => lp rfl rfl (X_move (d 8 rfl)) <| se rfl rfl
        ·exact fun s x e f d u => gF rfl rfl rfl rfl (d 9 rfl) rfl fun b t => lt t rfl rfl (X_move (v := (.int .i64 z109)) (f 14 rfl)) <| sg rfl rfl b rfl
        ·exact fun s x e f d u => gF rfl rfl rfl rfl (d 9 rfl) rfl fun b t => lt t rfl rfl (X_geq ((d 10 rfl).1 (not_mk (not_f b))) rfl) <| sg rfl rfl b rfl
        ·exact fun s x e f d u => gF rfl rfl rfl rfl (d 9 rfl) rfl fun b t => lt t rfl rfl (X_move (v := (.bool (decide (0 ≤ z109)))) ((d 11 rfl).1 (not_mk (not_f b)))) <| sg rfl rfl b rfl
        ·exact fun s x e f d u => hT rfl rfl rfl rfl (d 12 rfl) rfl fun b t => lt t rfl rfl (X_move (v := v29) ((f 7 rfl).trans ((K96 7 rfl).trans ((K67 7 rfl).trans ((K58 7 rfl).trans (K49 7 rfl)))))) <| sg rfl rfl b rfl
        ·exact fun s x e f d u => hT rfl rfl rfl rfl (d 12 rfl) rfl fun b t => lt t rfl rfl (X_move (v := (.int .i64 z109)) (f 14 rfl)) <| sg rfl rfl b rfl
        ·exact fun s x e f d u => hT rfl rfl rfl rfl (d 12 rfl) rfl fun b t => L_idx t rfl (ltb rfl) rfl Tryz.underlying29 Tryz.sizeOf60 ((d 13 rfl).1 (and_mk (not_mk (not_f (and_l b))) (and_r b))) (Ow.rd (Ow.ext o30 ((((((((e36.t e44).t e51).t e60).t e69).t e83).t e97).t e108).t e))) ((d 14 rfl).1 (and_mk (not_mk (not_f (and_l b))) (and_r b))) (imp_take b c114) <| fun p142 h143 => sg rfl rfl b ⟨_, rfl, h143⟩
        ·intro s x e f d u
         refine hT rfl rfl rfl rfl (d 12 rfl) rfl fun b t => ?_
         obtain ⟨p144, h145, h146⟩ := ((d 15 rfl).1 (and_mk (not_mk (not_f (and_l b))) (and_r b)))
         exact lt t rfl rfl (X_fieldAddr Tryz.underlying60 rfl Tryz.sizeOf3 rfl h145) <| sg rfl rfl b ⟨_, rfl, h146⟩
        ·intro s x e f d u
         refine hT rfl rfl rfl rfl (d 12 rfl) rfl fun b t => ?_
         obtain ⟨p147, h148, h149⟩ := ((d 16 rfl).1 (and_mk (not_mk (not_f (and_l b))) (and_r b)))
         exact lt t rfl rfl (X_loadF Tryz.isAgg3 (j := 0) h149 h148 rfl) <| sg rfl rfl b rfl
        ·exact fun s x e f d u => hT rfl rfl rfl rfl (d 12 rfl) rfl fun b t => lt t rfl rfl (X_move (v := v15) ((f 5 rfl).trans ((K96 5 rfl).trans ((K67 5 rfl).trans ((K58 5 rfl).trans (K49 5 rfl)))))) <| sg rfl rfl b rfl
        ·exact fun s x e f d u => hT rfl rfl rfl rfl (d 12 rfl) rfl fun b t => lt t rfl rfl (X_move (v := (.int .i64 x13_85)) ((f 13 rfl).trans h99)) <| sg rfl rfl b rfl
        ·exact fun s x e f d u => hT rfl rfl rfl rfl (d 12 rfl) rfl fun b t => L_idx t rfl (ltb rfl) rfl Tryz.underlying35 Tryz.sizeOf58 ((d 18 rfl).1 (and_mk (not_mk (not_f (and_l b))) (and_r b))) (Ow.rd (Ow.ext o16 ((((((((((e20.t e28).t e36).t e44).t e51).t e60).t e69).t e83).t e97).t e108).t e))) ((d 19 rfl).1 (and_mk (not_mk (not_f (and_l b))) (and_r b))) (imp_take b c117) <| fun p151 h152 => sg rfl rfl b ⟨_, rfl, h152⟩
        ·intro s x e f d u
         refine hT rfl rfl rfl rfl (d 12 rfl) rfl fun b t => ?_
         obtain ⟨p153, h154, h155⟩ := ((d 20 rfl).1 (and_mk (not_mk (not_f (and_l b))) (and_r b)))
         exact lt t rfl rfl (X_fieldAddr Tryz.underlying58 rfl Tryz.sizeOf3 rfl h154) <| sg rfl rfl b ⟨_, rfl, h155⟩
        ·intro s x e f d u
         refine hT rfl rfl rfl rfl (d 12 rfl) rfl fun b t => ?_
         obtain ⟨p156, h157, h158⟩ := ((d 21 rfl).1 (and_mk (not_mk (not_f (and_l b))) (and_r b)))
         exact lt t rfl rfl (X_loadF Tryz.isAgg3 (j := 0) h158 h157 rfl) <| sg rfl rfl b rfl
        ·exact fun s x e f d u => hT rfl rfl rfl rfl (d 12 rfl) rfl fun b t => lt t rfl rfl (X_neq ((d 17 rfl).1 (and_mk (not_mk (not_f (and_l b))) (and_r b))) ((d 22 rfl).1 (and_mk (not_mk (not_f (and_l b))) (and_r b)))) <| sg rfl rfl b rfl
        ·exact fun s x e f d u => hT rfl rfl rfl rfl (d 12 rfl) rfl fun b t => lt t rfl rfl (X_move ((d 23 rfl).1 (and_mk (not_mk (not_f (and_l b))) (and_r b)))) <| sg rfl rfl b rfl
        ·exact fun s x e f d u => hF rfl rfl rfl rfl (d 24 rfl) rfl fun b t => lt t rfl rfl (X_move (v := v29) ((f 7 rfl).trans ((K96 7 rfl).trans ((K67 7 rfl).trans ((K58 7 rfl).trans (K49 7 rfl)))))) <| sg rfl rfl b rfl
        ·exact fun s x e f d u => hF rfl rfl rfl rfl (d 24 rfl) rfl fun b t => lt t rfl rfl (X_move (v := (.int .i64 z109)) (f 14 rfl)) <| sg rfl rfl b rfl
        ·exact fun s x e f d u => hF rfl rfl rfl rfl (d 24 rfl) rfl fun b t => L_idx t rfl (ltb rfl) rfl Tryz.underlying29 Tryz.sizeOf60 ((d 25 rfl).1 (and_mk (and_mk (not_mk (not_f (and_l (and_l b)))) (and_r (and_l b))) (not_mk (not_f (and_r b))))) (Ow.rd (Ow.ext o30 ((((((((e36.t e44).t e51).t e60).t e69).t e83).t e97).t e108).t e))) ((d 26 rfl).1 (and_mk (and_mk (not_mk (not_f (and_l (and_l b)))) (and_r (and_l b))) (not_mk (not_f (and_r b))))) (imp_take b c120) <| fun p160 h161 => sg rfl rfl b ⟨_, rfl, h161⟩
        ·intro s x e f d u
         refine hF rfl rfl rfl rfl (d 24 rfl) rfl fun b t => ?_
         obtain ⟨p162, h163, h164⟩ := ((d 27 rfl).1 (and_mk (and_mk (not_mk (not_f (and_l (and_l b)))) (and_r (and_l b))) (not_mk (not_f (and_r b)))))
         exact lt t rfl rfl (X_fieldAddr Tryz.underlying60 rfl Tryz.sizeOf9 rfl h163) <| sg rfl rfl b ⟨_, rfl, h164⟩
        ·intro s x e f d u
         refine hF rfl rfl rfl rfl (d 24 rfl) rfl fun b t => ?_
         obtain ⟨p165, h166, h167⟩ := ((d 28 rfl).1 (and_mk (and_mk (not_mk (not_f (and_l (and_l b)))) (and_r (and_l b))) (not_mk (not_f (and_r b)))))
         exact lt t rfl rfl (X_loadF Tryz.isAgg9 (j := 2) h167 h166 rfl) <| sg rfl rfl b rfl
        ·exact fun s x e f d u => hF rfl rfl rfl rfl (d 24 rfl) rfl fun b t => lt t rfl rfl (X_move (v := v15) ((f 5 rfl).trans ((K96 5 rfl).trans ((K67 5 rfl).trans ((K58 5 rfl).trans (K49 5 rfl)))))) <| sg rfl rfl b rfl
        ·exact fun s x e f d u => hF rfl rfl rfl rfl (d 24 rfl) rfl fun b t => lt t rfl rfl (X_move (v := (.int .i64 x13_85)) ((f 13 rfl).trans h99)) <| sg rfl rfl b rfl
        ·exact fun s x e f d u => hF rfl rfl rfl rfl (d 24 rfl) rfl fun b t => L_idx t rfl (ltb rfl) rfl Tryz.underlying35 Tryz.sizeOf58 ((d 30 rfl).1 (and_mk (and_mk (not_mk (not_f (and_l (and_l b)))) (and_r (and_l b))) (not_mk (not_f (and_r b))))) (Ow.rd (Ow.ext o16 ((((((((((e20.t e28).t e36).t e44).t e51).t e60).t e69).t e83).t e97).t e108).t e))) ((d 31 rfl).1 (and_mk (and_mk (not_mk (not_f (and_l (and_l b)))) (and_r (and_l b))) (not_mk (not_f (and_r b))))) (imp_take b c123) <| fun p169 h170 => sg rfl rfl b ⟨_, rfl, h170⟩
        ·intro s x e f d u
         refine hF rfl rfl rfl rfl (d 24 rfl) rfl fun b t => ?_
         obtain ⟨p171, h172, h173⟩ := ((d 32 rfl).1 (and_mk (and_mk (not_mk (not_f (and_l (and_l b)))) (and_r (and_l b))) (not_mk (not_f (and_r b)))))
         exact lt t rfl rfl (X_fieldAddr Tryz.underlying58 rfl Tryz.sizeOf9 rfl h172) <| sg rfl rfl b ⟨_, rfl, h173⟩
        ·intro s x e f d u
         refine hF rfl rfl rfl rfl (d 24 rfl) rfl fun b t => ?_
         obtain ⟨p174, h175, h176⟩ := ((d 33 rfl).1 (and_mk (and_mk (not_mk (not_f (and_l (and_l b)))) (and_r (and_l b))) (not_mk (not_f (and_r b)))))
         exact lt t rfl rfl (X_loadF Tryz.isAgg9 (j := 2) h176 h175 rfl) <| sg rfl rfl b rfl
        ·exact fun s x e f d u => hF rfl rfl rfl rfl (d 24 rfl) rfl fun b t => lt t rfl rfl (X_sne ((d 29 rfl).1 (and_mk (and_mk (not_mk (not_f (and_l (and_l b)))) (and_r (and_l b))) (not_mk (not_f (and_r b))))) ((d 34 rfl).1 (and_mk (and_mk (not_mk (not_f (and_l (and_l b)))) (and_r (and_l b))) (not_mk (not_f (and_r b)))))) <| sg rfl rfl b rfl
        ·exact fun s x e f d u => hT rfl rfl rfl rfl (d 12 rfl) rfl fun b t => lt t rfl rfl (X_pickO ((d 24 rfl).1 (and_mk (not_mk (not_f (and_l b))) (and_r b))) rfl fun h => ((d 35 rfl).1 (and_mk (and_mk (not_mk (not_f (and_l b))) (and_r b)) (not_mk h)))) <| sg rfl rfl b rfl
        ·exact fun s x e f d u => hT rfl rfl rfl rfl (d 12 rfl) rfl fun b t => lt t rfl rfl (X_move ((d 36 rfl).1 (and_mk (not_mk (not_f (and_l b))) (and_r b)))) <| sg rfl rfl b rfl
        ·exact fun s x e f d u => hF rfl rfl rfl rfl (d 37 rfl) rfl fun b t => lt t rfl rfl (X_move (v := v29) ((f 7 rfl).trans ((K96 7 rfl).trans ((K67 7 rfl).trans ((K58 7 rfl).trans (K49 7 rfl)))))) <| sg rfl rfl b rfl
        ·exact fun s x e f d u => hF rfl rfl rfl rfl (d 37 rfl) rfl fun b t => lt t rfl rfl (X_move (v := (.int .i64 z109)) (f 14 rfl)) <| sg rfl rfl b rfl
        ·exact fun s x e f d u => hF rfl rfl rfl rfl (d 37 rfl) rfl fun b t => L_idx t rfl (ltb rfl) rfl Tryz.underlying29 Tryz.sizeOf60 ((d 38 rfl).1 (and_mk (and_mk (not_mk (not_f (and_l (and_l b)))) (and_r (and_l b))) (not_mk (not_f (and_r b))))) (Ow.rd (Ow.ext o30 ((((((((e36.t e44).t e51).t e60).t e69).t e83).t e97).t e108).t e))) ((d 39 rfl).1 (and_mk (and_mk (not_mk (not_f (and_l (and_l b)))) (and_r (and_l b))) (not_mk (not_f (and_r b))))) (imp_take b c126) <| fun p178 h179 => sg rfl rfl b ⟨_, rfl, h179⟩
        ·intro s x e f d u
         refine hF rfl rfl rfl rfl (d 37 rfl) rfl fun b t => ?_
         obtain ⟨p180, h181, h182⟩ := ((d 40 rfl).1 (and_mk (and_mk (not_mk (not_f (and_l (and_l b)))) (and_r (and_l b))) (not_mk (not_f (and_r b)))))
         exact lt t rfl rfl (X_fieldAddr Tryz.underlying60 rfl Tryz.sizeOf3 rfl h181) <| sg rfl rfl b ⟨_, rfl, h182⟩
        ·intro s x e f d u
         refine hF rfl rfl rfl rfl (d 37 rfl) rfl fun b t => ?_
         obtain ⟨p183, h184, h185⟩ := ((d 41 rfl).1 (and_mk (and_mk (not_mk (not_f (and_l (and_l b)))) (and_r (and_l b))) (not_mk (not_f (and_r b)))))
         exact lt t rfl rfl (X_loadF Tryz.isAgg3 (j := 3) h185 h184 rfl) <| sg rfl rfl b rfl
        ·exact fun s x e f d u => hF rfl rfl rfl rfl (d 37 rfl) rfl fun b t => lt t rfl rfl (X_move (v := v15) ((f 5 rfl).trans ((K96 5 rfl).trans ((K67 5 rfl).trans ((K58 5 rfl).trans (K49 5 rfl)))))) <| sg rfl rfl b rfl
        ·exact fun s x e f d u => hF rfl rfl rfl rfl (d 37 rfl) rfl fun b t => lt t rfl rfl (X_move (v := (.int .i64 x13_85)) ((f 13 rfl).trans h99)) <| sg rfl rfl b rfl
        ·exact fun s x e f d u => hF rfl rfl rfl rfl (d 37 rfl) rfl fun b t => L_idx t rfl (ltb rfl) rfl Tryz.underlying35 Tryz.sizeOf58 ((d 43 rfl).1 (and_mk (and_mk (not_mk (not_f (and_l (and_l b)))) (and_r (and_l b))) (not_mk (not_f (and_r b))))) (Ow.rd (Ow.ext o16 ((((((((((e20.t e28).t e36).t e44).t e51).t e60).t e69).t e83).t e97).t e108).t e))) ((d 44 rfl).1 (and_mk (and_mk (not_mk (not_f (and_l (and_l b)))) (and_r (and_l b))) (not_mk (not_f (and_r b))))) (imp_take b c129) <| fun p187 h188 => sg rfl rfl b ⟨_, rfl, h188⟩
        ·intro s x e f d u
         refine hF rfl rfl rfl rfl (d 37 rfl) rfl fun b t => ?_
         obtain ⟨p189, h190, h191⟩ := ((d 45 rfl).1 (and_mk (and_mk (not_mk (not_f (and_l (and_l b)))) (and_r (and_l b))) (not_mk (not_f (and_r b)))))
         exact lt t rfl rfl (X_fieldAddr Tryz.underlying58 rfl Tryz.sizeOf3 rfl h190) <| sg rfl rfl b ⟨_, rfl, h191⟩
        ·intro s x e f d u
         refine hF rfl rfl rfl rfl (d 37 rfl) rfl fun b t => ?_
         obtain ⟨p192, h193, h194⟩ := ((d 46 rfl).1 (and_mk (and_mk (not_mk (not_f (and_l (and_l b)))) (and_r (and_l b))) (not_mk (not_f (and_r b)))))
         exact lt t rfl rfl (X_loadF Tryz.isAgg3 (j := 3) h194 h193 rfl) <| sg rfl rfl b rfl
        ·exact fun s x e f d u => hF rfl rfl rfl rfl (d 37 rfl) rfl fun b t => lt t rfl rfl (X_neq ((d 42 rfl).1 (and_mk (and_mk (not_mk (not_f (and_l (and_l b)))) (and_r (and_l b))) (not_mk (not_f (and_r b))))) ((d 47 rfl).1 (and_mk (and_mk (not_mk (not_f (and_l (and_l b)))) (and_r (and_l b))) (not_mk (not_f (and_r b)))))) <| sg rfl rfl b rfl
        ·exact fun s x e f d u => hT rfl rfl rfl rfl (d 12 rfl) rfl fun b t => lt t rfl rfl (X_pickO ((d 37 rfl).1 (and_mk (not_mk (not_f (and_l b))) (and_r b))) rfl fun h => ((d 48 rfl).1 (and_mk (and_mk (not_mk (not_f (and_l b))) (and_r b)) (not_mk h)))) <| sg rfl rfl b rfl
        ·exact fun s x e f d u => gF rfl rfl rfl rfl (d 9 rfl) rfl fun b t => lt t rfl rfl (X_pickA ((d 12 rfl).1 (not_mk (not_f b))) rfl fun h => ((d 49 rfl).1 (and_mk (not_mk (not_f b)) h))) <| sg rfl rfl b rfl
        ·exact fun s x e f d u => lp rfl rfl (X_pickO (d 9 rfl) rfl fun h => ((d 50 rfl).1 (not_mk h))) <| se rfl rfl
        intro s195 w196 e197 hf198 ha199
        have K200 := Kp.ofD (kp := [(99, 151)]) rfl hf198
        have d201 : s195 150 = (.bool ((law_FnApply.e8 x13_85 z109 z11) || ((decide (0 ≤ z109)) && (law_FnApply.e9 x13_85 z109 z11 z17)))) := ha199 51 rfl
        clear ha199 hf198
        refine thn_n ?_
        rcases bif_two H with ⟨q202, H⟩ | ⟨q202, H⟩
        ·refine W_true (d201.trans (cb q202)) <| wr <| lp rfl rfl (X_assign (v := (.bool false)) rfl) <| nx <| W_ret <| blk_r <| thn_r <| thn_r <| blk_r <| thn_r <| thn_r <| fin_r ?_
         obtain rfl := si H
         obtain rfl := si S101
         have H := C88
         obtain rfl := si H
         exact fin1 rfl ((((((((((((e7.t e14).t e20).t e28).t e36).t e44).t e51).t e60).t e69).t e83).t e97).t e108).t e197)
        ·refine W_false (d201.trans (cb q202)) <| W_skip <| blk_n <| thn_n <| W_reg <| lp rfl rfl (X_move (v := (.int .i64 x13_85)) ((K200 13 rfl).trans h99)) <| lp rfl rfl (X_add rfl rfl) <| lp rfl rfl (X_assign (v := (.int .i64 (IntKind.wrap .i64 (x13_85 + 1)))) rfl) <| nx ?_
         obtain rfl := si H
         exact ⟨_, Nat.lt_succ_self _, IntKind.wrap .i64 (x13_85 + 1), (ku3 (Kp.cut (ku4 (ku8 K96 rfl) rfl) K200 rfl) rfl), rfl, ((e97.t e108).t e197), S101⟩
       ·refine W_false (cb q102) <| W_exit <| thn_x <| thn_x <| blk_x <| thn_n ?_
        obtain rfl := si H
        obtain rfl := si S101
        exact ⟨(ku4 K96 rfl), e97, rfl⟩
     ·rintro s90 w89 ⟨K91, e92, y203⟩
      rw [y203] at C88
      have H := C88
      replace H : _ = some _ := H
      refine thn_n <| W_seq <| wr <| lp rfl rfl (X_assign (v := (.int .i64 0)) rfl) <| nx ?_
      obtain ⟨z205, L206, C207⟩ := bind_some H
      clear H
      refine  W_cutQ (fun s0 sQ wQ => Kp [(4, 5), (15, 22), (151, 209)] s0 sQ ∧ Ext w89 wQ ∧ z205 = .inr ()) ?_ ?_
      ·refine W_block <| W_loopI (fun s0 kk sQ wQ => ∃ (x15_204 : Int), Kp [(4, 5), (15, 22), (151, 209)] s0 sQ ∧ sQ 15 = .int .i64 x15_204 ∧ Ext w89 wQ ∧ loopF (law_FnApply.b2 z11 z17) kk x15_204 = some z205) k ⟨0, kz, rfl, er, L206⟩ ?_
       rintro k212 s213 w214 ⟨x15_204, K215, h218, e216, L217⟩
       cases k212 with
       | zero => exact absurd L217 (by simp [loopF])
       | succ k212 =>
        obtain ⟨t219, H, S220⟩ := loopF_succ L217
        clear L217
        unfold law_FnApply.b2 at H
        refine W_seq <| wr <| lp rfl rfl (X_move h218) <| lp rfl rfl (X_move (v := v21) ((K215 6 rfl).trans ((K91 6 rfl).trans ((K67 6 rfl).trans ((K58 6 rfl).trans (K49 6 rfl)))))) <| lp rfl rfl (X_lenR Tryz.underlying29 rfl (Ow.rd (Ow.ext o22 ((((((((e28.t e36).t e44).t e51).t e60).t e69).t e83).t e92).t e216)))) <| lp rfl rfl (X_lss rfl rfl) <| nx ?_
        rcases bif_two H with ⟨q221, H⟩ | ⟨q221, H⟩
        ·refine W_true (cb q221) <| W_skip <| thn_n <| W_seq <| W_block <| wr <| lp rfl rfl (X_move (v := v21) ((K215 6 rfl).trans ((K91 6 rfl).trans ((K67 6 rfl).trans ((K58 6 rfl).trans (K49 6 rfl)))))) <| lp rfl rfl (X_move h218) ?_
         obtain ⟨c222, H⟩ := bif_some H
         refine L_idx (.plain rfl) rfl (ltb rfl) rfl Tryz.underlying29 Tryz.sizeOf60 rfl (Ow.rd (Ow.ext o22 ((((((((e28.t e36).t e44).t e51).t e60).t e69).t e83).t e92).t e216))) rfl c222 <| fun p223 h224 => lp rfl rfl (X_fieldAddr Tryz.underlying60 rfl Tryz.sizeOf9 rfl rfl) <| lp rfl rfl (X_loadF Tryz.isAgg9 (j := 1) h224 rfl rfl) <| lp rfl rfl (X_assign (v := (S ((gt z17 x15_204).path))) rfl) <| nx <| wr <| lp rfl rfl (X_move (v := v15) ((K215 5 rfl).trans ((K91 5 rfl).trans ((K67 5 rfl).trans ((K58 5 rfl).trans (K49 5 rfl)))))) <| lp rfl rfl (X_move (v := (S ((gt z17 x15_204).path))) rfl) ?_
         obtain ⟨c225, H⟩ := bif_some H
         obtain ⟨c226, H⟩ := bif_some H
         refine lc rfl rfl rfl Tryz.call46 (spec_FindRecord.calls (w := w214) (a0 := z11) (a1 := (gt z17 x15_204).path) (Ow.rd (Ow.ext o16 (((((((((e20.t e28).t e36).t e44).t e51).t e60).t e69).t e83).t e92).t e216))) (od c225) (od c226)) rfl <| fun w227 e228 => lp rfl rfl (X_move rfl) <| lp rfl rfl (X_extract (v := (.agg (encRec ((findRec z11 ((gt z17 x15_204).path)).1)).toArray)) rfl rfl) <| lp rfl rfl (X_extract (v := (.int .i64 ((findRec z11 ((gt z17 x15_204).path)).2))) rfl rfl) <| L_alloc (.plain rfl) rfl (ltb rfl) rfl Tryz.zeroValue58 <| fun b229 w230 z231 z232 e233 k234 => L_storeA (.plain rfl) rfl rfl Tryz.sizeOf58 rfl rfl rfl rfl rfl k234 <| fun w235 h236 k237 => lp rfl rfl (X_assign (v := (.int .i64 ((findRec z11 ((gt z17 x15_204).path)).2))) rfl) <| nx <| wr <| lp rfl rfl (X_move (v := v15) ((K215 5 rfl).trans ((K91 5 rfl).trans ((K67 5 rfl).trans ((K58 5 rfl).trans (K49 5 rfl)))))) <| lp rfl rfl (X_move (v := (S ((gt z17 x15_204).path))) rfl) ?_
         obtain ⟨c238, H⟩ := bif_some H
         obtain ⟨c239, H⟩ := bif_some H
         refine lc rfl rfl rfl Tryz.call47 (spec_Cuts.calls (w := w235) (a0 := z11) (a1 := (gt z17 x15_204).path) (Ow.rd (Ow.ext o16 (((((((((((e20.t e28).t e36).t e44).t e51).t e60).t e69).t e83).t e92).t e216).t e228).t (Below.trans e233 (Wr.below h236 (Nat.le_of_eq z231)))))) (od c238) (od c239)) rfl <| fun w240 e241 => lp rfl rfl (X_move rfl) <| lp rfl rfl (X_extract (v := (.bool ((cutsOf z11 ((gt z17 x15_204).path)).1))) rfl rfl) <| lp rfl rfl (X_extract (v := (.int .i64 ((cutsOf z11 ((gt z17 x15_204).path)).2))) rfl rfl) <| lp rfl rfl (X_assign (v := (.bool ((cutsOf z11 ((gt z17 x15_204).path)).1))) rfl) <| lp rfl rfl (X_assign (v := (.int .i64 ((cutsOf z11 ((gt z17 x15_204).path)).2))) rfl) <| nx <| wr <| lp rfl rfl (X_move (v := v29) ((K215 7 rfl).trans ((K91 7 rfl).trans ((K67 7 rfl).trans ((K58 7 rfl).trans (K49 7 rfl)))))) <| lp rfl rfl (X_move (v := (S ((gt z17 x15_204).path))) rfl) ?_
         obtain ⟨c242, H⟩ := bif_some H
         obtain ⟨z245, x246, H⟩ := bind_some H
         replace x246 := si x246
         refine lc rfl rfl rfl Tryz.call45 (laws_find.calls (w := w240) (a0 := (applyOf z11 z17).1) (a1 := (gt z17 x15_204).path) (Ow.rd (Ow.ext o30 ((((((((((e36.t e44).t e51).t e60).t e69).t e83).t e92).t e216).t e228).t (Below.trans e233 (Wr.below h236 (Nat.le_of_eq z231)))).t e241))) (od c242)) rfl <| fun w243 e244 => lp rfl rfl (X_assign (v := (.int .i64 z245)) (congrArg (Value.int .i64) x246)) <| nx <| W_seq ?_
         obtain ⟨c247, H⟩ := bif_some H
         obtain ⟨c250, H⟩ := bif_some H
         refine W_dM [LEq (.int .i64 ((findRec z11 ((gt z17 x15_204).path)).2)), LEq (.bool (decide (((findRec z11 ((gt z17 x15_204).path)).2) = 5))), LEq (.bool (decide (((findRec z11 ((gt z17 x15_204).path)).2) = 5))), LIf (decide (((findRec z11 ((gt z17 x15_204).path)).2) = 5)) (LEq (.bool ((cutsOf z11 ((gt z17 x15_204).path)).1))), LIf (decide (((findRec z11 ((gt z17 x15_204).path)).2) = 5)) (LEq (.bool (!((cutsOf z11 ((gt z17 x15_204).path)).1)))), LEq (.bool (law_FnApply.e2 x15_204 z11 z17)), LEq (.bool (law_FnApply.e2 x15_204 z11 z17)), LIf (law_FnApply.e2 x15_204 z11 z17) (LEq (.int .i64 z245)), LIf (law_FnApply.e2 x15_204 z11 z17) (LEq (.bool (decide (z245 < 0)))), LIf (law_FnApply.e2 x15_204 z11 z17) (LEq (.bool (decide (z245 < 0)))), LIf ((law_FnApply.e2 x15_204 z11 z17) && (!(decide (z245 < 0)))) (LEq v29), LIf ((law_FnApply.e2 x15_204 z11 z17) && (!(decide (z245 < 0)))) (LEq (.int .i64 z245)), LIf ((law_FnApply.e2 x15_204 z11 z17) && (!(decide (z245 < 0)))) (LAt0 (encNd (gt ((applyOf z11 z17).1) z245))), LIf ((law_FnApply.e2 x15_204 z11 z17) && (!(decide (z245 < 0)))) (LEq (.agg (encNd (gt ((applyOf z11 z17).1) z245)).toArray)), LIf ((law_FnApply.e2 x15_204 z11 z17) && (!(decide (z245 < 0)))) (LEq v21), LIf ((law_FnApply.e2 x15_204 z11 z17) && (!(decide (z245 < 0)))) (LEq (.int .i64 x15_204)), LIf ((law_FnApply.e2 x15_204 z11 z17) && (!(decide (z245 < 0)))) (LAt0 (encNd (gt z17 x15_204))), LIf ((law_FnApply.e2 x15_204 z11 z17) && (!(decide (z245 < 0)))) (LEq (.agg (encNd (gt z17 x15_204)).toArray)), LIf ((law_FnApply.e2 x15_204 z11 z17) && (!(decide (z245 < 0)))) (LEq (.bool (!decide ((gt ((applyOf z11 z17).1) z245) = (gt z17 x15_204))))), LIf (law_FnApply.e2 x15_204 z11 z17) (LEq (.bool ((decide (z245 < 0)) || (!decide ((gt ((applyOf z11 z17).1) z245) = (gt z17 x15_204)))))), LEq (.bool (law_FnApply.e4 x15_204 z11 z17 z245)), LEq (.bool (law_FnApply.e4 x15_204 z11 z17 z245)), LIf (!(law_FnApply.e4 x15_204 z11 z17 z245)) (LEq (.int .i64 ((findRec z11 ((gt z17 x15_204).path)).2))), LIf (!(law_FnApply.e4 x15_204 z11 z17 z245)) (LEq (.bool (decide (((findRec z11 ((gt z17 x15_204).path)).2) = 5)))), LIf (!(law_FnApply.e4 x15_204 z11 z17 z245)) (LEq (.bool (decide (((findRec z11 ((gt z17 x15_204).path)).2) = 5)))), LIf ((!(law_FnApply.e4 x15_204 z11 z17 z245)) && (decide (((findRec z11 ((gt z17 x15_204).path)).2) = 5))) (LEq (.bool ((cutsOf z11 ((gt z17 x15_204).path)).1))), LIf (!(law_FnApply.e4 x15_204 z11 z17 z245)) (LEq (.bool (law_FnApply.e6 x15_204 z11 z17))), LIf (!(law_FnApply.e4 x15_204 z11 z17 z245)) (LEq (.bool (law_FnApply.e6 x15_204 z11 z17))), LIf ((!(law_FnApply.e4 x15_204 z11 z17 z245)) && (law_FnApply.e6 x15_204 z11 z17)) (LEq (.int .i64 z245)), LIf ((!(law_FnApply.e4 x15_204 z11 z17 z245)) && (law_FnApply.e6 x15_204 z11 z17)) (LEq (.bool (decide (0 ≤ z245)))), LIf (!(law_FnApply.e4 x15_204 z11 z17 z245)) (LEq (.bool ((law_FnApply.e6 x15_204 z11 z17) && (decide (0 ≤ z245))))), LEq (.bool ((law_FnApply.e4 x15_204 z11 z17 z245) || ((law_FnApply.e6 x15_204 z11 z17) && (decide (0 ≤ z245)))))] (by kernel_rfl) (by kernel_rfl) ⟨LEq.mono, LEq.mono, LEq.mono, (LIf.mono LEq.mono), (LIf.mono LEq.mono), LEq.mono, LEq.mono, (LIf.mono LEq.mono), (LIf.mono LEq.mono), (LIf.mono LEq.mono), (LIf.mono LEq.mono), (LIf.mono LEq.mono), (LIf.mono LAt0.mono), (LIf.mono LEq.mono), (LIf.mono LEq.mono), (LIf.mono LEq.mono), (LIf.mono LAt0.mono), (LIf.mono LEq.mono), (LIf.mono LEq.mono), (LIf.mono LEq.mono), LEq.mono, LEq.mono, (LIf.mono LEq.mono), (LIf.mono LEq.mono), (LIf.mono LEq.mono), (LIf.mono LEq.mono), (LIf.mono LEq.mono), (LIf.mono LEq.mono), (LIf.mono LEq.mono), (LIf.mono LEq.mono), (LIf.mono LEq.mono), LEq.mono, trivial⟩ ⟨?_, ?_, ?_, ?_, ?_, ?_, ?_, ?_, ?_, ?_, ?_, ?_, ?_, ?_, ?_, ?_, ?_, ?_, ?_, ?_, ?_, ?_, ?_, ?_, ?_, ?_, ?_, ?_, ?_, ?_, ?_, ?_, trivial⟩ ?_
         ·exact fun s x e f d u => lp rfl rfl (X_move (v := (.int .i64 ((findRec z11 ((gt z17 x15_204).path)).2))) (f 18 rfl)) <| se rfl rfl
         ·exact fun s x e f d u => lp rfl rfl (X_eql (d 0 rfl) rfl) <| se rfl rfl
         ·exact fun s x e f d u => lp rfl rfl (X_move (d 1 rfl)) <| se rfl rfl
         ·exact fun s x e f d u => gT rfl rfl rfl rfl (d 2 rfl) rfl fun b t => lt t rfl rfl (X_move (v := (.bool ((cutsOf z11 ((gt z17 x15_204).path)).1))) (f 19 rfl)) <| sg rfl rfl b rfl
         ·exact fun s x e f d u => gT rfl rfl rfl rfl (d 2 rfl) rfl fun b t => lt t rfl rfl (X_not ((d 3 rfl).1 b)) <| sg rfl rfl b rfl
         ·exact fun s x e f d u => lp rfl rfl (X_pickA (d 2 rfl) rfl fun h => ((d 4 rfl).1 h)) <| se rfl rfl
         ·exact fun s x e f d u => lp rfl rfl (X_move (d 5 rfl)) <| se rfl rfl
         ·exact fun s x e f d u => gT rfl rfl rfl rfl (d 6 rfl) rfl fun b t => lt t rfl rfl (X_move (v := (.int .i64 z245)) (f 21 rfl)) <| sg rfl rfl b rfl
         ·exact fun s x e f d u => gT rfl rfl rfl rfl (d 6 rfl) rfl fun b t => lt t rfl rfl (X_lss ((d 7 rfl).1 b) rfl) <| sg rfl rfl b rfl
         ·exact fun s x e f d u => gT rfl rfl rfl rfl (d 6 rfl) rfl fun b t => lt t rfl rfl (X_move (v := (.bool (decide (z245 < 0)))) ((d 8 rfl).1 b)) <| sg rfl rfl b rfl
         ·exact fun s x e f d u => hF rfl rfl rfl rfl (d 9 rfl) rfl fun b t => lt t rfl rfl (X_move (v := v29) ((f 7 rfl).trans ((K215 7 rfl).trans ((K91 7 rfl).trans ((K67 7 rfl).trans ((K58 7 rfl).trans (K49 7 rfl))))))) <| sg rfl rfl b rfl
         ·exact fun s x e f d u => hF rfl rfl rfl rfl (d 9 rfl) rfl fun b t => lt t rfl rfl (X_move (v := (.int .i64 z245)) (f 21 rfl)) <| sg rfl rfl b rfl
         ·exact fun s x e f d u => hF rfl rfl rfl rfl (d 9 rfl) rfl fun b t => L_idx t rfl (ltb rfl) rfl Tryz.underlying29 Tryz.sizeOf60 ((d 10 rfl).1 (and_mk (and_l b) (not_mk (not_f (and_r b))))) (Ow.rd (Ow.ext o30 ((((((((((((e36.t e44).t e51).t e60).t e69).t e83).t e92).t e216).t e228).t (Below.trans e233 (Wr.below h236 (Nat.le_of_eq z231)))).t e241).t e244).t e))) ((d 11 rfl).1 (and_mk (and_l b) (not_mk (not_f (and_r b))))) (imp_take b c247) <| fun p254 h255 => sg rfl rfl b ⟨_, rfl, h255⟩
         ·intro s x e f d u
          refine hF rfl rfl rfl rfl (d 9 rfl) rfl fun b t => ?_
          obtain ⟨p256, h257, h258⟩ := ((d 12 rfl).1 (and_mk (and_l b) (not_mk (not_f (and_r b)))))
          exact lt t rfl rfl (X_loadS Tryz.isAgg60 Tryz.sizeOf60 rfl h257 h258) <| sg rfl rfl b rfl
         ·exact fun s x e f d u => hF rfl rfl rfl rfl (d 9 rfl) rfl fun b t => lt t rfl rfl (X_move (v := v21) ((f 6 rfl).trans ((K215 6 rfl).trans ((K91 6 rfl).trans ((K67 6 rfl).trans ((K58 6 rfl).trans (K49 6 rfl))))))) <| sg rfl rfl b rfl
         ·exact fun s x e f d u => hF rfl rfl rfl rfl (d 9 rfl) rfl fun b t => lt t rfl rfl (X_move (v := (.int .i64 x15_204)) ((f 15 rfl).trans h218)) <| sg rfl rfl b rfl
         ·exact fun s x e f d u => hF rfl rfl rfl rfl (d 9 rfl) rfl fun b t => L_idx t rfl (ltb rfl) rfl Tryz.underlying29 Tryz.sizeOf60 ((d 14 rfl).1 (and_mk (and_l b) (not_mk (not_f (and_r b))))) (Ow.rd (Ow.ext o22 (((((((((((((e28.t e36).t e44).t e51).t e60).t e69).t e83).t e92).t e216).t e228).t (Below.trans e233 (Wr.below h236 (Nat.le_of_eq z231)))).t e241).t e244).t e))) ((d 15 rfl).1 (and_mk (and_l b) (not_mk (not_f (and_r b))))) (imp_take b c250) <| fun p260 h261 => sg rfl rfl b ⟨_, rfl, h261⟩
         ·intro s x e f d u
          refine hF rfl rfl rfl rfl (d 9 rfl) rfl fun b t => ?_
          obtain ⟨p262, h263, h264⟩ := ((d 16 rfl).1 (and_mk (and_l b) (not_mk (not_f (and_r b)))))
          exact lt t rfl rfl (X_loadS Tryz.isAgg60 Tryz.sizeOf60 rfl h263 h264) <| sg rfl rfl b rfl
         ·exact fun s x e f d u => hF rfl rfl rfl rfl (d 9 rfl) rfl fun b t => lt t rfl rfl (X_neA Eqg.t60 (Eqs.t60 (gt ((applyOf z11 z17).1) z245) (gt z17 x15_204)) ((d 13 rfl).1 (and_mk (and_l b) (not_mk (not_f (and_r b))))) ((d 17 rfl).1 (and_mk (and_l b) (not_mk (not_f (and_r b)))))) <| sg rfl rfl b rfl
         ·exact fun s x e f d u => gT rfl rfl rfl rfl (d 6 rfl) rfl fun b t => lt t rfl rfl (X_pickO ((d 9 rfl).1 b) rfl fun h => ((d 18 rfl).1 (and_mk b (not_mk h)))) <| sg rfl rfl b rfl
         ·exact fun s x e f d u => lp rfl rfl (X_pickA (d 6 rfl) rfl fun h => ((d 19 rfl).1 h)) <| se rfl rfl
         ·exact fun s x e f d u => lp rfl rfl (X_move (d 20 rfl)) <| se rfl rfl
         ·exact fun s x e f d u => gF rfl rfl rfl rfl (d 21 rfl) rfl fun b t => lt t rfl rfl (X_move (v := (.int .i64 ((findRec z11 ((gt z17 x15_204).path)).2))) (f 18 rfl)) <| sg rfl rfl b rfl
         ·exact fun s x e f d u => gF rfl rfl rfl rfl (d 21 rfl) rfl fun b t => lt t rfl rfl (X_eql ((d 22 rfl).1 (not_mk (not_f b))) rfl) <| sg rfl rfl b rfl
         ·exact fun s x e f d u => gF rfl rfl rfl rfl (d 21 rfl) rfl fun b t => lt t rfl rfl (X_move (v := (.bool (decide (((findRec z11 ((gt z17 x15_204).path)).2) = 5)))) ((d 23 rfl).1 (not_mk (not_f b)))) <| sg rfl rfl b rfl
         ·exact fun s x e f d u => hT rfl rfl rfl rfl (d 24 rfl) rfl fun b t => lt t rfl rfl (X_move (v := (.bool ((cutsOf z11 ((gt z17 x15_204).path)).1))) (f 19 rfl)) <| sg rfl rfl b rfl
         ·exact fun s x e f d u => gF rfl rfl rfl rfl (d 21 rfl) rfl fun b t => lt t rfl rfl (X_pickA ((d 24 rfl).1 (not_mk (not_f b))) rfl fun h => ((d 25 rfl).1 (and_mk (not_mk (not_f b)) h))) <| sg rfl rfl b rfl
         ·exact fun s x e f d u => gF rfl rfl rfl rfl (d 21 rfl) rfl fun b t => lt t rfl rfl (X_move ((d 26 rfl).1 (not_mk (not_f b)))) <| sg rfl rfl b rfl
         ·exact fun s x e f d u => hT rfl rfl rfl rfl (d 27 rfl) rfl fun b t => lt t rfl rfl (X_move (v := (.int .i64 z245)) (f 21 rfl)) <| sg rfl rfl b rfl
         ·exact fun s x e f d u => hT rfl rfl rfl rfl (d 27 rfl) rfl fun b t => lt t rfl rfl (X_geq ((d 28 rfl).1 (and_mk (not_mk (not_f (and_l b))) (and_r b))) rfl) <| sg rfl rfl b rfl
         ·exact fun s x e f d u => gF rfl rfl rfl rfl (d 21 rfl) rfl fun b t => lt t rfl rfl (X_pickA ((d 27 rfl).1 (not_mk (not_f b))) rfl fun h => ((d 29 rfl).1 (and_mk (not_mk (not_f b)) h))) <| sg rfl rfl b rfl
         ·exact fun s x e f d u => lp rfl rfl (X_pickO (d 21 rfl) rfl fun h => ((d 30 rfl).1 (not_mk h))) <| se rfl rfl
         intro s265 w266 e267 hf268 ha269
         have K270 := Kp.ofD (kp := [(177, 209)]) rfl hf268
         have d271 : s265 208 = (.bool ((law_FnApply.e4 x15_204 z11 z17 z245) || ((law_FnApply.e6 x15_204 z11 z17) && (decide (0 ≤ z245))))) := ha269 31 rfl
         clear ha269 hf268
         refine thn_n ?_
         rcases bif_two H with ⟨q272, H⟩ | ⟨q272, H⟩
         ·refine W_true (d271.trans (cb q272)) <| wr <| lp rfl rfl (X_assign (v := (.bool false)) rfl) <| nx <| W_ret <| blk_r <| thn_r <| thn_r <| blk_r <| thn_r <| thn_r <| fin_r ?_
          obtain rfl := si H
          obtain rfl := si S220
          have H := C207
          obtain rfl := si H
          exact fin1 rfl ((((((((((((((((e7.t e14).t e20).t e28).t e36).t e44).t e51).t e60).t e69).t e83).t e92).t e216).t e228).t (Below.trans e233 (Wr.below h236 (Nat.le_of_eq z231)))).t e241).t e244).t e267)
         ·refine W_false (d271.trans (cb q272)) <| W_skip <| blk_n <| thn_n <| W_reg <| lp rfl rfl (X_move (v := (.int .i64 x15_204)) ((K270 15 rfl).trans h218)) <| lp rfl rfl (X_add rfl rfl) <| lp rfl rfl (X_assign (v := (.int .i64 (IntKind.wrap .i64 (x15_204 + 1)))) rfl) <| nx ?_
          obtain rfl := si H
          exact ⟨_, Nat.lt_succ_self _, IntKind.wrap .i64 (x15_204 + 1), (ku3 (Kp.cut (ku2 (ku4 (ku8 (ku8 (ku8 K215 rfl) rfl) rfl) rfl) rfl) K270 rfl) rfl), rfl, (((((e216.t e228).t (Below.trans e233 (Wr.below h236 (Nat.le_of_eq z231)))).t e241).t e244).t e267), S220⟩
        ·refine W_false (cb q221) <| W_exit <| thn_x <| thn_x <| blk_x <| thn_n ?_
         obtain rfl := si H
         obtain rfl := si S220
         exact ⟨(ku4 K215 rfl), e216, rfl⟩
      ·rintro s209 w208 ⟨K210, e211, y273⟩
       rw [y273] at C207
       have H := C207
       replace H : _ = some _ := H
       refine thn_n <| wr <| lp rfl rfl (X_move (v := v15) ((K210 5 rfl).trans ((K91 5 rfl).trans ((K67 5 rfl).trans ((K58 5 rfl).trans (K49 5 rfl)))))) <| lp rfl rfl (X_move (v := v29) ((K210 7 rfl).trans ((K91 7 rfl).trans ((K67 7 rfl).trans ((K58 7 rfl).trans (K49 7 rfl)))))) ?_
       obtain ⟨c274, H⟩ := bif_some H
       obtain ⟨c275, H⟩ := bif_some H
       obtain ⟨c276, H⟩ := bif_some H
       obtain ⟨c277, H⟩ := bif_some H
       refine L_callT (.plain rfl) rfl (ltb rfl) rfl Tryz.call34 (impl_Apply.calls (w := w208) (a0 := z11) (a1 := (applyOf z11 z17).1) (GV.ext gv (((((((((((e7.t e14).t e20).t e28).t e36).t e44).t e51).t e60).t e69).t e83).t e92).t e211)) (Ow.rd (Ow.ext o16 (((((((((e20.t e28).t e36).t e44).t e51).t e60).t e69).t e83).t e92).t e211))) (Ow.rd (Ow.ext o30 (((((((e36.t e44).t e51).t e60).t e69).t e83).t e92).t e211))) (od c274) (od c275) (od c276) (od c277)) rfl <| fun v280 w278 e279 o281 => lp rfl rfl (X_move (v := (.tuple #[v280, (.int .i64 ((applyOf z11 ((applyOf z11 z17).1)).2))])) rfl) <| lp rfl rfl (X_extract (v := v280) rfl rfl) <| lp rfl rfl (X_extract (v := (.int .i64 ((applyOf z11 ((applyOf z11 z17).1)).2))) rfl rfl) <| lp rfl rfl (X_assign (v := v280) rfl) <| lp rfl rfl (X_assign (v := (.int .i64 ((applyOf z11 ((applyOf z11 z17).1)).2))) rfl) <| nx <| wr <| lp rfl rfl (X_move (v := (.int .i64 ((applyOf z11 ((applyOf z11 z17).1)).2))) rfl) <| lp rfl rfl (X_eql rfl rfl) <| lp rfl rfl (X_move (v := (.bool (decide (((applyOf z11 ((applyOf z11 z17).1)).2) = 0)))) rfl) ?_
       obtain ⟨z283, x284, H⟩ := bind_some H
       refine L_grpE 4 [(218, 222)] 221 (fun q => q = z283) ?_ ?_
       ·rcases bif_two x284 with ⟨b281_, H⟩ | ⟨b281_, H⟩
        ·refine lg rfl rfl rfl rfl (cb b281_) (X_move (v := v280) rfl) <| lg rfl rfl rfl rfl (cb b281_) (X_move (v := v29) ((K210 7 rfl).trans ((K91 7 rfl).trans ((K67 7 rfl).trans ((K58 7 rfl).trans (K49 7 rfl)))))) ?_
         obtain ⟨c283, H⟩ := bif_some H
         refine L_callP (tg rfl rfl rfl (cb b281_)) rfl (ltb rfl) rfl Tryz.call22 (laws_sameNodes.calls (w := w278) (a0 := (applyOf z11 ((applyOf z11 z17).1)).1) (a1 := (applyOf z11 z17).1) (Ow.rd o281) (Ow.rd (Ow.ext o30 ((((((((e36.t e44).t e51).t e60).t e69).t e83).t e92).t e211).t e279))) (od c283)) rfl <| fun w284 e285 => lp rfl rfl (X_pick (b := true) (v := (.bool (decide (((applyOf z11 ((applyOf z11 z17).1)).1) = ((applyOf z11 z17).1))))) (cb b281_) rfl) ?_
         obtain rfl := si H
         exact nx ⟨(ku4 kz rfl), ⟨_, rfl, rfl⟩, e285⟩
        ·refine ls rfl rfl rfl (cb b281_) rfl <| ls rfl rfl rfl (cb b281_) rfl <| ls rfl rfl rfl (cb b281_) rfl <| lp rfl rfl (X_pick (b := false) (v := (.bool false)) (cb b281_) rfl) ?_
         obtain rfl := si H
         exact nx ⟨(ku4 kz rfl), ⟨_, rfl, rfl⟩, er⟩
       intro s289 w285 z290 K286 hq h287 e288
       rw [hq] at h287; clear hq
       refine lp rfl rfl (X_assign h287) <| nx <| W_ret <| fin_r ?_
       obtain rfl := si H
       exact fin1 rfl (((((((((((((e7.t e14).t e20).t e28).t e36).t e44).t e51).t e60).t e69).t e83).t e92).t e211).t e279).t e288)
theorem law_FnApply.calls {w : World} {a0 : List Int} {a1 : List Int} (gv : GV 0 w) {v_a0 : Value} (f_a0 : Rd 1 (Go.UL.encI .u8) w v_a0 a0) {v_a1 : Value} (f_a1 : Rd 1 (Go.UL.encI .u8) w v_a1 a1) (h0 : ∀ x ∈ a0, okB x) (h1 : a0.length ≤ 9223372036854775807) (h2 : ∀ x ∈ a1, okB x) (h3 : a1.length ≤ 9223372036854775807) :
  Calls Tryz.prog 6 #[v_a0, v_a1] w (Rt (RP w (.bool true))) := by
 obtain ⟨k, h⟩ := law_FnApply.eq a0 a1 h0 h1 h2 h3
 exact law_FnApply.walk gv f_a0 f_a1 h
end Go.Proofs.YtfefjaohlhkmaaaGreatDoor
