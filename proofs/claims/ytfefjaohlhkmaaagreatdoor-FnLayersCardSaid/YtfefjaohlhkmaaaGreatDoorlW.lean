/- The walks, by program (wip/tools). -/
import Derived.Test.YtfefjaohlhkmaaaGreatDoorProg
import Derived.Test.YtfefjaohlhkmaaaGreatDoorKJ
import Derived.Test.YtfefjaohlhkmaaaGreatDoorKL
import Derived.Test.YtfefjaohlhkmaaaGreatDoorlWB
set_option linter.unusedVariables false
set_option linter.unusedSimpArgs false
set_option maxRecDepth 10000
namespace Go.Proofs.YtfefjaohlhkmaaaGreatDoor
open Go.UL Go.RowKit
/-! spec.l03Put -/
abbrev spec_l03Put1.e1 (a1 : Rec) (x0_13 : List Rec) (x9_50 : Int) := ((!decide (((gt x0_13 x9_50).path) = a1.path)) && (!(decide (a1.kind = 3))))
abbrev spec_l03Put1.e2 (a1 : Rec) (x0_13 : List Rec) (x9_50 : Int) := ((decide (a1.path = []) && !decide (((gt x0_13 x9_50).path) = [])) || belowP ((gt x0_13 x9_50).path) a1.path)
theorem spec_l03Put1.walk {k : Nat} {w : World} {a0 : List Rec} {a1 : Rec} {v_a0 : Value} (f_a0 : Rd 5 encRec w v_a0 a0) {r : List Rec} (H : spec_l03Put1.sh k a0 a1 = some r) :
  Calls Tryz.prog 202 #[v_a0, .agg (encRec a1).toArray] w (Rt (RO 58 5 encRec w r)) := by
 unfold spec_l03Put1.sh at H
 refine calls_of_W Tryz.func202 rfl (Nat.le_of_ble_eq_true rfl) Tryz.ntmps202 rfl ?_
 refine wr <| L_box (.plain rfl) rfl (ltb rfl) rfl rfl <| fun b1 w2 z3 z4 e5 k6 => lp rfl rfl (xa (.slice none 0 0) rfl) <| nx <| W_seq <| wr <| lp rfl rfl (X_fieldAddr Tryz.underlying58 rfl Tryz.sizeOf9 rfl rfl) <| lp rfl rfl (X_loadB Tryz.isAgg9 k6 rfl rfl) ?_
 obtain ⟨c7, H⟩ := bif_some H
 refine lc rfl rfl rfl Tryz.call161 (spec_l01Parent.calls (w := w2) (a0 := a1.path) (od c7)) rfl <| fun w8 e9 => lp rfl rfl (xa (S (parentP a1.path)) rfl) <| nx <| wr <| lp rfl rfl (xm (S (parentP a1.path)) rfl) <| lp rfl rfl (X_sne rfl rfl) <| nx ?_
 obtain ⟨z10, L11, C12⟩ := bind_some H
 clear H
 refine W_cutQ (fun s0 sQ wQ => ∃ (x0_13 : List Rec) (v14 : Value), Kp [(0, 1), (6, 7), (15, 32)] s0 sQ ∧ sQ 0 = v14 ∧ Rd 5 encRec wQ v14 x0_13 ∧ Ext w8 wQ ∧ z10 = .inr x0_13) ?_ ?_
 ·have H := L11
  rcases bif_two H with ⟨q15, H⟩ | ⟨q15, H⟩
  ·refine W_true (cb q15) <| wr <| lp rfl rfl (xm v_a0 rfl) <| lp rfl rfl (xm (S (parentP a1.path)) rfl) ?_
   obtain ⟨c16, H⟩ := bif_some H
   refine lc rfl rfl rfl Tryz.call145 (spec_l03At.calls (w := w8) (a0 := a0) (a1 := (parentP a1.path)) (Rd.ext f_a0 (e5.t e9)) (od c16)) rfl <| fun w17 e18 => lp rfl rfl (xa (.int .i64 (findR a0 (parentP a1.path))) rfl) <| nx <| wr <| lp rfl rfl (xm (.int .i64 (findR a0 (parentP a1.path))) rfl) <| lp rfl rfl (X_lss rfl rfl) <| lp rfl rfl (xm (.bool (decide ((findR a0 (parentP a1.path)) < 0))) rfl) ?_
   obtain ⟨z20, x21, H⟩ := bind_some H
   refine L_grpE 7 [(21, 28)] 27 (fun q => q = z20) ?_ ?_
   ·rcases bif_two x21 with ⟨b18_, H⟩ | ⟨b18_, H⟩
    ·refine ls rfl rfl rfl (cb b18_) rfl <| ls rfl rfl rfl (cb b18_) rfl <| ls rfl rfl rfl (cb b18_) rfl <| ls rfl rfl rfl (cb b18_) rfl <| ls rfl rfl rfl (cb b18_) rfl <| ls rfl rfl rfl (cb b18_) rfl <| lp rfl rfl (X_pick (b := true) (v := (.bool true)) (cb b18_) rfl) ?_
     obtain rfl := si H
     exact nx ⟨(ku3 (ku4 kz rfl) rfl), ⟨_, rfl, rfl⟩, er⟩
    ·refine lg rfl rfl rfl rfl (cb b18_) (xm v_a0 rfl) <| lg rfl rfl rfl rfl (cb b18_) (xm (.int .i64 (findR a0 (parentP a1.path))) rfl) ?_
     obtain ⟨c20, H⟩ := bif_some H
     refine L_idx (tg rfl rfl rfl (cb b18_)) rfl (ltb rfl) rfl Tryz.underlying35 Tryz.sizeOf58 rfl (Rd.ext f_a0 ((e5.t e9).t e18)) rfl c20 <| fun p21 h22 => lg rfl rfl rfl rfl (cb b18_) (X_fieldAddr Tryz.underlying58 rfl Tryz.sizeOf3 rfl rfl) <| lg rfl rfl rfl rfl (cb b18_) (X_loadF Tryz.isAgg3 (j := 0) h22 rfl rfl) <| lg rfl rfl rfl rfl (cb b18_) (X_neq rfl rfl) <| lp rfl rfl (X_pick (b := false) (v := (.bool (!decide (((gt a0 (findR a0 (parentP a1.path))).kind) = 3)))) (cb b18_) rfl) ?_
     obtain rfl := si H
     exact nx ⟨(ku3 (ku4 kz rfl) rfl), ⟨_, rfl, rfl⟩, er⟩
   intro s26 w22 z27 K23 hq h24 e25
   rw [hq] at h24; clear hq
   refine nx ?_
   rcases bif_two H with ⟨q28, H⟩ | ⟨q28, H⟩
   ·refine W_true (h24.trans (cb q28)) <| W_reg <| lp rfl rfl (xm v_a0 (K23 0 rfl)) <| lp rfl rfl (xm (S (parentP a1.path)) (K23 5 rfl)) <| lp rfl rfl (X_build1 (vs := [(0, (.int .i64 3)), (1, (S (parentP a1.path))), (3, (.int .i64 493))]) (pl := #[(0, 1), (1, 1), (2, 1), (3, 1), (4, 1)]) Tryz.underlying58 Tryz.zeroValue58 rfl (fun _ => by kernel_rfl) rfl rfl rfl) ?_
    obtain ⟨c29, H⟩ := bif_some H
    refine L_callO (.plain rfl) rfl (ltb rfl) rfl Tryz.call202 (spec_l03Put0.calls (w := w22) (a0 := a0) (a1 := (⟨3, (parentP a1.path), ([] : List UInt8), 493, false⟩ : Rec)) (Rd.ext f_a0 (((e5.t e9).t e18).t e25)) (od c29)) rfl <| fun v32 w30 e31 o33 => lp rfl rfl (xa v32 rfl) <| nx ?_
    obtain rfl := si H
    exact ⟨(putR 0 a0 (⟨3, (parentP a1.path), ([] : List UInt8), 493, false⟩ : Rec)), v32, (ku1 (ku4 (Kp.cut (ku3 (ku4 kz rfl) rfl) K23 rfl) rfl) rfl), rfl, (Ow.rd o33), ((e18.t e25).t e31), rfl⟩
   ·refine W_false (h24.trans (cb q28)) <| W_skip <| thn_n ?_
    obtain rfl := si H
    exact ⟨a0, v_a0, (Kp.cut (ku3 (ku4 kz rfl) rfl) K23 rfl), (K23 0 rfl), (Rd.ext f_a0 (((e5.t e9).t e18).t e25)), (e18.t e25), rfl⟩
  ·refine W_false (cb q15) <| W_skip <| thn_n ?_
   obtain rfl := si H
   exact ⟨a0, v_a0, kz, rfl, (Rd.ext f_a0 (e5.t e9)), er, rfl⟩
 ·rintro s35 w34 ⟨x0_13, v14, K36, h39, h40, e37, y38⟩
  rw [y38] at C12
  have H := C12
  refine thn_n <| wr <| L_lit (.plain rfl) rfl (ltb rfl) rfl Tryz.underlying35 Tryz.sizeOf58 Tryz.zeroValue58 rfl rfl rfl (vs := []) rfl (lit_all rfl) <| fun b41 w42 z43 z44 e45 k46 => lp rfl rfl (xa (.slice (some ⟨b41, 0, none⟩) 0 0) rfl) <| nx <| wr <| lp rfl rfl (xa (.bool false) rfl) <| nx <| W_seq <| wr <| lp rfl rfl (xa (.int .i64 0) rfl) <| nx ?_
  obtain ⟨z51, L52, C53⟩ := bind_some H
  clear H
  refine  W_cutQ (fun s0 sQ wQ => ∃ (x7_54 : List Rec) (v55 : Value) (x8_56 : Bool), Kp [(7, 10), (33, 86)] s0 sQ ∧ sQ 7 = v55 ∧ Ow 58 5 encRec w42.heap.size wQ v55 x7_54 ∧ sQ 8 = .bool x8_56 ∧ Ext w42 wQ ∧ z51 = .inr (x7_54, x8_56)) ?_ ?_
  ·refine W_block <| W_loopI (fun s0 kk sQ wQ => ∃ (x7_47 : List Rec) (v48 : Value) (x8_49 : Bool) (x9_50 : Int), Kp [(7, 10), (33, 86)] s0 sQ ∧ sQ 7 = v48 ∧ Ow 58 5 encRec w42.heap.size wQ v48 x7_47 ∧ sQ 8 = .bool x8_49 ∧ sQ 9 = .int .i64 x9_50 ∧ Ext w42 wQ ∧ loopF (spec_l03Put1.b1 a1 x0_13) kk (x7_47, x8_49, x9_50) = some z51) k ⟨([] : List Rec), (.slice (some ⟨b41, 0, none⟩) 0 0), false, 0, kz, rfl, (Ow.zero), rfl, rfl, er, L52⟩ ?_
   rintro k61 s62 w63 ⟨x7_47, v48, x8_49, x9_50, K64, h67, h68, h69, h70, e65, L66⟩
   cases k61 with
   | zero => exact absurd L66 (by simp [loopF])
   | succ k61 =>
    obtain ⟨t71, H, S72⟩ := loopF_succ L66
    clear L66
    unfold spec_l03Put1.b1 at H
    refine W_seq <| wr <| lp rfl rfl (X_move h70) <| lp rfl rfl (xm v14 ((K64 0 rfl).trans h39)) <| lp rfl rfl (X_lenR Tryz.underlying35 rfl (Rd.ext h40 (e45.t e65))) <| lp rfl rfl (X_lss rfl rfl) <| nx ?_
    rcases bif_two H with ⟨q73, H⟩ | ⟨q73, H⟩
    ·refine W_true (cb q73) <| W_skip <| thn_n <| W_seq <| W_block <| W_seq <| W_seq ?_
     obtain ⟨c74, H⟩ := bif_some H
     obtain ⟨c77, H⟩ := bif_some H
     obtain ⟨c78, H⟩ := bif_some H
     refine W_dM [LEq (.bool x8_49), LEq (.bool (!x8_49)), LEq (.bool (!x8_49)), LIf (!x8_49) (LEq (.pointer (some ⟨b1, 1, none⟩))), LIf (!x8_49) (LEq (S a1.path)), LIf (!x8_49) (LEq v14), LIf (!x8_49) (LEq (.int .i64 x9_50)), LIf (!x8_49) (LAt0 (encRec (gt x0_13 x9_50))), LIf (!x8_49) (LAt 1 (encRec (gt x0_13 x9_50))), LIf (!x8_49) (LEq (S ((gt x0_13 x9_50).path))), LIf (!x8_49) (LEq (.bool (lessL (cut 47 a1.path) (cut 47 ((gt x0_13 x9_50).path))))), LEq (.bool ((!x8_49) && (lessL (cut 47 a1.path) (cut 47 ((gt x0_13 x9_50).path)))))] (by kernel_rfl) (by kernel_rfl) ⟨qm, qm, qm, lm, lm, lm, lm, (LIf.mono LAt0.mono), (LIf.mono LAt.mono), lm, lm, qm, trivial⟩ ⟨?_, ?_, ?_, ?_, ?_, ?_, ?_, ?_, ?_, ?_, ?_, ?_, trivial⟩ ?_
     ·exact fun s x e f d u => lp rfl rfl (xm (.bool x8_49) ((f 8 rfl).trans h69)) <| se rfl rfl
     ·exact fun s x e f d u => lp rfl rfl (X_not (d 0 rfl)) <| se rfl rfl
     ·exact fun s x e f d u => lp rfl rfl (X_move (d 1 rfl)) <| se rfl rfl
     ·exact fun s x e f d u => gT rfl rfl rfl rfl (d 2 rfl) rfl fun b t => lt t rfl rfl (X_fieldAddr Tryz.underlying58 rfl Tryz.sizeOf9 rfl ((f 3 rfl).trans ((K64 3 rfl).trans (K36 3 rfl)))) <| sg rfl rfl b rfl
     ·exact fun s x e f d u => gT rfl rfl rfl rfl (d 2 rfl) rfl fun b t => lt t rfl rfl (X_loadB Tryz.isAgg9 (Blk.ext k6 ((((e9.t e37).t e45).t e65).t e)) ((d 3 rfl).1 b) rfl) <| sg rfl rfl b rfl
     ·exact fun s x e f d u => gT rfl rfl rfl rfl (d 2 rfl) rfl fun b t => lt t rfl rfl (xm v14 ((f 0 rfl).trans ((K64 0 rfl).trans h39))) <| sg rfl rfl b rfl
     ·exact fun s x e f d u => gT rfl rfl rfl rfl (d 2 rfl) rfl fun b t => lt t rfl rfl (xm (.int .i64 x9_50) ((f 9 rfl).trans h70)) <| sg rfl rfl b rfl
     ·exact fun s x e f d u => gT rfl rfl rfl rfl (d 2 rfl) rfl fun b t => L_idx t rfl (ltb rfl) rfl Tryz.underlying35 Tryz.sizeOf58 ((d 5 rfl).1 b) (Rd.ext h40 ((e45.t e65).t e)) ((d 6 rfl).1 b) (imp_take b c74) <| fun p82 h83 => sg rfl rfl b ⟨_, rfl, h83⟩
     ·intro s x e f d u
      refine gT rfl rfl rfl rfl (d 2 rfl) rfl fun b t => ?_
      obtain ⟨p84, h85, h86⟩ := ((d 7 rfl).1 b)
      exact lt t rfl rfl (X_fieldAddr Tryz.underlying58 rfl Tryz.sizeOf9 rfl h85) <| sg rfl rfl b ⟨_, rfl, h86⟩
     ·intro s x e f d u
      refine gT rfl rfl rfl rfl (d 2 rfl) rfl fun b t => ?_
      obtain ⟨p87, h88, h89⟩ := ((d 8 rfl).1 b)
      exact lt t rfl rfl (X_loadF Tryz.isAgg9 (j := 1) h89 h88 rfl) <| sg rfl rfl b rfl
     ·exact fun s x e f d u => gT rfl rfl rfl rfl (d 2 rfl) rfl fun b t => L_callP t rfl (ltb rfl) rfl Tryz.call205 (spec_l01Less.calls (w := x) (a0 := a1.path) (a1 := (gt x0_13 x9_50).path) (od (imp_take b c77)) (od (imp_take b c78))) (cons2 ((d 4 rfl).1 b) (cons2 ((d 9 rfl).1 b) rfl)) <| fun w92 e93 => sgx rfl rfl b e93 rfl
     ·exact fun s x e f d u => lp rfl rfl (X_pickA (d 2 rfl) rfl fun h => ((d 10 rfl).1 h)) <| se rfl rfl
     intro s94 w95 e96 hf97 ha98
     have K99 := Kp.ofD (kp := [(39, 51)]) rfl hf97
     have d100 : s94 50 = (.bool ((!x8_49) && (lessL (cut 47 a1.path) (cut 47 ((gt x0_13 x9_50).path))))) := ha98 11 rfl
     clear ha98 hf97
     refine thn_n ?_
     obtain ⟨z101, L102, C103⟩ := bind_some H
     clear H
     refine W_cutQ (fun s0 sQ wQ => ∃ (x7_104 : List Rec) (v105 : Value) (x8_106 : Bool), Kp [(7, 9), (51, 55)] s0 sQ ∧ sQ 7 = v105 ∧ Ow 58 5 encRec w42.heap.size wQ v105 x7_104 ∧ sQ 8 = .bool x8_106 ∧ Ext w42 wQ ∧ z101 = .inr (x7_104, x8_106)) ?_ ?_
     ·have H := L102
      rcases bif_two H with ⟨q107, H⟩ | ⟨q107, H⟩
      ·refine W_true (d100.trans (cb q107)) <| wr <| lp rfl rfl (xm v48 ((K99 7 rfl).trans h67)) <| lp rfl rfl (X_loadS Tryz.isAgg58 Tryz.sizeOf58 rfl ((K99 3 rfl).trans ((K64 3 rfl).trans (K36 3 rfl))) (Blk.at0 (Blk.ext k6 ((((e9.t e37).t e45).t e65).t e96)))) <| L_lit (.plain rfl) rfl (ltb rfl) rfl Tryz.underlying35 Tryz.sizeOf58 Tryz.zeroValue58 rfl rfl rfl (vs := [(.agg #[(.int .i64 a1.kind), (S a1.path), (S a1.body), (.int .i64 a1.mode), (.bool a1.opq)])]) rfl (lit_all rfl) <| fun b108 w109 z110 z111 e112 k113 => ?_
       obtain ⟨c114, H⟩ := bif_some H
       refine L_append (enc := encRec) (.plain rfl) rfl (ltb rfl) rfl El.t35 rfl rfl (Ow.ext h68 (e96.t e112)) (Ow.rd (Ow.new (xs := [a1]) (sz := 5) (enc := encRec) (base := w95.heap.size) k113 (Nat.le_of_eq z110) rfl (fun _ _ => by rfl) (Nat.le_of_ble_eq_true rfl))) (ones_Rec _) (od c114) (((e65.t e96).t e112)).size <| fun v115 w116 o117 z118 g119 => lp rfl rfl (xa v115 rfl) <| nx <| W_reg <| lp rfl rfl (xa (.bool true) rfl) <| nx ?_
       obtain rfl := si H
       exact ⟨x7_47 ++ ([a1] : List Rec), v115, true, (ku2 (ku4 kz rfl) rfl), rfl, o117, rfl, (g119 _ ((e65.t e96).t e112)), rfl⟩
      ·refine W_false (d100.trans (cb q107)) <| W_skip <| thn_n ?_
       obtain rfl := si H
       exact ⟨x7_47, v48, x8_49, kz, ((K99 7 rfl).trans h67), (Ow.ext h68 e96), ((K99 8 rfl).trans h69), (e65.t e96), rfl⟩
     ·rintro s121 w120 ⟨x7_104, v105, x8_106, K122, h125, h126, h127, e123, y124⟩
      rw [y124] at C103
      have H := C103
      refine thn_n <| W_seq ?_
      obtain ⟨c128, H⟩ := bif_some H
      obtain ⟨c131, H⟩ := bif_some H
      refine W_dM [LEq v14, LEq (.int .i64 x9_50), LAt0 (encRec (gt x0_13 x9_50)), LAt 1 (encRec (gt x0_13 x9_50)), LEq (S ((gt x0_13 x9_50).path)), LEq (.pointer (some ⟨b1, 1, none⟩)), LEq (S a1.path), LEq (.bool (!decide (((gt x0_13 x9_50).path) = a1.path))), LEq (.bool (!decide (((gt x0_13 x9_50).path) = a1.path))), LIf (!decide (((gt x0_13 x9_50).path) = a1.path)) (LEq (.pointer (some ⟨b1, 0, none⟩))), LIf (!decide (((gt x0_13 x9_50).path) = a1.path)) (LEq (.int .i64 a1.kind)), LIf (!decide (((gt x0_13 x9_50).path) = a1.path)) (LEq (.bool (decide (a1.kind = 3)))), LIf (!decide (((gt x0_13 x9_50).path) = a1.path)) (LEq (.bool (decide (a1.kind = 3)))), LIf (spec_l03Put1.e1 a1 x0_13 x9_50) (LEq v14), LIf (spec_l03Put1.e1 a1 x0_13 x9_50) (LEq (.int .i64 x9_50)), LIf (spec_l03Put1.e1 a1 x0_13 x9_50) (LAt0 (encRec (gt x0_13 x9_50))), LIf (spec_l03Put1.e1 a1 x0_13 x9_50) (LAt 1 (encRec (gt x0_13 x9_50))), LIf (spec_l03Put1.e1 a1 x0_13 x9_50) (LEq (S ((gt x0_13 x9_50).path))), LIf (spec_l03Put1.e1 a1 x0_13 x9_50) (LEq (.pointer (some ⟨b1, 1, none⟩))), LIf (spec_l03Put1.e1 a1 x0_13 x9_50) (LEq (S a1.path)), LIf (spec_l03Put1.e1 a1 x0_13 x9_50) (LEq (.bool (spec_l03Put1.e2 a1 x0_13 x9_50))), LIf (spec_l03Put1.e1 a1 x0_13 x9_50) (LEq (.bool (!(spec_l03Put1.e2 a1 x0_13 x9_50)))), LIf (!decide (((gt x0_13 x9_50).path) = a1.path)) (LEq (.bool ((decide (a1.kind = 3)) || (!(spec_l03Put1.e2 a1 x0_13 x9_50))))), LEq (.bool ((!decide (((gt x0_13 x9_50).path) = a1.path)) && ((decide (a1.kind = 3)) || (!(spec_l03Put1.e2 a1 x0_13 x9_50)))))] (by kernel_rfl) (by kernel_rfl) ⟨qm, qm, LAt0.mono, LAt.mono, qm, qm, qm, qm, qm, lm, lm, lm, lm, lm, lm, (LIf.mono LAt0.mono), (LIf.mono LAt.mono), lm, lm, lm, lm, lm, lm, qm, trivial⟩ ⟨?_, ?_, ?_, ?_, ?_, ?_, ?_, ?_, ?_, ?_, ?_, ?_, ?_, ?_, ?_, ?_, ?_, ?_, ?_, ?_, ?_, ?_, ?_, ?_, trivial⟩ ?_
      ·exact fun s x e f d u => lp rfl rfl (xm v14 ((f 0 rfl).trans ((K122 0 rfl).trans ((K99 0 rfl).trans ((K64 0 rfl).trans h39))))) <| se rfl rfl
      ·exact fun s x e f d u => lp rfl rfl (xm (.int .i64 x9_50) ((f 9 rfl).trans ((K122 9 rfl).trans ((K99 9 rfl).trans h70)))) <| se rfl rfl
      ·exact fun s x e f d u => L_idx (.plain rfl) rfl (ltb rfl) rfl Tryz.underlying35 Tryz.sizeOf58 (d 0 rfl) (Rd.ext h40 ((e45.t e123).t e)) (d 1 rfl) c128 <| fun p137 h138 => se rfl ⟨_, rfl, h138⟩
      ·intro s x e f d u
       obtain ⟨p139, h140, h141⟩ := (d 2 rfl)
       exact lp rfl rfl (X_fieldAddr Tryz.underlying58 rfl Tryz.sizeOf9 rfl h140) <| se rfl ⟨_, rfl, h141⟩
      ·intro s x e f d u
       obtain ⟨p142, h143, h144⟩ := (d 3 rfl)
       exact lp rfl rfl (X_loadF Tryz.isAgg9 (j := 1) h144 h143 rfl) <| se rfl rfl
      ·exact fun s x e f d u => lp rfl rfl (X_fieldAddr Tryz.underlying58 rfl Tryz.sizeOf9 rfl ((f 3 rfl).trans ((K122 3 rfl).trans ((K99 3 rfl).trans ((K64 3 rfl).trans (K36 3 rfl)))))) <| se rfl rfl
      ·exact fun s x e f d u => lp rfl rfl (X_loadB Tryz.isAgg9 (Blk.ext k6 ((((e9.t e37).t e45).t e123).t e)) (d 5 rfl) rfl) <| se rfl rfl
      ·exact fun s x e f d u => lp rfl rfl (X_sne (d 4 rfl) (d 6 rfl)) <| se rfl rfl
      ·exact fun s x e f d u => lp rfl rfl (X_move (d 7 rfl)) <| se rfl rfl
      ·exact fun s x e f d u => gT rfl rfl rfl rfl (d 8 rfl) rfl fun b t => lt t rfl rfl (X_fieldAddr Tryz.underlying58 rfl Tryz.sizeOf3 rfl ((f 3 rfl).trans ((K122 3 rfl).trans ((K99 3 rfl).trans ((K64 3 rfl).trans (K36 3 rfl)))))) <| sg rfl rfl b rfl
      ·exact fun s x e f d u => gT rfl rfl rfl rfl (d 8 rfl) rfl fun b t => lt t rfl rfl (X_loadB Tryz.isAgg3 (Blk.ext k6 ((((e9.t e37).t e45).t e123).t e)) ((d 9 rfl).1 b) rfl) <| sg rfl rfl b rfl
      ·exact fun s x e f d u => gT rfl rfl rfl rfl (d 8 rfl) rfl fun b t => lt t rfl rfl (X_eql ((d 10 rfl).1 b) rfl) <| sg rfl rfl b rfl
      ·exact fun s x e f d u => gT rfl rfl rfl rfl (d 8 rfl) rfl fun b t => lt t rfl rfl (xm (.bool (decide (a1.kind = 3))) ((d 11 rfl).1 b)) <| sg rfl rfl b rfl
      ·exact fun s x e f d u => hF rfl rfl rfl rfl (d 12 rfl) rfl fun b t => lt t rfl rfl (xm v14 ((f 0 rfl).trans ((K122 0 rfl).trans ((K99 0 rfl).trans ((K64 0 rfl).trans h39))))) <| sg rfl rfl b rfl
      ·exact fun s x e f d u => hF rfl rfl rfl rfl (d 12 rfl) rfl fun b t => lt t rfl rfl (xm (.int .i64 x9_50) ((f 9 rfl).trans ((K122 9 rfl).trans ((K99 9 rfl).trans h70)))) <| sg rfl rfl b rfl
      ·exact fun s x e f d u => hF rfl rfl rfl rfl (d 12 rfl) rfl fun b t => L_idx t rfl (ltb rfl) rfl Tryz.underlying35 Tryz.sizeOf58 ((d 13 rfl).1 (and_mk (and_l b) (not_mk (not_f (and_r b))))) (Rd.ext h40 ((e45.t e123).t e)) ((d 14 rfl).1 (and_mk (and_l b) (not_mk (not_f (and_r b))))) (imp_take b c131) <| fun p146 h147 => sg rfl rfl b ⟨_, rfl, h147⟩
      ·intro s x e f d u
       refine hF rfl rfl rfl rfl (d 12 rfl) rfl fun b t => ?_
       obtain ⟨p148, h149, h150⟩ := ((d 15 rfl).1 (and_mk (and_l b) (not_mk (not_f (and_r b)))))
       exact lt t rfl rfl (X_fieldAddr Tryz.underlying58 rfl Tryz.sizeOf9 rfl h149) <| sg rfl rfl b ⟨_, rfl, h150⟩
      ·intro s x e f d u
       refine hF rfl rfl rfl rfl (d 12 rfl) rfl fun b t => ?_
       obtain ⟨p151, h152, h153⟩ := ((d 16 rfl).1 (and_mk (and_l b) (not_mk (not_f (and_r b)))))
       exact lt t rfl rfl (X_loadF Tryz.isAgg9 (j := 1) h153 h152 rfl) <| sg rfl rfl b rfl
      ·exact fun s x e f d u => hF rfl rfl rfl rfl (d 12 rfl) rfl fun b t => lt t rfl rfl (X_fieldAddr Tryz.underlying58 rfl Tryz.sizeOf9 rfl ((f 3 rfl).trans ((K122 3 rfl).trans ((K99 3 rfl).trans ((K64 3 rfl).trans (K36 3 rfl)))))) <| sg rfl rfl b rfl
      ·exact fun s x e f d u => hF rfl rfl rfl rfl (d 12 rfl) rfl fun b t => lt t rfl rfl (X_loadB Tryz.isAgg9 (Blk.ext k6 ((((e9.t e37).t e45).t e123).t e)) ((d 18 rfl).1 (and_mk (and_l b) (not_mk (not_f (and_r b))))) rfl) <| sg rfl rfl b rfl
      ·exact fun s x e f d u => hF rfl rfl rfl rfl (d 12 rfl) rfl fun b t => L_callP t rfl (ltb rfl) rfl Tryz.call171 (spec_l01Below.calls (w := x) (a0 := (gt x0_13 x9_50).path) (a1 := a1.path)) (cons2 ((d 17 rfl).1 (and_mk (and_l b) (not_mk (not_f (and_r b))))) (cons2 ((d 19 rfl).1 (and_mk (and_l b) (not_mk (not_f (and_r b))))) rfl)) <| fun w154 e155 => sgx rfl rfl b e155 rfl
      ·exact fun s x e f d u => hF rfl rfl rfl rfl (d 12 rfl) rfl fun b t => lt t rfl rfl (X_not ((d 20 rfl).1 (and_mk (and_l b) (not_mk (not_f (and_r b)))))) <| sg rfl rfl b rfl
      ·exact fun s x e f d u => gT rfl rfl rfl rfl (d 8 rfl) rfl fun b t => lt t rfl rfl (X_pickO ((d 12 rfl).1 b) rfl fun h => ((d 21 rfl).1 (and_mk b (not_mk h)))) <| sg rfl rfl b rfl
      ·exact fun s x e f d u => lp rfl rfl (X_pickA (d 8 rfl) rfl fun h => ((d 22 rfl).1 h)) <| se rfl rfl
      intro s156 w157 e158 hf159 ha160
      have K161 := Kp.ofD (kp := [(55, 79)]) rfl hf159
      have d162 : s156 78 = (.bool ((!decide (((gt x0_13 x9_50).path) = a1.path)) && ((decide (a1.kind = 3)) || (!(spec_l03Put1.e2 a1 x0_13 x9_50))))) := ha160 23 rfl
      clear ha160 hf159
      refine thn_n ?_
      rcases bif_two H with ⟨q163, H⟩ | ⟨q163, H⟩
      ·refine W_true (d162.trans (cb q163)) <| W_reg <| lp rfl rfl (xm v105 ((K161 7 rfl).trans h125)) <| lp rfl rfl (xm v14 ((K161 0 rfl).trans ((K122 0 rfl).trans ((K99 0 rfl).trans ((K64 0 rfl).trans h39))))) <| lp rfl rfl (xm (.int .i64 x9_50) ((K161 9 rfl).trans ((K122 9 rfl).trans ((K99 9 rfl).trans h70)))) ?_
       obtain ⟨c164, H⟩ := bif_some H
       refine L_idx (.plain rfl) rfl (ltb rfl) rfl Tryz.underlying35 Tryz.sizeOf58 rfl (Rd.ext h40 ((e45.t e123).t e158)) rfl c164 <| fun p165 h166 => lp rfl rfl (X_loadS Tryz.isAgg58 Tryz.sizeOf58 rfl rfl h166) <| L_lit (.plain rfl) rfl (ltb rfl) rfl Tryz.underlying35 Tryz.sizeOf58 Tryz.zeroValue58 rfl rfl rfl (vs := [(.agg (encRec (gt x0_13 x9_50)).toArray)]) rfl (lit_all rfl) <| fun b167 w168 z169 z170 e171 k172 => ?_
       obtain ⟨c173, H⟩ := bif_some H
       refine L_append (enc := encRec) (.plain rfl) rfl (ltb rfl) rfl El.t35 rfl rfl (Ow.ext h126 (e158.t e171)) (Ow.rd (Ow.new (xs := [gt x0_13 x9_50]) (sz := 5) (enc := encRec) (base := w157.heap.size) k172 (Nat.le_of_eq z169) rfl (fun _ _ => by rfl) (Nat.le_of_ble_eq_true rfl))) (ones_Rec _) (od c173) (((e123.t e158).t e171)).size <| fun v174 w175 o176 z177 g178 => lp rfl rfl (xa v174 rfl) <| L_nil <| blk_n <| thn_n <| W_reg <| lp rfl rfl (xm (.int .i64 x9_50) ((K161 9 rfl).trans ((K122 9 rfl).trans ((K99 9 rfl).trans h70)))) <| lp rfl rfl (X_add rfl rfl) <| lp rfl rfl (xa (.int .i64 (IntKind.wrap .i64 (x9_50 + 1))) rfl) <| nx ?_
       obtain rfl := si H
       exact ⟨_, Nat.lt_succ_self _, x7_104 ++ ([gt x0_13 x9_50] : List Rec), v174, x8_106, IntKind.wrap .i64 (x9_50 + 1), (ku3 (ku8 (Kp.cut (Kp.cut (Kp.cut (ku4 K64 rfl) K99 rfl) K122 rfl) K161 rfl) rfl) rfl), rfl, o176, ((K161 8 rfl).trans h127), rfl, (g178 _ ((e123.t e158).t e171)), S72⟩
      ·refine W_false (d162.trans (cb q163)) <| W_skip <| blk_n <| thn_n <| W_reg <| lp rfl rfl (xm (.int .i64 x9_50) ((K161 9 rfl).trans ((K122 9 rfl).trans ((K99 9 rfl).trans h70)))) <| lp rfl rfl (X_add rfl rfl) <| lp rfl rfl (xa (.int .i64 (IntKind.wrap .i64 (x9_50 + 1))) rfl) <| nx ?_
       obtain rfl := si H
       exact ⟨_, Nat.lt_succ_self _, x7_104, v105, x8_106, IntKind.wrap .i64 (x9_50 + 1), (ku3 (Kp.cut (Kp.cut (Kp.cut (ku4 K64 rfl) K99 rfl) K122 rfl) K161 rfl) rfl), ((K161 7 rfl).trans h125), (Ow.ext h126 e158), ((K161 8 rfl).trans h127), rfl, (e123.t e158), S72⟩
    ·refine W_false (cb q73) <| W_exit <| thn_x <| thn_x <| blk_x <| thn_n ?_
     obtain rfl := si H
     obtain rfl := si S72
     exact ⟨x7_47, v48, x8_49, (ku4 K64 rfl), h67, h68, h69, e65, rfl⟩
  ·rintro s58 w57 ⟨x7_54, v55, x8_56, K59, h179, h180, h181, e60, y182⟩
   rw [y182] at C53
   have H := C53
   replace H : _ = some _ := H
   refine thn_n <| W_seq <| wr <| lp rfl rfl (X_move h181) <| lp rfl rfl (X_not rfl) <| nx ?_
   rcases bif_two H with ⟨q183, H⟩ | ⟨q183, H⟩
   ·refine W_true (cb q183) <| W_reg <| lp rfl rfl (X_move h179) <| lp rfl rfl (X_loadS Tryz.isAgg58 Tryz.sizeOf58 rfl ((K59 3 rfl).trans (K36 3 rfl)) (Blk.at0 (Blk.ext k6 (((e9.t e37).t e45).t e60)))) <| L_lit (.plain rfl) rfl (ltb rfl) rfl Tryz.underlying35 Tryz.sizeOf58 Tryz.zeroValue58 rfl rfl rfl (vs := [(.agg #[(.int .i64 a1.kind), (S a1.path), (S a1.body), (.int .i64 a1.mode), (.bool a1.opq)])]) rfl (lit_all rfl) <| fun b184 w185 z186 z187 e188 k189 => ?_
    obtain ⟨c190, H⟩ := bif_some H
    refine L_append (enc := encRec) (.plain rfl) rfl (ltb rfl) rfl El.t35 rfl rfl (Ow.ext h180 e188) (Ow.rd (Ow.new (xs := [a1]) (sz := 5) (enc := encRec) (base := w57.heap.size) k189 (Nat.le_of_eq z186) rfl (fun _ _ => by rfl) (Nat.le_of_ble_eq_true rfl))) (ones_Rec _) (od c190) ((e60.t e188)).size <| fun v191 w192 o193 z194 g195 => lp rfl rfl (xa v191 rfl) <| nx <| wr <| lp rfl rfl (xm v191 rfl) <| lp rfl rfl (xa v191 rfl) <| nx <| W_ret <| fin_r ?_
    obtain rfl := si H
    exact fin1o rfl ((((e5.t e9).t e37).t e45).t (g195 _ (e60.t e188))) o193 ((((e5.t e9).t e37).t e45)).size
   ·refine W_false (cb q183) <| W_skip <| thn_n <| wr <| lp rfl rfl (X_move h179) <| lp rfl rfl (xa v55 rfl) <| nx <| W_ret <| fin_r ?_
    obtain rfl := si H
    exact fin1o rfl ((((e5.t e9).t e37).t e45).t e60) h180 ((((e5.t e9).t e37).t e45)).size
theorem spec_l03Put1.calls {w : World} {a0 : List Rec} {a1 : Rec} {v_a0 : Value} (f_a0 : Rd 5 encRec w v_a0 a0) (h0 : putOKb 1 a0 a1 = true) :
  Calls Tryz.prog 202 #[v_a0, .agg (encRec a1).toArray] w (Rt (RO 58 5 encRec w (putR 1 a0 a1))) := by
 obtain ⟨k, h⟩ := spec_l03Put1.eq a0 a1 h0
 exact spec_l03Put1.walk f_a0 h
/-! spec.l03Put -/
abbrev spec_l03Put.e1 (a1 : Rec) (x0_13 : List Rec) (x9_50 : Int) := ((!decide (((gt x0_13 x9_50).path) = a1.path)) && (!(decide (a1.kind = 3))))
abbrev spec_l03Put.e2 (a1 : Rec) (x0_13 : List Rec) (x9_50 : Int) := ((decide (a1.path = []) && !decide (((gt x0_13 x9_50).path) = [])) || belowP ((gt x0_13 x9_50).path) a1.path)
theorem spec_l03Put.walk {k : Nat} {w : World} {a0 : List Rec} {a1 : Rec} {v_a0 : Value} (f_a0 : Rd 5 encRec w v_a0 a0) {r : List Rec} (H : spec_l03Put.sh k a0 a1 = some r) :
  Calls Tryz.prog 202 #[v_a0, .agg (encRec a1).toArray] w (Rt (RO 58 5 encRec w r)) := by
 unfold spec_l03Put.sh at H
 refine calls_of_W Tryz.func202 rfl (Nat.le_of_ble_eq_true rfl) Tryz.ntmps202 rfl ?_
 refine wr <| L_box (.plain rfl) rfl (ltb rfl) rfl rfl <| fun b1 w2 z3 z4 e5 k6 => lp rfl rfl (xa (.slice none 0 0) rfl) <| nx <| W_seq <| wr <| lp rfl rfl (X_fieldAddr Tryz.underlying58 rfl Tryz.sizeOf9 rfl rfl) <| lp rfl rfl (X_loadB Tryz.isAgg9 k6 rfl rfl) ?_
 obtain ⟨c7, H⟩ := bif_some H
 refine lc rfl rfl rfl Tryz.call161 (spec_l01Parent.calls (w := w2) (a0 := a1.path) (od c7)) rfl <| fun w8 e9 => lp rfl rfl (xa (S (parentP a1.path)) rfl) <| nx <| wr <| lp rfl rfl (xm (S (parentP a1.path)) rfl) <| lp rfl rfl (X_sne rfl rfl) <| nx ?_
 obtain ⟨z10, L11, C12⟩ := bind_some H
 clear H
 refine W_cutQ (fun s0 sQ wQ => ∃ (x0_13 : List Rec) (v14 : Value), Kp [(0, 1), (6, 7), (15, 32)] s0 sQ ∧ sQ 0 = v14 ∧ Rd 5 encRec wQ v14 x0_13 ∧ Ext w8 wQ ∧ z10 = .inr x0_13) ?_ ?_
 ·have H := L11
  rcases bif_two H with ⟨q15, H⟩ | ⟨q15, H⟩
  ·refine W_true (cb q15) <| wr <| lp rfl rfl (xm v_a0 rfl) <| lp rfl rfl (xm (S (parentP a1.path)) rfl) ?_
   obtain ⟨c16, H⟩ := bif_some H
   refine lc rfl rfl rfl Tryz.call145 (spec_l03At.calls (w := w8) (a0 := a0) (a1 := (parentP a1.path)) (Rd.ext f_a0 (e5.t e9)) (od c16)) rfl <| fun w17 e18 => lp rfl rfl (xa (.int .i64 (findR a0 (parentP a1.path))) rfl) <| nx <| wr <| lp rfl rfl (xm (.int .i64 (findR a0 (parentP a1.path))) rfl) <| lp rfl rfl (X_lss rfl rfl) <| lp rfl rfl (xm (.bool (decide ((findR a0 (parentP a1.path)) < 0))) rfl) ?_
   obtain ⟨z20, x21, H⟩ := bind_some H
   refine L_grpE 7 [(21, 28)] 27 (fun q => q = z20) ?_ ?_
   ·rcases bif_two x21 with ⟨b18_, H⟩ | ⟨b18_, H⟩
    ·refine ls rfl rfl rfl (cb b18_) rfl <| ls rfl rfl rfl (cb b18_) rfl <| ls rfl rfl rfl (cb b18_) rfl <| ls rfl rfl rfl (cb b18_) rfl <| ls rfl rfl rfl (cb b18_) rfl <| ls rfl rfl rfl (cb b18_) rfl <| lp rfl rfl (X_pick (b := true) (v := (.bool true)) (cb b18_) rfl) ?_
     obtain rfl := si H
     exact nx ⟨(ku3 (ku4 kz rfl) rfl), ⟨_, rfl, rfl⟩, er⟩
    ·refine lg rfl rfl rfl rfl (cb b18_) (xm v_a0 rfl) <| lg rfl rfl rfl rfl (cb b18_) (xm (.int .i64 (findR a0 (parentP a1.path))) rfl) ?_
     obtain ⟨c20, H⟩ := bif_some H
     refine L_idx (tg rfl rfl rfl (cb b18_)) rfl (ltb rfl) rfl Tryz.underlying35 Tryz.sizeOf58 rfl (Rd.ext f_a0 ((e5.t e9).t e18)) rfl c20 <| fun p21 h22 => lg rfl rfl rfl rfl (cb b18_) (X_fieldAddr Tryz.underlying58 rfl Tryz.sizeOf3 rfl rfl) <| lg rfl rfl rfl rfl (cb b18_) (X_loadF Tryz.isAgg3 (j := 0) h22 rfl rfl) <| lg rfl rfl rfl rfl (cb b18_) (X_neq rfl rfl) <| lp rfl rfl (X_pick (b := false) (v := (.bool (!decide (((gt a0 (findR a0 (parentP a1.path))).kind) = 3)))) (cb b18_) rfl) ?_
     obtain rfl := si H
     exact nx ⟨(ku3 (ku4 kz rfl) rfl), ⟨_, rfl, rfl⟩, er⟩
   intro s26 w22 z27 K23 hq h24 e25
   rw [hq] at h24; clear hq
   refine nx ?_
   rcases bif_two H with ⟨q28, H⟩ | ⟨q28, H⟩
   ·refine W_true (h24.trans (cb q28)) <| W_reg <| lp rfl rfl (xm v_a0 (K23 0 rfl)) <| lp rfl rfl (xm (S (parentP a1.path)) (K23 5 rfl)) <| lp rfl rfl (X_build1 (vs := [(0, (.int .i64 3)), (1, (S (parentP a1.path))), (3, (.int .i64 493))]) (pl := #[(0, 1), (1, 1), (2, 1), (3, 1), (4, 1)]) Tryz.underlying58 Tryz.zeroValue58 rfl (fun _ => by kernel_rfl) rfl rfl rfl) ?_
    obtain ⟨c29, H⟩ := bif_some H
    refine L_callO (.plain rfl) rfl (ltb rfl) rfl Tryz.call202 (spec_l03Put1.calls (w := w22) (a0 := a0) (a1 := (⟨3, (parentP a1.path), ([] : List UInt8), 493, false⟩ : Rec)) (Rd.ext f_a0 (((e5.t e9).t e18).t e25)) (od c29)) rfl <| fun v32 w30 e31 o33 => lp rfl rfl (xa v32 rfl) <| nx ?_
    obtain rfl := si H
    exact ⟨(putR 1 a0 (⟨3, (parentP a1.path), ([] : List UInt8), 493, false⟩ : Rec)), v32, (ku1 (ku4 (Kp.cut (ku3 (ku4 kz rfl) rfl) K23 rfl) rfl) rfl), rfl, (Ow.rd o33), ((e18.t e25).t e31), rfl⟩
   ·refine W_false (h24.trans (cb q28)) <| W_skip <| thn_n ?_
    obtain rfl := si H
    exact ⟨a0, v_a0, (Kp.cut (ku3 (ku4 kz rfl) rfl) K23 rfl), (K23 0 rfl), (Rd.ext f_a0 (((e5.t e9).t e18).t e25)), (e18.t e25), rfl⟩
  ·refine W_false (cb q15) <| W_skip <| thn_n ?_
   obtain rfl := si H
   exact ⟨a0, v_a0, kz, rfl, (Rd.ext f_a0 (e5.t e9)), er, rfl⟩
 ·rintro s35 w34 ⟨x0_13, v14, K36, h39, h40, e37, y38⟩
  rw [y38] at C12
  have H := C12
  refine thn_n <| wr <| L_lit (.plain rfl) rfl (ltb rfl) rfl Tryz.underlying35 Tryz.sizeOf58 Tryz.zeroValue58 rfl rfl rfl (vs := []) rfl (lit_all rfl) <| fun b41 w42 z43 z44 e45 k46 => lp rfl rfl (xa (.slice (some ⟨b41, 0, none⟩) 0 0) rfl) <| nx <| wr <| lp rfl rfl (xa (.bool false) rfl) <| nx <| W_seq <| wr <| lp rfl rfl (xa (.int .i64 0) rfl) <| nx ?_
  obtain ⟨z51, L52, C53⟩ := bind_some H
  clear H
  refine  W_cutQ (fun s0 sQ wQ => ∃ (x7_54 : List Rec) (v55 : Value) (x8_56 : Bool), Kp [(7, 10), (33, 86)] s0 sQ ∧ sQ 7 = v55 ∧ Ow 58 5 encRec w42.heap.size wQ v55 x7_54 ∧ sQ 8 = .bool x8_56 ∧ Ext w42 wQ ∧ z51 = .inr (x7_54, x8_56)) ?_ ?_
  ·refine W_block <| W_loopI (fun s0 kk sQ wQ => ∃ (x7_47 : List Rec) (v48 : Value) (x8_49 : Bool) (x9_50 : Int), Kp [(7, 10), (33, 86)] s0 sQ ∧ sQ 7 = v48 ∧ Ow 58 5 encRec w42.heap.size wQ v48 x7_47 ∧ sQ 8 = .bool x8_49 ∧ sQ 9 = .int .i64 x9_50 ∧ Ext w42 wQ ∧ loopF (spec_l03Put.b1 a1 x0_13) kk (x7_47, x8_49, x9_50) = some z51) k ⟨([] : List Rec), (.slice (some ⟨b41, 0, none⟩) 0 0), false, 0, kz, rfl, (Ow.zero), rfl, rfl, er, L52⟩ ?_
   rintro k61 s62 w63 ⟨x7_47, v48, x8_49, x9_50, K64, h67, h68, h69, h70, e65, L66⟩
   cases k61 with
   | zero => exact absurd L66 (by simp [loopF])
   | succ k61 =>
    obtain ⟨t71, H, S72⟩ := loopF_succ L66
    clear L66
    unfold spec_l03Put.b1 at H
    refine W_seq <| wr <| lp rfl rfl (X_move h70) <| lp rfl rfl (xm v14 ((K64 0 rfl).trans h39)) <| lp rfl rfl (X_lenR Tryz.underlying35 rfl (Rd.ext h40 (e45.t e65))) <| lp rfl rfl (X_lss rfl rfl) <| nx ?_
    rcases bif_two H with ⟨q73, H⟩ | ⟨q73, H⟩
    ·refine W_true (cb q73) <| W_skip <| thn_n <| W_seq <| W_block <| W_seq <| W_seq ?_
     obtain ⟨c74, H⟩ := bif_some H
     obtain ⟨c77, H⟩ := bif_some H
     obtain ⟨c78, H⟩ := bif_some H
     refine W_dM [LEq (.bool x8_49), LEq (.bool (!x8_49)), LEq (.bool (!x8_49)), LIf (!x8_49) (LEq (.pointer (some ⟨b1, 1, none⟩))), LIf (!x8_49) (LEq (S a1.path)), LIf (!x8_49) (LEq v14), LIf (!x8_49) (LEq (.int .i64 x9_50)), LIf (!x8_49) (LAt0 (encRec (gt x0_13 x9_50))), LIf (!x8_49) (LAt 1 (encRec (gt x0_13 x9_50))), LIf (!x8_49) (LEq (S ((gt x0_13 x9_50).path))), LIf (!x8_49) (LEq (.bool (lessL (cut 47 a1.path) (cut 47 ((gt x0_13 x9_50).path))))), LEq (.bool ((!x8_49) && (lessL (cut 47 a1.path) (cut 47 ((gt x0_13 x9_50).path)))))] (by kernel_rfl) (by kernel_rfl) ⟨qm, qm, qm, lm, lm, lm, lm, (LIf.mono LAt0.mono), (LIf.mono LAt.mono), lm, lm, qm, trivial⟩ ⟨?_, ?_, ?_, ?_, ?_, ?_, ?_, ?_, ?_, ?_, ?_, ?_, trivial⟩ ?_
     ·exact fun s x e f d u => lp rfl rfl (xm (.bool x8_49) ((f 8 rfl).trans h69)) <| se rfl rfl
     ·exact fun s x e f d u => lp rfl rfl (X_not (d 0 rfl)) <| se rfl rfl
     ·exact fun s x e f d u => lp rfl rfl (X_move (d 1 rfl)) <| se rfl rfl
     ·exact fun s x e f d u => gT rfl rfl rfl rfl (d 2 rfl) rfl fun b t => lt t rfl rfl (X_fieldAddr Tryz.underlying58 rfl Tryz.sizeOf9 rfl ((f 3 rfl).trans ((K64 3 rfl).trans (K36 3 rfl)))) <| sg rfl rfl b rfl
     ·exact fun s x e f d u => gT rfl rfl rfl rfl (d 2 rfl) rfl fun b t => lt t rfl rfl (X_loadB Tryz.isAgg9 (Blk.ext k6 ((((e9.t e37).t e45).t e65).t e)) ((d 3 rfl).1 b) rfl) <| sg rfl rfl b rfl
     ·exact fun s x e f d u => gT rfl rfl rfl rfl (d 2 rfl) rfl fun b t => lt t rfl rfl (xm v14 ((f 0 rfl).trans ((K64 0 rfl).trans h39))) <| sg rfl rfl b rfl
     ·exact fun s x e f d u => gT rfl rfl rfl rfl (d 2 rfl) rfl fun b t => lt t rfl rfl (xm (.int .i64 x9_50) ((f 9 rfl).trans h70)) <| sg rfl rfl b rfl
     ·exact fun s x e f d u => gT rfl rfl rfl rfl (d 2 rfl) rfl fun b t => L_idx t rfl (ltb rfl) rfl Tryz.underlying35 Tryz.sizeOf58 ((d 5 rfl).1 b) (Rd.ext h40 ((e45.t e65).t e)) ((d 6 rfl).1 b) (imp_take b c74) <| fun p82 h83 => sg rfl rfl b ⟨_, rfl, h83⟩
     ·intro s x e f d u
      refine gT rfl rfl rfl rfl (d 2 rfl) rfl fun b t => ?_
      obtain ⟨p84, h85, h86⟩ := ((d 7 rfl).1 b)
      exact lt t rfl rfl (X_fieldAddr Tryz.underlying58 rfl Tryz.sizeOf9 rfl h85) <| sg rfl rfl b ⟨_, rfl, h86⟩
     ·intro s x e f d u
      refine gT rfl rfl rfl rfl (d 2 rfl) rfl fun b t => ?_
      obtain ⟨p87, h88, h89⟩ := ((d 8 rfl).1 b)
      exact lt t rfl rfl (X_loadF Tryz.isAgg9 (j := 1) h89 h88 rfl) <| sg rfl rfl b rfl
     ·exact fun s x e f d u => gT rfl rfl rfl rfl (d 2 rfl) rfl fun b t => L_callP t rfl (ltb rfl) rfl Tryz.call205 (spec_l01Less.calls (w := x) (a0 := a1.path) (a1 := (gt x0_13 x9_50).path) (od (imp_take b c77)) (od (imp_take b c78))) (cons2 ((d 4 rfl).1 b) (cons2 ((d 9 rfl).1 b) rfl)) <| fun w92 e93 => sgx rfl rfl b e93 rfl
     ·exact fun s x e f d u => lp rfl rfl (X_pickA (d 2 rfl) rfl fun h => ((d 10 rfl).1 h)) <| se rfl rfl
     intro s94 w95 e96 hf97 ha98
     have K99 := Kp.ofD (kp := [(39, 51)]) rfl hf97
     have d100 : s94 50 = (.bool ((!x8_49) && (lessL (cut 47 a1.path) (cut 47 ((gt x0_13 x9_50).path))))) := ha98 11 rfl
     clear ha98 hf97
     refine thn_n ?_
     obtain ⟨z101, L102, C103⟩ := bind_some H
     clear H
     refine W_cutQ (fun s0 sQ wQ => ∃ (x7_104 : List Rec) (v105 : Value) (x8_106 : Bool), Kp [(7, 9), (51, 55)] s0 sQ ∧ sQ 7 = v105 ∧ Ow 58 5 encRec w42.heap.size wQ v105 x7_104 ∧ sQ 8 = .bool x8_106 ∧ Ext w42 wQ ∧ z101 = .inr (x7_104, x8_106)) ?_ ?_
     ·have H := L102
      rcases bif_two H with ⟨q107, H⟩ | ⟨q107, H⟩
      ·refine W_true (d100.trans (cb q107)) <| wr <| lp rfl rfl (xm v48 ((K99 7 rfl).trans h67)) <| lp rfl rfl (X_loadS Tryz.isAgg58 Tryz.sizeOf58 rfl ((K99 3 rfl).trans ((K64 3 rfl).trans (K36 3 rfl))) (Blk.at0 (Blk.ext k6 ((((e9.t e37).t e45).t e65).t e96)))) <| L_lit (.plain rfl) rfl (ltb rfl) rfl Tryz.underlying35 Tryz.sizeOf58 Tryz.zeroValue58 rfl rfl rfl (vs := [(.agg #[(.int .i64 a1.kind), (S a1.path), (S a1.body), (.int .i64 a1.mode), (.bool a1.opq)])]) rfl (lit_all rfl) <| fun b108 w109 z110 z111 e112 k113 => ?_
       obtain ⟨c114, H⟩ := bif_some H
       refine L_append (enc := encRec) (.plain rfl) rfl (ltb rfl) rfl El.t35 rfl rfl (Ow.ext h68 (e96.t e112)) (Ow.rd (Ow.new (xs := [a1]) (sz := 5) (enc := encRec) (base := w95.heap.size) k113 (Nat.le_of_eq z110) rfl (fun _ _ => by rfl) (Nat.le_of_ble_eq_true rfl))) (ones_Rec _) (od c114) (((e65.t e96).t e112)).size <| fun v115 w116 o117 z118 g119 => lp rfl rfl (xa v115 rfl) <| nx <| W_reg <| lp rfl rfl (xa (.bool true) rfl) <| nx ?_
       obtain rfl := si H
       exact ⟨x7_47 ++ ([a1] : List Rec), v115, true, (ku2 (ku4 kz rfl) rfl), rfl, o117, rfl, (g119 _ ((e65.t e96).t e112)), rfl⟩
      ·refine W_false (d100.trans (cb q107)) <| W_skip <| thn_n ?_
       obtain rfl := si H
       exact ⟨x7_47, v48, x8_49, kz, ((K99 7 rfl).trans h67), (Ow.ext h68 e96), ((K99 8 rfl).trans h69), (e65.t e96), rfl⟩
     ·rintro s121 w120 ⟨x7_104, v105, x8_106, K122, h125, h126, h127, e123, y124⟩
      rw [y124] at C103
      have H := C103
      refine thn_n <| W_seq ?_
      obtain ⟨c128, H⟩ := bif_some H
      obtain ⟨c131, H⟩ := bif_some H
      refine W_dM [LEq v14, LEq (.int .i64 x9_50), LAt0 (encRec (gt x0_13 x9_50)), LAt 1 (encRec (gt x0_13 x9_50)), LEq (S ((gt x0_13 x9_50).path)), LEq (.pointer (some ⟨b1, 1, none⟩)), LEq (S a1.path), LEq (.bool (!decide (((gt x0_13 x9_50).path) = a1.path))), LEq (.bool (!decide (((gt x0_13 x9_50).path) = a1.path))), LIf (!decide (((gt x0_13 x9_50).path) = a1.path)) (LEq (.pointer (some ⟨b1, 0, none⟩))), LIf (!decide (((gt x0_13 x9_50).path) = a1.path)) (LEq (.int .i64 a1.kind)), LIf (!decide (((gt x0_13 x9_50).path) = a1.path)) (LEq (.bool (decide (a1.kind = 3)))), LIf (!decide (((gt x0_13 x9_50).path) = a1.path)) (LEq (.bool (decide (a1.kind = 3)))), LIf (spec_l03Put.e1 a1 x0_13 x9_50) (LEq v14), LIf (spec_l03Put.e1 a1 x0_13 x9_50) (LEq (.int .i64 x9_50)), LIf (spec_l03Put.e1 a1 x0_13 x9_50) (LAt0 (encRec (gt x0_13 x9_50))), LIf (spec_l03Put.e1 a1 x0_13 x9_50) (LAt 1 (encRec (gt x0_13 x9_50))), LIf (spec_l03Put.e1 a1 x0_13 x9_50) (LEq (S ((gt x0_13 x9_50).path))), LIf (spec_l03Put.e1 a1 x0_13 x9_50) (LEq (.pointer (some ⟨b1, 1, none⟩))), LIf (spec_l03Put.e1 a1 x0_13 x9_50) (LEq (S a1.path)), LIf (spec_l03Put.e1 a1 x0_13 x9_50) (LEq (.bool (spec_l03Put.e2 a1 x0_13 x9_50))), LIf (spec_l03Put.e1 a1 x0_13 x9_50) (LEq (.bool (!(spec_l03Put.e2 a1 x0_13 x9_50)))), LIf (!decide (((gt x0_13 x9_50).path) = a1.path)) (LEq (.bool ((decide (a1.kind = 3)) || (!(spec_l03Put.e2 a1 x0_13 x9_50))))), LEq (.bool ((!decide (((gt x0_13 x9_50).path) = a1.path)) && ((decide (a1.kind = 3)) || (!(spec_l03Put.e2 a1 x0_13 x9_50)))))] (by kernel_rfl) (by kernel_rfl) ⟨qm, qm, LAt0.mono, LAt.mono, qm, qm, qm, qm, qm, lm, lm, lm, lm, lm, lm, (LIf.mono LAt0.mono), (LIf.mono LAt.mono), lm, lm, lm, lm, lm, lm, qm, trivial⟩ ⟨?_, ?_, ?_, ?_, ?_, ?_, ?_, ?_, ?_, ?_, ?_, ?_, ?_, ?_, ?_, ?_, ?_, ?_, ?_, ?_, ?_, ?_, ?_, ?_, trivial⟩ ?_
      ·exact fun s x e f d u => lp rfl rfl (xm v14 ((f 0 rfl).trans ((K122 0 rfl).trans ((K99 0 rfl).trans ((K64 0 rfl).trans h39))))) <| se rfl rfl
      ·exact fun s x e f d u => lp rfl rfl (xm (.int .i64 x9_50) ((f 9 rfl).trans ((K122 9 rfl).trans ((K99 9 rfl).trans h70)))) <| se rfl rfl
      ·exact fun s x e f d u => L_idx (.plain rfl) rfl (ltb rfl) rfl Tryz.underlying35 Tryz.sizeOf58 (d 0 rfl) (Rd.ext h40 ((e45.t e123).t e)) (d 1 rfl) c128 <| fun p137 h138 => se rfl ⟨_, rfl, h138⟩
      ·intro s x e f d u
       obtain ⟨p139, h140, h141⟩ := (d 2 rfl)
       exact lp rfl rfl (X_fieldAddr Tryz.underlying58 rfl Tryz.sizeOf9 rfl h140) <| se rfl ⟨_, rfl, h141⟩
      ·intro s x e f d u
       obtain ⟨p142, h143, h144⟩ := (d 3 rfl)
       exact lp rfl rfl (X_loadF Tryz.isAgg9 (j := 1) h144 h143 rfl) <| se rfl rfl
      ·exact fun s x e f d u => lp rfl rfl (X_fieldAddr Tryz.underlying58 rfl Tryz.sizeOf9 rfl ((f 3 rfl).trans ((K122 3 rfl).trans ((K99 3 rfl).trans ((K64 3 rfl).trans (K36 3 rfl)))))) <| se rfl rfl
      ·exact fun s x e f d u => lp rfl rfl (X_loadB Tryz.isAgg9 (Blk.ext k6 ((((e9.t e37).t e45).t e123).t e)) (d 5 rfl) rfl) <| se rfl rfl
      ·exact fun s x e f d u => lp rfl rfl (X_sne (d 4 rfl) (d 6 rfl)) <| se rfl rfl
      ·exact fun s x e f d u => lp rfl rfl (X_move (d 7 rfl)) <| se rfl rfl
      ·exact fun s x e f d u => gT rfl rfl rfl rfl (d 8 rfl) rfl fun b t => lt t rfl rfl (X_fieldAddr Tryz.underlying58 rfl Tryz.sizeOf3 rfl ((f 3 rfl).trans ((K122 3 rfl).trans ((K99 3 rfl).trans ((K64 3 rfl).trans (K36 3 rfl)))))) <| sg rfl rfl b rfl
      ·exact fun s x e f d u => gT rfl rfl rfl rfl (d 8 rfl) rfl fun b t => lt t rfl rfl (X_loadB Tryz.isAgg3 (Blk.ext k6 ((((e9.t e37).t e45).t e123).t e)) ((d 9 rfl).1 b) rfl) <| sg rfl rfl b rfl
      ·exact fun s x e f d u => gT rfl rfl rfl rfl (d 8 rfl) rfl fun b t => lt t rfl rfl (X_eql ((d 10 rfl).1 b) rfl) <| sg rfl rfl b rfl
      ·exact fun s x e f d u => gT rfl rfl rfl rfl (d 8 rfl) rfl fun b t => lt t rfl rfl (xm (.bool (decide (a1.kind = 3))) ((d 11 rfl).1 b)) <| sg rfl rfl b rfl
      ·exact fun s x e f d u => hF rfl rfl rfl rfl (d 12 rfl) rfl fun b t => lt t rfl rfl (xm v14 ((f 0 rfl).trans ((K122 0 rfl).trans ((K99 0 rfl).trans ((K64 0 rfl).trans h39))))) <| sg rfl rfl b rfl
      ·exact fun s x e f d u => hF rfl rfl rfl rfl (d 12 rfl) rfl fun b t => lt t rfl rfl (xm (.int .i64 x9_50) ((f 9 rfl).trans ((K122 9 rfl).trans ((K99 9 rfl).trans h70)))) <| sg rfl rfl b rfl
      ·exact fun s x e f d u => hF rfl rfl rfl rfl (d 12 rfl) rfl fun b t => L_idx t rfl (ltb rfl) rfl Tryz.underlying35 Tryz.sizeOf58 ((d 13 rfl).1 (and_mk (and_l b) (not_mk (not_f (and_r b))))) (Rd.ext h40 ((e45.t e123).t e)) ((d 14 rfl).1 (and_mk (and_l b) (not_mk (not_f (and_r b))))) (imp_take b c131) <| fun p146 h147 => sg rfl rfl b ⟨_, rfl, h147⟩
      ·intro s x e f d u
       refine hF rfl rfl rfl rfl (d 12 rfl) rfl fun b t => ?_
       obtain ⟨p148, h149, h150⟩ := ((d 15 rfl).1 (and_mk (and_l b) (not_mk (not_f (and_r b)))))
       exact lt t rfl rfl (X_fieldAddr Tryz.underlying58 rfl Tryz.sizeOf9 rfl h149) <| sg rfl rfl b ⟨_, rfl, h150⟩
      ·intro s x e f d u
       refine hF rfl rfl rfl rfl (d 12 rfl) rfl fun b t => ?_
       obtain ⟨p151, h152, h153⟩ := ((d 16 rfl).1 (and_mk (and_l b) (not_mk (not_f (and_r b)))))
       exact lt t rfl rfl (X_loadF Tryz.isAgg9 (j := 1) h153 h152 rfl) <| sg rfl rfl b rfl
      ·exact fun s x e f d u => hF rfl rfl rfl rfl (d 12 rfl) rfl fun b t => lt t rfl rfl (X_fieldAddr Tryz.underlying58 rfl Tryz.sizeOf9 rfl ((f 3 rfl).trans ((K122 3 rfl).trans ((K99 3 rfl).trans ((K64 3 rfl).trans (K36 3 rfl)))))) <| sg rfl rfl b rfl
      ·exact fun s x e f d u => hF rfl rfl rfl rfl (d 12 rfl) rfl fun b t => lt t rfl rfl (X_loadB Tryz.isAgg9 (Blk.ext k6 ((((e9.t e37).t e45).t e123).t e)) ((d 18 rfl).1 (and_mk (and_l b) (not_mk (not_f (and_r b))))) rfl) <| sg rfl rfl b rfl
      ·exact fun s x e f d u => hF rfl rfl rfl rfl (d 12 rfl) rfl fun b t => L_callP t rfl (ltb rfl) rfl Tryz.call171 (spec_l01Below.calls (w := x) (a0 := (gt x0_13 x9_50).path) (a1 := a1.path)) (cons2 ((d 17 rfl).1 (and_mk (and_l b) (not_mk (not_f (and_r b))))) (cons2 ((d 19 rfl).1 (and_mk (and_l b) (not_mk (not_f (and_r b))))) rfl)) <| fun w154 e155 => sgx rfl rfl b e155 rfl
      ·exact fun s x e f d u => hF rfl rfl rfl rfl (d 12 rfl) rfl fun b t => lt t rfl rfl (X_not ((d 20 rfl).1 (and_mk (and_l b) (not_mk (not_f (and_r b)))))) <| sg rfl rfl b rfl
      ·exact fun s x e f d u => gT rfl rfl rfl rfl (d 8 rfl) rfl fun b t => lt t rfl rfl (X_pickO ((d 12 rfl).1 b) rfl fun h => ((d 21 rfl).1 (and_mk b (not_mk h)))) <| sg rfl rfl b rfl
      ·exact fun s x e f d u => lp rfl rfl (X_pickA (d 8 rfl) rfl fun h => ((d 22 rfl).1 h)) <| se rfl rfl
      intro s156 w157 e158 hf159 ha160
      have K161 := Kp.ofD (kp := [(55, 79)]) rfl hf159
      have d162 : s156 78 = (.bool ((!decide (((gt x0_13 x9_50).path) = a1.path)) && ((decide (a1.kind = 3)) || (!(spec_l03Put.e2 a1 x0_13 x9_50))))) := ha160 23 rfl
      clear ha160 hf159
      refine thn_n ?_
      rcases bif_two H with ⟨q163, H⟩ | ⟨q163, H⟩
      ·refine W_true (d162.trans (cb q163)) <| W_reg <| lp rfl rfl (xm v105 ((K161 7 rfl).trans h125)) <| lp rfl rfl (xm v14 ((K161 0 rfl).trans ((K122 0 rfl).trans ((K99 0 rfl).trans ((K64 0 rfl).trans h39))))) <| lp rfl rfl (xm (.int .i64 x9_50) ((K161 9 rfl).trans ((K122 9 rfl).trans ((K99 9 rfl).trans h70)))) ?_
       obtain ⟨c164, H⟩ := bif_some H
       refine L_idx (.plain rfl) rfl (ltb rfl) rfl Tryz.underlying35 Tryz.sizeOf58 rfl (Rd.ext h40 ((e45.t e123).t e158)) rfl c164 <| fun p165 h166 => lp rfl rfl (X_loadS Tryz.isAgg58 Tryz.sizeOf58 rfl rfl h166) <| L_lit (.plain rfl) rfl (ltb rfl) rfl Tryz.underlying35 Tryz.sizeOf58 Tryz.zeroValue58 rfl rfl rfl (vs := [(.agg (encRec (gt x0_13 x9_50)).toArray)]) rfl (lit_all rfl) <| fun b167 w168 z169 z170 e171 k172 => ?_
       obtain ⟨c173, H⟩ := bif_some H
       refine L_append (enc := encRec) (.plain rfl) rfl (ltb rfl) rfl El.t35 rfl rfl (Ow.ext h126 (e158.t e171)) (Ow.rd (Ow.new (xs := [gt x0_13 x9_50]) (sz := 5) (enc := encRec) (base := w157.heap.size) k172 (Nat.le_of_eq z169) rfl (fun _ _ => by rfl) (Nat.le_of_ble_eq_true rfl))) (ones_Rec _) (od c173) (((e123.t e158).t e171)).size <| fun v174 w175 o176 z177 g178 => lp rfl rfl (xa v174 rfl) <| L_nil <| blk_n <| thn_n <| W_reg <| lp rfl rfl (xm (.int .i64 x9_50) ((K161 9 rfl).trans ((K122 9 rfl).trans ((K99 9 rfl).trans h70)))) <| lp rfl rfl (X_add rfl rfl) <| lp rfl rfl (xa (.int .i64 (IntKind.wrap .i64 (x9_50 + 1))) rfl) <| nx ?_
       obtain rfl := si H
       exact ⟨_, Nat.lt_succ_self _, x7_104 ++ ([gt x0_13 x9_50] : List Rec), v174, x8_106, IntKind.wrap .i64 (x9_50 + 1), (ku3 (ku8 (Kp.cut (Kp.cut (Kp.cut (ku4 K64 rfl) K99 rfl) K122 rfl) K161 rfl) rfl) rfl), rfl, o176, ((K161 8 rfl).trans h127), rfl, (g178 _ ((e123.t e158).t e171)), S72⟩
      ·refine W_false (d162.trans (cb q163)) <| W_skip <| blk_n <| thn_n <| W_reg <| lp rfl rfl (xm (.int .i64 x9_50) ((K161 9 rfl).trans ((K122 9 rfl).trans ((K99 9 rfl).trans h70)))) <| lp rfl rfl (X_add rfl rfl) <| lp rfl rfl (xa (.int .i64 (IntKind.wrap .i64 (x9_50 + 1))) rfl) <| nx ?_
       obtain rfl := si H
       exact ⟨_, Nat.lt_succ_self _, x7_104, v105, x8_106, IntKind.wrap .i64 (x9_50 + 1), (ku3 (Kp.cut (Kp.cut (Kp.cut (ku4 K64 rfl) K99 rfl) K122 rfl) K161 rfl) rfl), ((K161 7 rfl).trans h125), (Ow.ext h126 e158), ((K161 8 rfl).trans h127), rfl, (e123.t e158), S72⟩
    ·refine W_false (cb q73) <| W_exit <| thn_x <| thn_x <| blk_x <| thn_n ?_
     obtain rfl := si H
     obtain rfl := si S72
     exact ⟨x7_47, v48, x8_49, (ku4 K64 rfl), h67, h68, h69, e65, rfl⟩
  ·rintro s58 w57 ⟨x7_54, v55, x8_56, K59, h179, h180, h181, e60, y182⟩
   rw [y182] at C53
   have H := C53
   replace H : _ = some _ := H
   refine thn_n <| W_seq <| wr <| lp rfl rfl (X_move h181) <| lp rfl rfl (X_not rfl) <| nx ?_
   rcases bif_two H with ⟨q183, H⟩ | ⟨q183, H⟩
   ·refine W_true (cb q183) <| W_reg <| lp rfl rfl (X_move h179) <| lp rfl rfl (X_loadS Tryz.isAgg58 Tryz.sizeOf58 rfl ((K59 3 rfl).trans (K36 3 rfl)) (Blk.at0 (Blk.ext k6 (((e9.t e37).t e45).t e60)))) <| L_lit (.plain rfl) rfl (ltb rfl) rfl Tryz.underlying35 Tryz.sizeOf58 Tryz.zeroValue58 rfl rfl rfl (vs := [(.agg #[(.int .i64 a1.kind), (S a1.path), (S a1.body), (.int .i64 a1.mode), (.bool a1.opq)])]) rfl (lit_all rfl) <| fun b184 w185 z186 z187 e188 k189 => ?_
    obtain ⟨c190, H⟩ := bif_some H
    refine L_append (enc := encRec) (.plain rfl) rfl (ltb rfl) rfl El.t35 rfl rfl (Ow.ext h180 e188) (Ow.rd (Ow.new (xs := [a1]) (sz := 5) (enc := encRec) (base := w57.heap.size) k189 (Nat.le_of_eq z186) rfl (fun _ _ => by rfl) (Nat.le_of_ble_eq_true rfl))) (ones_Rec _) (od c190) ((e60.t e188)).size <| fun v191 w192 o193 z194 g195 => lp rfl rfl (xa v191 rfl) <| nx <| wr <| lp rfl rfl (xm v191 rfl) <| lp rfl rfl (xa v191 rfl) <| nx <| W_ret <| fin_r ?_
    obtain rfl := si H
    exact fin1o rfl ((((e5.t e9).t e37).t e45).t (g195 _ (e60.t e188))) o193 ((((e5.t e9).t e37).t e45)).size
   ·refine W_false (cb q183) <| W_skip <| thn_n <| wr <| lp rfl rfl (X_move h179) <| lp rfl rfl (xa v55 rfl) <| nx <| W_ret <| fin_r ?_
    obtain rfl := si H
    exact fin1o rfl ((((e5.t e9).t e37).t e45).t e60) h180 ((((e5.t e9).t e37).t e45)).size
theorem spec_l03Put.calls {w : World} {a0 : List Rec} {a1 : Rec} {v_a0 : Value} (f_a0 : Rd 5 encRec w v_a0 a0) (h0 : putOKb 2 a0 a1 = true) :
  Calls Tryz.prog 202 #[v_a0, .agg (encRec a1).toArray] w (Rt (RO 58 5 encRec w (putR 2 a0 a1))) := by
 obtain ⟨k, h⟩ := spec_l03Put.eq a0 a1 h0
 exact spec_l03Put.walk f_a0 h
/-! (*spec.l00Src).layer -/
theorem draw_layer.walk {k : Nat} {w : World} {a0 : List Int} {a1 : DSrc} {wc : World} {cv : Value} {bs : Nat} (kc : Ext wc w) (fc : Rd 1 (Go.UL.encI .u8) wc cv a0) (hz : wc.heap.size ≤ bs) (ks : Blk w bs (encSrc cv a1).toArray 162) {r : List Rec × DSrc} (H : draw_layer.sh k a0 a1 = some r) :
  Calls Tryz.prog 114 #[.pointer (some ⟨bs, 0, none⟩)] w (Rt (RSO 162 bs cv 58 5 encRec w r.1 r.2)) := by
 unfold draw_layer.sh at H
 refine calls_of_W Tryz.func114 rfl (Nat.le_of_ble_eq_true rfl) Tryz.ntmps114 rfl ?_
 refine wr <| lp rfl rfl (xa (.slice none 0 0) rfl) <| nx <| wr <| L_lit (.plain rfl) rfl (ltb rfl) rfl Tryz.underlying35 Tryz.sizeOf58 Tryz.zeroValue58 rfl rfl rfl (vs := []) rfl (lit_all rfl) <| fun b1 w2 z3 z4 e5 k6 => lp rfl rfl (xa (.slice (some ⟨b1, 0, none⟩) 0 0) rfl) <| nx <| W_seq <| wr <| lp rfl rfl (xm (.pointer (some ⟨bs, 0, none⟩)) rfl) <| lp rfl rfl (xm (.pointer (some ⟨bs, 0, none⟩)) rfl) ?_
 obtain ⟨z7, x8, H⟩ := bind_some H
 refine L_callS (.plain rfl) rfl (ltb rfl) rfl Tryz.call201 (draw_room.calls (w := w2) (a0 := a0) (a1 := a1) (a2 := 6) (Ext.trans kc e5) fc hz (Blk.ext ks e5) x8) rfl <| fun w11 g12 k13 => lp rfl rfl (X_add rfl rfl) ?_
 obtain ⟨z14, x15, H⟩ := bind_some H
 refine L_callS (.plain rfl) rfl (ltb rfl) rfl Tryz.call195 (draw_next.calls (w := w11) (a0 := a0) (a1 := z7.2) (a2 := IntKind.wrap .i64 (z7.1 + 3)) (Ext.gr (Ext.trans kc e5) g12 hz) fc hz k13 x15) rfl <| fun w18 g19 k20 => lp rfl rfl (xa (.int .i64 z14.1) rfl) <| nx ?_
 obtain ⟨z25, L26, C27⟩ := bind_some H
 clear H
 refine  W_cutQ (fun s0 sQ wQ => ∃ (x3_28 : List Rec) (v29 : Value) (y30 : DSrc), Kp [(3, 6), (12, 26)] s0 sQ ∧ sQ 3 = v29 ∧ Ow 58 5 encRec w18.heap.size wQ v29 x3_28 ∧ Blk wQ bs ((encSrc cv) y30).toArray 162 ∧ Gr bs (bs + 1) w18 wQ ∧ Ext wc wQ ∧ z25 = .inr (x3_28, y30)) ?_ ?_
 ·refine W_block <| W_loopI (fun s0 kk sQ wQ => ∃ (x3_21 : List Rec) (v22 : Value) (x4_23 : Int) (y24 : DSrc), Kp [(3, 6), (12, 26)] s0 sQ ∧ sQ 3 = v22 ∧ Ow 58 5 encRec w18.heap.size wQ v22 x3_21 ∧ sQ 4 = .int .i64 x4_23 ∧ Blk wQ bs ((encSrc cv) y24).toArray 162 ∧ Gr bs (bs + 1) w18 wQ ∧ Ext wc wQ ∧ loopF (draw_layer.b1 a0) kk (x3_21, x4_23, y24) = some z25) k ⟨([] : List Rec), (.slice (some ⟨b1, 0, none⟩) 0 0), z14.1, z14.2, kz, rfl, (Ow.zero), rfl, k20, (Gr.refl _ _ _), (Ext.gr (Ext.gr (Ext.trans kc e5) g12 hz) g19 hz), L26⟩ ?_
  rintro k35 s36 w37 ⟨x3_21, v22, x4_23, y24, K38, h41, h42, h43, h44, e39, e39c, L40⟩
  cases k35 with
  | zero => exact absurd L40 (by simp [loopF])
  | succ k35 =>
   obtain ⟨t45, H, S46⟩ := loopF_succ L40
   clear L40
   unfold draw_layer.b1 at H
   refine W_seq <| wr <| lp rfl rfl (X_move h43) <| lp rfl rfl (X_gtr rfl rfl) <| nx ?_
   rcases bif_two H with ⟨q47, H⟩ | ⟨q47, H⟩
   ·refine W_true (cb q47) <| W_skip <| thn_n <| W_seq <| W_block <| wr <| lp rfl rfl (X_move h41) <| lp rfl rfl (xm (.pointer (some ⟨bs, 0, none⟩)) (K38 0 rfl)) <| lp rfl rfl (xm (.pointer (some ⟨bs, 0, none⟩)) (K38 0 rfl)) ?_
    obtain ⟨z48, x49, H⟩ := bind_some H
    refine L_callS (.plain rfl) rfl (ltb rfl) rfl Tryz.call148 (draw_path.calls (w := w37) (a0 := a0) (a1 := y24) e39c fc hz h44 x49) rfl <| fun w52 g53 k54 => ?_
    obtain ⟨z55, x56, H⟩ := bind_some H
    refine L_callS (.plain rfl) rfl (ltb rfl) rfl Tryz.call153 (draw_record.calls (w := w52) (a0 := a0) (a1 := z48.2) (a2 := z48.1) (Ext.gr e39c g53 hz) fc hz k54 x56) rfl <| fun w59 g60 k61 => ?_
    obtain ⟨c62, H⟩ := bif_some H
    refine L_callO (.plain rfl) rfl (ltb rfl) rfl Tryz.call202 (spec_l03Put.calls (w := w59) (a0 := x3_21) (a1 := z55.1) (Ow.rd (Ow.later (Ow.later h42 g53 (Nat.le_trans (Blk.lt ks) ((Gr.trans (Gr.trans (Gr.ext e5) g12) g19)).size)) g60 (Nat.le_trans (Blk.lt ks) ((Gr.trans (Gr.trans (Gr.ext e5) g12) g19)).size))) (od c62)) rfl <| fun v65 w63 e64 o66 => lp rfl rfl (xa v65 rfl) <| nx <| wr <| lp rfl rfl (xm v65 rfl) <| lp rfl rfl (X_lenR Tryz.underlying35 rfl (Ow.rd o66)) <| lp rfl rfl (X_leq rfl rfl) <| nx ?_
    rcases bif_two H with ⟨q67, H⟩ | ⟨q67, H⟩
    ·refine W_true (cb q67) <| W_reg <| lp rfl rfl (xm v65 rfl) <| lp rfl rfl (xa v65 rfl) <| L_nil <| blk_n <| thn_n <| W_reg <| lp rfl rfl (X_move h43) <| lp rfl rfl (X_sub rfl rfl) <| lp rfl rfl (xa (.int .i64 (IntKind.wrap .i64 (x4_23 - 1))) rfl) <| nx ?_
     obtain rfl := si H
     exact ⟨_, Nat.lt_succ_self _, (putR 2 x3_21 z55.1), v65, IntKind.wrap .i64 (x4_23 - 1), z55.2, (ku1 (ku8 (ku8 K38 rfl) rfl) rfl), rfl, (Ow.base o66 ((Gr.trans (Gr.trans e39 g53) g60)).size), rfl, (Blk.ext k61 e64), (Gr.trans (Gr.trans (Gr.trans e39 g53) g60) (Gr.ext e64)), (Ext.trans (Ext.gr (Ext.gr e39c g53 hz) g60 hz) e64), S46⟩
    ·refine W_false (cb q67) <| W_skip <| blk_n <| thn_n <| W_reg <| lp rfl rfl (X_move h43) <| lp rfl rfl (X_sub rfl rfl) <| lp rfl rfl (xa (.int .i64 (IntKind.wrap .i64 (x4_23 - 1))) rfl) <| nx ?_
     obtain rfl := si H
     exact ⟨_, Nat.lt_succ_self _, x3_21, v22, IntKind.wrap .i64 (x4_23 - 1), z55.2, (ku3 (ku4 (ku8 K38 rfl) rfl) rfl), h41, (Ow.ext (Ow.later (Ow.later h42 g53 (Nat.le_trans (Blk.lt ks) ((Gr.trans (Gr.trans (Gr.ext e5) g12) g19)).size)) g60 (Nat.le_trans (Blk.lt ks) ((Gr.trans (Gr.trans (Gr.ext e5) g12) g19)).size)) e64), rfl, (Blk.ext k61 e64), (Gr.trans (Gr.trans (Gr.trans e39 g53) g60) (Gr.ext e64)), (Ext.trans (Ext.gr (Ext.gr e39c g53 hz) g60 hz) e64), S46⟩
   ·refine W_false (cb q47) <| W_exit <| thn_x <| thn_x <| blk_x <| thn_n ?_
    obtain rfl := si H
    obtain rfl := si S46
    exact ⟨x3_21, v22, y24, (ku2 K38 rfl), h41, h42, h44, e39, e39c, rfl⟩
 ·rintro s32 w31 ⟨x3_28, v29, y30, K33, h68, h69, h70, e34, e34c, y71⟩
  rw [y71] at C27
  have H := C27
  replace H : _ = some _ := H
  refine thn_n <| wr <| lp rfl rfl (X_move h68) <| lp rfl rfl (xa v29 rfl) <| nx <| W_ret <| fin_r ?_
  obtain rfl := si H
  exact fin1so rfl (Gr.trans (Gr.trans (Gr.trans (Gr.ext e5) g12) g19) e34) h70 h69 ((Gr.trans (Gr.trans (Gr.ext e5) g12) g19)).size
theorem draw_layer.calls {w : World} {a0 : List Int} {a1 : DSrc} {r : List Rec × DSrc} {wc : World} {cv : Value} {bs : Nat} (kc : Ext wc w) (fc : Rd 1 (Go.UL.encI .u8) wc cv a0) (hz : wc.heap.size ≤ bs) (ks : Blk w bs (encSrc cv a1).toArray 162) (H : (draw_layer.sh 12 a0 a1) = some r) :
  Calls Tryz.prog 114 #[.pointer (some ⟨bs, 0, none⟩)] w (Rt (RSO 162 bs cv 58 5 encRec w r.1 r.2)) := by
 obtain ⟨k, h⟩ := draw_layer.eq a0 a1 H
 exact draw_layer.walk kc fc hz ks h
/-! (*spec.l00Src).tree -/
theorem draw_tree.walk {k : Nat} {w : World} {a0 : List Int} {a1 : DSrc} {wc : World} {cv : Value} {bs : Nat} (kc : Ext wc w) (fc : Rd 1 (Go.UL.encI .u8) wc cv a0) (hz : wc.heap.size ≤ bs) (ks : Blk w bs (encSrc cv a1).toArray 162) {r : List Nd × DSrc} (H : draw_tree.sh k a0 a1 = some r) :
  Calls Tryz.prog 116 #[.pointer (some ⟨bs, 0, none⟩)] w (Rt (RSO 162 bs cv 60 4 encNd w r.1 r.2)) := by
 unfold draw_tree.sh at H
 refine calls_of_W Tryz.func116 rfl (Nat.le_of_ble_eq_true rfl) Tryz.ntmps116 rfl ?_
 refine wr <| lp rfl rfl (xa (.slice none 0 0) rfl) <| nx <| wr <| L_lit (.plain rfl) rfl (ltb rfl) rfl Tryz.underlying35 Tryz.sizeOf58 Tryz.zeroValue58 rfl rfl rfl (vs := []) rfl (lit_all rfl) <| fun b1 w2 z3 z4 e5 k6 => lp rfl rfl (xa (.slice (some ⟨b1, 0, none⟩) 0 0) rfl) <| nx <| W_seq <| wr <| lp rfl rfl (xm (.pointer (some ⟨bs, 0, none⟩)) rfl) <| lp rfl rfl (xm (.pointer (some ⟨bs, 0, none⟩)) rfl) ?_
 obtain ⟨z7, x8, H⟩ := bind_some H
 refine L_callS (.plain rfl) rfl (ltb rfl) rfl Tryz.call201 (draw_room.calls (w := w2) (a0 := a0) (a1 := a1) (a2 := 7) (Ext.trans kc e5) fc hz (Blk.ext ks e5) x8) rfl <| fun w11 g12 k13 => lp rfl rfl (X_add rfl rfl) ?_
 obtain ⟨z14, x15, H⟩ := bind_some H
 refine L_callS (.plain rfl) rfl (ltb rfl) rfl Tryz.call195 (draw_next.calls (w := w11) (a0 := a0) (a1 := z7.2) (a2 := IntKind.wrap .i64 (z7.1 + 2)) (Ext.gr (Ext.trans kc e5) g12 hz) fc hz k13 x15) rfl <| fun w18 g19 k20 => lp rfl rfl (xa (.int .i64 z14.1) rfl) <| nx ?_
 obtain ⟨z25, L26, C27⟩ := bind_some H
 clear H
 refine  W_cutQ (fun s0 sQ wQ => ∃ (x3_28 : List Rec) (v29 : Value) (y30 : DSrc), Kp [(3, 7), (15, 35)] s0 sQ ∧ sQ 3 = v29 ∧ Ow 58 5 encRec w18.heap.size wQ v29 x3_28 ∧ Blk wQ bs ((encSrc cv) y30).toArray 162 ∧ Gr bs (bs + 1) w18 wQ ∧ Ext wc wQ ∧ z25 = .inr (x3_28, y30)) ?_ ?_
 ·refine W_block <| W_loopI (fun s0 kk sQ wQ => ∃ (x3_21 : List Rec) (v22 : Value) (x4_23 : Int) (y24 : DSrc), Kp [(3, 7), (15, 35)] s0 sQ ∧ sQ 3 = v22 ∧ Ow 58 5 encRec w18.heap.size wQ v22 x3_21 ∧ sQ 4 = .int .i64 x4_23 ∧ Blk wQ bs ((encSrc cv) y24).toArray 162 ∧ Gr bs (bs + 1) w18 wQ ∧ Ext wc wQ ∧ loopF (draw_tree.b1 a0) kk (x3_21, x4_23, y24) = some z25) k ⟨([] : List Rec), (.slice (some ⟨b1, 0, none⟩) 0 0), z14.1, z14.2, kz, rfl, (Ow.zero), rfl, k20, (Gr.refl _ _ _), (Ext.gr (Ext.gr (Ext.trans kc e5) g12 hz) g19 hz), L26⟩ ?_
  rintro k35 s36 w37 ⟨x3_21, v22, x4_23, y24, K38, h41, h42, h43, h44, e39, e39c, L40⟩
  cases k35 with
  | zero => exact absurd L40 (by simp [loopF])
  | succ k35 =>
   obtain ⟨t45, H, S46⟩ := loopF_succ L40
   clear L40
   unfold draw_tree.b1 at H
   refine W_seq <| wr <| lp rfl rfl (X_move h43) <| lp rfl rfl (X_gtr rfl rfl) <| nx ?_
   rcases bif_two H with ⟨q47, H⟩ | ⟨q47, H⟩
   ·refine W_true (cb q47) <| W_skip <| thn_n <| W_seq <| W_block <| wr <| lp rfl rfl (xm (.pointer (some ⟨bs, 0, none⟩)) (K38 0 rfl)) <| lp rfl rfl (xm (.pointer (some ⟨bs, 0, none⟩)) (K38 0 rfl)) ?_
    obtain ⟨z48, x49, H⟩ := bind_some H
    refine L_callS (.plain rfl) rfl (ltb rfl) rfl Tryz.call148 (draw_path.calls (w := w37) (a0 := a0) (a1 := y24) e39c fc hz h44 x49) rfl <| fun w52 g53 k54 => ?_
    obtain ⟨z55, x56, H⟩ := bind_some H
    refine L_callS (.plain rfl) rfl (ltb rfl) rfl Tryz.call153 (draw_record.calls (w := w52) (a0 := a0) (a1 := z48.2) (a2 := z48.1) (Ext.gr e39c g53 hz) fc hz k54 x56) rfl <| fun w59 g60 k61 => L_alloc (.plain rfl) rfl (ltb rfl) rfl Tryz.zeroValue58 <| fun b62 w63 z64 z65 e66 k67 => L_storeA (.plain rfl) rfl rfl Tryz.sizeOf58 rfl rfl rfl rfl rfl k67 <| fun w68 h69 k70 => nx <| wr <| lp rfl rfl (X_fieldAddr Tryz.underlying58 rfl Tryz.sizeOf4 rfl rfl) <| L_store1 (.plain rfl) rfl rfl Tryz.sizeOf4 rfl rfl rfl k70 (ltb rfl) <| fun w71 h72 k73 => nx <| W_seq <| wr <| lp rfl rfl (X_fieldAddr Tryz.underlying58 rfl Tryz.sizeOf3 rfl rfl) <| lp rfl rfl (X_loadB Tryz.isAgg3 k73 rfl rfl) <| lp rfl rfl (X_eql rfl rfl) <| nx ?_
    rcases bif_two H with ⟨q74, H⟩ | ⟨q74, H⟩
    ·refine W_true (cb q74) <| W_reg <| lp rfl rfl (X_fieldAddr Tryz.underlying58 rfl Tryz.sizeOf3 rfl rfl) <| L_store1 (.plain rfl) rfl rfl Tryz.sizeOf3 rfl rfl rfl k73 (ltb rfl) <| fun w75 h76 k77 => nx <| wr <| lp rfl rfl (X_move h41) <| lp rfl rfl (X_loadS Tryz.isAgg58 Tryz.sizeOf58 rfl rfl (Blk.at0 k77)) ?_
     obtain ⟨c78, H⟩ := bif_some H
     refine L_callO (.plain rfl) rfl (ltb rfl) rfl Tryz.call202 (spec_l03Put.calls (w := w75) (a0 := x3_21) (a1 := (⟨3, z55.1.path, z55.1.body, z55.1.mode, false⟩ : Rec)) (Ow.rd (Ow.ext (Ow.later (Ow.later h42 g53 (Nat.le_trans (Blk.lt ks) ((Gr.trans (Gr.trans (Gr.ext e5) g12) g19)).size)) g60 (Nat.le_trans (Blk.lt ks) ((Gr.trans (Gr.trans (Gr.ext e5) g12) g19)).size)) (Below.trans (Below.trans (Below.trans e66 (Wr.below h69 (Nat.le_of_eq z64))) (Wr.below h72 (Nat.le_of_eq z64))) (Wr.below h76 (Nat.le_of_eq z64))))) (od c78)) rfl <| fun v81 w79 e80 o82 => lp rfl rfl (xa v81 rfl) <| nx <| wr <| lp rfl rfl (xm v81 rfl) <| lp rfl rfl (X_lenR Tryz.underlying35 rfl (Ow.rd o82)) <| lp rfl rfl (X_leq rfl rfl) <| nx ?_
     rcases bif_two H with ⟨q83, H⟩ | ⟨q83, H⟩
     ·refine W_true (cb q83) <| W_reg <| lp rfl rfl (xm v81 rfl) <| lp rfl rfl (xa v81 rfl) <| L_nil <| blk_n <| thn_n <| W_reg <| lp rfl rfl (X_move h43) <| lp rfl rfl (X_sub rfl rfl) <| lp rfl rfl (xa (.int .i64 (IntKind.wrap .i64 (x4_23 - 1))) rfl) <| nx ?_
      obtain rfl := si H
      exact ⟨_, Nat.lt_succ_self _, (putR 2 x3_21 (⟨3, z55.1.path, z55.1.body, z55.1.mode, false⟩ : Rec)), v81, IntKind.wrap .i64 (x4_23 - 1), z55.2, (ku8 (ku8 (ku8 K38 rfl) rfl) rfl), rfl, (Ow.base o82 ((Gr.trans (Gr.trans (Gr.trans e39 g53) g60) (Gr.ext (Below.trans (Below.trans (Below.trans e66 (Wr.below h69 (Nat.le_of_eq z64))) (Wr.below h72 (Nat.le_of_eq z64))) (Wr.below h76 (Nat.le_of_eq z64)))))).size), rfl, (Blk.ext k61 (Ext.trans (Below.trans (Below.trans (Below.trans e66 (Wr.below h69 (Nat.le_of_eq z64))) (Wr.below h72 (Nat.le_of_eq z64))) (Wr.below h76 (Nat.le_of_eq z64))) e80)), (Gr.trans (Gr.trans (Gr.trans (Gr.trans e39 g53) g60) (Gr.ext (Below.trans (Below.trans (Below.trans e66 (Wr.below h69 (Nat.le_of_eq z64))) (Wr.below h72 (Nat.le_of_eq z64))) (Wr.below h76 (Nat.le_of_eq z64))))) (Gr.ext e80)), (Ext.trans (Below.trans (Below.trans (Below.trans (Ext.trans (Ext.gr (Ext.gr e39c g53 hz) g60 hz) e66) (Below.mono (Wr.below h69 (Nat.le_of_eq z64)) ((Ext.gr (Ext.gr e39c g53 hz) g60 hz)).size)) (Below.mono (Wr.below h72 (Nat.le_of_eq z64)) ((Ext.gr (Ext.gr e39c g53 hz) g60 hz)).size)) (Below.mono (Wr.below h76 (Nat.le_of_eq z64)) ((Ext.gr (Ext.gr e39c g53 hz) g60 hz)).size)) e80), S46⟩
     ·refine W_false (cb q83) <| W_skip <| blk_n <| thn_n <| W_reg <| lp rfl rfl (X_move h43) <| lp rfl rfl (X_sub rfl rfl) <| lp rfl rfl (xa (.int .i64 (IntKind.wrap .i64 (x4_23 - 1))) rfl) <| nx ?_
      obtain rfl := si H
      exact ⟨_, Nat.lt_succ_self _, x3_21, v22, IntKind.wrap .i64 (x4_23 - 1), z55.2, (ku2 (ku4 (ku8 (ku8 K38 rfl) rfl) rfl) rfl), h41, (Ow.ext (Ow.later (Ow.later h42 g53 (Nat.le_trans (Blk.lt ks) ((Gr.trans (Gr.trans (Gr.ext e5) g12) g19)).size)) g60 (Nat.le_trans (Blk.lt ks) ((Gr.trans (Gr.trans (Gr.ext e5) g12) g19)).size)) (Ext.trans (Below.trans (Below.trans (Below.trans e66 (Wr.below h69 (Nat.le_of_eq z64))) (Wr.below h72 (Nat.le_of_eq z64))) (Wr.below h76 (Nat.le_of_eq z64))) e80)), rfl, (Blk.ext k61 (Ext.trans (Below.trans (Below.trans (Below.trans e66 (Wr.below h69 (Nat.le_of_eq z64))) (Wr.below h72 (Nat.le_of_eq z64))) (Wr.below h76 (Nat.le_of_eq z64))) e80)), (Gr.trans (Gr.trans (Gr.trans (Gr.trans e39 g53) g60) (Gr.ext (Below.trans (Below.trans (Below.trans e66 (Wr.below h69 (Nat.le_of_eq z64))) (Wr.below h72 (Nat.le_of_eq z64))) (Wr.below h76 (Nat.le_of_eq z64))))) (Gr.ext e80)), (Ext.trans (Below.trans (Below.trans (Below.trans (Ext.trans (Ext.gr (Ext.gr e39c g53 hz) g60 hz) e66) (Below.mono (Wr.below h69 (Nat.le_of_eq z64)) ((Ext.gr (Ext.gr e39c g53 hz) g60 hz)).size)) (Below.mono (Wr.below h72 (Nat.le_of_eq z64)) ((Ext.gr (Ext.gr e39c g53 hz) g60 hz)).size)) (Below.mono (Wr.below h76 (Nat.le_of_eq z64)) ((Ext.gr (Ext.gr e39c g53 hz) g60 hz)).size)) e80), S46⟩
    ·refine W_false (cb q74) <| W_skip <| thn_n <| wr <| lp rfl rfl (X_move h41) <| lp rfl rfl (X_loadS Tryz.isAgg58 Tryz.sizeOf58 rfl rfl (Blk.at0 k73)) ?_
     obtain ⟨c84, H⟩ := bif_some H
     refine L_callO (.plain rfl) rfl (ltb rfl) rfl Tryz.call202 (spec_l03Put.calls (w := w71) (a0 := x3_21) (a1 := (⟨z55.1.kind, z55.1.path, z55.1.body, z55.1.mode, false⟩ : Rec)) (Ow.rd (Ow.ext (Ow.later (Ow.later h42 g53 (Nat.le_trans (Blk.lt ks) ((Gr.trans (Gr.trans (Gr.ext e5) g12) g19)).size)) g60 (Nat.le_trans (Blk.lt ks) ((Gr.trans (Gr.trans (Gr.ext e5) g12) g19)).size)) (Below.trans (Below.trans e66 (Wr.below h69 (Nat.le_of_eq z64))) (Wr.below h72 (Nat.le_of_eq z64))))) (od c84)) rfl <| fun v87 w85 e86 o88 => lp rfl rfl (xa v87 rfl) <| nx <| wr <| lp rfl rfl (xm v87 rfl) <| lp rfl rfl (X_lenR Tryz.underlying35 rfl (Ow.rd o88)) <| lp rfl rfl (X_leq rfl rfl) <| nx ?_
     rcases bif_two H with ⟨q89, H⟩ | ⟨q89, H⟩
     ·refine W_true (cb q89) <| W_reg <| lp rfl rfl (xm v87 rfl) <| lp rfl rfl (xa v87 rfl) <| L_nil <| blk_n <| thn_n <| W_reg <| lp rfl rfl (X_move h43) <| lp rfl rfl (X_sub rfl rfl) <| lp rfl rfl (xa (.int .i64 (IntKind.wrap .i64 (x4_23 - 1))) rfl) <| nx ?_
      obtain rfl := si H
      exact ⟨_, Nat.lt_succ_self _, (putR 2 x3_21 (⟨z55.1.kind, z55.1.path, z55.1.body, z55.1.mode, false⟩ : Rec)), v87, IntKind.wrap .i64 (x4_23 - 1), z55.2, (ku3 (ku4 (ku8 (ku8 K38 rfl) rfl) rfl) rfl), rfl, (Ow.base o88 ((Gr.trans (Gr.trans (Gr.trans e39 g53) g60) (Gr.ext (Below.trans (Below.trans e66 (Wr.below h69 (Nat.le_of_eq z64))) (Wr.below h72 (Nat.le_of_eq z64)))))).size), rfl, (Blk.ext k61 (Ext.trans (Below.trans (Below.trans e66 (Wr.below h69 (Nat.le_of_eq z64))) (Wr.below h72 (Nat.le_of_eq z64))) e86)), (Gr.trans (Gr.trans (Gr.trans (Gr.trans e39 g53) g60) (Gr.ext (Below.trans (Below.trans e66 (Wr.below h69 (Nat.le_of_eq z64))) (Wr.below h72 (Nat.le_of_eq z64))))) (Gr.ext e86)), (Ext.trans (Below.trans (Below.trans (Ext.trans (Ext.gr (Ext.gr e39c g53 hz) g60 hz) e66) (Below.mono (Wr.below h69 (Nat.le_of_eq z64)) ((Ext.gr (Ext.gr e39c g53 hz) g60 hz)).size)) (Below.mono (Wr.below h72 (Nat.le_of_eq z64)) ((Ext.gr (Ext.gr e39c g53 hz) g60 hz)).size)) e86), S46⟩
     ·refine W_false (cb q89) <| W_skip <| blk_n <| thn_n <| W_reg <| lp rfl rfl (X_move h43) <| lp rfl rfl (X_sub rfl rfl) <| lp rfl rfl (xa (.int .i64 (IntKind.wrap .i64 (x4_23 - 1))) rfl) <| nx ?_
      obtain rfl := si H
      exact ⟨_, Nat.lt_succ_self _, x3_21, v22, IntKind.wrap .i64 (x4_23 - 1), z55.2, (ku1 (ku4 (ku8 (ku8 K38 rfl) rfl) rfl) rfl), h41, (Ow.ext (Ow.later (Ow.later h42 g53 (Nat.le_trans (Blk.lt ks) ((Gr.trans (Gr.trans (Gr.ext e5) g12) g19)).size)) g60 (Nat.le_trans (Blk.lt ks) ((Gr.trans (Gr.trans (Gr.ext e5) g12) g19)).size)) (Ext.trans (Below.trans (Below.trans e66 (Wr.below h69 (Nat.le_of_eq z64))) (Wr.below h72 (Nat.le_of_eq z64))) e86)), rfl, (Blk.ext k61 (Ext.trans (Below.trans (Below.trans e66 (Wr.below h69 (Nat.le_of_eq z64))) (Wr.below h72 (Nat.le_of_eq z64))) e86)), (Gr.trans (Gr.trans (Gr.trans (Gr.trans e39 g53) g60) (Gr.ext (Below.trans (Below.trans e66 (Wr.below h69 (Nat.le_of_eq z64))) (Wr.below h72 (Nat.le_of_eq z64))))) (Gr.ext e86)), (Ext.trans (Below.trans (Below.trans (Ext.trans (Ext.gr (Ext.gr e39c g53 hz) g60 hz) e66) (Below.mono (Wr.below h69 (Nat.le_of_eq z64)) ((Ext.gr (Ext.gr e39c g53 hz) g60 hz)).size)) (Below.mono (Wr.below h72 (Nat.le_of_eq z64)) ((Ext.gr (Ext.gr e39c g53 hz) g60 hz)).size)) e86), S46⟩
   ·refine W_false (cb q47) <| W_exit <| thn_x <| thn_x <| blk_x <| thn_n ?_
    obtain rfl := si H
    obtain rfl := si S46
    exact ⟨x3_21, v22, y24, (ku2 K38 rfl), h41, h42, h44, e39, e39c, rfl⟩
 ·rintro s32 w31 ⟨x3_28, v29, y30, K33, h90, h91, h92, e34, e34c, y93⟩
  rw [y93] at C27
  have H := C27
  replace H : _ = some _ := H
  refine thn_n <| wr <| L_lit (.plain rfl) rfl (ltb rfl) rfl Tryz.underlying29 Tryz.sizeOf60 Tryz.zeroValue60 rfl rfl rfl (vs := []) rfl (lit_all rfl) <| fun b94 w95 z96 z97 e98 k99 => lp rfl rfl (xa (.slice (some ⟨b94, 0, none⟩) 0 0) rfl) <| nx <| W_seq <| wr <| lp rfl rfl (xa (.int .i64 0) rfl) <| nx ?_
  obtain ⟨z103, L104, C105⟩ := bind_some H
  clear H
  refine  W_cutQ (fun s0 sQ wQ => ∃ (x7_106 : List Nd) (v107 : Value), Kp [(7, 9), (36, 50)] s0 sQ ∧ sQ 7 = v107 ∧ Ow 60 4 encNd w95.heap.size wQ v107 x7_106 ∧ Blk wQ bs ((encSrc cv) y30).toArray 162 ∧ Gr bs (bs + 1) w95 wQ ∧ Ext wc wQ ∧ z103 = .inr x7_106) ?_ ?_
  ·refine W_block <| W_loopI (fun s0 kk sQ wQ => ∃ (x7_100 : List Nd) (v101 : Value) (x8_102 : Int), Kp [(7, 9), (36, 50)] s0 sQ ∧ sQ 7 = v101 ∧ Ow 60 4 encNd w95.heap.size wQ v101 x7_100 ∧ sQ 8 = .int .i64 x8_102 ∧ Blk wQ bs ((encSrc cv) y30).toArray 162 ∧ Ow 58 5 encRec w18.heap.size wQ v29 x3_28 ∧ Gr bs (bs + 1) w95 wQ ∧ Ext wc wQ ∧ loopF (draw_tree.b2 x3_28) kk (x7_100, x8_102) = some z103) k ⟨([] : List Nd), (.slice (some ⟨b94, 0, none⟩) 0 0), 0, kz, rfl, (Ow.zero), rfl, (Blk.ext h92 e98), (Ow.ext h91 e98), (Gr.refl _ _ _), (Ext.trans e34c e98), L104⟩ ?_
   rintro k112 s113 w114 ⟨x7_100, v101, x8_102, K115, h118, h119, h120, h121, h122, e116, e116c, L117⟩
   cases k112 with
   | zero => exact absurd L117 (by simp [loopF])
   | succ k112 =>
    obtain ⟨t123, H, S124⟩ := loopF_succ L117
    clear L117
    unfold draw_tree.b2 at H
    refine W_seq <| wr <| lp rfl rfl (X_move h120) <| lp rfl rfl (xm v29 ((K115 3 rfl).trans h90)) <| lp rfl rfl (X_lenR Tryz.underlying35 rfl (Ow.rd h122)) <| lp rfl rfl (X_lss rfl rfl) <| nx ?_
    rcases bif_two H with ⟨q125, H⟩ | ⟨q125, H⟩
    ·refine W_true (cb q125) <| W_skip <| thn_n <| W_seq <| W_block <| W_reg <| lp rfl rfl (X_move h118) <| lp rfl rfl (xm v29 ((K115 3 rfl).trans h90)) <| lp rfl rfl (X_move h120) ?_
     obtain ⟨c126, H⟩ := bif_some H
     refine L_idx (.plain rfl) rfl (ltb rfl) rfl Tryz.underlying35 Tryz.sizeOf58 rfl (Ow.rd h122) rfl c126 <| fun p127 h128 => lp rfl rfl (X_loadS Tryz.isAgg58 Tryz.sizeOf58 rfl rfl h128) <| lc rfl rfl rfl Tryz.call203 (spec_l04Node.calls (w := w114) (a0 := gt x3_28 x8_102)) rfl <| fun w129 e130 => L_lit (.plain rfl) rfl (ltb rfl) rfl Tryz.underlying29 Tryz.sizeOf60 Tryz.zeroValue60 rfl rfl rfl (vs := [(.agg (encNd (ndOf (gt x3_28 x8_102))).toArray)]) rfl (lit_all rfl) <| fun b131 w132 z133 z134 e135 k136 => ?_
     obtain ⟨c137, H⟩ := bif_some H
     refine L_append (enc := encNd) (.plain rfl) rfl (ltb rfl) rfl El.t29 rfl rfl (Ow.ext h119 (e130.t e135)) (Ow.rd (Ow.new (xs := [(ndOf (gt x3_28 x8_102))]) (sz := 4) (enc := encNd) (base := w129.heap.size) k136 (Nat.le_of_eq z133) rfl (fun _ _ => by rfl) (Nat.le_of_ble_eq_true rfl))) (ones_Nd _) (od c137) ((Gr.trans (Gr.trans e116 (Gr.ext e130)) (Gr.ext e135))).size <| fun v138 w139 o140 z141 g142 => lp rfl rfl (xa v138 rfl) <| L_nil <| blk_n <| thn_n <| W_reg <| lp rfl rfl (X_move h120) <| lp rfl rfl (X_add rfl rfl) <| lp rfl rfl (xa (.int .i64 (IntKind.wrap .i64 (x8_102 + 1))) rfl) <| nx ?_
     obtain rfl := si H
     exact ⟨_, Nat.lt_succ_self _, x7_100 ++ ([(ndOf (gt x3_28 x8_102))] : List Nd), v138, IntKind.wrap .i64 (x8_102 + 1), (ku8 (ku8 K115 rfl) rfl), rfl, o140, rfl, (Gr.blk (Gr.ofBelow (g142 _ (Below.refl _ _))) (Blk.ext h121 (e130.t e135)) (Or.inr (Nat.le_trans (Blk.lt ks) ((Gr.trans (Gr.trans (Gr.trans (Gr.trans (Gr.ext e5) g12) g19) e34) (Gr.ext e98))).size))), (Ow.before (Ow.ext h122 (e130.t e135)) (Gr.ofBelow (g142 _ (Below.refl _ _))) (Ow.hb h91) (e98).size), (Gr.thn (Gr.trans (Gr.trans e116 (Gr.ext e130)) (Gr.ext e135)) (g142 _ (Below.refl _ _))), (Below.trans (Ext.trans (Ext.trans e116c e130) e135) (Below.mono (g142 _ (Below.refl _ _)) ((Ext.trans e34c e98)).size)), S124⟩
    ·refine W_false (cb q125) <| W_exit <| thn_x <| thn_x <| blk_x <| thn_n ?_
     obtain rfl := si H
     obtain rfl := si S124
     exact ⟨x7_100, v101, (ku4 K115 rfl), h118, h119, h121, e116, e116c, rfl⟩
  ·rintro s109 w108 ⟨x7_106, v107, K110, h143, h144, h145, e111, e111c, y146⟩
   rw [y146] at C105
   have H := C105
   replace H : _ = some _ := H
   refine thn_n <| wr <| lp rfl rfl (X_move h143) <| lp rfl rfl (xa v107 rfl) <| nx <| W_ret <| fin_r ?_
   obtain rfl := si H
   exact fin1so rfl (Gr.trans (Gr.trans (Gr.trans (Gr.trans (Gr.trans (Gr.ext e5) g12) g19) e34) (Gr.ext e98)) e111) h145 h144 ((Gr.trans (Gr.trans (Gr.trans (Gr.trans (Gr.ext e5) g12) g19) e34) (Gr.ext e98))).size
theorem draw_tree.calls {w : World} {a0 : List Int} {a1 : DSrc} {r : List Nd × DSrc} {wc : World} {cv : Value} {bs : Nat} (kc : Ext wc w) (fc : Rd 1 (Go.UL.encI .u8) wc cv a0) (hz : wc.heap.size ≤ bs) (ks : Blk w bs (encSrc cv a1).toArray 162) (H : (draw_tree.sh 24 a0 a1) = some r) :
  Calls Tryz.prog 116 #[.pointer (some ⟨bs, 0, none⟩)] w (Rt (RSO 162 bs cv 60 4 encNd w r.1 r.2)) := by
 obtain ⟨k, h⟩ := draw_tree.eq a0 a1 H
 exact draw_tree.walk kc fc hz ks h
/-! spec.LayerDrawn -/
theorem spec_LayerDrawn.walk {w : World} {a0 : List Int} {v_a0 : Value} (f_a0 : Rd 1 (Go.UL.encI .u8) w v_a0 a0) {r : List Rec} (H : spec_LayerDrawn.sh a0 = some r) :
  Calls Tryz.prog 23 #[v_a0] w (Rt (RO 58 5 encRec w r)) := by
 unfold spec_LayerDrawn.sh at H
 refine calls_of_W Tryz.func23 rfl (Nat.le_of_ble_eq_true rfl) Tryz.ntmps23 rfl ?_
 refine wr <| lp rfl rfl (xa (.slice none 0 0) rfl) <| nx <| wr <| lp rfl rfl (xm v_a0 rfl) ?_
 obtain ⟨z1, x2, H⟩ := bind_some H
 refine L_callSN (.plain rfl) rfl (ltb rfl) rfl Tryz.call103 (spec_l00Source.calls (w := w) (a0 := a0) f_a0 x2) rfl <| fun b5 w3 z6 e4 k7 => ?_
 obtain ⟨z8, x9, H⟩ := bind_some H
 refine L_callSO (.plain rfl) rfl (ltb rfl) rfl Tryz.call114 (draw_layer.calls (w := w3) (a0 := a0) (a1 := z1) e4 f_a0 z6 k7 x9) rfl <| fun v15 w12 g13 k14 o16 => lp rfl rfl (xa v15 rfl) <| nx <| W_ret <| fin_r ?_
 obtain rfl := si H
 exact fin1o rfl (Ext.gr e4 g13 z6) o16 (e4).size
theorem spec_LayerDrawn.calls {w : World} {a0 : List Int} {r : List Rec} {v_a0 : Value} (f_a0 : Rd 1 (Go.UL.encI .u8) w v_a0 a0) (H : (spec_LayerDrawn.sh a0) = some r) :
  Calls Tryz.prog 23 #[v_a0] w (Rt (RO 58 5 encRec w r)) := spec_LayerDrawn.walk f_a0 (spec_LayerDrawn.eq a0 H)
/-! spec.TreeDrawn -/
theorem spec_TreeDrawn.walk {w : World} {a0 : List Int} {v_a0 : Value} (f_a0 : Rd 1 (Go.UL.encI .u8) w v_a0 a0) {r : List Nd} (H : spec_TreeDrawn.sh a0 = some r) :
  Calls Tryz.prog 25 #[v_a0] w (Rt (RO 60 4 encNd w r)) := by
 unfold spec_TreeDrawn.sh at H
 refine calls_of_W Tryz.func25 rfl (Nat.le_of_ble_eq_true rfl) Tryz.ntmps25 rfl ?_
 refine wr <| lp rfl rfl (xa (.slice none 0 0) rfl) <| nx <| wr <| lp rfl rfl (xm v_a0 rfl) ?_
 obtain ⟨z1, x2, H⟩ := bind_some H
 refine L_callSN (.plain rfl) rfl (ltb rfl) rfl Tryz.call103 (spec_l00Source.calls (w := w) (a0 := a0) f_a0 x2) rfl <| fun b5 w3 z6 e4 k7 => ?_
 obtain ⟨z8, x9, H⟩ := bind_some H
 refine L_callSO (.plain rfl) rfl (ltb rfl) rfl Tryz.call116 (draw_tree.calls (w := w3) (a0 := a0) (a1 := z1) e4 f_a0 z6 k7 x9) rfl <| fun v15 w12 g13 k14 o16 => lp rfl rfl (xa v15 rfl) <| nx <| W_ret <| fin_r ?_
 obtain rfl := si H
 exact fin1o rfl (Ext.gr e4 g13 z6) o16 (e4).size
theorem spec_TreeDrawn.calls {w : World} {a0 : List Int} {r : List Nd} {v_a0 : Value} (f_a0 : Rd 1 (Go.UL.encI .u8) w v_a0 a0) (H : (spec_TreeDrawn.sh a0) = some r) :
  Calls Tryz.prog 25 #[v_a0] w (Rt (RO 60 4 encNd w r)) := spec_TreeDrawn.walk f_a0 (spec_TreeDrawn.eq a0 H)
/-! laws.FnLayers -/
theorem law_FnLayers.walk {w : World} {a0 : List Int} {a1 : List Int} (gv : GV 0 w) {v_a0 : Value} (f_a0 : Rd 1 (Go.UL.encI .u8) w v_a0 a0) {v_a1 : Value} (f_a1 : Rd 1 (Go.UL.encI .u8) w v_a1 a1) {r : Bool} (H : law_FnLayers.sh a0 a1 = some r) :
  Calls Tryz.prog 7 #[v_a0, v_a1] w (Rt (RP w (.bool r))) := by
 unfold law_FnLayers.sh at H
 refine calls_of_W Tryz.func7 rfl (Nat.le_of_ble_eq_true rfl) Tryz.ntmps7 rfl ?_
 refine wr <| lp rfl rfl (xa (.bool false) rfl) <| nx <| W_seq <| wr <| lp rfl rfl (xm v_a0 rfl) <| lp rfl rfl (X_lenR Tryz.underlying22 rfl f_a0) <| lp rfl rfl (X_gtr rfl rfl) <| lp rfl rfl (xm (.bool (decide (1048576 < (a0.length : Int)))) rfl) ?_
 obtain ⟨z2, x3, H⟩ := bind_some H
 refine L_grpE 4 [(44, 48)] 47 (fun q => q = z2) ?_ ?_
 ·rcases bif_two x3 with ⟨b0_, H⟩ | ⟨b0_, H⟩
  ·refine ls rfl rfl rfl (cb b0_) rfl <| ls rfl rfl rfl (cb b0_) rfl <| ls rfl rfl rfl (cb b0_) rfl <| lp rfl rfl (X_pick (b := true) (v := (.bool true)) (cb b0_) rfl) ?_
   obtain rfl := si H
   exact nx ⟨(ku4 kz rfl), ⟨_, rfl, rfl⟩, er⟩
  ·refine lg rfl rfl rfl rfl (cb b0_) (xm v_a1 rfl) <| lg rfl rfl rfl rfl (cb b0_) (X_lenR Tryz.underlying22 rfl f_a1) <| lg rfl rfl rfl rfl (cb b0_) (X_gtr rfl rfl) <| lp rfl rfl (X_pick (b := false) (v := (.bool (decide (1048576 < (a1.length : Int))))) (cb b0_) rfl) ?_
   obtain rfl := si H
   exact nx ⟨(ku4 kz rfl), ⟨_, rfl, rfl⟩, er⟩
 intro s8 w4 z9 K5 hq h6 e7
 rw [hq] at h6; clear hq
 refine nx ?_
 rcases bif_two H with ⟨q10, H⟩ | ⟨q10, H⟩
 ·refine W_true (h6.trans (cb q10)) <| wr <| lp rfl rfl (xa (.bool true) rfl) <| nx <| W_ret <| thn_r <| fin_r ?_
  obtain rfl := si H
  exact fin1 rfl e7
 ·refine W_false (h6.trans (cb q10)) <| W_skip <| thn_n <| wr <| lp rfl rfl (xm v_a0 (K5 0 rfl)) ?_
  obtain ⟨z11, x12, H⟩ := bind_some H
  refine L_callO (.plain rfl) rfl (ltb rfl) rfl Tryz.call23 (spec_LayerDrawn.calls (w := w4) (a0 := a0) (Rd.ext f_a0 e7) x12) rfl <| fun v15 w13 e14 o16 => lp rfl rfl (xa v15 rfl) <| nx <| wr <| lp rfl rfl (xm v_a1 (K5 1 rfl)) ?_
  obtain ⟨z17, x18, H⟩ := bind_some H
  refine L_callO (.plain rfl) rfl (ltb rfl) rfl Tryz.call25 (spec_TreeDrawn.calls (w := w13) (a0 := a1) (Rd.ext f_a1 (e7.t e14)) x18) rfl <| fun v21 w19 e20 o22 => lp rfl rfl (xa v21 rfl) <| nx <| wr <| lp rfl rfl (xm v15 rfl) ?_
  obtain ⟨c23, H⟩ := bif_some H
  obtain ⟨c24, H⟩ := bif_some H
  refine lc rfl rfl rfl Tryz.call48 (impl_LayerFault.calls (w := w19) (a0 := z11) (GV.ext gv ((e7.t e14).t e20)) (Ow.rd (Ow.ext o16 e20)) (od c23) (od c24)) rfl <| fun w25 e26 => lp rfl rfl (X_move rfl) <| lp rfl rfl (X_extract (v := (.int .i64 ((layerFaultL z11).1))) rfl rfl) <| lp rfl rfl (X_extract (v := (.int .i64 ((layerFaultL z11).2))) rfl rfl) <| lp rfl rfl (xa (.int .i64 ((layerFaultL z11).1)) rfl) <| lp rfl rfl (xa (.int .i64 ((layerFaultL z11).2)) rfl) <| nx <| wr <| lp rfl rfl (xm v15 rfl) ?_
  obtain ⟨c27, H⟩ := bif_some H
  obtain ⟨c28, H⟩ := bif_some H
  refine L_callT (.plain rfl) rfl (ltb rfl) rfl Tryz.call49 (impl_Canonical.calls (w := w25) (a0 := z11) (GV.ext gv (((e7.t e14).t e20).t e26)) (Ow.rd (Ow.ext o16 (e20.t e26))) (od c27) (od c28)) rfl <| fun v31 w29 e30 o32 => lp rfl rfl (xm (.tuple #[v31, (.int .i64 ((canonOf z11).2))]) rfl) <| lp rfl rfl (X_extract (v := v31) rfl rfl) <| lp rfl rfl (X_extract (v := (.int .i64 ((canonOf z11).2))) rfl rfl) <| lp rfl rfl (xa v31 rfl) <| lp rfl rfl (xa (.int .i64 ((canonOf z11).2)) rfl) <| nx <| wr <| lp rfl rfl (xm v15 rfl) ?_
  obtain ⟨c33, H⟩ := bif_some H
  obtain ⟨c34, H⟩ := bif_some H
  refine L_callT (.plain rfl) rfl (ltb rfl) rfl Tryz.call33 (spec_Canonical.calls (w := w29) (a0 := z11) (Ow.rd (Ow.ext o16 ((e20.t e26).t e30))) (od c33) (od c34)) rfl <| fun v37 w35 e36 o38 => lp rfl rfl (xm (.tuple #[v37, (.int .i64 ((canonOf z11).2))]) rfl) <| lp rfl rfl (X_extract (v := v37) rfl rfl) <| lp rfl rfl (X_extract (v := (.int .i64 ((canonOf z11).2))) rfl rfl) <| lp rfl rfl (xa v37 rfl) <| lp rfl rfl (xa (.int .i64 ((canonOf z11).2)) rfl) <| nx <| wr <| lp rfl rfl (xm v37 rfl) ?_
  obtain ⟨c39, H⟩ := bif_some H
  obtain ⟨c40, H⟩ := bif_some H
  refine L_callT (.plain rfl) rfl (ltb rfl) rfl Tryz.call49 (impl_Canonical.calls (w := w35) (a0 := (canonOf z11).1) (GV.ext gv (((((e7.t e14).t e20).t e26).t e30).t e36)) (Ow.rd o38) (od c39) (od c40)) rfl <| fun v43 w41 e42 o44 => lp rfl rfl (xm (.tuple #[v43, (.int .i64 ((canonOf ((canonOf z11).1)).2))]) rfl) <| lp rfl rfl (X_extract (v := v43) rfl rfl) <| lp rfl rfl (X_extract (v := (.int .i64 ((canonOf ((canonOf z11).1)).2))) rfl rfl) <| lp rfl rfl (xa v43 rfl) <| lp rfl rfl (xa (.int .i64 ((canonOf ((canonOf z11).1)).2)) rfl) <| nx <| W_seq <| wr <| lp rfl rfl (xm (.int .i64 ((layerFaultL z11).2)) rfl) <| lp rfl rfl (X_neq rfl rfl) <| lp rfl rfl (xm (.bool (!decide (((layerFaultL z11).2) = 0))) rfl) ?_
  obtain ⟨z46, x47, H⟩ := bind_some H
  refine L_grpE 3 [(75, 78)] 77 (fun q => q = z46) ?_ ?_
  ·rcases bif_two x47 with ⟨b44_, H⟩ | ⟨b44_, H⟩
   ·refine ls rfl rfl rfl (cb b44_) rfl <| ls rfl rfl rfl (cb b44_) rfl <| lp rfl rfl (X_pick (b := true) (v := (.bool true)) (cb b44_) rfl) ?_
    obtain rfl := si H
    exact nx ⟨(ku3 kz rfl), ⟨_, rfl, rfl⟩, er⟩
   ·refine lg rfl rfl rfl rfl (cb b44_) (xm (.int .i64 ((layerFaultL z11).1)) rfl) <| lg rfl rfl rfl rfl (cb b44_) (X_neq rfl rfl) <| lp rfl rfl (X_pick (b := false) (v := (.bool (!decide (((layerFaultL z11).1) = 0)))) (cb b44_) rfl) ?_
    obtain rfl := si H
    exact nx ⟨(ku3 kz rfl), ⟨_, rfl, rfl⟩, er⟩
  intro s52 w48 z53 K49 hq h50 e51
  rw [hq] at h50; clear hq
  refine lp rfl rfl (X_move h50) ?_
  obtain ⟨z55, x56, H⟩ := bind_some H
  refine L_grpE 3 [(79, 82)] 81 (fun q => q = z55) ?_ ?_
  ·rcases bif_two x56 with ⟨b53_, H⟩ | ⟨b53_, H⟩
   ·refine ls rfl rfl rfl (cb b53_) rfl <| ls rfl rfl rfl (cb b53_) rfl <| lp rfl rfl (X_pick (b := true) (v := (.bool true)) (cb b53_) rfl) ?_
    obtain rfl := si H
    exact nx ⟨(ku3 kz rfl), ⟨_, rfl, rfl⟩, er⟩
   ·refine lg rfl rfl rfl rfl (cb b53_) (xm (.int .i64 ((canonOf z11).2)) (K49 10 rfl)) <| lg rfl rfl rfl rfl (cb b53_) (X_neq rfl rfl) <| lp rfl rfl (X_pick (b := false) (v := (.bool (!decide (((canonOf z11).2) = 0)))) (cb b53_) rfl) ?_
    obtain rfl := si H
    exact nx ⟨(ku3 kz rfl), ⟨_, rfl, rfl⟩, er⟩
  intro s61 w57 z62 K58 hq h59 e60
  rw [hq] at h59; clear hq
  refine lp rfl rfl (X_move h59) ?_
  obtain ⟨z64, x65, H⟩ := bind_some H
  refine L_grpE 5 [(83, 88)] 87 (fun q => q = z64) ?_ ?_
  ·rcases bif_two x65 with ⟨b62_, H⟩ | ⟨b62_, H⟩
   ·refine ls rfl rfl rfl (cb b62_) rfl <| ls rfl rfl rfl (cb b62_) rfl <| ls rfl rfl rfl (cb b62_) rfl <| ls rfl rfl rfl (cb b62_) rfl <| lp rfl rfl (X_pick (b := true) (v := (.bool true)) (cb b62_) rfl) ?_
    obtain rfl := si H
    exact nx ⟨(ku1 (ku4 kz rfl) rfl), ⟨_, rfl, rfl⟩, er⟩
   ·refine lg rfl rfl rfl rfl (cb b62_) (xm v31 ((K58 9 rfl).trans (K49 9 rfl))) <| lg rfl rfl rfl rfl (cb b62_) (xm v37 ((K58 11 rfl).trans (K49 11 rfl))) ?_
    obtain ⟨c64, H⟩ := bif_some H
    refine L_callP (tg rfl rfl rfl (cb b62_)) rfl (ltb rfl) rfl Tryz.call31 (laws_sameRecords.calls (w := w57) (a0 := (canonOf z11).1) (a1 := (canonOf z11).1) (Ow.rd (Ow.ext o32 (((e36.t e42).t e51).t e60))) (Ow.rd (Ow.ext o38 ((e42.t e51).t e60))) (od c64)) rfl <| fun w65 e66 => lg rfl rfl rfl rfl (cb b62_) (X_not rfl) <| lp rfl rfl (X_pick (b := false) (v := (.bool (!(decide (((canonOf z11).1) = ((canonOf z11).1)))))) (cb b62_) rfl) ?_
    obtain rfl := si H
    exact nx ⟨(ku1 (ku4 kz rfl) rfl), ⟨_, rfl, rfl⟩, e66⟩
  intro s70 w66 z71 K67 hq h68 e69
  rw [hq] at h68; clear hq
  refine lp rfl rfl (X_move h68) ?_
  obtain ⟨z73, x74, H⟩ := bind_some H
  refine L_grpE 3 [(89, 92)] 91 (fun q => q = z73) ?_ ?_
  ·rcases bif_two x74 with ⟨b71_, H⟩ | ⟨b71_, H⟩
   ·refine ls rfl rfl rfl (cb b71_) rfl <| ls rfl rfl rfl (cb b71_) rfl <| lp rfl rfl (X_pick (b := true) (v := (.bool true)) (cb b71_) rfl) ?_
    obtain rfl := si H
    exact nx ⟨(ku3 kz rfl), ⟨_, rfl, rfl⟩, er⟩
   ·refine lg rfl rfl rfl rfl (cb b71_) (xm (.int .i64 ((canonOf ((canonOf z11).1)).2)) ((K67 14 rfl).trans ((K58 14 rfl).trans (K49 14 rfl)))) <| lg rfl rfl rfl rfl (cb b71_) (X_neq rfl rfl) <| lp rfl rfl (X_pick (b := false) (v := (.bool (!decide (((canonOf ((canonOf z11).1)).2) = 0)))) (cb b71_) rfl) ?_
    obtain rfl := si H
    exact nx ⟨(ku3 kz rfl), ⟨_, rfl, rfl⟩, er⟩
  intro s79 w75 z80 K76 hq h77 e78
  rw [hq] at h77; clear hq
  refine lp rfl rfl (X_move h77) ?_
  obtain ⟨z82, x83, H⟩ := bind_some H
  refine L_grpE 5 [(93, 98)] 97 (fun q => q = z82) ?_ ?_
  ·rcases bif_two x83 with ⟨b80_, H⟩ | ⟨b80_, H⟩
   ·refine ls rfl rfl rfl (cb b80_) rfl <| ls rfl rfl rfl (cb b80_) rfl <| ls rfl rfl rfl (cb b80_) rfl <| ls rfl rfl rfl (cb b80_) rfl <| lp rfl rfl (X_pick (b := true) (v := (.bool true)) (cb b80_) rfl) ?_
    obtain rfl := si H
    exact nx ⟨(ku1 (ku4 kz rfl) rfl), ⟨_, rfl, rfl⟩, er⟩
   ·refine lg rfl rfl rfl rfl (cb b80_) (xm v43 ((K76 13 rfl).trans ((K67 13 rfl).trans ((K58 13 rfl).trans (K49 13 rfl))))) <| lg rfl rfl rfl rfl (cb b80_) (xm v37 ((K76 11 rfl).trans ((K67 11 rfl).trans ((K58 11 rfl).trans (K49 11 rfl))))) ?_
    obtain ⟨c82, H⟩ := bif_some H
    refine L_callP (tg rfl rfl rfl (cb b80_)) rfl (ltb rfl) rfl Tryz.call31 (laws_sameRecords.calls (w := w75) (a0 := (canonOf ((canonOf z11).1)).1) (a1 := (canonOf z11).1) (Ow.rd (Ow.ext o44 (((e51.t e60).t e69).t e78))) (Ow.rd (Ow.ext o38 ((((e42.t e51).t e60).t e69).t e78))) (od c82)) rfl <| fun w83 e84 => lg rfl rfl rfl rfl (cb b80_) (X_not rfl) <| lp rfl rfl (X_pick (b := false) (v := (.bool (!(decide (((canonOf ((canonOf z11).1)).1) = ((canonOf z11).1)))))) (cb b80_) rfl) ?_
    obtain rfl := si H
    exact nx ⟨(ku1 (ku4 kz rfl) rfl), ⟨_, rfl, rfl⟩, e84⟩
  intro s88 w84 z89 K85 hq h86 e87
  rw [hq] at h86; clear hq
  refine lp rfl rfl (X_move h86) ?_
  obtain ⟨z91, x92, H⟩ := bind_some H
  refine L_grpE 4 [(99, 103)] 102 (fun q => q = z91) ?_ ?_
  ·rcases bif_two x92 with ⟨b89_, H⟩ | ⟨b89_, H⟩
   ·refine ls rfl rfl rfl (cb b89_) rfl <| ls rfl rfl rfl (cb b89_) rfl <| ls rfl rfl rfl (cb b89_) rfl <| lp rfl rfl (X_pick (b := true) (v := (.bool true)) (cb b89_) rfl) ?_
    obtain rfl := si H
    exact nx ⟨(ku4 kz rfl), ⟨_, rfl, rfl⟩, er⟩
   ·refine lg rfl rfl rfl rfl (cb b89_) (xm v15 ((K85 5 rfl).trans ((K76 5 rfl).trans ((K67 5 rfl).trans ((K58 5 rfl).trans (K49 5 rfl)))))) ?_
    obtain ⟨c91, H⟩ := bif_some H
    obtain ⟨c92, H⟩ := bif_some H
    refine L_callP (tg rfl rfl rfl (cb b89_)) rfl (ltb rfl) rfl Tryz.call50 (impl_LayerOK.calls (w := w84) (a0 := z11) (GV.ext gv (((((((((((e7.t e14).t e20).t e26).t e30).t e36).t e42).t e51).t e60).t e69).t e78).t e87)) (Ow.rd (Ow.ext o16 (((((((((e20.t e26).t e30).t e36).t e42).t e51).t e60).t e69).t e78).t e87))) (od c91) (od c92)) rfl <| fun w93 e94 => lg rfl rfl rfl rfl (cb b89_) (X_not rfl) <| lp rfl rfl (X_pick (b := false) (v := (.bool (!(decide ((layerFaultL z11).2 = 0))))) (cb b89_) rfl) ?_
    obtain rfl := si H
    exact nx ⟨(ku4 kz rfl), ⟨_, rfl, rfl⟩, e94⟩
  intro s97 w93 z98 K94 hq h95 e96
  rw [hq] at h95; clear hq
  refine lp rfl rfl (X_move h95) ?_
  obtain ⟨z100, x101, H⟩ := bind_some H
  refine L_grpE 4 [(104, 108)] 107 (fun q => q = z100) ?_ ?_
  ·rcases bif_two x101 with ⟨b98_, H⟩ | ⟨b98_, H⟩
   ·refine ls rfl rfl rfl (cb b98_) rfl <| ls rfl rfl rfl (cb b98_) rfl <| ls rfl rfl rfl (cb b98_) rfl <| lp rfl rfl (X_pick (b := true) (v := (.bool true)) (cb b98_) rfl) ?_
    obtain rfl := si H
    exact nx ⟨(ku4 kz rfl), ⟨_, rfl, rfl⟩, er⟩
   ·refine lg rfl rfl rfl rfl (cb b98_) (xm v31 ((K94 9 rfl).trans ((K85 9 rfl).trans ((K76 9 rfl).trans ((K67 9 rfl).trans ((K58 9 rfl).trans (K49 9 rfl))))))) ?_
    obtain ⟨c100, H⟩ := bif_some H
    obtain ⟨c101, H⟩ := bif_some H
    refine L_callP (tg rfl rfl rfl (cb b98_)) rfl (ltb rfl) rfl Tryz.call37 (impl_IsCanonical.calls (w := w93) (a0 := (canonOf z11).1) (GV.ext gv ((((((((((((e7.t e14).t e20).t e26).t e30).t e36).t e42).t e51).t e60).t e69).t e78).t e87).t e96)) (Ow.rd (Ow.ext o32 (((((((e36.t e42).t e51).t e60).t e69).t e78).t e87).t e96))) (od c100) (od c101)) rfl <| fun w102 e103 => lg rfl rfl rfl rfl (cb b98_) (X_not rfl) <| lp rfl rfl (X_pick (b := false) (v := (.bool (!(isCanon ((canonOf z11).1))))) (cb b98_) rfl) ?_
    obtain rfl := si H
    exact nx ⟨(ku4 kz rfl), ⟨_, rfl, rfl⟩, e103⟩
  intro s106 w102 z107 K103 hq h104 e105
  rw [hq] at h104; clear hq
  refine lp rfl rfl (X_move h104) ?_
  obtain ⟨z109, x110, H⟩ := bind_some H
  refine L_grpE 6 [(109, 115)] 114 (fun q => q = z109) ?_ ?_
  ·rcases bif_two x110 with ⟨b107_, H⟩ | ⟨b107_, H⟩
   ·refine ls rfl rfl rfl (cb b107_) rfl <| ls rfl rfl rfl (cb b107_) rfl <| ls rfl rfl rfl (cb b107_) rfl <| ls rfl rfl rfl (cb b107_) rfl <| ls rfl rfl rfl (cb b107_) rfl <| lp rfl rfl (X_pick (b := true) (v := (.bool true)) (cb b107_) rfl) ?_
    obtain rfl := si H
    exact nx ⟨(ku2 (ku4 kz rfl) rfl), ⟨_, rfl, rfl⟩, er⟩
   ·refine lg rfl rfl rfl rfl (cb b107_) (xm v15 ((K103 5 rfl).trans ((K94 5 rfl).trans ((K85 5 rfl).trans ((K76 5 rfl).trans ((K67 5 rfl).trans ((K58 5 rfl).trans (K49 5 rfl)))))))) ?_
    obtain ⟨c109, H⟩ := bif_some H
    obtain ⟨c110, H⟩ := bif_some H
    refine L_callP (tg rfl rfl rfl (cb b107_)) rfl (ltb rfl) rfl Tryz.call37 (impl_IsCanonical.calls (w := w102) (a0 := z11) (GV.ext gv (((((((((((((e7.t e14).t e20).t e26).t e30).t e36).t e42).t e51).t e60).t e69).t e78).t e87).t e96).t e105)) (Ow.rd (Ow.ext o16 (((((((((((e20.t e26).t e30).t e36).t e42).t e51).t e60).t e69).t e78).t e87).t e96).t e105))) (od c109) (od c110)) rfl <| fun w111 e112 => lg rfl rfl rfl rfl (cb b107_) (xm v15 ((K103 5 rfl).trans ((K94 5 rfl).trans ((K85 5 rfl).trans ((K76 5 rfl).trans ((K67 5 rfl).trans ((K58 5 rfl).trans (K49 5 rfl)))))))) ?_
    obtain ⟨c113, H⟩ := bif_some H
    obtain ⟨c114, H⟩ := bif_some H
    refine L_callP (tg rfl rfl rfl (cb b107_)) rfl (ltb rfl) rfl Tryz.call51 (spec_IsCanonical.calls (w := w111) (a0 := z11) (Ow.rd (Ow.ext o16 ((((((((((((e20.t e26).t e30).t e36).t e42).t e51).t e60).t e69).t e78).t e87).t e96).t e105).t e112))) (od c113) (od c114)) rfl <| fun w115 e116 => lg rfl rfl rfl rfl (cb b107_) (X_bne Tryz.underlying4 rfl rfl) <| lp rfl rfl (X_pick (b := false) (v := (.bool (!decide ((isCanon z11) = (isCanon z11))))) (cb b107_) rfl) ?_
    obtain rfl := si H
    exact nx ⟨(ku2 (ku4 kz rfl) rfl), ⟨_, rfl, rfl⟩, (e112.t e116)⟩
  intro s117 w111 z118 K112 hq h113 e114
  rw [hq] at h113; clear hq
  refine nx ?_
  rcases bif_two H with ⟨q119, H⟩ | ⟨q119, H⟩
  ·refine W_true (h113.trans (cb q119)) <| wr <| lp rfl rfl (xa (.bool false) rfl) <| nx <| W_ret <| thn_r <| fin_r ?_
   obtain rfl := si H
   exact fin1 rfl ((((((((((((((e7.t e14).t e20).t e26).t e30).t e36).t e42).t e51).t e60).t e69).t e78).t e87).t e96).t e105).t e114)
  ·refine W_false (h113.trans (cb q119)) <| W_skip <| thn_n <| wr <| lp rfl rfl (xm v15 ((K112 5 rfl).trans ((K103 5 rfl).trans ((K94 5 rfl).trans ((K85 5 rfl).trans ((K76 5 rfl).trans ((K67 5 rfl).trans ((K58 5 rfl).trans (K49 5 rfl))))))))) <| lp rfl rfl (xm v21 ((K112 6 rfl).trans ((K103 6 rfl).trans ((K94 6 rfl).trans ((K85 6 rfl).trans ((K76 6 rfl).trans ((K67 6 rfl).trans ((K58 6 rfl).trans (K49 6 rfl))))))))) ?_
   obtain ⟨c120, H⟩ := bif_some H
   obtain ⟨c121, H⟩ := bif_some H
   obtain ⟨c122, H⟩ := bif_some H
   obtain ⟨c123, H⟩ := bif_some H
   refine L_callT (.plain rfl) rfl (ltb rfl) rfl Tryz.call34 (impl_Apply.calls (w := w111) (a0 := z11) (a1 := z17) (GV.ext gv ((((((((((((((e7.t e14).t e20).t e26).t e30).t e36).t e42).t e51).t e60).t e69).t e78).t e87).t e96).t e105).t e114)) (Ow.rd (Ow.ext o16 ((((((((((((e20.t e26).t e30).t e36).t e42).t e51).t e60).t e69).t e78).t e87).t e96).t e105).t e114))) (Ow.rd (Ow.ext o22 (((((((((((e26.t e30).t e36).t e42).t e51).t e60).t e69).t e78).t e87).t e96).t e105).t e114))) (od c120) (od c121) (od c122) (od c123)) rfl <| fun v126 w124 e125 o127 => lp rfl rfl (xm (.tuple #[v126, (.int .i64 ((applyOf z11 z17).2))]) rfl) <| lp rfl rfl (X_extract (v := v126) rfl rfl) <| lp rfl rfl (X_extract (v := (.int .i64 ((applyOf z11 z17).2))) rfl rfl) <| lp rfl rfl (xa v126 rfl) <| lp rfl rfl (xa (.int .i64 ((applyOf z11 z17).2)) rfl) <| nx <| wr <| lp rfl rfl (xm v15 ((K112 5 rfl).trans ((K103 5 rfl).trans ((K94 5 rfl).trans ((K85 5 rfl).trans ((K76 5 rfl).trans ((K67 5 rfl).trans ((K58 5 rfl).trans (K49 5 rfl))))))))) <| lp rfl rfl (xm v21 ((K112 6 rfl).trans ((K103 6 rfl).trans ((K94 6 rfl).trans ((K85 6 rfl).trans ((K76 6 rfl).trans ((K67 6 rfl).trans ((K58 6 rfl).trans (K49 6 rfl))))))))) ?_
   obtain ⟨c128, H⟩ := bif_some H
   obtain ⟨c129, H⟩ := bif_some H
   obtain ⟨c130, H⟩ := bif_some H
   obtain ⟨c131, H⟩ := bif_some H
   refine L_callT (.plain rfl) rfl (ltb rfl) rfl Tryz.call42 (spec_Apply.calls (w := w124) (a0 := z11) (a1 := z17) (Ow.rd (Ow.ext o16 (((((((((((((e20.t e26).t e30).t e36).t e42).t e51).t e60).t e69).t e78).t e87).t e96).t e105).t e114).t e125))) (Ow.rd (Ow.ext o22 ((((((((((((e26.t e30).t e36).t e42).t e51).t e60).t e69).t e78).t e87).t e96).t e105).t e114).t e125))) (od c128) (od c129) (od c130) (od c131)) rfl <| fun v134 w132 e133 o135 => lp rfl rfl (xm (.tuple #[v134, (.int .i64 ((applyOf z11 z17).2))]) rfl) <| lp rfl rfl (X_extract (v := v134) rfl rfl) <| lp rfl rfl (X_extract (v := (.int .i64 ((applyOf z11 z17).2))) rfl rfl) <| lp rfl rfl (xa v134 rfl) <| lp rfl rfl (xa (.int .i64 ((applyOf z11 z17).2)) rfl) <| nx <| wr <| lp rfl rfl (xm v37 ((K112 11 rfl).trans ((K103 11 rfl).trans ((K94 11 rfl).trans ((K85 11 rfl).trans ((K76 11 rfl).trans ((K67 11 rfl).trans ((K58 11 rfl).trans (K49 11 rfl))))))))) <| lp rfl rfl (xm v21 ((K112 6 rfl).trans ((K103 6 rfl).trans ((K94 6 rfl).trans ((K85 6 rfl).trans ((K76 6 rfl).trans ((K67 6 rfl).trans ((K58 6 rfl).trans (K49 6 rfl))))))))) ?_
   obtain ⟨c136, H⟩ := bif_some H
   obtain ⟨c137, H⟩ := bif_some H
   obtain ⟨c138, H⟩ := bif_some H
   obtain ⟨c139, H⟩ := bif_some H
   refine L_callT (.plain rfl) rfl (ltb rfl) rfl Tryz.call34 (impl_Apply.calls (w := w132) (a0 := (canonOf z11).1) (a1 := z17) (GV.ext gv ((((((((((((((((e7.t e14).t e20).t e26).t e30).t e36).t e42).t e51).t e60).t e69).t e78).t e87).t e96).t e105).t e114).t e125).t e133)) (Ow.rd (Ow.ext o38 ((((((((((e42.t e51).t e60).t e69).t e78).t e87).t e96).t e105).t e114).t e125).t e133))) (Ow.rd (Ow.ext o22 (((((((((((((e26.t e30).t e36).t e42).t e51).t e60).t e69).t e78).t e87).t e96).t e105).t e114).t e125).t e133))) (od c136) (od c137) (od c138) (od c139)) rfl <| fun v142 w140 e141 o143 => lp rfl rfl (xm (.tuple #[v142, (.int .i64 ((applyOf ((canonOf z11).1) z17).2))]) rfl) <| lp rfl rfl (X_extract (v := v142) rfl rfl) <| lp rfl rfl (X_extract (v := (.int .i64 ((applyOf ((canonOf z11).1) z17).2))) rfl rfl) <| lp rfl rfl (xa v142 rfl) <| lp rfl rfl (xa (.int .i64 ((applyOf ((canonOf z11).1) z17).2)) rfl) <| nx <| W_seq <| wr <| lp rfl rfl (xm (.int .i64 ((applyOf z11 z17).2)) rfl) <| lp rfl rfl (xm (.int .i64 ((applyOf z11 z17).2)) rfl) <| lp rfl rfl (X_neq rfl rfl) <| lp rfl rfl (xm (.bool (!decide (((applyOf z11 z17).2) = ((applyOf z11 z17).2)))) rfl) ?_
   obtain ⟨z145, x146, H⟩ := bind_some H
   refine L_grpE 5 [(137, 142)] 141 (fun q => q = z145) ?_ ?_
   ·rcases bif_two x146 with ⟨b143_, H⟩ | ⟨b143_, H⟩
    ·refine ls rfl rfl rfl (cb b143_) rfl <| ls rfl rfl rfl (cb b143_) rfl <| ls rfl rfl rfl (cb b143_) rfl <| ls rfl rfl rfl (cb b143_) rfl <| lp rfl rfl (X_pick (b := true) (v := (.bool true)) (cb b143_) rfl) ?_
     obtain rfl := si H
     exact nx ⟨(ku1 (ku4 kz rfl) rfl), ⟨_, rfl, rfl⟩, er⟩
    ·refine lg rfl rfl rfl rfl (cb b143_) (xm v126 rfl) <| lg rfl rfl rfl rfl (cb b143_) (xm v134 rfl) ?_
     obtain ⟨c145, H⟩ := bif_some H
     refine L_callP (tg rfl rfl rfl (cb b143_)) rfl (ltb rfl) rfl Tryz.call22 (laws_sameNodes.calls (w := w140) (a0 := (applyOf z11 z17).1) (a1 := (applyOf z11 z17).1) (Ow.rd (Ow.ext o127 (e133.t e141))) (Ow.rd (Ow.ext o135 e141)) (od c145)) rfl <| fun w146 e147 => lg rfl rfl rfl rfl (cb b143_) (X_not rfl) <| lp rfl rfl (X_pick (b := false) (v := (.bool (!(decide (((applyOf z11 z17).1) = ((applyOf z11 z17).1)))))) (cb b143_) rfl) ?_
     obtain rfl := si H
     exact nx ⟨(ku1 (ku4 kz rfl) rfl), ⟨_, rfl, rfl⟩, e147⟩
   intro s151 w147 z152 K148 hq h149 e150
   rw [hq] at h149; clear hq
   refine lp rfl rfl (X_move h149) ?_
   obtain ⟨z154, x155, H⟩ := bind_some H
   refine L_grpE 4 [(143, 147)] 146 (fun q => q = z154) ?_ ?_
   ·rcases bif_two x155 with ⟨b152_, H⟩ | ⟨b152_, H⟩
    ·refine ls rfl rfl rfl (cb b152_) rfl <| ls rfl rfl rfl (cb b152_) rfl <| ls rfl rfl rfl (cb b152_) rfl <| lp rfl rfl (X_pick (b := true) (v := (.bool true)) (cb b152_) rfl) ?_
     obtain rfl := si H
     exact nx ⟨(ku4 kz rfl), ⟨_, rfl, rfl⟩, er⟩
    ·refine lg rfl rfl rfl rfl (cb b152_) (xm (.int .i64 ((applyOf ((canonOf z11).1) z17).2)) (K148 20 rfl)) <| lg rfl rfl rfl rfl (cb b152_) (xm (.int .i64 ((applyOf z11 z17).2)) (K148 18 rfl)) <| lg rfl rfl rfl rfl (cb b152_) (X_neq rfl rfl) <| lp rfl rfl (X_pick (b := false) (v := (.bool (!decide (((applyOf ((canonOf z11).1) z17).2) = ((applyOf z11 z17).2))))) (cb b152_) rfl) ?_
     obtain rfl := si H
     exact nx ⟨(ku4 kz rfl), ⟨_, rfl, rfl⟩, er⟩
   intro s160 w156 z161 K157 hq h158 e159
   rw [hq] at h158; clear hq
   refine lp rfl rfl (X_move h158) ?_
   obtain ⟨z163, x164, H⟩ := bind_some H
   refine L_grpE 5 [(148, 153)] 152 (fun q => q = z163) ?_ ?_
   ·rcases bif_two x164 with ⟨b161_, H⟩ | ⟨b161_, H⟩
    ·refine ls rfl rfl rfl (cb b161_) rfl <| ls rfl rfl rfl (cb b161_) rfl <| ls rfl rfl rfl (cb b161_) rfl <| ls rfl rfl rfl (cb b161_) rfl <| lp rfl rfl (X_pick (b := true) (v := (.bool true)) (cb b161_) rfl) ?_
     obtain rfl := si H
     exact nx ⟨(ku1 (ku4 kz rfl) rfl), ⟨_, rfl, rfl⟩, er⟩
    ·refine lg rfl rfl rfl rfl (cb b161_) (xm v142 ((K157 19 rfl).trans (K148 19 rfl))) <| lg rfl rfl rfl rfl (cb b161_) (xm v134 ((K157 17 rfl).trans (K148 17 rfl))) ?_
     obtain ⟨c163, H⟩ := bif_some H
     refine L_callP (tg rfl rfl rfl (cb b161_)) rfl (ltb rfl) rfl Tryz.call22 (laws_sameNodes.calls (w := w156) (a0 := (applyOf ((canonOf z11).1) z17).1) (a1 := (applyOf z11 z17).1) (Ow.rd (Ow.ext o143 (e150.t e159))) (Ow.rd (Ow.ext o135 ((e141.t e150).t e159))) (od c163)) rfl <| fun w164 e165 => lg rfl rfl rfl rfl (cb b161_) (X_not rfl) <| lp rfl rfl (X_pick (b := false) (v := (.bool (!(decide (((applyOf ((canonOf z11).1) z17).1) = ((applyOf z11 z17).1)))))) (cb b161_) rfl) ?_
     obtain rfl := si H
     exact nx ⟨(ku1 (ku4 kz rfl) rfl), ⟨_, rfl, rfl⟩, e165⟩
   intro s169 w165 z170 K166 hq h167 e168
   rw [hq] at h167; clear hq
   refine nx ?_
   rcases bif_two H with ⟨q171, H⟩ | ⟨q171, H⟩
   ·refine W_true (h167.trans (cb q171)) <| wr <| lp rfl rfl (xa (.bool false) rfl) <| nx <| W_ret <| thn_r <| fin_r ?_
    obtain rfl := si H
    exact fin1 rfl ((((((((((((((((((((e7.t e14).t e20).t e26).t e30).t e36).t e42).t e51).t e60).t e69).t e78).t e87).t e96).t e105).t e114).t e125).t e133).t e141).t e150).t e159).t e168)
   ·refine W_false (h167.trans (cb q171)) <| W_skip <| thn_n <| wr <| lp rfl rfl (xm v_a1 ((K166 1 rfl).trans ((K157 1 rfl).trans ((K148 1 rfl).trans ((K112 1 rfl).trans ((K103 1 rfl).trans ((K94 1 rfl).trans ((K85 1 rfl).trans ((K76 1 rfl).trans ((K67 1 rfl).trans ((K58 1 rfl).trans ((K49 1 rfl).trans (K5 1 rfl))))))))))))) ?_
    obtain ⟨z172, x173, H⟩ := bind_some H
    refine lc rfl rfl rfl Tryz.call52 (spec_PathDrawn.calls (w := w165) (a0 := a1) (Rd.ext f_a1 ((((((((((((((((((((e7.t e14).t e20).t e26).t e30).t e36).t e42).t e51).t e60).t e69).t e78).t e87).t e96).t e105).t e114).t e125).t e133).t e141).t e150).t e159).t e168)) x173) rfl <| fun w174 e175 => lp rfl rfl (xa (S z172) rfl) <| nx <| wr <| lp rfl rfl (xm v15 ((K166 5 rfl).trans ((K157 5 rfl).trans ((K148 5 rfl).trans ((K112 5 rfl).trans ((K103 5 rfl).trans ((K94 5 rfl).trans ((K85 5 rfl).trans ((K76 5 rfl).trans ((K67 5 rfl).trans ((K58 5 rfl).trans (K49 5 rfl)))))))))))) <| lp rfl rfl (xm (S z172) rfl) ?_
    obtain ⟨c176, H⟩ := bif_some H
    obtain ⟨c177, H⟩ := bif_some H
    refine lc rfl rfl rfl Tryz.call53 (impl_FindRecord.calls (w := w174) (a0 := z11) (a1 := z172) (GV.ext gv (((((((((((((((((((((e7.t e14).t e20).t e26).t e30).t e36).t e42).t e51).t e60).t e69).t e78).t e87).t e96).t e105).t e114).t e125).t e133).t e141).t e150).t e159).t e168).t e175)) (Ow.rd (Ow.ext o16 (((((((((((((((((((e20.t e26).t e30).t e36).t e42).t e51).t e60).t e69).t e78).t e87).t e96).t e105).t e114).t e125).t e133).t e141).t e150).t e159).t e168).t e175))) (od c176) (od c177)) rfl <| fun w178 e179 => lp rfl rfl (X_move rfl) <| lp rfl rfl (X_extract (v := (.agg (encRec ((findRec z11 z172).1)).toArray)) rfl rfl) <| lp rfl rfl (X_extract (v := (.int .i64 ((findRec z11 z172).2))) rfl rfl) <| L_alloc (.plain rfl) rfl (ltb rfl) rfl Tryz.zeroValue58 <| fun b180 w181 z182 z183 e184 k185 => L_storeA (.plain rfl) rfl rfl Tryz.sizeOf58 rfl rfl rfl rfl rfl k185 <| fun w186 h187 k188 => lp rfl rfl (xa (.int .i64 ((findRec z11 z172).2)) rfl) <| nx <| wr <| lp rfl rfl (xm v15 ((K166 5 rfl).trans ((K157 5 rfl).trans ((K148 5 rfl).trans ((K112 5 rfl).trans ((K103 5 rfl).trans ((K94 5 rfl).trans ((K85 5 rfl).trans ((K76 5 rfl).trans ((K67 5 rfl).trans ((K58 5 rfl).trans (K49 5 rfl)))))))))))) <| lp rfl rfl (xm (S z172) rfl) ?_
    obtain ⟨c189, H⟩ := bif_some H
    obtain ⟨c190, H⟩ := bif_some H
    refine lc rfl rfl rfl Tryz.call46 (spec_FindRecord.calls (w := w186) (a0 := z11) (a1 := z172) (Ow.rd (Ow.ext o16 (((((((((((((((((((((e20.t e26).t e30).t e36).t e42).t e51).t e60).t e69).t e78).t e87).t e96).t e105).t e114).t e125).t e133).t e141).t e150).t e159).t e168).t e175).t e179).t (Below.trans e184 (Wr.below h187 (Nat.le_of_eq z182)))))) (od c189) (od c190)) rfl <| fun w191 e192 => lp rfl rfl (X_move rfl) <| lp rfl rfl (X_extract (v := (.agg (encRec ((findRec z11 z172).1)).toArray)) rfl rfl) <| lp rfl rfl (X_extract (v := (.int .i64 ((findRec z11 z172).2))) rfl rfl) <| L_alloc (.plain rfl) rfl (ltb rfl) rfl Tryz.zeroValue58 <| fun b193 w194 z195 z196 e197 k198 => L_storeA (.plain rfl) rfl rfl Tryz.sizeOf58 rfl rfl rfl rfl rfl k198 <| fun w199 h200 k201 => lp rfl rfl (xa (.int .i64 ((findRec z11 z172).2)) rfl) <| nx <| wr <| lp rfl rfl (xm v15 ((K166 5 rfl).trans ((K157 5 rfl).trans ((K148 5 rfl).trans ((K112 5 rfl).trans ((K103 5 rfl).trans ((K94 5 rfl).trans ((K85 5 rfl).trans ((K76 5 rfl).trans ((K67 5 rfl).trans ((K58 5 rfl).trans (K49 5 rfl)))))))))))) <| lp rfl rfl (xm (S z172) rfl) ?_
    obtain ⟨c202, H⟩ := bif_some H
    obtain ⟨c203, H⟩ := bif_some H
    refine lc rfl rfl rfl Tryz.call54 (impl_UnderOpaque.calls (w := w199) (a0 := z11) (a1 := z172) (GV.ext gv (((((((((((((((((((((((((e7.t e14).t e20).t e26).t e30).t e36).t e42).t e51).t e60).t e69).t e78).t e87).t e96).t e105).t e114).t e125).t e133).t e141).t e150).t e159).t e168).t e175).t e179).t (Below.trans e184 (Wr.below h187 (Nat.le_of_eq z182)))).t e192).t (Below.trans e197 (Wr.below h200 (Nat.le_of_eq z195))))) (Ow.rd (Ow.ext o16 (((((((((((((((((((((((e20.t e26).t e30).t e36).t e42).t e51).t e60).t e69).t e78).t e87).t e96).t e105).t e114).t e125).t e133).t e141).t e150).t e159).t e168).t e175).t e179).t (Below.trans e184 (Wr.below h187 (Nat.le_of_eq z182)))).t e192).t (Below.trans e197 (Wr.below h200 (Nat.le_of_eq z195)))))) (od c202) (od c203)) rfl <| fun w204 e205 => lp rfl rfl (X_move rfl) <| lp rfl rfl (X_extract (v := (.bool ((underOpq z11 z172).1))) rfl rfl) <| lp rfl rfl (X_extract (v := (.int .i64 ((underOpq z11 z172).2))) rfl rfl) <| lp rfl rfl (xa (.bool ((underOpq z11 z172).1)) rfl) <| lp rfl rfl (xa (.int .i64 ((underOpq z11 z172).2)) rfl) <| nx <| wr <| lp rfl rfl (xm v15 ((K166 5 rfl).trans ((K157 5 rfl).trans ((K148 5 rfl).trans ((K112 5 rfl).trans ((K103 5 rfl).trans ((K94 5 rfl).trans ((K85 5 rfl).trans ((K76 5 rfl).trans ((K67 5 rfl).trans ((K58 5 rfl).trans (K49 5 rfl)))))))))))) <| lp rfl rfl (xm (S z172) rfl) ?_
    obtain ⟨c206, H⟩ := bif_some H
    obtain ⟨c207, H⟩ := bif_some H
    refine lc rfl rfl rfl Tryz.call55 (spec_UnderOpaque.calls (w := w204) (a0 := z11) (a1 := z172) (Ow.rd (Ow.ext o16 ((((((((((((((((((((((((e20.t e26).t e30).t e36).t e42).t e51).t e60).t e69).t e78).t e87).t e96).t e105).t e114).t e125).t e133).t e141).t e150).t e159).t e168).t e175).t e179).t (Below.trans e184 (Wr.below h187 (Nat.le_of_eq z182)))).t e192).t (Below.trans e197 (Wr.below h200 (Nat.le_of_eq z195)))).t e205))) (od c206) (od c207)) rfl <| fun w208 e209 => lp rfl rfl (X_move rfl) <| lp rfl rfl (X_extract (v := (.bool ((underOpq z11 z172).1))) rfl rfl) <| lp rfl rfl (X_extract (v := (.int .i64 ((underOpq z11 z172).2))) rfl rfl) <| lp rfl rfl (xa (.bool ((underOpq z11 z172).1)) rfl) <| lp rfl rfl (xa (.int .i64 ((underOpq z11 z172).2)) rfl) <| nx <| wr <| lp rfl rfl (xm v15 ((K166 5 rfl).trans ((K157 5 rfl).trans ((K148 5 rfl).trans ((K112 5 rfl).trans ((K103 5 rfl).trans ((K94 5 rfl).trans ((K85 5 rfl).trans ((K76 5 rfl).trans ((K67 5 rfl).trans ((K58 5 rfl).trans (K49 5 rfl)))))))))))) <| lp rfl rfl (xm (S z172) rfl) ?_
    obtain ⟨c210, H⟩ := bif_some H
    obtain ⟨c211, H⟩ := bif_some H
    refine lc rfl rfl rfl Tryz.call56 (impl_Cuts.calls (w := w208) (a0 := z11) (a1 := z172) (GV.ext gv (((((((((((((((((((((((((((e7.t e14).t e20).t e26).t e30).t e36).t e42).t e51).t e60).t e69).t e78).t e87).t e96).t e105).t e114).t e125).t e133).t e141).t e150).t e159).t e168).t e175).t e179).t (Below.trans e184 (Wr.below h187 (Nat.le_of_eq z182)))).t e192).t (Below.trans e197 (Wr.below h200 (Nat.le_of_eq z195)))).t e205).t e209)) (Ow.rd (Ow.ext o16 (((((((((((((((((((((((((e20.t e26).t e30).t e36).t e42).t e51).t e60).t e69).t e78).t e87).t e96).t e105).t e114).t e125).t e133).t e141).t e150).t e159).t e168).t e175).t e179).t (Below.trans e184 (Wr.below h187 (Nat.le_of_eq z182)))).t e192).t (Below.trans e197 (Wr.below h200 (Nat.le_of_eq z195)))).t e205).t e209))) (od c210) (od c211)) rfl <| fun w212 e213 => lp rfl rfl (X_move rfl) <| lp rfl rfl (X_extract (v := (.bool ((cutsOf z11 z172).1))) rfl rfl) <| lp rfl rfl (X_extract (v := (.int .i64 ((cutsOf z11 z172).2))) rfl rfl) <| lp rfl rfl (xa (.bool ((cutsOf z11 z172).1)) rfl) <| lp rfl rfl (xa (.int .i64 ((cutsOf z11 z172).2)) rfl) <| nx <| wr <| lp rfl rfl (xm v15 ((K166 5 rfl).trans ((K157 5 rfl).trans ((K148 5 rfl).trans ((K112 5 rfl).trans ((K103 5 rfl).trans ((K94 5 rfl).trans ((K85 5 rfl).trans ((K76 5 rfl).trans ((K67 5 rfl).trans ((K58 5 rfl).trans (K49 5 rfl)))))))))))) <| lp rfl rfl (xm (S z172) rfl) ?_
    obtain ⟨c214, H⟩ := bif_some H
    obtain ⟨c215, H⟩ := bif_some H
    refine lc rfl rfl rfl Tryz.call47 (spec_Cuts.calls (w := w212) (a0 := z11) (a1 := z172) (Ow.rd (Ow.ext o16 ((((((((((((((((((((((((((e20.t e26).t e30).t e36).t e42).t e51).t e60).t e69).t e78).t e87).t e96).t e105).t e114).t e125).t e133).t e141).t e150).t e159).t e168).t e175).t e179).t (Below.trans e184 (Wr.below h187 (Nat.le_of_eq z182)))).t e192).t (Below.trans e197 (Wr.below h200 (Nat.le_of_eq z195)))).t e205).t e209).t e213))) (od c214) (od c215)) rfl <| fun w216 e217 => lp rfl rfl (X_move rfl) <| lp rfl rfl (X_extract (v := (.bool ((cutsOf z11 z172).1))) rfl rfl) <| lp rfl rfl (X_extract (v := (.int .i64 ((cutsOf z11 z172).2))) rfl rfl) <| lp rfl rfl (xa (.bool ((cutsOf z11 z172).1)) rfl) <| lp rfl rfl (xa (.int .i64 ((cutsOf z11 z172).2)) rfl) <| nx <| W_seq <| wr <| lp rfl rfl (xm (.int .i64 ((findRec z11 z172).2)) rfl) <| lp rfl rfl (xm (.int .i64 ((findRec z11 z172).2)) rfl) <| lp rfl rfl (X_neq rfl rfl) <| lp rfl rfl (xm (.bool (!decide (((findRec z11 z172).2) = ((findRec z11 z172).2)))) rfl) ?_
    obtain ⟨z219, x220, H⟩ := bind_some H
    refine L_grpE 4 [(195, 199)] 198 (fun q => q = z219) ?_ ?_
    ·rcases bif_two x220 with ⟨b217_, H⟩ | ⟨b217_, H⟩
     ·refine ls rfl rfl rfl (cb b217_) rfl <| ls rfl rfl rfl (cb b217_) rfl <| ls rfl rfl rfl (cb b217_) rfl <| lp rfl rfl (X_pick (b := true) (v := (.bool true)) (cb b217_) rfl) ?_
      obtain rfl := si H
      exact nx ⟨(ku4 kz rfl), ⟨_, rfl, rfl⟩, er⟩
     ·refine lg rfl rfl rfl rfl (cb b217_) (X_loadS Tryz.isAgg58 Tryz.sizeOf58 rfl rfl (Blk.at0 (Blk.ext k188 (((((e192.t (Below.trans e197 (Wr.below h200 (Nat.le_of_eq z195)))).t e205).t e209).t e213).t e217)))) <| lg rfl rfl rfl rfl (cb b217_) (X_loadS Tryz.isAgg58 Tryz.sizeOf58 rfl rfl (Blk.at0 (Blk.ext k201 (((e205.t e209).t e213).t e217)))) <| lg rfl rfl rfl rfl (cb b217_) (X_neA Eqg.t58 (Eqs.t58 ((findRec z11 z172).1) ((findRec z11 z172).1)) rfl rfl) <| lp rfl rfl (X_pick (b := false) (v := (.bool (!decide (((findRec z11 z172).1) = ((findRec z11 z172).1))))) (cb b217_) rfl) ?_
      obtain rfl := si H
      exact nx ⟨(ku4 kz rfl), ⟨_, rfl, rfl⟩, er⟩
    intro s225 w221 z226 K222 hq h223 e224
    rw [hq] at h223; clear hq
    refine lp rfl rfl (X_move h223) ?_
    obtain ⟨z228, x229, H⟩ := bind_some H
    refine L_grpE 3 [(200, 203)] 202 (fun q => q = z228) ?_ ?_
    ·rcases bif_two x229 with ⟨b226_, H⟩ | ⟨b226_, H⟩
     ·refine ls rfl rfl rfl (cb b226_) rfl <| ls rfl rfl rfl (cb b226_) rfl <| lp rfl rfl (X_pick (b := true) (v := (.bool true)) (cb b226_) rfl) ?_
      obtain rfl := si H
      exact nx ⟨(ku3 kz rfl), ⟨_, rfl, rfl⟩, er⟩
     ·refine lg rfl rfl rfl rfl (cb b226_) (xm (.int .i64 ((underOpq z11 z172).2)) (K222 27 rfl)) <| lg rfl rfl rfl rfl (cb b226_) (X_neq rfl rfl) <| lp rfl rfl (X_pick (b := false) (v := (.bool (!decide (((underOpq z11 z172).2) = 0)))) (cb b226_) rfl) ?_
      obtain rfl := si H
      exact nx ⟨(ku3 kz rfl), ⟨_, rfl, rfl⟩, er⟩
    intro s234 w230 z235 K231 hq h232 e233
    rw [hq] at h232; clear hq
    refine lp rfl rfl (X_move h232) ?_
    obtain ⟨z237, x238, H⟩ := bind_some H
    refine L_grpE 4 [(204, 208)] 207 (fun q => q = z237) ?_ ?_
    ·rcases bif_two x238 with ⟨b235_, H⟩ | ⟨b235_, H⟩
     ·refine ls rfl rfl rfl (cb b235_) rfl <| ls rfl rfl rfl (cb b235_) rfl <| ls rfl rfl rfl (cb b235_) rfl <| lp rfl rfl (X_pick (b := true) (v := (.bool true)) (cb b235_) rfl) ?_
      obtain rfl := si H
      exact nx ⟨(ku4 kz rfl), ⟨_, rfl, rfl⟩, er⟩
     ·refine lg rfl rfl rfl rfl (cb b235_) (xm (.bool ((underOpq z11 z172).1)) ((K231 26 rfl).trans (K222 26 rfl))) <| lg rfl rfl rfl rfl (cb b235_) (xm (.bool ((underOpq z11 z172).1)) ((K231 28 rfl).trans (K222 28 rfl))) <| lg rfl rfl rfl rfl (cb b235_) (X_bne Tryz.underlying4 rfl rfl) <| lp rfl rfl (X_pick (b := false) (v := (.bool (!decide (((underOpq z11 z172).1) = ((underOpq z11 z172).1))))) (cb b235_) rfl) ?_
      obtain rfl := si H
      exact nx ⟨(ku4 kz rfl), ⟨_, rfl, rfl⟩, er⟩
    intro s243 w239 z244 K240 hq h241 e242
    rw [hq] at h241; clear hq
    refine lp rfl rfl (X_move h241) ?_
    obtain ⟨z246, x247, H⟩ := bind_some H
    refine L_grpE 3 [(209, 212)] 211 (fun q => q = z246) ?_ ?_
    ·rcases bif_two x247 with ⟨b244_, H⟩ | ⟨b244_, H⟩
     ·refine ls rfl rfl rfl (cb b244_) rfl <| ls rfl rfl rfl (cb b244_) rfl <| lp rfl rfl (X_pick (b := true) (v := (.bool true)) (cb b244_) rfl) ?_
      obtain rfl := si H
      exact nx ⟨(ku3 kz rfl), ⟨_, rfl, rfl⟩, er⟩
     ·refine lg rfl rfl rfl rfl (cb b244_) (xm (.int .i64 ((cutsOf z11 z172).2)) ((K240 31 rfl).trans ((K231 31 rfl).trans (K222 31 rfl)))) <| lg rfl rfl rfl rfl (cb b244_) (X_neq rfl rfl) <| lp rfl rfl (X_pick (b := false) (v := (.bool (!decide (((cutsOf z11 z172).2) = 0)))) (cb b244_) rfl) ?_
      obtain rfl := si H
      exact nx ⟨(ku3 kz rfl), ⟨_, rfl, rfl⟩, er⟩
    intro s252 w248 z253 K249 hq h250 e251
    rw [hq] at h250; clear hq
    refine lp rfl rfl (X_move h250) ?_
    obtain ⟨z255, x256, H⟩ := bind_some H
    refine L_grpE 4 [(213, 217)] 216 (fun q => q = z255) ?_ ?_
    ·rcases bif_two x256 with ⟨b253_, H⟩ | ⟨b253_, H⟩
     ·refine ls rfl rfl rfl (cb b253_) rfl <| ls rfl rfl rfl (cb b253_) rfl <| ls rfl rfl rfl (cb b253_) rfl <| lp rfl rfl (X_pick (b := true) (v := (.bool true)) (cb b253_) rfl) ?_
      obtain rfl := si H
      exact nx ⟨(ku4 kz rfl), ⟨_, rfl, rfl⟩, er⟩
     ·refine lg rfl rfl rfl rfl (cb b253_) (xm (.bool ((cutsOf z11 z172).1)) ((K249 30 rfl).trans ((K240 30 rfl).trans ((K231 30 rfl).trans (K222 30 rfl))))) <| lg rfl rfl rfl rfl (cb b253_) (xm (.bool ((cutsOf z11 z172).1)) ((K249 32 rfl).trans ((K240 32 rfl).trans ((K231 32 rfl).trans (K222 32 rfl))))) <| lg rfl rfl rfl rfl (cb b253_) (X_bne Tryz.underlying4 rfl rfl) <| lp rfl rfl (X_pick (b := false) (v := (.bool (!decide (((cutsOf z11 z172).1) = ((cutsOf z11 z172).1))))) (cb b253_) rfl) ?_
      obtain rfl := si H
      exact nx ⟨(ku4 kz rfl), ⟨_, rfl, rfl⟩, er⟩
    intro s261 w257 z262 K258 hq h259 e260
    rw [hq] at h259; clear hq
    refine lp rfl rfl (X_move h259) ?_
    obtain ⟨z264, x265, H⟩ := bind_some H
    refine L_grpE 6 [(218, 224)] 223 (fun q => q = z264) ?_ ?_
    ·rcases bif_two x265 with ⟨b262_, H⟩ | ⟨b262_, H⟩
     ·refine ls rfl rfl rfl (cb b262_) rfl <| ls rfl rfl rfl (cb b262_) rfl <| lu rfl rfl rfl rfl rfl <| lu rfl rfl rfl rfl rfl <| ls rfl rfl rfl (cb b262_) rfl <| lp rfl rfl (X_pick (b := true) (v := (.bool true)) (cb b262_) rfl) ?_
      obtain rfl := si H
      exact nx ⟨(ku2 (ku4 kz rfl) rfl), ⟨_, rfl, rfl⟩, er⟩
     ·refine lg rfl rfl rfl rfl (cb b262_) (xm (.bool ((underOpq z11 z172).1)) ((K258 28 rfl).trans ((K249 28 rfl).trans ((K240 28 rfl).trans ((K231 28 rfl).trans (K222 28 rfl)))))) <| lg rfl rfl rfl rfl (cb b262_) (xm (.bool ((underOpq z11 z172).1)) rfl) ?_
      obtain ⟨z265, x266, H⟩ := bind_some H
      refine L_grpE 3 [(220, 223)] 222 (fun q => q = z265) ?_ ?_
      ·rcases bif_two x266 with ⟨b263_, H⟩ | ⟨b263_, H⟩
       ·refine lg rfl rfl rfl rfl (cb b263_) (xm (.bool ((cutsOf z11 z172).1)) ((K258 32 rfl).trans ((K249 32 rfl).trans ((K240 32 rfl).trans ((K231 32 rfl).trans (K222 32 rfl)))))) <| lg rfl rfl rfl rfl (cb b263_) (X_not rfl) <| lg rfl rfl rfl rfl (cb b262_) (X_pick (b := true) (v := (.bool (!((cutsOf z11 z172).1)))) (cb b263_) rfl) ?_
        obtain rfl := si H
        exact nx ⟨(ku3 kz rfl), ⟨_, rfl, rfl⟩, er⟩
       ·refine ls rfl rfl rfl (cb b263_) rfl <| ls rfl rfl rfl (cb b263_) rfl <| lg rfl rfl rfl rfl (cb b262_) (X_pick (b := false) (v := (.bool false)) (cb b263_) rfl) ?_
        obtain rfl := si H
        exact nx ⟨(ku3 kz rfl), ⟨_, rfl, rfl⟩, er⟩
      intro s271 w267 z272 K268 hq h269 e270
      rw [hq] at h269; clear hq
      refine lp rfl rfl (X_pick (b := false) (v := (.bool z265)) ((K268 217 rfl).trans (cb b262_)) h269) ?_
      obtain rfl := si H
      exact nx ⟨(ku1 (Kp.cut (ku2 kz rfl) K268 rfl) rfl), ⟨_, rfl, rfl⟩, e270⟩
    intro s273 w266 z274 K267 hq h268 e269
    rw [hq] at h268; clear hq
    refine nx ?_
    rcases bif_two H with ⟨q275, H⟩ | ⟨q275, H⟩
    ·refine W_true (h268.trans (cb q275)) <| wr <| lp rfl rfl (xa (.bool false) rfl) <| nx <| W_ret <| thn_r <| fin_r ?_
     obtain rfl := si H
     exact fin1 rfl (((((((((((((((((((((((((((((((((((e7.t e14).t e20).t e26).t e30).t e36).t e42).t e51).t e60).t e69).t e78).t e87).t e96).t e105).t e114).t e125).t e133).t e141).t e150).t e159).t e168).t e175).t e179).t (Below.trans e184 (Wr.below h187 (Nat.le_of_eq z182)))).t e192).t (Below.trans e197 (Wr.below h200 (Nat.le_of_eq z195)))).t e205).t e209).t e213).t e217).t e224).t e233).t e242).t e251).t e260).t e269)
    ·refine W_false (h268.trans (cb q275)) <| W_skip <| thn_n <| wr <| L_lit (.plain rfl) rfl (ltb rfl) rfl Tryz.underlying35 Tryz.sizeOf58 Tryz.zeroValue58 rfl rfl rfl (vs := []) rfl (lit_all rfl) <| fun b276 w277 z278 z279 e280 k281 => lp rfl rfl (xm v15 ((K267 5 rfl).trans ((K258 5 rfl).trans ((K249 5 rfl).trans ((K240 5 rfl).trans ((K231 5 rfl).trans ((K222 5 rfl).trans ((K166 5 rfl).trans ((K157 5 rfl).trans ((K148 5 rfl).trans ((K112 5 rfl).trans ((K103 5 rfl).trans ((K94 5 rfl).trans ((K85 5 rfl).trans ((K76 5 rfl).trans ((K67 5 rfl).trans ((K58 5 rfl).trans (K49 5 rfl)))))))))))))))))) ?_
     obtain ⟨c282, H⟩ := bif_some H
     refine L_append (enc := encRec) (.plain rfl) rfl (ltb rfl) rfl El.t35 rfl rfl (Ow.zero (base := w277.heap.size) (w := w277)) (Ow.rd (Ow.ext o16 ((((((((((((((((((((((((((((((((((e20.t e26).t e30).t e36).t e42).t e51).t e60).t e69).t e78).t e87).t e96).t e105).t e114).t e125).t e133).t e141).t e150).t e159).t e168).t e175).t e179).t (Below.trans e184 (Wr.below h187 (Nat.le_of_eq z182)))).t e192).t (Below.trans e197 (Wr.below h200 (Nat.le_of_eq z195)))).t e205).t e209).t e213).t e217).t e224).t e233).t e242).t e251).t e260).t e269).t e280))) (ones_Rec _) (od c282) (Nat.le_refl _) <| fun v283 w284 o285 z286 g287 => lp rfl rfl (xa v283 rfl) <| nx <| W_seq <| wr <| lp rfl rfl (xm v283 rfl) <| lp rfl rfl (X_lenR Tryz.underlying35 rfl (Ow.rd o285)) <| lp rfl rfl (xa (.int .i64 ((([] : List Rec) ++ z11).length : Int)) rfl) <| nx <| wr <| lp rfl rfl (xm (.int .i64 ((([] : List Rec) ++ z11).length : Int)) rfl) <| lp rfl rfl (X_gtr rfl rfl) <| nx ?_
     rcases bif_two H with ⟨q288, H⟩ | ⟨q288, H⟩
     ·refine W_true (cb q288) <| W_reg <| lp rfl rfl (xm v283 rfl) <| lp rfl rfl (xm v_a1 ((K267 1 rfl).trans ((K258 1 rfl).trans ((K249 1 rfl).trans ((K240 1 rfl).trans ((K231 1 rfl).trans ((K222 1 rfl).trans ((K166 1 rfl).trans ((K157 1 rfl).trans ((K148 1 rfl).trans ((K112 1 rfl).trans ((K103 1 rfl).trans ((K94 1 rfl).trans ((K85 1 rfl).trans ((K76 1 rfl).trans ((K67 1 rfl).trans ((K58 1 rfl).trans ((K49 1 rfl).trans (K5 1 rfl))))))))))))))))))) <| lp rfl rfl (xm (.int .i64 ((([] : List Rec) ++ z11).length : Int)) rfl) ?_
      obtain ⟨z289, x290, H⟩ := bind_some H
      refine lc rfl rfl rfl Tryz.call15 (laws_at.calls (w := w284) (a0 := a1) (a1 := 0) (a2 := ((([] : List Rec) ++ z11).length : Int)) (Rd.ext f_a1 (((((((((((((((((((((((((((((((((((((e7.t e14).t e20).t e26).t e30).t e36).t e42).t e51).t e60).t e69).t e78).t e87).t e96).t e105).t e114).t e125).t e133).t e141).t e150).t e159).t e168).t e175).t e179).t (Below.trans e184 (Wr.below h187 (Nat.le_of_eq z182)))).t e192).t (Below.trans e197 (Wr.below h200 (Nat.le_of_eq z195)))).t e205).t e209).t e213).t e217).t e224).t e233).t e242).t e251).t e260).t e269).t e280).t (g287 _ er))) x290) rfl <| fun w291 e292 => lp rfl rfl (xm v_a1 ((K267 1 rfl).trans ((K258 1 rfl).trans ((K249 1 rfl).trans ((K240 1 rfl).trans ((K231 1 rfl).trans ((K222 1 rfl).trans ((K166 1 rfl).trans ((K157 1 rfl).trans ((K148 1 rfl).trans ((K112 1 rfl).trans ((K103 1 rfl).trans ((K94 1 rfl).trans ((K85 1 rfl).trans ((K76 1 rfl).trans ((K67 1 rfl).trans ((K58 1 rfl).trans ((K49 1 rfl).trans (K5 1 rfl))))))))))))))))))) ?_
      obtain ⟨z293, x294, H⟩ := bind_some H
      refine lc rfl rfl rfl Tryz.call57 (spec_RecordDrawn.calls (w := w291) (a0 := a1) (Rd.ext f_a1 ((((((((((((((((((((((((((((((((((((((e7.t e14).t e20).t e26).t e30).t e36).t e42).t e51).t e60).t e69).t e78).t e87).t e96).t e105).t e114).t e125).t e133).t e141).t e150).t e159).t e168).t e175).t e179).t (Below.trans e184 (Wr.below h187 (Nat.le_of_eq z182)))).t e192).t (Below.trans e197 (Wr.below h200 (Nat.le_of_eq z195)))).t e205).t e209).t e213).t e217).t e224).t e233).t e242).t e251).t e260).t e269).t e280).t (g287 _ er)).t e292)) x294) rfl <| fun w295 e296 => ?_
      obtain ⟨c299, H⟩ := bif_some H
      refine L_idxO (.plain rfl) rfl (ltb rfl) rfl Tryz.underlying35 Tryz.sizeOf58 rfl (Ow.ext o285 (e292.t e296)) rfl c299 <| fun p297 h298 => L_storeO (a := z293) (vs := [(.int .i64 z293.kind), (S z293.path), (S z293.body), (.int .i64 z293.mode), (.bool z293.opq)]) (off := 0) (.plain rfl) rfl rfl Tryz.sizeOf58 rfl h298 rfl rfl rfl rfl rfl rfl <| fun b300 w301 h302 h303 h304 o305 => nx <| wr <| lp rfl rfl (xm v283 rfl) ?_
      obtain ⟨c306, H⟩ := bif_some H
      obtain ⟨c307, H⟩ := bif_some H
      obtain ⟨z310, x311, H⟩ := bind_some H
      replace x311 := si x311
      obtain ⟨z312, x313, H⟩ := bind_some H
      replace x313 := si x313
      refine lc rfl rfl rfl Tryz.call48 (impl_LayerFault.calls (w := w301) (a0 := setI (([] : List Rec) ++ z11) z289 z293) (GV.ext gv (((((((((((((((((((((((((((((((((((((e7.t e14).t e20).t e26).t e30).t e36).t e42).t e51).t e60).t e69).t e78).t e87).t e96).t e105).t e114).t e125).t e133).t e141).t e150).t e159).t e168).t e175).t e179).t (Below.trans e184 (Wr.below h187 (Nat.le_of_eq z182)))).t e192).t (Below.trans e197 (Wr.below h200 (Nat.le_of_eq z195)))).t e205).t e209).t e213).t e217).t e224).t e233).t e242).t e251).t e260).t e269).t e280).t (Ext.wr (Ext.trans (Ext.trans (g287 _ er) e292) e296) h304 h303 (Nat.le_refl _)))) (Ow.rd o305) (od c306) (od c307)) rfl <| fun w308 e309 => lp rfl rfl (X_move rfl) <| lp rfl rfl (X_extract rfl rfl) <| lp rfl rfl (X_extract rfl rfl) <| lp rfl rfl (xa (.int .i64 z310) (congrArg (Value.int .i64) x311)) <| lp rfl rfl (xa (.int .i64 z312) (congrArg (Value.int .i64) x313)) <| nx <| wr <| lp rfl rfl (xm v283 rfl) ?_
      obtain ⟨c314, H⟩ := bif_some H
      obtain ⟨c315, H⟩ := bif_some H
      obtain ⟨z318, x319, H⟩ := bind_some H
      replace x319 := si x319
      obtain ⟨z320, x321, H⟩ := bind_some H
      replace x321 := si x321
      refine lc rfl rfl rfl Tryz.call58 (spec_LayerFault.calls (w := w308) (a0 := setI (([] : List Rec) ++ z11) z289 z293) (Ow.rd (Ow.ext o305 e309)) (od c314) (od c315)) rfl <| fun w316 e317 => lp rfl rfl (X_move rfl) <| lp rfl rfl (X_extract rfl rfl) <| lp rfl rfl (X_extract rfl rfl) <| lp rfl rfl (xa (.int .i64 z318) (congrArg (Value.int .i64) x319)) <| lp rfl rfl (xa (.int .i64 z320) (congrArg (Value.int .i64) x321)) <| nx <| wr <| lp rfl rfl (xm (.int .i64 z312) rfl) <| lp rfl rfl (xm (.int .i64 z320) rfl) <| lp rfl rfl (X_eql rfl rfl) <| lp rfl rfl (xm (.bool (decide (z312 = z320))) rfl) ?_
      obtain ⟨z323, x324, H⟩ := bind_some H
      refine L_grpE 4 [(252, 256)] 255 (fun q => q = z323) ?_ ?_
      ·rcases bif_two x324 with ⟨b321_, H⟩ | ⟨b321_, H⟩
       ·refine lg rfl rfl rfl rfl (cb b321_) (xm (.int .i64 z310) rfl) <| lg rfl rfl rfl rfl (cb b321_) (xm (.int .i64 z318) rfl) <| lg rfl rfl rfl rfl (cb b321_) (X_eql rfl rfl) <| lp rfl rfl (X_pick (b := true) (v := (.bool (decide (z310 = z318)))) (cb b321_) rfl) ?_
        obtain rfl := si H
        exact nx ⟨(ku4 kz rfl), ⟨_, rfl, rfl⟩, er⟩
       ·refine ls rfl rfl rfl (cb b321_) rfl <| ls rfl rfl rfl (cb b321_) rfl <| ls rfl rfl rfl (cb b321_) rfl <| lp rfl rfl (X_pick (b := false) (v := (.bool false)) (cb b321_) rfl) ?_
        obtain rfl := si H
        exact nx ⟨(ku4 kz rfl), ⟨_, rfl, rfl⟩, er⟩
      intro s329 w325 z330 K326 hq h327 e328
      rw [hq] at h327; clear hq
      refine lp rfl rfl (X_move h327) ?_
      obtain ⟨z332, x333, H⟩ := bind_some H
      refine L_grpE 6 [(257, 263)] 262 (fun q => q = z332) ?_ ?_
      ·rcases bif_two x333 with ⟨b330_, H⟩ | ⟨b330_, H⟩
       ·refine lg rfl rfl rfl rfl (cb b330_) (xm v283 (K326 34 rfl)) ?_
        obtain ⟨c332, H⟩ := bif_some H
        obtain ⟨c333, H⟩ := bif_some H
        refine L_callP (tg rfl rfl rfl (cb b330_)) rfl (ltb rfl) rfl Tryz.call50 (impl_LayerOK.calls (w := w325) (a0 := setI (([] : List Rec) ++ z11) z289 z293) (GV.ext gv ((((((((((((((((((((((((((((((((((((((((e7.t e14).t e20).t e26).t e30).t e36).t e42).t e51).t e60).t e69).t e78).t e87).t e96).t e105).t e114).t e125).t e133).t e141).t e150).t e159).t e168).t e175).t e179).t (Below.trans e184 (Wr.below h187 (Nat.le_of_eq z182)))).t e192).t (Below.trans e197 (Wr.below h200 (Nat.le_of_eq z195)))).t e205).t e209).t e213).t e217).t e224).t e233).t e242).t e251).t e260).t e269).t e280).t (Ext.wr (Ext.trans (Ext.trans (g287 _ er) e292) e296) h304 h303 (Nat.le_refl _))).t e309).t e317).t e328)) (Ow.rd (Ow.ext o305 ((e309.t e317).t e328))) (od c332) (od c333)) rfl <| fun w334 e335 => lg rfl rfl rfl rfl (cb b330_) (xm (.int .i64 z320) (K326 39 rfl)) <| lg rfl rfl rfl rfl (cb b330_) (X_eql rfl rfl) <| lg rfl rfl rfl rfl (cb b330_) (X_beq Tryz.underlying4 rfl rfl) <| lp rfl rfl (X_pick (b := true) (v := (.bool (decide ((decide ((layerFaultL (setI (([] : List Rec) ++ z11) z289 z293)).2 = 0)) = (decide (z320 = 0)))))) (cb b330_) rfl) ?_
        obtain rfl := si H
        exact nx ⟨(ku2 (ku4 kz rfl) rfl), ⟨_, rfl, rfl⟩, e335⟩
       ·refine ls rfl rfl rfl (cb b330_) rfl <| ls rfl rfl rfl (cb b330_) rfl <| ls rfl rfl rfl (cb b330_) rfl <| ls rfl rfl rfl (cb b330_) rfl <| ls rfl rfl rfl (cb b330_) rfl <| lp rfl rfl (X_pick (b := false) (v := (.bool false)) (cb b330_) rfl) ?_
        obtain rfl := si H
        exact nx ⟨(ku2 (ku4 kz rfl) rfl), ⟨_, rfl, rfl⟩, er⟩
      intro s338 w334 z339 K335 hq h336 e337
      rw [hq] at h336; clear hq
      refine lp rfl rfl (X_assign h336) <| nx <| W_ret <| fin_r ?_
      obtain rfl := si H
      exact fin1 rfl (((((((((((((((((((((((((((((((((((((((((e7.t e14).t e20).t e26).t e30).t e36).t e42).t e51).t e60).t e69).t e78).t e87).t e96).t e105).t e114).t e125).t e133).t e141).t e150).t e159).t e168).t e175).t e179).t (Below.trans e184 (Wr.below h187 (Nat.le_of_eq z182)))).t e192).t (Below.trans e197 (Wr.below h200 (Nat.le_of_eq z195)))).t e205).t e209).t e213).t e217).t e224).t e233).t e242).t e251).t e260).t e269).t e280).t (Ext.wr (Ext.trans (Ext.trans (g287 _ er) e292) e296) h304 h303 (Nat.le_refl _))).t e309).t e317).t e328).t e337)
     ·refine W_false (cb q288) <| W_skip <| thn_n <| wr <| lp rfl rfl (xm v283 rfl) ?_
      obtain ⟨c340, H⟩ := bif_some H
      obtain ⟨c341, H⟩ := bif_some H
      refine lc rfl rfl rfl Tryz.call48 (impl_LayerFault.calls (w := w284) (a0 := ([] : List Rec) ++ z11) (GV.ext gv (((((((((((((((((((((((((((((((((((((e7.t e14).t e20).t e26).t e30).t e36).t e42).t e51).t e60).t e69).t e78).t e87).t e96).t e105).t e114).t e125).t e133).t e141).t e150).t e159).t e168).t e175).t e179).t (Below.trans e184 (Wr.below h187 (Nat.le_of_eq z182)))).t e192).t (Below.trans e197 (Wr.below h200 (Nat.le_of_eq z195)))).t e205).t e209).t e213).t e217).t e224).t e233).t e242).t e251).t e260).t e269).t e280).t (g287 _ er))) (Ow.rd o285) (od c340) (od c341)) rfl <| fun w342 e343 => lp rfl rfl (X_move rfl) <| lp rfl rfl (X_extract (v := (.int .i64 ((layerFaultL (([] : List Rec) ++ z11)).1))) rfl rfl) <| lp rfl rfl (X_extract (v := (.int .i64 ((layerFaultL (([] : List Rec) ++ z11)).2))) rfl rfl) <| lp rfl rfl (xa (.int .i64 ((layerFaultL (([] : List Rec) ++ z11)).1)) rfl) <| lp rfl rfl (xa (.int .i64 ((layerFaultL (([] : List Rec) ++ z11)).2)) rfl) <| nx <| wr <| lp rfl rfl (xm v283 rfl) ?_
      obtain ⟨c344, H⟩ := bif_some H
      obtain ⟨c345, H⟩ := bif_some H
      refine lc rfl rfl rfl Tryz.call58 (spec_LayerFault.calls (w := w342) (a0 := ([] : List Rec) ++ z11) (Ow.rd (Ow.ext o285 e343)) (od c344) (od c345)) rfl <| fun w346 e347 => lp rfl rfl (X_move rfl) <| lp rfl rfl (X_extract (v := (.int .i64 ((layerFaultL (([] : List Rec) ++ z11)).1))) rfl rfl) <| lp rfl rfl (X_extract (v := (.int .i64 ((layerFaultL (([] : List Rec) ++ z11)).2))) rfl rfl) <| lp rfl rfl (xa (.int .i64 ((layerFaultL (([] : List Rec) ++ z11)).1)) rfl) <| lp rfl rfl (xa (.int .i64 ((layerFaultL (([] : List Rec) ++ z11)).2)) rfl) <| nx <| wr <| lp rfl rfl (xm (.int .i64 ((layerFaultL (([] : List Rec) ++ z11)).2)) rfl) <| lp rfl rfl (xm (.int .i64 ((layerFaultL (([] : List Rec) ++ z11)).2)) rfl) <| lp rfl rfl (X_eql rfl rfl) <| lp rfl rfl (X_move rfl) ?_
      obtain ⟨z349, x350, H⟩ := bind_some H
      refine L_grpE 4 [(252, 256)] 255 (fun q => q = z349) ?_ ?_
      ·rcases bif_two x350 with ⟨b347_, H⟩ | ⟨b347_, H⟩
       ·refine lg rfl rfl rfl rfl (cb b347_) (xm (.int .i64 ((layerFaultL (([] : List Rec) ++ z11)).1)) rfl) <| lg rfl rfl rfl rfl (cb b347_) (xm (.int .i64 ((layerFaultL (([] : List Rec) ++ z11)).1)) rfl) <| lg rfl rfl rfl rfl (cb b347_) (X_eql rfl rfl) <| lp rfl rfl (X_pick (b := true) (v := (.bool (decide (((layerFaultL (([] : List Rec) ++ z11)).1) = ((layerFaultL (([] : List Rec) ++ z11)).1))))) (cb b347_) rfl) ?_
        obtain rfl := si H
        exact nx ⟨(ku4 kz rfl), ⟨_, rfl, rfl⟩, er⟩
       ·refine ls rfl rfl rfl (cb b347_) rfl <| ls rfl rfl rfl (cb b347_) rfl <| ls rfl rfl rfl (cb b347_) rfl <| lp rfl rfl (X_pick (b := false) (v := (.bool false)) (cb b347_) rfl) ?_
        obtain rfl := si H
        exact nx ⟨(ku4 kz rfl), ⟨_, rfl, rfl⟩, er⟩
      intro s355 w351 z356 K352 hq h353 e354
      rw [hq] at h353; clear hq
      refine lp rfl rfl (X_move h353) ?_
      obtain ⟨z358, x359, H⟩ := bind_some H
      refine L_grpE 6 [(257, 263)] 262 (fun q => q = z358) ?_ ?_
      ·rcases bif_two x359 with ⟨b356_, H⟩ | ⟨b356_, H⟩
       ·refine lg rfl rfl rfl rfl (cb b356_) (xm v283 (K352 34 rfl)) ?_
        obtain ⟨c358, H⟩ := bif_some H
        obtain ⟨c359, H⟩ := bif_some H
        refine L_callP (tg rfl rfl rfl (cb b356_)) rfl (ltb rfl) rfl Tryz.call50 (impl_LayerOK.calls (w := w351) (a0 := ([] : List Rec) ++ z11) (GV.ext gv ((((((((((((((((((((((((((((((((((((((((e7.t e14).t e20).t e26).t e30).t e36).t e42).t e51).t e60).t e69).t e78).t e87).t e96).t e105).t e114).t e125).t e133).t e141).t e150).t e159).t e168).t e175).t e179).t (Below.trans e184 (Wr.below h187 (Nat.le_of_eq z182)))).t e192).t (Below.trans e197 (Wr.below h200 (Nat.le_of_eq z195)))).t e205).t e209).t e213).t e217).t e224).t e233).t e242).t e251).t e260).t e269).t e280).t (g287 _ er)).t e343).t e347).t e354)) (Ow.rd (Ow.ext o285 ((e343.t e347).t e354))) (od c358) (od c359)) rfl <| fun w360 e361 => lg rfl rfl rfl rfl (cb b356_) (xm (.int .i64 ((layerFaultL (([] : List Rec) ++ z11)).2)) (K352 39 rfl)) <| lg rfl rfl rfl rfl (cb b356_) (X_eql rfl rfl) <| lg rfl rfl rfl rfl (cb b356_) (X_beq Tryz.underlying4 rfl rfl) <| lp rfl rfl (X_pick (b := true) (v := (.bool (decide ((decide ((layerFaultL (([] : List Rec) ++ z11)).2 = 0)) = (decide (((layerFaultL (([] : List Rec) ++ z11)).2) = 0)))))) (cb b356_) rfl) ?_
        obtain rfl := si H
        exact nx ⟨(ku2 (ku4 kz rfl) rfl), ⟨_, rfl, rfl⟩, e361⟩
       ·refine ls rfl rfl rfl (cb b356_) rfl <| ls rfl rfl rfl (cb b356_) rfl <| ls rfl rfl rfl (cb b356_) rfl <| ls rfl rfl rfl (cb b356_) rfl <| ls rfl rfl rfl (cb b356_) rfl <| lp rfl rfl (X_pick (b := false) (v := (.bool false)) (cb b356_) rfl) ?_
        obtain rfl := si H
        exact nx ⟨(ku2 (ku4 kz rfl) rfl), ⟨_, rfl, rfl⟩, er⟩
      intro s364 w360 z365 K361 hq h362 e363
      rw [hq] at h362; clear hq
      refine lp rfl rfl (X_assign h362) <| nx <| W_ret <| fin_r ?_
      obtain rfl := si H
      exact fin1 rfl (((((((((((((((((((((((((((((((((((((((((e7.t e14).t e20).t e26).t e30).t e36).t e42).t e51).t e60).t e69).t e78).t e87).t e96).t e105).t e114).t e125).t e133).t e141).t e150).t e159).t e168).t e175).t e179).t (Below.trans e184 (Wr.below h187 (Nat.le_of_eq z182)))).t e192).t (Below.trans e197 (Wr.below h200 (Nat.le_of_eq z195)))).t e205).t e209).t e213).t e217).t e224).t e233).t e242).t e251).t e260).t e269).t e280).t (g287 _ er)).t e343).t e347).t e354).t e363)
theorem law_FnLayers.calls {w : World} {a0 : List Int} {a1 : List Int} (gv : GV 0 w) {v_a0 : Value} (f_a0 : Rd 1 (Go.UL.encI .u8) w v_a0 a0) {v_a1 : Value} (f_a1 : Rd 1 (Go.UL.encI .u8) w v_a1 a1) (h0 : ∀ x ∈ a0, okB x) (h1 : a0.length ≤ 9223372036854775807) (h2 : ∀ x ∈ a1, okB x) (h3 : a1.length ≤ 9223372036854775807) :
  Calls Tryz.prog 7 #[v_a0, v_a1] w (Rt (RP w (.bool true))) := law_FnLayers.walk gv f_a0 f_a1 (law_FnLayers.eq a0 a1 h0 h1 h2 h3)
end Go.Proofs.YtfefjaohlhkmaaaGreatDoor
