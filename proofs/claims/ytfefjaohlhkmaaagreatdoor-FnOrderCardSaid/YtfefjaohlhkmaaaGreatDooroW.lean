/- The walks, by program (wip/tools). -/
import Derived.Test.YtfefjaohlhkmaaaGreatDoorProg
import Derived.Test.YtfefjaohlhkmaaaGreatDoorKI
import Derived.Test.YtfefjaohlhkmaaaGreatDooroWB
set_option linter.unusedVariables false
set_option linter.unusedSimpArgs false
set_option maxRecDepth 10000
namespace Go.Proofs.YtfefjaohlhkmaaaGreatDoor
open Go.UL Go.RowKit
/-! spec.l03Put -/
abbrev spec_l03Put.e1 (a1 : Rec) (x0_13 : List Rec) (x9_50 : Int) := ((!decide (((gt x0_13 x9_50).path) = a1.path)) && (!(decide (a1.kind = 3))))
abbrev spec_l03Put.e2 (a1 : Rec) (x0_13 : List Rec) (x9_50 : Int) := ((decide (a1.path = []) && !decide (((gt x0_13 x9_50).path) = [])) || belowP ((gt x0_13 x9_50).path) a1.path)
theorem spec_l03Put.walk {k : Nat} {w : World} {a0 : List Rec} {a1 : Rec} {v_a0 : Value} (f_a0 : Rd 5 encRec w v_a0 a0) {r : List Rec} (H : spec_l03Put.sh k a0 a1 = some r) :
  Calls Tryz.prog 202 #[v_a0, .agg (encRec a1).toArray] w (Rt (RO 58 5 encRec w r)) := by
 unfold spec_l03Put.sh at H
 refine calls_of_W Tryz.func202 rfl (Nat.le_of_ble_eq_true rfl) Tryz.ntmps202 rfl ?_
 refine wr <| L_box (.plain rfl) rfl (ltb rfl) rfl rfl <| fun b1 w2 z3 z4 e5 k6 => lp rfl rfl (X_assign (v := (.slice none 0 0)) rfl) <| nx <| W_seq <| wr <| lp rfl rfl (X_fieldAddr Tryz.underlying58 rfl Tryz.sizeOf9 rfl rfl) <| lp rfl rfl (X_loadB Tryz.isAgg9 k6 rfl rfl) ?_
 obtain ⟨c7, H⟩ := bif_some H
 refine lc rfl rfl rfl Tryz.call161 (spec_l01Parent.calls (w := w2) (a0 := a1.path) (od c7)) rfl <| fun w8 e9 => lp rfl rfl (X_assign (v := (S (parentP a1.path))) rfl) <| nx <| wr <| lp rfl rfl (X_move (v := (S (parentP a1.path))) rfl) <| lp rfl rfl (X_sne rfl rfl) <| nx ?_
 obtain ⟨z10, L11, C12⟩ := bind_some H
 clear H
 refine W_cutQ (fun s0 sQ wQ => ∃ (x0_13 : List Rec) (v14 : Value), Kp [(0, 1), (6, 7), (15, 32)] s0 sQ ∧ sQ 0 = v14 ∧ Rd 5 encRec wQ v14 x0_13 ∧ Ext w8 wQ ∧ z10 = .inr x0_13) ?_ ?_
 ·have H := L11
  rcases bif_two H with ⟨q15, H⟩ | ⟨q15, H⟩
  ·refine W_true (cb q15) <| wr <| lp rfl rfl (X_move (v := v_a0) rfl) <| lp rfl rfl (X_move (v := (S (parentP a1.path))) rfl) ?_
   obtain ⟨c16, H⟩ := bif_some H
   refine lc rfl rfl rfl Tryz.call145 (spec_l03At.calls (w := w8) (a0 := a0) (a1 := (parentP a1.path)) (Rd.ext f_a0 (e5.t e9)) (od c16)) rfl <| fun w17 e18 => lp rfl rfl (X_assign (v := (.int .i64 (findR a0 (parentP a1.path)))) rfl) <| nx <| wr <| lp rfl rfl (X_move (v := (.int .i64 (findR a0 (parentP a1.path)))) rfl) <| lp rfl rfl (X_lss rfl rfl) <| lp rfl rfl (X_move (v := (.bool (decide ((findR a0 (parentP a1.path)) < 0)))) rfl) ?_
   obtain ⟨z20, x21, H⟩ := bind_some H
   refine L_grpE 7 [(21, 28)] 27 (fun q => q = z20) ?_ ?_
   ·rcases bif_two x21 with ⟨b18_, H⟩ | ⟨b18_, H⟩
    ·refine ls rfl rfl rfl (cb b18_) rfl <| ls rfl rfl rfl (cb b18_) rfl <| ls rfl rfl rfl (cb b18_) rfl <| ls rfl rfl rfl (cb b18_) rfl <| ls rfl rfl rfl (cb b18_) rfl <| ls rfl rfl rfl (cb b18_) rfl <| lp rfl rfl (X_pick (b := true) (v := (.bool true)) (cb b18_) rfl) ?_
     obtain rfl := si H
     exact nx ⟨(ku3 (ku4 kz rfl) rfl), ⟨_, rfl, rfl⟩, er⟩
    ·refine lg rfl rfl rfl rfl (cb b18_) (X_move (v := v_a0) rfl) <| lg rfl rfl rfl rfl (cb b18_) (X_move (v := (.int .i64 (findR a0 (parentP a1.path)))) rfl) ?_
     obtain ⟨c20, H⟩ := bif_some H
     refine L_idx (tg rfl rfl rfl (cb b18_)) rfl (ltb rfl) rfl Tryz.underlying35 Tryz.sizeOf58 rfl (Rd.ext f_a0 ((e5.t e9).t e18)) rfl c20 <| fun p21 h22 => lg rfl rfl rfl rfl (cb b18_) (X_fieldAddr Tryz.underlying58 rfl Tryz.sizeOf3 rfl rfl) <| lg rfl rfl rfl rfl (cb b18_) (X_loadF Tryz.isAgg3 (j := 0) h22 rfl rfl) <| lg rfl rfl rfl rfl (cb b18_) (X_neq rfl rfl) <| lp rfl rfl (X_pick (b := false) (v := (.bool (!decide (((gt a0 (findR a0 (parentP a1.path))).kind) = 3)))) (cb b18_) rfl) ?_
     obtain rfl := si H
     exact nx ⟨(ku3 (ku4 kz rfl) rfl), ⟨_, rfl, rfl⟩, er⟩
   intro s26 w22 z27 K23 hq h24 e25
   rw [hq] at h24; clear hq
   refine nx ?_
   rcases bif_two H with ⟨q28, H⟩ | ⟨q28, H⟩
   ·refine W_true (h24.trans (cb q28)) <| W_reg <| lp rfl rfl (X_move (v := v_a0) (K23 0 rfl)) <| lp rfl rfl (X_move (v := (S (parentP a1.path))) (K23 5 rfl)) <| lp rfl rfl (X_build1 (vs := [(0, (.int .i64 3)), (1, (S (parentP a1.path))), (3, (.int .i64 493))]) (pl := #[(0, 1), (1, 1), (2, 1), (3, 1), (4, 1)]) Tryz.underlying58 Tryz.zeroValue58 rfl (fun _ => by kernel_rfl) rfl rfl rfl) ?_
    obtain ⟨c29, H⟩ := bif_some H
    refine L_callO (.plain rfl) rfl (ltb rfl) rfl Tryz.call202 (spec_l03Put1.calls (w := w22) (a0 := a0) (a1 := (⟨3, (parentP a1.path), ([] : List UInt8), 493, false⟩ : Rec)) (Rd.ext f_a0 (((e5.t e9).t e18).t e25)) (od c29)) rfl <| fun v32 w30 e31 o33 => lp rfl rfl (X_assign (v := v32) rfl) <| nx ?_
    obtain rfl := si H
    exact ⟨(putR 1 a0 (⟨3, (parentP a1.path), ([] : List UInt8), 493, false⟩ : Rec)), v32, (ku1 (ku4 (Kp.cut (ku3 (ku4 kz rfl) rfl) K23 rfl) rfl) rfl), rfl, (Ow.rd o33), ((e18.t e25).t e31), rfl⟩
   ·refine W_false (h24.trans (cb q28)) <| W_skip <| thn_n ?_
    obtain rfl := si H
    exact ⟨a0, v_a0, (Kp.cut (ku3 (ku4 kz rfl) rfl) K23 rfl), (K23 0 rfl), (Rd.ext f_a0 (((e5.t e9).t e18).t e25)), (e18.t e25), rfl⟩
  ·refine W_false (cb q15) <| W_skip <| thn_n ?_
   obtain rfl := si H
   exact ⟨a0, v_a0, kz, rfl, (Rd.ext f_a0 (e5.t e9)), er, rfl⟩
 ·rintro s35 w34 ⟨x0_13, v14, K36, h39, h40, e37, y38⟩
  rw [y38] at C12
  have H := C12
  refine thn_n <| wr <| L_lit (.plain rfl) rfl (ltb rfl) rfl Tryz.underlying35 Tryz.sizeOf58 Tryz.zeroValue58 rfl rfl rfl (vs := []) rfl (lit_all rfl) <| fun b41 w42 z43 z44 e45 k46 => lp rfl rfl (X_assign (v := (.slice (some ⟨b41, 0, none⟩) 0 0)) rfl) <| nx <| wr <| lp rfl rfl (X_assign (v := (.bool false)) rfl) <| nx <| W_seq <| wr <| lp rfl rfl (X_assign (v := (.int .i64 0)) rfl) <| nx ?_
  obtain ⟨z51, L52, C53⟩ := bind_some H
  clear H
  refine  W_cutQ (fun s0 sQ wQ => ∃ (x7_54 : List Rec) (v55 : Value) (x8_56 : Bool), Kp [(7, 10), (33, 86)] s0 sQ ∧ sQ 7 = v55 ∧ Ow 58 5 encRec w42.heap.size wQ v55 x7_54 ∧ sQ 8 = .bool x8_56 ∧ Ext w42 wQ ∧ z51 = .inr (x7_54, x8_56)) ?_ ?_
  ·refine W_block <| W_loopI (fun s0 kk sQ wQ => ∃ (x7_47 : List Rec) (v48 : Value) (x8_49 : Bool) (x9_50 : Int), Kp [(7, 10), (33, 86)] s0 sQ ∧ sQ 7 = v48 ∧ Ow 58 5 encRec w42.heap.size wQ v48 x7_47 ∧ sQ 8 = .bool x8_49 ∧ sQ 9 = .int .i64 x9_50 ∧ Ext w42 wQ ∧ loopF (spec_l03Put.b1 a1 x0_13) kk (x7_47, x8_49, x9_50) = some z51) k ⟨([] : List Rec), (.slice (some ⟨b41, 0, none⟩) 0 0), false, 0, kz, rfl, (Ow.zero), rfl, rfl, er, L52⟩ ?_
   rintro k61 s62 w63 ⟨x7_47, v48, x8_49, x9_50, K64, h67, h68, h69, h70, e65, L66⟩
   cases k61 with
   | zero => exact absurd L66 (by simp [loopF])
   | succ k61 =>
    obtain ⟨t71, H, S72⟩ := loopF_succ L66
    clear L66
    unfold spec_l03Put.b1 at H
    refine W_seq <| wr <| lp rfl rfl (X_move h70) <| lp rfl rfl (X_move (v := v14) ((K64 0 rfl).trans h39)) <| lp rfl rfl (X_lenR Tryz.underlying35 rfl (Rd.ext h40 (e45.t e65))) <| lp rfl rfl (X_lss rfl rfl) <| nx ?_
    rcases bif_two H with ⟨q73, H⟩ | ⟨q73, H⟩
    ·refine W_true (cb q73) <| W_skip <| thn_n <| W_seq <| W_block <| W_seq <| W_seq ?_
     obtain ⟨c74, H⟩ := bif_some H
     obtain ⟨c77, H⟩ := bif_some H
     obtain ⟨c78, H⟩ := bif_some H
     refine W_dM [LEq (.bool x8_49), LEq (.bool (!x8_49)), LEq (.bool (!x8_49)), LIf (!x8_49) (LEq (.pointer (some ⟨b1, 1, none⟩))), LIf (!x8_49) (LEq (S a1.path)), LIf (!x8_49) (LEq v14), LIf (!x8_49) (LEq (.int .i64 x9_50)), LIf (!x8_49) (LAt0 (encRec (gt x0_13 x9_50))), LIf (!x8_49) (LAt 1 (encRec (gt x0_13 x9_50))), LIf (!x8_49) (LEq (S ((gt x0_13 x9_50).path))), LIf (!x8_49) (LEq (.bool (lessL (cut 47 a1.path) (cut 47 ((gt x0_13 x9_50).path))))), LEq (.bool ((!x8_49) && (lessL (cut 47 a1.path) (cut 47 ((gt x0_13 x9_50).path)))))] (by kernel_rfl) (by kernel_rfl) ⟨LEq.mono, LEq.mono, LEq.mono, (LIf.mono LEq.mono), (LIf.mono LEq.mono), (LIf.mono LEq.mono), (LIf.mono LEq.mono), (LIf.mono LAt0.mono), (LIf.mono LAt.mono), (LIf.mono LEq.mono), (LIf.mono LEq.mono), LEq.mono, trivial⟩ ⟨?_, ?_, ?_, ?_, ?_, ?_, ?_, ?_, ?_, ?_, ?_, ?_, trivial⟩ ?_
     ·exact fun s x e f d u => lp rfl rfl (X_move (v := (.bool x8_49)) ((f 8 rfl).trans h69)) <| se rfl rfl
     ·exact fun s x e f d u => lp rfl rfl (X_not (d 0 rfl)) <| se rfl rfl
     ·exact fun s x e f d u => lp rfl rfl (X_move (d 1 rfl)) <| se rfl rfl
     ·exact fun s x e f d u => gT rfl rfl rfl rfl (d 2 rfl) rfl fun b t => lt t rfl rfl (X_fieldAddr Tryz.underlying58 rfl Tryz.sizeOf9 rfl ((f 3 rfl).trans ((K64 3 rfl).trans (K36 3 rfl)))) <| sg rfl rfl b rfl
     ·exact fun s x e f d u => gT rfl rfl rfl rfl (d 2 rfl) rfl fun b t => lt t rfl rfl (X_loadB Tryz.isAgg9 (Blk.ext k6 ((((e9.t e37).t e45).t e65).t e)) ((d 3 rfl).1 b) rfl) <| sg rfl rfl b rfl
     ·exact fun s x e f d u => gT rfl rfl rfl rfl (d 2 rfl) rfl fun b t => lt t rfl rfl (X_move (v := v14) ((f 0 rfl).trans ((K64 0 rfl).trans h39))) <| sg rfl rfl b rfl
     ·exact fun s x e f d u => gT rfl rfl rfl rfl (d 2 rfl) rfl fun b t => lt t rfl rfl (X_move (v := (.int .i64 x9_50)) ((f 9 rfl).trans h70)) <| sg rfl rfl b rfl
     ·exact fun s x e f d u => gT rfl rfl rfl rfl (d 2 rfl) rfl fun b t => L_idx t rfl (ltb rfl) rfl Tryz.underlying35 Tryz.sizeOf58 ((d 5 rfl).1 b) (Rd.ext h40 ((e45.t e65).t e)) ((d 6 rfl).1 b) (imp_take b c74) <| fun p82 h83 => sg rfl rfl b ⟨_, rfl, h83⟩
     ·intro s x e f d u
      refine gT rfl rfl rfl rfl (d 2 rfl) rfl fun b t => ?_
      obtain ⟨p84, h85, h86⟩ := ((d 7 rfl).1 b)
      exact lt t rfl rfl (X_fieldAddr Tryz.underlying58 rfl Tryz.sizeOf9 rfl h85) <| sg rfl rfl b ⟨_, rfl, h86⟩
     ·intro s x e f d u
      refine gT rfl rfl rfl rfl (d 2 rfl) rfl fun b t => ?_
      obtain ⟨p87, h88, h89⟩ := ((d 8 rfl).1 b)
      exact lt t rfl rfl (X_loadF Tryz.isAgg9 (j := 1) h89 h88 rfl) <| sg rfl rfl b rfl
     ·exact fun s x e f d u => gT rfl rfl rfl rfl (d 2 rfl) rfl fun b t => L_callP t rfl (ltb rfl) rfl Tryz.call205 (spec_l01Less.calls (w := x) (a0 := a1.path) (a1 := (gt x0_13 x9_50).path) (od (imp_take b c77)) (od (imp_take b c78))) (cons2 ((d 4 rfl).1 b) (cons2 ((d 9 rfl).1 b) rfl)) <| fun w92 e93 => sgx rfl rfl b e93 rfl
     ·exact fun s x e f d u => lp rfl rfl (X_pickA (d 2 rfl) rfl fun h => ((d 10 rfl).1 h)) <| se rfl rfl
     intro s94 w95 e96 hf97 ha98
     have K99 := Kp.ofD (kp := [(39, 51)]) rfl hf97
     have d100 : s94 50 = (.bool ((!x8_49) && (lessL (cut 47 a1.path) (cut 47 ((gt x0_13 x9_50).path))))) := ha98 11 rfl
     clear ha98 hf97
     refine thn_n ?_
     obtain ⟨z101, L102, C103⟩ := bind_some H
     clear H
     refine W_cutQ (fun s0 sQ wQ => ∃ (x7_104 : List Rec) (v105 : Value) (x8_106 : Bool), Kp [(7, 9), (51, 55)] s0 sQ ∧ sQ 7 = v105 ∧ Ow 58 5 encRec w42.heap.size wQ v105 x7_104 ∧ sQ 8 = .bool x8_106 ∧ Ext w42 wQ ∧ z101 = .inr (x7_104, x8_106)) ?_ ?_
     ·have H := L102
      rcases bif_two H with ⟨q107, H⟩ | ⟨q107, H⟩
      ·refine W_true (d100.trans (cb q107)) <| wr <| lp rfl rfl (X_move (v := v48) ((K99 7 rfl).trans h67)) <| lp rfl rfl (X_loadS Tryz.isAgg58 Tryz.sizeOf58 rfl ((K99 3 rfl).trans ((K64 3 rfl).trans (K36 3 rfl))) (Blk.at0 (Blk.ext k6 ((((e9.t e37).t e45).t e65).t e96)))) <| L_lit (.plain rfl) rfl (ltb rfl) rfl Tryz.underlying35 Tryz.sizeOf58 Tryz.zeroValue58 rfl rfl rfl (vs := [(.agg #[(.int .i64 a1.kind), (S a1.path), (S a1.body), (.int .i64 a1.mode), (.bool a1.opq)])]) rfl (lit_all rfl) <| fun b108 w109 z110 z111 e112 k113 => ?_
       obtain ⟨c114, H⟩ := bif_some H
       refine L_append (enc := encRec) (.plain rfl) rfl (ltb rfl) rfl El.t35 rfl rfl (Ow.ext h68 (e96.t e112)) (Ow.rd (Ow.new (xs := [a1]) (sz := 5) (enc := encRec) (base := w95.heap.size) k113 (Nat.le_of_eq z110) rfl (fun _ _ => by rfl) (Nat.le_of_ble_eq_true rfl))) (ones_Rec _) (od c114) (((e65.t e96).t e112)).size <| fun v115 w116 o117 z118 g119 => lp rfl rfl (X_assign (v := v115) rfl) <| nx <| W_reg <| lp rfl rfl (X_assign (v := (.bool true)) rfl) <| nx ?_
       obtain rfl := si H
       exact ⟨x7_47 ++ ([a1] : List Rec), v115, true, (ku2 (ku4 kz rfl) rfl), rfl, o117, rfl, (g119 _ ((e65.t e96).t e112)), rfl⟩
      ·refine W_false (d100.trans (cb q107)) <| W_skip <| thn_n ?_
       obtain rfl := si H
       exact ⟨x7_47, v48, x8_49, kz, ((K99 7 rfl).trans h67), (Ow.ext h68 e96), ((K99 8 rfl).trans h69), (e65.t e96), rfl⟩
     ·rintro s121 w120 ⟨x7_104, v105, x8_106, K122, h125, h126, h127, e123, y124⟩
      rw [y124] at C103
      have H := C103
      refine thn_n <| W_seq ?_
      obtain ⟨c128, H⟩ := bif_some H
      obtain ⟨c131, H⟩ := bif_some H
      refine W_dM [LEq v14, LEq (.int .i64 x9_50), LAt0 (encRec (gt x0_13 x9_50)), LAt 1 (encRec (gt x0_13 x9_50)), LEq (S ((gt x0_13 x9_50).path)), LEq (.pointer (some ⟨b1, 1, none⟩)), LEq (S a1.path), LEq (.bool (!decide (((gt x0_13 x9_50).path) = a1.path))), LEq (.bool (!decide (((gt x0_13 x9_50).path) = a1.path))), LIf (!decide (((gt x0_13 x9_50).path) = a1.path)) (LEq (.pointer (some ⟨b1, 0, none⟩))), LIf (!decide (((gt x0_13 x9_50).path) = a1.path)) (LEq (.int .i64 a1.kind)), LIf (!decide (((gt x0_13 x9_50).path) = a1.path)) (LEq (.bool (decide (a1.kind = 3)))), LIf (!decide (((gt x0_13 x9_50).path) = a1.path)) (LEq (.bool (decide (a1.kind = 3)))), LIf (spec_l03Put.e1 a1 x0_13 x9_50) (LEq v14), LIf (spec_l03Put.e1 a1 x0_13 x9_50) (LEq (.int .i64 x9_50)), LIf (spec_l03Put.e1 a1 x0_13 x9_50) (LAt0 (encRec (gt x0_13 x9_50))), LIf (spec_l03Put.e1 a1 x0_13 x9_50) (LAt 1 (encRec (gt x0_13 x9_50))), LIf (spec_l03Put.e1 a1 x0_13 x9_50) (LEq (S ((gt x0_13 x9_50).path))), LIf (spec_l03Put.e1 a1 x0_13 x9_50) (LEq (.pointer (some ⟨b1, 1, none⟩))), LIf (spec_l03Put.e1 a1 x0_13 x9_50) (LEq (S a1.path)), LIf (spec_l03Put.e1 a1 x0_13 x9_50) (LEq (.bool (spec_l03Put.e2 a1 x0_13 x9_50))), LIf (spec_l03Put.e1 a1 x0_13 x9_50) (LEq (.bool (!(spec_l03Put.e2 a1 x0_13 x9_50)))), LIf (!decide (((gt x0_13 x9_50).path) = a1.path)) (LEq (.bool ((decide (a1.kind = 3)) || (!(spec_l03Put.e2 a1 x0_13 x9_50))))), LEq (.bool ((!decide (((gt x0_13 x9_50).path) = a1.path)) && ((decide (a1.kind = 3)) || (!(spec_l03Put.e2 a1 x0_13 x9_50)))))] (by kernel_rfl) (by kernel_rfl) ⟨LEq.mono, LEq.mono, LAt0.mono, LAt.mono, LEq.mono, LEq.mono, LEq.mono, LEq.mono, LEq.mono, (LIf.mono LEq.mono), (LIf.mono LEq.mono), (LIf.mono LEq.mono), (LIf.mono LEq.mono), (LIf.mono LEq.mono), (LIf.mono LEq.mono), (LIf.mono LAt0.mono), (LIf.mono LAt.mono), (LIf.mono LEq.mono), (LIf.mono LEq.mono), (LIf.mono LEq.mono), (LIf.mono LEq.mono), (LIf.mono LEq.mono), (LIf.mono LEq.mono), LEq.mono, trivial⟩ ⟨?_, ?_, ?_, ?_, ?_, ?_, ?_, ?_, ?_, ?_, ?_, ?_, ?_, ?_, ?_, ?_, ?_, ?_, ?_, ?_, ?_, ?_, ?_, ?_, trivial⟩ ?_
      ·exact fun s x e f d u => lp rfl rfl (X_move (v := v14) ((f 0 rfl).trans ((K122 0 rfl).trans ((K99 0 rfl).trans ((K64 0 rfl).trans h39))))) <| se rfl rfl
      ·exact fun s x e f d u => lp rfl rfl (X_move (v := (.int .i64 x9_50)) ((f 9 rfl).trans ((K122 9 rfl).trans ((K99 9 rfl).trans h70)))) <| se rfl rfl
      ·exact fun s x e f d u => L_idx (.plain rfl) rfl (ltb rfl) rfl Tryz.underlying35 Tryz.sizeOf58 (d 0 rfl) (Rd.ext h40 ((e45.t e123).t e)) (d 1 rfl) c128 <| fun p137 h138 => se rfl ⟨_, rfl, h138⟩
      ·intro s x e f d u
       obtain ⟨p139, h140, h141⟩ := (d 2 rfl)
       exact lp rfl rfl (X_fieldAddr Tryz.underlying58 rfl Tryz.sizeOf9 rfl h140) <| se rfl ⟨_, rfl, h141⟩
      ·intro s x e f d u
       obtain ⟨p142, h143, h144⟩ := (d 3 rfl)
       exact lp rfl rfl (X_loadF Tryz.isAgg9 (j := 1) h144 h143 rfl) <| se rfl rfl
      ·exact fun s x e f d u => lp rfl rfl (X_fieldAddr Tryz.underlying58 rfl Tryz.sizeOf9 rfl ((f 3 rfl).trans ((K122 3 rfl).trans ((K99 3 rfl).trans ((K64 3 rfl).trans (K36 3 rfl)))))) <| se rfl rfl
      ·exact fun s x e f d u => lp rfl rfl (X_loadB Tryz.isAgg9 (Blk.ext k6 ((((e9.t e37).t e45).t e123).t e)) (d 5 rfl) rfl) <| se rfl rfl
      ·exact fun s x e f d u => lp rfl rfl (X_sne (d 4 rfl) (d 6 rfl)) <| se rfl rfl
      ·exact fun s x e f d u => lp rfl rfl (X_move (d 7 rfl)) <| se rfl rfl
      ·exact fun s x e f d u => gT rfl rfl rfl rfl (d 8 rfl) rfl fun b t => lt t rfl rfl (X_fieldAddr Tryz.underlying58 rfl Tryz.sizeOf3 rfl ((f 3 rfl).trans ((K122 3 rfl).trans ((K99 3 rfl).trans ((K64 3 rfl).trans (K36 3 rfl)))))) <| sg rfl rfl b rfl
      ·exact fun s x e f d u => gT rfl rfl rfl rfl (d 8 rfl) rfl fun b t => lt t rfl rfl (X_loadB Tryz.isAgg3 (Blk.ext k6 ((((e9.t e37).t e45).t e123).t e)) ((d 9 rfl).1 b) rfl) <| sg rfl rfl b rfl
      ·exact fun s x e f d u => gT rfl rfl rfl rfl (d 8 rfl) rfl fun b t => lt t rfl rfl (X_eql ((d 10 rfl).1 b) rfl) <| sg rfl rfl b rfl
      ·exact fun s x e f d u => gT rfl rfl rfl rfl (d 8 rfl) rfl fun b t => lt t rfl rfl (X_move (v := (.bool (decide (a1.kind = 3)))) ((d 11 rfl).1 b)) <| sg rfl rfl b rfl
      ·exact fun s x e f d u => hF rfl rfl rfl rfl (d 12 rfl) rfl fun b t => lt t rfl rfl (X_move (v := v14) ((f 0 rfl).trans ((K122 0 rfl).trans ((K99 0 rfl).trans ((K64 0 rfl).trans h39))))) <| sg rfl rfl b rfl
      ·exact fun s x e f d u => hF rfl rfl rfl rfl (d 12 rfl) rfl fun b t => lt t rfl rfl (X_move (v := (.int .i64 x9_50)) ((f 9 rfl).trans ((K122 9 rfl).trans ((K99 9 rfl).trans h70)))) <| sg rfl rfl b rfl
      ·exact fun s x e f d u => hF rfl rfl rfl rfl (d 12 rfl) rfl fun b t => L_idx t rfl (ltb rfl) rfl Tryz.underlying35 Tryz.sizeOf58 ((d 13 rfl).1 (and_mk (and_l b) (not_mk (not_f (and_r b))))) (Rd.ext h40 ((e45.t e123).t e)) ((d 14 rfl).1 (and_mk (and_l b) (not_mk (not_f (and_r b))))) (imp_take b c131) <| fun p146 h147 => sg rfl rfl b ⟨_, rfl, h147⟩
      ·intro s x e f d u
       refine hF rfl rfl rfl rfl (d 12 rfl) rfl fun b t => ?_
       obtain ⟨p148, h149, h150⟩ := ((d 15 rfl).1 (and_mk (and_l b) (not_mk (not_f (and_r b)))))
       exact lt t rfl rfl (X_fieldAddr Tryz.underlying58 rfl Tryz.sizeOf9 rfl h149) <| sg rfl rfl b ⟨_, rfl, h150⟩
      ·intro s x e f d u
       refine hF rfl rfl rfl rfl (d 12 rfl) rfl fun b t => ?_
       obtain ⟨p151, h152, h153⟩ := ((d 16 rfl).1 (and_mk (and_l b) (not_mk (not_f (and_r b)))))
       exact lt t rfl rfl (X_loadF Tryz.isAgg9 (j := 1) h153 h152 rfl) <| sg rfl rfl b rfl
      ·exact fun s x e f d u => hF rfl rfl rfl rfl (d 12 rfl) rfl fun b t => lt t rfl rfl (X_fieldAddr Tryz.underlying58 rfl Tryz.sizeOf9 rfl ((f 3 rfl).trans ((K122 3 rfl).trans ((K99 3 rfl).trans ((K64 3 rfl).trans (K36 3 rfl)))))) <| sg rfl rfl b rfl
      ·exact fun s x e f d u => hF rfl rfl rfl rfl (d 12 rfl) rfl fun b t => lt t rfl rfl (X_loadB Tryz.isAgg9 (Blk.ext k6 ((((e9.t e37).t e45).t e123).t e)) ((d 18 rfl).1 (and_mk (and_l b) (not_mk (not_f (and_r b))))) rfl) <| sg rfl rfl b rfl
      ·exact fun s x e f d u => hF rfl rfl rfl rfl (d 12 rfl) rfl fun b t => L_callP t rfl (ltb rfl) rfl Tryz.call171 (spec_l01Below.calls (w := x) (a0 := (gt x0_13 x9_50).path) (a1 := a1.path)) (cons2 ((d 17 rfl).1 (and_mk (and_l b) (not_mk (not_f (and_r b))))) (cons2 ((d 19 rfl).1 (and_mk (and_l b) (not_mk (not_f (and_r b))))) rfl)) <| fun w154 e155 => sgx rfl rfl b e155 rfl
      ·exact fun s x e f d u => hF rfl rfl rfl rfl (d 12 rfl) rfl fun b t => lt t rfl rfl (X_not ((d 20 rfl).1 (and_mk (and_l b) (not_mk (not_f (and_r b)))))) <| sg rfl rfl b rfl
      ·exact fun s x e f d u => gT rfl rfl rfl rfl (d 8 rfl) rfl fun b t => lt t rfl rfl (X_pickO ((d 12 rfl).1 b) rfl fun h => ((d 21 rfl).1 (and_mk b (not_mk h)))) <| sg rfl rfl b rfl
      ·exact fun s x e f d u => lp rfl rfl (X_pickA (d 8 rfl) rfl fun h => ((d 22 rfl).1 h)) <| se rfl rfl
      intro s156 w157 e158 hf159 ha160
      have K161 := Kp.ofD (kp := [(55, 79)]) rfl hf159
      have d162 : s156 78 = (.bool ((!decide (((gt x0_13 x9_50).path) = a1.path)) && ((decide (a1.kind = 3)) || (!(spec_l03Put.e2 a1 x0_13 x9_50))))) := ha160 23 rfl
      clear ha160 hf159
      refine thn_n ?_
      rcases bif_two H with ⟨q163, H⟩ | ⟨q163, H⟩
      ·refine W_true (d162.trans (cb q163)) <| W_reg <| lp rfl rfl (X_move (v := v105) ((K161 7 rfl).trans h125)) <| lp rfl rfl (X_move (v := v14) ((K161 0 rfl).trans ((K122 0 rfl).trans ((K99 0 rfl).trans ((K64 0 rfl).trans h39))))) <| lp rfl rfl (X_move (v := (.int .i64 x9_50)) ((K161 9 rfl).trans ((K122 9 rfl).trans ((K99 9 rfl).trans h70)))) ?_
       obtain ⟨c164, H⟩ := bif_some H
       refine L_idx (.plain rfl) rfl (ltb rfl) rfl Tryz.underlying35 Tryz.sizeOf58 rfl (Rd.ext h40 ((e45.t e123).t e158)) rfl c164 <| fun p165 h166 => lp rfl rfl (X_loadS Tryz.isAgg58 Tryz.sizeOf58 rfl rfl h166) <| L_lit (.plain rfl) rfl (ltb rfl) rfl Tryz.underlying35 Tryz.sizeOf58 Tryz.zeroValue58 rfl rfl rfl (vs := [(.agg (encRec (gt x0_13 x9_50)).toArray)]) rfl (lit_all rfl) <| fun b167 w168 z169 z170 e171 k172 => ?_
       obtain ⟨c173, H⟩ := bif_some H
       refine L_append (enc := encRec) (.plain rfl) rfl (ltb rfl) rfl El.t35 rfl rfl (Ow.ext h126 (e158.t e171)) (Ow.rd (Ow.new (xs := [gt x0_13 x9_50]) (sz := 5) (enc := encRec) (base := w157.heap.size) k172 (Nat.le_of_eq z169) rfl (fun _ _ => by rfl) (Nat.le_of_ble_eq_true rfl))) (ones_Rec _) (od c173) (((e123.t e158).t e171)).size <| fun v174 w175 o176 z177 g178 => lp rfl rfl (X_assign (v := v174) rfl) <| L_nil <| blk_n <| thn_n <| W_reg <| lp rfl rfl (X_move (v := (.int .i64 x9_50)) ((K161 9 rfl).trans ((K122 9 rfl).trans ((K99 9 rfl).trans h70)))) <| lp rfl rfl (X_add rfl rfl) <| lp rfl rfl (X_assign (v := (.int .i64 (IntKind.wrap .i64 (x9_50 + 1)))) rfl) <| nx ?_
       obtain rfl := si H
       exact ⟨_, Nat.lt_succ_self _, x7_104 ++ ([gt x0_13 x9_50] : List Rec), v174, x8_106, IntKind.wrap .i64 (x9_50 + 1), (ku3 (ku8 (Kp.cut (Kp.cut (Kp.cut (ku4 K64 rfl) K99 rfl) K122 rfl) K161 rfl) rfl) rfl), rfl, o176, ((K161 8 rfl).trans h127), rfl, (g178 _ ((e123.t e158).t e171)), S72⟩
      ·refine W_false (d162.trans (cb q163)) <| W_skip <| blk_n <| thn_n <| W_reg <| lp rfl rfl (X_move (v := (.int .i64 x9_50)) ((K161 9 rfl).trans ((K122 9 rfl).trans ((K99 9 rfl).trans h70)))) <| lp rfl rfl (X_add rfl rfl) <| lp rfl rfl (X_assign (v := (.int .i64 (IntKind.wrap .i64 (x9_50 + 1)))) rfl) <| nx ?_
       obtain rfl := si H
       exact ⟨_, Nat.lt_succ_self _, x7_104, v105, x8_106, IntKind.wrap .i64 (x9_50 + 1), (ku3 (Kp.cut (Kp.cut (Kp.cut (ku4 K64 rfl) K99 rfl) K122 rfl) K161 rfl) rfl), ((K161 7 rfl).trans h125), (Ow.ext h126 e158), ((K161 8 rfl).trans h127), rfl, (e123.t e158), S72⟩
    ·refine W_false (cb q73) <| W_exit <| thn_x <| thn_x <| blk_x <| thn_n ?_
     obtain rfl := si H
     obtain rfl := si S72
     exact ⟨x7_47, v48, x8_49, (ku4 K64 rfl), h67, h68, h69, e65, rfl⟩
  ·rintro s58 w57 ⟨x7_54, v55, x8_56, K59, h179, h180, h181, e60, y182⟩
   rw [y182] at C53
   have H := C53
   replace H : _ = some _ := H
   refine thn_n <| W_seq <| wr <| lp rfl rfl (X_move h181) <| lp rfl rfl (X_not rfl) <| nx ?_
   rcases bif_two H with ⟨q183, H⟩ | ⟨q183, H⟩
   ·refine W_true (cb q183) <| W_reg <| lp rfl rfl (X_move h179) <| lp rfl rfl (X_loadS Tryz.isAgg58 Tryz.sizeOf58 rfl ((K59 3 rfl).trans (K36 3 rfl)) (Blk.at0 (Blk.ext k6 (((e9.t e37).t e45).t e60)))) <| L_lit (.plain rfl) rfl (ltb rfl) rfl Tryz.underlying35 Tryz.sizeOf58 Tryz.zeroValue58 rfl rfl rfl (vs := [(.agg #[(.int .i64 a1.kind), (S a1.path), (S a1.body), (.int .i64 a1.mode), (.bool a1.opq)])]) rfl (lit_all rfl) <| fun b184 w185 z186 z187 e188 k189 => ?_
    obtain ⟨c190, H⟩ := bif_some H
    refine L_append (enc := encRec) (.plain rfl) rfl (ltb rfl) rfl El.t35 rfl rfl (Ow.ext h180 e188) (Ow.rd (Ow.new (xs := [a1]) (sz := 5) (enc := encRec) (base := w57.heap.size) k189 (Nat.le_of_eq z186) rfl (fun _ _ => by rfl) (Nat.le_of_ble_eq_true rfl))) (ones_Rec _) (od c190) ((e60.t e188)).size <| fun v191 w192 o193 z194 g195 => lp rfl rfl (X_assign (v := v191) rfl) <| nx <| wr <| lp rfl rfl (X_move (v := v191) rfl) <| lp rfl rfl (X_assign (v := v191) rfl) <| nx <| W_ret <| fin_r ?_
    obtain rfl := si H
    exact fin1o rfl ((((e5.t e9).t e37).t e45).t (g195 _ (e60.t e188))) o193 ((((e5.t e9).t e37).t e45)).size
   ·refine W_false (cb q183) <| W_skip <| thn_n <| wr <| lp rfl rfl (X_move h179) <| lp rfl rfl (X_assign (v := v55) rfl) <| nx <| W_ret <| fin_r ?_
    obtain rfl := si H
    exact fin1o rfl ((((e5.t e9).t e37).t e45).t e60) h180 ((((e5.t e9).t e37).t e45)).size
theorem spec_l03Put.calls {w : World} {a0 : List Rec} {a1 : Rec} {v_a0 : Value} (f_a0 : Rd 5 encRec w v_a0 a0) (h0 : putOKb 2 a0 a1 = true) :
  Calls Tryz.prog 202 #[v_a0, .agg (encRec a1).toArray] w (Rt (RO 58 5 encRec w (putR 2 a0 a1))) := by
 obtain ⟨k, h⟩ := spec_l03Put.eq a0 a1 h0
 exact spec_l03Put.walk f_a0 h
/-! (*spec.l00Src).layer -/
theorem draw_layer.walk {k : Nat} {w : World} {a0 : List Int} {a1 : DSrc} {wc : World} {cv : Value} {bs : Nat} (kc : Ext wc w) (fc : Rd 1 (Go.UL.encI .u8) wc cv a0) (hz : wc.heap.size ≤ bs) (ks : Blk w bs (encSrc cv a1).toArray 162) {r : List Rec × DSrc} (H : draw_layer.sh k a0 a1 = some r) :
  Calls Tryz.prog 114 #[.pointer (some ⟨bs, 0, none⟩)] w (Rt (RSO 162 bs cv 58 5 encRec w r.1 r.2)) := by
 unfold draw_layer.sh at H
 refine calls_of_W Tryz.func114 rfl (Nat.le_of_ble_eq_true rfl) Tryz.ntmps114 rfl ?_
 refine wr <| lp rfl rfl (X_assign (v := (.slice none 0 0)) rfl) <| nx <| wr <| L_lit (.plain rfl) rfl (ltb rfl) rfl Tryz.underlying35 Tryz.sizeOf58 Tryz.zeroValue58 rfl rfl rfl (vs := []) rfl (lit_all rfl) <| fun b1 w2 z3 z4 e5 k6 => lp rfl rfl (X_assign (v := (.slice (some ⟨b1, 0, none⟩) 0 0)) rfl) <| nx <| W_seq <| wr <| lp rfl rfl (X_move (v := (.pointer (some ⟨bs, 0, none⟩))) rfl) <| lp rfl rfl (X_move (v := (.pointer (some ⟨bs, 0, none⟩))) rfl) ?_
 obtain ⟨z7, x8, H⟩ := bind_some H
 refine L_callS (.plain rfl) rfl (ltb rfl) rfl Tryz.call201 (draw_room.calls (w := w2) (a0 := a0) (a1 := a1) (a2 := 6) (Ext.trans kc e5) fc hz (Blk.ext ks e5) x8) rfl <| fun w11 g12 k13 => lp rfl rfl (X_add rfl rfl) ?_
 obtain ⟨z14, x15, H⟩ := bind_some H
 refine L_callS (.plain rfl) rfl (ltb rfl) rfl Tryz.call195 (draw_next.calls (w := w11) (a0 := a0) (a1 := z7.2) (a2 := IntKind.wrap .i64 (z7.1 + 3)) (Ext.gr (Ext.trans kc e5) g12 hz) fc hz k13 x15) rfl <| fun w18 g19 k20 => lp rfl rfl (X_assign (v := (.int .i64 z14.1)) rfl) <| nx ?_
 obtain ⟨z25, L26, C27⟩ := bind_some H
 clear H
 refine  W_cutQ (fun s0 sQ wQ => ∃ (x3_28 : List Rec) (v29 : Value) (y30 : DSrc), Kp [(3, 6), (12, 26)] s0 sQ ∧ sQ 3 = v29 ∧ Ow 58 5 encRec w18.heap.size wQ v29 x3_28 ∧ Blk wQ bs ((encSrc cv) y30).toArray 162 ∧ Gr bs (bs + 1) w18 wQ ∧ Ext wc wQ ∧ z25 = .inr (x3_28, y30)) ?_ ?_
 ·refine W_block <| W_loopI (fun s0 kk sQ wQ => ∃ (x3_21 : List Rec) (v22 : Value) (x4_23 : Int) (y24 : DSrc), Kp [(3, 6), (12, 26)] s0 sQ ∧ sQ 3 = v22 ∧ Ow 58 5 encRec w18.heap.size wQ v22 x3_21 ∧ sQ 4 = .int .i64 x4_23 ∧ Blk wQ bs ((encSrc cv) y24).toArray 162 ∧ Gr bs (bs + 1) w18 wQ ∧ Ext wc wQ ∧ loopF (draw_layer.b1 a0) kk (x3_21, x4_23, y24) = some z25) k ⟨([] : List Rec), (.slice (some ⟨b1, 0, none⟩) 0 0), z14.1, z14.2, kz, rfl, (Ow.zero), rfl, k20, (Gr.refl _ _ _), (Ext.gr (Ext.gr (Ext.trans kc e5) g12 hz) g19 hz), L26⟩ ?_
  rintro k35 s36 w37 ⟨x3_21, v22, x4_23, y24, K38, h41, h42, h43, h44, e39, e39c, L40⟩
  cases k35 with
  | zero => exact absurd L40 (by simp [loopF])
  | succ k35 =>
   obtain ⟨t45, H, S46⟩ := loopF_succ L40
   clear L40
   unfold draw_layer.b1 at H
   refine W_seq <| wr <| lp rfl rfl (X_move h43) <| lp rfl rfl (X_gtr rfl rfl) <| nx ?_
   rcases bif_two H with ⟨q47, H⟩ | ⟨q47, H⟩
   ·refine W_true (cb q47) <| W_skip <| thn_n <| W_seq <| W_block <| wr <| lp rfl rfl (X_move h41) <| lp rfl rfl (X_move (v := (.pointer (some ⟨bs, 0, none⟩))) (K38 0 rfl)) <| lp rfl rfl (X_move (v := (.pointer (some ⟨bs, 0, none⟩))) (K38 0 rfl)) ?_
    obtain ⟨z48, x49, H⟩ := bind_some H
    refine L_callS (.plain rfl) rfl (ltb rfl) rfl Tryz.call148 (draw_path.calls (w := w37) (a0 := a0) (a1 := y24) e39c fc hz h44 x49) rfl <| fun w52 g53 k54 => ?_
    obtain ⟨z55, x56, H⟩ := bind_some H
    refine L_callS (.plain rfl) rfl (ltb rfl) rfl Tryz.call153 (draw_record.calls (w := w52) (a0 := a0) (a1 := z48.2) (a2 := z48.1) (Ext.gr e39c g53 hz) fc hz k54 x56) rfl <| fun w59 g60 k61 => ?_
    obtain ⟨c62, H⟩ := bif_some H
    refine L_callO (.plain rfl) rfl (ltb rfl) rfl Tryz.call202 (spec_l03Put.calls (w := w59) (a0 := x3_21) (a1 := z55.1) (Ow.rd (Ow.later (Ow.later h42 g53 (Nat.le_trans (Blk.lt ks) ((Gr.trans (Gr.trans (Gr.ext e5) g12) g19)).size)) g60 (Nat.le_trans (Blk.lt ks) ((Gr.trans (Gr.trans (Gr.ext e5) g12) g19)).size))) (od c62)) rfl <| fun v65 w63 e64 o66 => lp rfl rfl (X_assign (v := v65) rfl) <| nx <| wr <| lp rfl rfl (X_move (v := v65) rfl) <| lp rfl rfl (X_lenR Tryz.underlying35 rfl (Ow.rd o66)) <| lp rfl rfl (X_leq rfl rfl) <| nx ?_
    rcases bif_two H with ⟨q67, H⟩ | ⟨q67, H⟩
    ·refine W_true (cb q67) <| W_reg <| lp rfl rfl (X_move (v := v65) rfl) <| lp rfl rfl (X_assign (v := v65) rfl) <| L_nil <| blk_n <| thn_n <| W_reg <| lp rfl rfl (X_move h43) <| lp rfl rfl (X_sub rfl rfl) <| lp rfl rfl (X_assign (v := (.int .i64 (IntKind.wrap .i64 (x4_23 - 1)))) rfl) <| nx ?_
     obtain rfl := si H
     exact ⟨_, Nat.lt_succ_self _, (putR 2 x3_21 z55.1), v65, IntKind.wrap .i64 (x4_23 - 1), z55.2, (ku1 (ku8 (ku8 K38 rfl) rfl) rfl), rfl, (Ow.base o66 ((Gr.trans (Gr.trans e39 g53) g60)).size), rfl, (Blk.ext k61 e64), (Gr.trans (Gr.trans (Gr.trans e39 g53) g60) (Gr.ext e64)), (Ext.trans (Ext.gr (Ext.gr e39c g53 hz) g60 hz) e64), S46⟩
    ·refine W_false (cb q67) <| W_skip <| blk_n <| thn_n <| W_reg <| lp rfl rfl (X_move h43) <| lp rfl rfl (X_sub rfl rfl) <| lp rfl rfl (X_assign (v := (.int .i64 (IntKind.wrap .i64 (x4_23 - 1)))) rfl) <| nx ?_
     obtain rfl := si H
     exact ⟨_, Nat.lt_succ_self _, x3_21, v22, IntKind.wrap .i64 (x4_23 - 1), z55.2, (ku3 (ku4 (ku8 K38 rfl) rfl) rfl), h41, (Ow.ext (Ow.later (Ow.later h42 g53 (Nat.le_trans (Blk.lt ks) ((Gr.trans (Gr.trans (Gr.ext e5) g12) g19)).size)) g60 (Nat.le_trans (Blk.lt ks) ((Gr.trans (Gr.trans (Gr.ext e5) g12) g19)).size)) e64), rfl, (Blk.ext k61 e64), (Gr.trans (Gr.trans (Gr.trans e39 g53) g60) (Gr.ext e64)), (Ext.trans (Ext.gr (Ext.gr e39c g53 hz) g60 hz) e64), S46⟩
   ·refine W_false (cb q47) <| W_exit <| thn_x <| thn_x <| blk_x <| thn_n ?_
    obtain rfl := si H
    obtain rfl := si S46
    exact ⟨x3_21, v22, y24, (ku2 K38 rfl), h41, h42, h44, e39, e39c, rfl⟩
 ·rintro s32 w31 ⟨x3_28, v29, y30, K33, h68, h69, h70, e34, e34c, y71⟩
  rw [y71] at C27
  have H := C27
  replace H : _ = some _ := H
  refine thn_n <| wr <| lp rfl rfl (X_move h68) <| lp rfl rfl (X_assign (v := v29) rfl) <| nx <| W_ret <| fin_r ?_
  obtain rfl := si H
  exact fin1so rfl (Gr.trans (Gr.trans (Gr.trans (Gr.ext e5) g12) g19) e34) h70 h69 ((Gr.trans (Gr.trans (Gr.ext e5) g12) g19)).size
theorem draw_layer.calls {w : World} {a0 : List Int} {a1 : DSrc} {r : List Rec × DSrc} {wc : World} {cv : Value} {bs : Nat} (kc : Ext wc w) (fc : Rd 1 (Go.UL.encI .u8) wc cv a0) (hz : wc.heap.size ≤ bs) (ks : Blk w bs (encSrc cv a1).toArray 162) (H : (draw_layer.sh 12 a0 a1) = some r) :
  Calls Tryz.prog 114 #[.pointer (some ⟨bs, 0, none⟩)] w (Rt (RSO 162 bs cv 58 5 encRec w r.1 r.2)) := by
 obtain ⟨k, h⟩ := draw_layer.eq a0 a1 H
 exact draw_layer.walk kc fc hz ks h
/-! (*spec.l00Src).stack -/
theorem draw_stack.walk {k : Nat} {w : World} {a0 : List Int} {a1 : DSrc} {wc : World} {cv : Value} {bs : Nat} (kc : Ext wc w) (fc : Rd 1 (Go.UL.encI .u8) wc cv a0) (hz : wc.heap.size ≤ bs) (ks : Blk w bs (encSrc cv a1).toArray 162) {r : List (List Rec) × DSrc} (H : draw_stack.sh k a0 a1 = some r) :
  Calls Tryz.prog 104 #[.pointer (some ⟨bs, 0, none⟩)] w (Rt (RSOS 162 bs cv 35 58 5 encRec w r.1 r.2)) := by
 unfold draw_stack.sh at H
 refine calls_of_W Tryz.func104 rfl (Nat.le_of_ble_eq_true rfl) Tryz.ntmps104 rfl ?_
 refine wr <| lp rfl rfl (X_assign (v := (.slice none 0 0)) rfl) <| nx <| wr <| L_lit (.plain rfl) rfl (ltb rfl) rfl Tryz.underlying23 Tryz.sizeOf35 Tryz.zeroValue35 rfl rfl rfl (vs := []) rfl (lit_all rfl) <| fun b1 w2 z3 z4 e5 k6 => lp rfl rfl (X_assign (v := (.slice (some ⟨b1, 0, none⟩) 0 0)) rfl) <| nx <| W_seq <| wr <| lp rfl rfl (X_move (v := (.pointer (some ⟨bs, 0, none⟩))) rfl) ?_
 obtain ⟨z7, x8, H⟩ := bind_some H
 refine L_callS (.plain rfl) rfl (ltb rfl) rfl Tryz.call195 (draw_next.calls (w := w2) (a0 := a0) (a1 := a1) (a2 := 4) (Ext.trans kc e5) fc hz (Blk.ext ks e5) x8) rfl <| fun w11 g12 k13 => lp rfl rfl (X_assign (v := (.int .i64 z7.1)) rfl) <| nx ?_
 obtain ⟨z18, L19, C20⟩ := bind_some H
 clear H
 refine  W_cutQ (fun s0 sQ wQ => ∃ (x3_21 : List (List Rec)) (v22 : Value) (y23 : DSrc), Kp [(3, 5), (8, 17)] s0 sQ ∧ sQ 3 = v22 ∧ Own2 35 58 5 encRec w11.heap.size wQ v22 x3_21 ∧ Blk wQ bs ((encSrc cv) y23).toArray 162 ∧ Gr bs (bs + 1) w11 wQ ∧ Ext wc wQ ∧ z18 = .inr (x3_21, y23)) ?_ ?_
 ·refine W_block <| W_loopI (fun s0 kk sQ wQ => ∃ (x3_14 : List (List Rec)) (v15 : Value) (x4_16 : Int) (y17 : DSrc), Kp [(3, 5), (8, 17)] s0 sQ ∧ sQ 3 = v15 ∧ Own2 35 58 5 encRec w11.heap.size wQ v15 x3_14 ∧ sQ 4 = .int .i64 x4_16 ∧ Blk wQ bs ((encSrc cv) y17).toArray 162 ∧ Gr bs (bs + 1) w11 wQ ∧ Ext wc wQ ∧ loopF (draw_stack.b1 a0) kk (x3_14, x4_16, y17) = some z18) k ⟨([] : List (List Rec)), (.slice (some ⟨b1, 0, none⟩) 0 0), z7.1, z7.2, kz, rfl, (Own2.zero), rfl, k13, (Gr.refl _ _ _), (Ext.gr (Ext.trans kc e5) g12 hz), L19⟩ ?_
  rintro k28 s29 w30 ⟨x3_14, v15, x4_16, y17, K31, h34, h35, h36, h37, e32, e32c, L33⟩
  cases k28 with
  | zero => exact absurd L33 (by simp [loopF])
  | succ k28 =>
   obtain ⟨t38, H, S39⟩ := loopF_succ L33
   clear L33
   unfold draw_stack.b1 at H
   refine W_seq <| wr <| lp rfl rfl (X_move h36) <| lp rfl rfl (X_gtr rfl rfl) <| nx ?_
   rcases bif_two H with ⟨q40, H⟩ | ⟨q40, H⟩
   ·refine W_true (cb q40) <| W_skip <| thn_n <| W_seq <| W_block <| W_reg <| lp rfl rfl (X_move h34) <| lp rfl rfl (X_move (v := (.pointer (some ⟨bs, 0, none⟩))) (K31 0 rfl)) ?_
    obtain ⟨z41, x42, H⟩ := bind_some H
    refine L_callSO (.plain rfl) rfl (ltb rfl) rfl Tryz.call114 (draw_layer.calls (w := w30) (a0 := a0) (a1 := y17) e32c fc hz h37 x42) rfl <| fun v48 w45 g46 k47 o49 => L_lit (.plain rfl) rfl (ltb rfl) rfl Tryz.underlying23 Tryz.sizeOf35 Tryz.zeroValue35 rfl rfl rfl (vs := [v48]) rfl (by simp; exact (Rd.one (Ow.rd o49))) <| fun b50 w51 z52 z53 e54 k55 => ?_
    obtain ⟨c56, H⟩ := bif_some H
    refine L_appendS (e2 := 58) (enc := encRec) (.plain rfl) rfl (ltb rfl) rfl El.t23 rfl rfl (Own2.ext (Own2.later h35 g46 (Nat.le_trans (Blk.lt ks) ((Gr.trans (Gr.ext e5) g12)).size)) e54) (Own2.hbg h35 (Gr.trans g46 (Gr.ext e54)) (Nat.le_trans (Blk.lt ks) ((Gr.trans (Gr.ext e5) g12)).size)) (Ow.ext o49 e54) (Ow.rd (Ow.new (xs := [v48]) (sz := 1) (enc := encV) (base := w45.heap.size) k55 (Nat.le_of_eq z52) (by obtain ⟨A9, c9, e9⟩ := Rd.shape (Ow.rd (Ow.ext o49 e54)); rw [e9]; rfl) (fun _ _ => rfl) (Nat.le_of_ble_eq_true rfl))) (by obtain ⟨A9, c9, e9⟩ := Rd.shape (Ow.rd (Ow.ext o49 e54)); rw [e9]; rfl) (e32).size (od c56) ((Gr.trans (Gr.trans e32 g46) (Gr.ext e54))).size <| fun v57 w58 o59 z60 g61 => lp rfl rfl (X_assign (v := v57) rfl) <| L_nil <| blk_n <| thn_n <| W_reg <| lp rfl rfl (X_move h36) <| lp rfl rfl (X_sub rfl rfl) <| lp rfl rfl (X_assign (v := (.int .i64 (IntKind.wrap .i64 (x4_16 - 1)))) rfl) <| nx ?_
    obtain rfl := si H
    exact ⟨_, Nat.lt_succ_self _, x3_14 ++ [z41.1], v57, IntKind.wrap .i64 (x4_16 - 1), z41.2, (ku3 (ku8 K31 rfl) rfl), rfl, o59, rfl, (Gr.blk (Gr.ofBelow (g61 _ (Below.refl _ _))) (Blk.ext k47 e54) (Or.inr (Nat.le_trans (Blk.lt ks) ((Gr.trans (Gr.ext e5) g12)).size))), (Gr.thn (Gr.trans (Gr.trans e32 g46) (Gr.ext e54)) (g61 _ (Below.refl _ _))), (Below.trans (Ext.trans (Ext.gr e32c g46 hz) e54) (Below.mono (g61 _ (Below.refl _ _)) ((Ext.gr (Ext.trans kc e5) g12 hz)).size)), S39⟩
   ·refine W_false (cb q40) <| W_exit <| thn_x <| thn_x <| blk_x <| thn_n ?_
    obtain rfl := si H
    obtain rfl := si S39
    exact ⟨x3_14, v15, y17, (ku2 K31 rfl), h34, h35, h37, e32, e32c, rfl⟩
 ·rintro s25 w24 ⟨x3_21, v22, y23, K26, h62, h63, h64, e27, e27c, y65⟩
  rw [y65] at C20
  have H := C20
  replace H : _ = some _ := H
  refine thn_n <| wr <| lp rfl rfl (X_move h62) <| lp rfl rfl (X_assign (v := v22) rfl) <| nx <| W_ret <| fin_r ?_
  obtain rfl := si H
  exact fin1sos rfl (Gr.trans (Gr.trans (Gr.ext e5) g12) e27) h64 h63 ((Gr.trans (Gr.ext e5) g12)).size
theorem draw_stack.calls {w : World} {a0 : List Int} {a1 : DSrc} {r : List (List Rec) × DSrc} {wc : World} {cv : Value} {bs : Nat} (kc : Ext wc w) (fc : Rd 1 (Go.UL.encI .u8) wc cv a0) (hz : wc.heap.size ≤ bs) (ks : Blk w bs (encSrc cv a1).toArray 162) (H : (draw_stack.sh 8 a0 a1) = some r) :
  Calls Tryz.prog 104 #[.pointer (some ⟨bs, 0, none⟩)] w (Rt (RSOS 162 bs cv 35 58 5 encRec w r.1 r.2)) := by
 obtain ⟨k, h⟩ := draw_stack.eq a0 a1 H
 exact draw_stack.walk kc fc hz ks h
/-! spec.StackDrawn -/
theorem spec_StackDrawn.walk {w : World} {a0 : List Int} {v_a0 : Value} (f_a0 : Rd 1 (Go.UL.encI .u8) w v_a0 a0) {r : List (List Rec)} (H : spec_StackDrawn.sh a0 = some r) :
  Calls Tryz.prog 14 #[v_a0] w (Rt (ROS 35 58 5 encRec w r)) := by
 unfold spec_StackDrawn.sh at H
 refine calls_of_W Tryz.func14 rfl (Nat.le_of_ble_eq_true rfl) Tryz.ntmps14 rfl ?_
 refine wr <| lp rfl rfl (X_assign (v := (.slice none 0 0)) rfl) <| nx <| wr <| lp rfl rfl (X_move (v := v_a0) rfl) ?_
 obtain ⟨z1, x2, H⟩ := bind_some H
 refine L_callSN (.plain rfl) rfl (ltb rfl) rfl Tryz.call103 (spec_l00Source.calls (w := w) (a0 := a0) f_a0 x2) rfl <| fun b5 w3 z6 e4 k7 => ?_
 obtain ⟨z8, x9, H⟩ := bind_some H
 refine L_callSOS (.plain rfl) rfl (ltb rfl) rfl Tryz.call104 (draw_stack.calls (w := w3) (a0 := a0) (a1 := z1) e4 f_a0 z6 k7 x9) rfl <| fun v15 w12 g13 k14 o16 => lp rfl rfl (X_assign (v := v15) rfl) <| nx <| W_ret <| fin_r ?_
 obtain rfl := si H
 exact fin1os rfl (Ext.gr e4 g13 z6) o16 (e4).size
theorem spec_StackDrawn.calls {w : World} {a0 : List Int} {r : List (List Rec)} {v_a0 : Value} (f_a0 : Rd 1 (Go.UL.encI .u8) w v_a0 a0) (H : (spec_StackDrawn.sh a0) = some r) :
  Calls Tryz.prog 14 #[v_a0] w (Rt (ROS 35 58 5 encRec w r)) := spec_StackDrawn.walk f_a0 (spec_StackDrawn.eq a0 H)
/-! laws.FnOrder -/
theorem law_FnOrder.walk {w : World} {a0 : List Int} {a1 : List Int} (gv : GV 0 w) {v_a0 : Value} (f_a0 : Rd 1 (Go.UL.encI .u8) w v_a0 a0) {v_a1 : Value} (f_a1 : Rd 1 (Go.UL.encI .u8) w v_a1 a1) {r : Bool} (H : law_FnOrder.sh a0 a1 = some r) :
  Calls Tryz.prog 10 #[v_a0, v_a1] w (Rt (RP w (.bool r))) := by
 unfold law_FnOrder.sh at H
 refine calls_of_W Tryz.func10 rfl (Nat.le_of_ble_eq_true rfl) Tryz.ntmps10 rfl ?_
 refine wr <| lp rfl rfl (X_assign (v := (.bool false)) rfl) <| nx <| W_seq <| wr <| lp rfl rfl (X_move (v := v_a0) rfl) <| lp rfl rfl (X_lenR Tryz.underlying22 rfl f_a0) <| lp rfl rfl (X_gtr rfl rfl) <| lp rfl rfl (X_move (v := (.bool (decide (1048576 < (a0.length : Int))))) rfl) ?_
 obtain ⟨z2, x3, H⟩ := bind_some H
 refine L_grpE 4 [(29, 33)] 32 (fun q => q = z2) ?_ ?_
 ·rcases bif_two x3 with ⟨b0_, H⟩ | ⟨b0_, H⟩
  ·refine ls rfl rfl rfl (cb b0_) rfl <| ls rfl rfl rfl (cb b0_) rfl <| ls rfl rfl rfl (cb b0_) rfl <| lp rfl rfl (X_pick (b := true) (v := (.bool true)) (cb b0_) rfl) ?_
   obtain rfl := si H
   exact nx ⟨(ku4 kz rfl), ⟨_, rfl, rfl⟩, er⟩
  ·refine lg rfl rfl rfl rfl (cb b0_) (X_move (v := v_a1) rfl) <| lg rfl rfl rfl rfl (cb b0_) (X_lenR Tryz.underlying22 rfl f_a1) <| lg rfl rfl rfl rfl (cb b0_) (X_gtr rfl rfl) <| lp rfl rfl (X_pick (b := false) (v := (.bool (decide (1048576 < (a1.length : Int))))) (cb b0_) rfl) ?_
   obtain rfl := si H
   exact nx ⟨(ku4 kz rfl), ⟨_, rfl, rfl⟩, er⟩
 intro s8 w4 z9 K5 hq h6 e7
 rw [hq] at h6; clear hq
 refine nx ?_
 rcases bif_two H with ⟨q10, H⟩ | ⟨q10, H⟩
 ·refine W_true (h6.trans (cb q10)) <| wr <| lp rfl rfl (X_assign (v := (.bool true)) rfl) <| nx <| W_ret <| thn_r <| fin_r ?_
  obtain rfl := si H
  exact fin1 rfl e7
 ·refine W_false (h6.trans (cb q10)) <| W_skip <| thn_n <| wr <| lp rfl rfl (X_move (v := v_a0) (K5 0 rfl)) ?_
  obtain ⟨z11, x12, H⟩ := bind_some H
  refine L_callOS (.plain rfl) rfl (ltb rfl) rfl Tryz.call14 (spec_StackDrawn.calls (w := w4) (a0 := a0) (Rd.ext f_a0 e7) x12) rfl <| fun v15 w13 e14 o16 => lp rfl rfl (X_assign (v := v15) rfl) <| nx <| wr <| lp rfl rfl (X_move (v := v15) rfl) ?_
  obtain ⟨c17, H⟩ := bif_some H
  obtain ⟨c18, H⟩ := bif_some H
  obtain ⟨c19, H⟩ := bif_some H
  refine L_callT (.plain rfl) rfl (ltb rfl) rfl Tryz.call82 (impl_SquashAll.calls (w := w13) (a0 := z11) (GV.ext gv (e7.t e14)) (Own2.rd o16) (od c17) (od c18) (od c19)) rfl <| fun v22 w20 e21 o23 => lp rfl rfl (X_move (v := (.tuple #[v22, (.int .i64 ((squashAllOf z11).2))])) rfl) <| lp rfl rfl (X_extract (v := v22) rfl rfl) <| lp rfl rfl (X_extract (v := (.int .i64 ((squashAllOf z11).2))) rfl rfl) <| lp rfl rfl (X_assign (v := v22) rfl) <| lp rfl rfl (X_assign (v := (.int .i64 ((squashAllOf z11).2))) rfl) <| nx <| wr <| lp rfl rfl (X_move (v := v15) rfl) ?_
  obtain ⟨c24, H⟩ := bif_some H
  obtain ⟨c25, H⟩ := bif_some H
  obtain ⟨c26, H⟩ := bif_some H
  refine L_callT (.plain rfl) rfl (ltb rfl) rfl Tryz.call83 (spec_SquashAll.calls (w := w20) (a0 := z11) (Own2.rd (Own2.ext o16 e21)) (od c24) (od c25) (od c26)) rfl <| fun v29 w27 e28 o30 => lp rfl rfl (X_move (v := (.tuple #[v29, (.int .i64 ((squashAllOf z11).2))])) rfl) <| lp rfl rfl (X_extract (v := v29) rfl rfl) <| lp rfl rfl (X_extract (v := (.int .i64 ((squashAllOf z11).2))) rfl rfl) <| lp rfl rfl (X_assign (v := v29) rfl) <| lp rfl rfl (X_assign (v := (.int .i64 ((squashAllOf z11).2))) rfl) <| nx <| wr <| lp rfl rfl (X_move (v := v15) rfl) ?_
  obtain ⟨c31, H⟩ := bif_some H
  obtain ⟨c32, H⟩ := bif_some H
  obtain ⟨c33, H⟩ := bif_some H
  refine L_callT (.plain rfl) rfl (ltb rfl) rfl Tryz.call84 (impl_MergeMany.calls (w := w27) (a0 := z11) (GV.ext gv (((e7.t e14).t e21).t e28)) (Own2.rd (Own2.ext o16 (e21.t e28))) (od c31) (od c32) (od c33)) rfl <| fun v36 w34 e35 o37 => lp rfl rfl (X_move (v := (.tuple #[v36, (.int .i64 ((mergeOf z11).2))])) rfl) <| lp rfl rfl (X_extract (v := v36) rfl rfl) <| lp rfl rfl (X_extract (v := (.int .i64 ((mergeOf z11).2))) rfl rfl) <| lp rfl rfl (X_assign (v := v36) rfl) <| lp rfl rfl (X_assign (v := (.int .i64 ((mergeOf z11).2))) rfl) <| nx <| wr <| lp rfl rfl (X_move (v := v15) rfl) ?_
  obtain ⟨c38, H⟩ := bif_some H
  obtain ⟨c39, H⟩ := bif_some H
  obtain ⟨c40, H⟩ := bif_some H
  refine L_callT (.plain rfl) rfl (ltb rfl) rfl Tryz.call85 (spec_MergeMany.calls (w := w34) (a0 := z11) (Own2.rd (Own2.ext o16 ((e21.t e28).t e35))) (od c38) (od c39) (od c40)) rfl <| fun v43 w41 e42 o44 => lp rfl rfl (X_move (v := (.tuple #[v43, (.int .i64 ((mergeOf z11).2))])) rfl) <| lp rfl rfl (X_extract (v := v43) rfl rfl) <| lp rfl rfl (X_extract (v := (.int .i64 ((mergeOf z11).2))) rfl rfl) <| lp rfl rfl (X_assign (v := v43) rfl) <| lp rfl rfl (X_assign (v := (.int .i64 ((mergeOf z11).2))) rfl) <| nx <| W_seq <| wr <| lp rfl rfl (X_move (v := (.int .i64 ((squashAllOf z11).2))) rfl) <| lp rfl rfl (X_move (v := (.int .i64 ((squashAllOf z11).2))) rfl) <| lp rfl rfl (X_neq rfl rfl) <| lp rfl rfl (X_move (v := (.bool (!decide (((squashAllOf z11).2) = ((squashAllOf z11).2))))) rfl) ?_
  obtain ⟨z46, x47, H⟩ := bind_some H
  refine L_grpE 5 [(59, 64)] 63 (fun q => q = z46) ?_ ?_
  ·rcases bif_two x47 with ⟨b44_, H⟩ | ⟨b44_, H⟩
   ·refine ls rfl rfl rfl (cb b44_) rfl <| ls rfl rfl rfl (cb b44_) rfl <| ls rfl rfl rfl (cb b44_) rfl <| ls rfl rfl rfl (cb b44_) rfl <| lp rfl rfl (X_pick (b := true) (v := (.bool true)) (cb b44_) rfl) ?_
    obtain rfl := si H
    exact nx ⟨(ku1 (ku4 kz rfl) rfl), ⟨_, rfl, rfl⟩, er⟩
   ·refine lg rfl rfl rfl rfl (cb b44_) (X_move (v := v22) rfl) <| lg rfl rfl rfl rfl (cb b44_) (X_move (v := v29) rfl) ?_
    obtain ⟨c46, H⟩ := bif_some H
    refine L_callP (tg rfl rfl rfl (cb b44_)) rfl (ltb rfl) rfl Tryz.call31 (laws_sameRecords.calls (w := w41) (a0 := (squashAllOf z11).1) (a1 := (squashAllOf z11).1) (Ow.rd (Ow.ext o23 ((e28.t e35).t e42))) (Ow.rd (Ow.ext o30 (e35.t e42))) (od c46)) rfl <| fun w47 e48 => lg rfl rfl rfl rfl (cb b44_) (X_not rfl) <| lp rfl rfl (X_pick (b := false) (v := (.bool (!(decide (((squashAllOf z11).1) = ((squashAllOf z11).1)))))) (cb b44_) rfl) ?_
    obtain rfl := si H
    exact nx ⟨(ku1 (ku4 kz rfl) rfl), ⟨_, rfl, rfl⟩, e48⟩
  intro s52 w48 z53 K49 hq h50 e51
  rw [hq] at h50; clear hq
  refine lp rfl rfl (X_move h50) ?_
  obtain ⟨z55, x56, H⟩ := bind_some H
  refine L_grpE 4 [(65, 69)] 68 (fun q => q = z55) ?_ ?_
  ·rcases bif_two x56 with ⟨b53_, H⟩ | ⟨b53_, H⟩
   ·refine ls rfl rfl rfl (cb b53_) rfl <| ls rfl rfl rfl (cb b53_) rfl <| ls rfl rfl rfl (cb b53_) rfl <| lp rfl rfl (X_pick (b := true) (v := (.bool true)) (cb b53_) rfl) ?_
    obtain rfl := si H
    exact nx ⟨(ku4 kz rfl), ⟨_, rfl, rfl⟩, er⟩
   ·refine lg rfl rfl rfl rfl (cb b53_) (X_move (v := (.int .i64 ((mergeOf z11).2))) (K49 11 rfl)) <| lg rfl rfl rfl rfl (cb b53_) (X_move (v := (.int .i64 ((mergeOf z11).2))) (K49 13 rfl)) <| lg rfl rfl rfl rfl (cb b53_) (X_neq rfl rfl) <| lp rfl rfl (X_pick (b := false) (v := (.bool (!decide (((mergeOf z11).2) = ((mergeOf z11).2))))) (cb b53_) rfl) ?_
    obtain rfl := si H
    exact nx ⟨(ku4 kz rfl), ⟨_, rfl, rfl⟩, er⟩
  intro s61 w57 z62 K58 hq h59 e60
  rw [hq] at h59; clear hq
  refine lp rfl rfl (X_move h59) ?_
  obtain ⟨z64, x65, H⟩ := bind_some H
  refine L_grpE 5 [(70, 75)] 74 (fun q => q = z64) ?_ ?_
  ·rcases bif_two x65 with ⟨b62_, H⟩ | ⟨b62_, H⟩
   ·refine ls rfl rfl rfl (cb b62_) rfl <| ls rfl rfl rfl (cb b62_) rfl <| ls rfl rfl rfl (cb b62_) rfl <| ls rfl rfl rfl (cb b62_) rfl <| lp rfl rfl (X_pick (b := true) (v := (.bool true)) (cb b62_) rfl) ?_
    obtain rfl := si H
    exact nx ⟨(ku1 (ku4 kz rfl) rfl), ⟨_, rfl, rfl⟩, er⟩
   ·refine lg rfl rfl rfl rfl (cb b62_) (X_move (v := v36) ((K58 10 rfl).trans (K49 10 rfl))) <| lg rfl rfl rfl rfl (cb b62_) (X_move (v := v43) ((K58 12 rfl).trans (K49 12 rfl))) ?_
    obtain ⟨c64, H⟩ := bif_some H
    refine L_callP (tg rfl rfl rfl (cb b62_)) rfl (ltb rfl) rfl Tryz.call31 (laws_sameRecords.calls (w := w57) (a0 := (mergeOf z11).1) (a1 := (mergeOf z11).1) (Ow.rd (Ow.ext o37 ((e42.t e51).t e60))) (Ow.rd (Ow.ext o44 (e51.t e60))) (od c64)) rfl <| fun w65 e66 => lg rfl rfl rfl rfl (cb b62_) (X_not rfl) <| lp rfl rfl (X_pick (b := false) (v := (.bool (!(decide (((mergeOf z11).1) = ((mergeOf z11).1)))))) (cb b62_) rfl) ?_
    obtain rfl := si H
    exact nx ⟨(ku1 (ku4 kz rfl) rfl), ⟨_, rfl, rfl⟩, e66⟩
  intro s70 w66 z71 K67 hq h68 e69
  rw [hq] at h68; clear hq
  refine lp rfl rfl (X_move h68) ?_
  obtain ⟨z73, x74, H⟩ := bind_some H
  refine L_grpE 4 [(76, 80)] 79 (fun q => q = z73) ?_ ?_
  ·rcases bif_two x74 with ⟨b71_, H⟩ | ⟨b71_, H⟩
   ·refine ls rfl rfl rfl (cb b71_) rfl <| ls rfl rfl rfl (cb b71_) rfl <| ls rfl rfl rfl (cb b71_) rfl <| lp rfl rfl (X_pick (b := true) (v := (.bool true)) (cb b71_) rfl) ?_
    obtain rfl := si H
    exact nx ⟨(ku4 kz rfl), ⟨_, rfl, rfl⟩, er⟩
   ·refine lg rfl rfl rfl rfl (cb b71_) (X_move (v := (.int .i64 ((mergeOf z11).2))) ((K67 13 rfl).trans ((K58 13 rfl).trans (K49 13 rfl)))) <| lg rfl rfl rfl rfl (cb b71_) (X_move (v := (.int .i64 ((squashAllOf z11).2))) ((K67 9 rfl).trans ((K58 9 rfl).trans (K49 9 rfl)))) <| lg rfl rfl rfl rfl (cb b71_) (X_neq rfl rfl) <| lp rfl rfl (X_pick (b := false) (v := (.bool (!decide (((mergeOf z11).2) = ((squashAllOf z11).2))))) (cb b71_) rfl) ?_
    obtain rfl := si H
    exact nx ⟨(ku4 kz rfl), ⟨_, rfl, rfl⟩, er⟩
  intro s79 w75 z80 K76 hq h77 e78
  rw [hq] at h77; clear hq
  refine lp rfl rfl (X_move h77) ?_
  obtain ⟨z82, x83, H⟩ := bind_some H
  refine L_grpE 5 [(81, 86)] 85 (fun q => q = z82) ?_ ?_
  ·rcases bif_two x83 with ⟨b80_, H⟩ | ⟨b80_, H⟩
   ·refine ls rfl rfl rfl (cb b80_) rfl <| ls rfl rfl rfl (cb b80_) rfl <| ls rfl rfl rfl (cb b80_) rfl <| ls rfl rfl rfl (cb b80_) rfl <| lp rfl rfl (X_pick (b := true) (v := (.bool true)) (cb b80_) rfl) ?_
    obtain rfl := si H
    exact nx ⟨(ku1 (ku4 kz rfl) rfl), ⟨_, rfl, rfl⟩, er⟩
   ·refine lg rfl rfl rfl rfl (cb b80_) (X_move (v := v43) ((K76 12 rfl).trans ((K67 12 rfl).trans ((K58 12 rfl).trans (K49 12 rfl))))) <| lg rfl rfl rfl rfl (cb b80_) (X_move (v := v29) ((K76 8 rfl).trans ((K67 8 rfl).trans ((K58 8 rfl).trans (K49 8 rfl))))) ?_
    obtain ⟨c82, H⟩ := bif_some H
    refine L_callP (tg rfl rfl rfl (cb b80_)) rfl (ltb rfl) rfl Tryz.call31 (laws_sameRecords.calls (w := w75) (a0 := (mergeOf z11).1) (a1 := (squashAllOf z11).1) (Ow.rd (Ow.ext o44 (((e51.t e60).t e69).t e78))) (Ow.rd (Ow.ext o30 (((((e35.t e42).t e51).t e60).t e69).t e78))) (od c82)) rfl <| fun w83 e84 => lg rfl rfl rfl rfl (cb b80_) (X_not rfl) <| lp rfl rfl (X_pick (b := false) (v := (.bool (!(decide (((mergeOf z11).1) = ((squashAllOf z11).1)))))) (cb b80_) rfl) ?_
    obtain rfl := si H
    exact nx ⟨(ku1 (ku4 kz rfl) rfl), ⟨_, rfl, rfl⟩, e84⟩
  intro s88 w84 z89 K85 hq h86 e87
  rw [hq] at h86; clear hq
  refine lp rfl rfl (X_move h86) ?_
  obtain ⟨z91, x92, H⟩ := bind_some H
  refine L_grpE 4 [(87, 91)] 90 (fun q => q = z91) ?_ ?_
  ·rcases bif_two x92 with ⟨b89_, H⟩ | ⟨b89_, H⟩
   ·refine ls rfl rfl rfl (cb b89_) rfl <| ls rfl rfl rfl (cb b89_) rfl <| ls rfl rfl rfl (cb b89_) rfl <| lp rfl rfl (X_pick (b := true) (v := (.bool true)) (cb b89_) rfl) ?_
    obtain rfl := si H
    exact nx ⟨(ku4 kz rfl), ⟨_, rfl, rfl⟩, er⟩
   ·refine lg rfl rfl rfl rfl (cb b89_) (X_move (v := v15) ((K85 5 rfl).trans ((K76 5 rfl).trans ((K67 5 rfl).trans ((K58 5 rfl).trans (K49 5 rfl)))))) ?_
    obtain ⟨c91, H⟩ := bif_some H
    obtain ⟨c92, H⟩ := bif_some H
    obtain ⟨c93, H⟩ := bif_some H
    refine L_callP (tg rfl rfl rfl (cb b89_)) rfl (ltb rfl) rfl Tryz.call21 (impl_StackOK.calls (w := w84) (a0 := z11) (GV.ext gv ((((((((((e7.t e14).t e21).t e28).t e35).t e42).t e51).t e60).t e69).t e78).t e87)) (Own2.rd (Own2.ext o16 ((((((((e21.t e28).t e35).t e42).t e51).t e60).t e69).t e78).t e87))) (od c91) (od c92) (od c93)) rfl <| fun w94 e95 => lg rfl rfl rfl rfl (cb b89_) (X_not rfl) <| lp rfl rfl (X_pick (b := false) (v := (.bool (!(stackOK z11)))) (cb b89_) rfl) ?_
    obtain rfl := si H
    exact nx ⟨(ku4 kz rfl), ⟨_, rfl, rfl⟩, e95⟩
  intro s97 w93 z98 K94 hq h95 e96
  rw [hq] at h95; clear hq
  refine nx ?_
  rcases bif_two H with ⟨q99, H⟩ | ⟨q99, H⟩
  ·refine W_true (h95.trans (cb q99)) <| wr <| lp rfl rfl (X_assign (v := (.bool false)) rfl) <| nx <| W_ret <| thn_r <| fin_r ?_
   obtain rfl := si H
   exact fin1 rfl (((((((((((e7.t e14).t e21).t e28).t e35).t e42).t e51).t e60).t e69).t e78).t e87).t e96)
  ·refine W_false (h95.trans (cb q99)) <| W_skip <| thn_n <| wr <| lp rfl rfl (X_move (v := v_a1) ((K94 1 rfl).trans ((K85 1 rfl).trans ((K76 1 rfl).trans ((K67 1 rfl).trans ((K58 1 rfl).trans ((K49 1 rfl).trans (K5 1 rfl)))))))) <| lp rfl rfl (X_move (v := v15) ((K94 5 rfl).trans ((K85 5 rfl).trans ((K76 5 rfl).trans ((K67 5 rfl).trans ((K58 5 rfl).trans (K49 5 rfl))))))) <| lp rfl rfl (X_lenR2 Tryz.underlying23 rfl (Own2.rd (Own2.ext o16 (((((((((e21.t e28).t e35).t e42).t e51).t e60).t e69).t e78).t e87).t e96)))) <| lp rfl rfl (X_add rfl rfl) ?_
   obtain ⟨z100, x101, H⟩ := bind_some H
   refine lc rfl rfl rfl Tryz.call15 (laws_at.calls (w := w93) (a0 := a1) (a1 := 0) (a2 := IntKind.wrap .i64 ((z11.length : Int) + 1)) (Rd.ext f_a1 (((((((((((e7.t e14).t e21).t e28).t e35).t e42).t e51).t e60).t e69).t e78).t e87).t e96)) x101) rfl <| fun w102 e103 => lp rfl rfl (X_assign (v := (.int .i64 z100)) rfl) <| nx <| wr <| lp rfl rfl (X_move (v := v15) ((K94 5 rfl).trans ((K85 5 rfl).trans ((K76 5 rfl).trans ((K67 5 rfl).trans ((K58 5 rfl).trans (K49 5 rfl))))))) <| lp rfl rfl (X_move (v := (.int .i64 z100)) rfl) ?_
   obtain ⟨c104, H⟩ := bif_some H
   refine L_sub2 (.plain rfl) rfl (ltb rfl) rfl Tryz.underlying23 Tryz.sizeOf35 rfl (Own2.rd (Own2.ext o16 ((((((((((e21.t e28).t e35).t e42).t e51).t e60).t e69).t e78).t e87).t e96).t e103))) (l := 0) (h := z100) rfl ⟨_, rfl⟩ c104 <| fun v105 h106 => ?_
   obtain ⟨c107, H⟩ := bif_some H
   obtain ⟨c108, H⟩ := bif_some H
   obtain ⟨c109, H⟩ := bif_some H
   refine L_callT (.plain rfl) rfl (ltb rfl) rfl Tryz.call82 (impl_SquashAll.calls (w := w102) (a0 := sub z11 0 z100) (GV.ext gv ((((((((((((e7.t e14).t e21).t e28).t e35).t e42).t e51).t e60).t e69).t e78).t e87).t e96).t e103)) h106 (od c107) (od c108) (od c109)) rfl <| fun v112 w110 e111 o113 => lp rfl rfl (X_move (v := (.tuple #[v112, (.int .i64 ((squashAllOf (sub z11 0 z100)).2))])) rfl) <| lp rfl rfl (X_extract (v := v112) rfl rfl) <| lp rfl rfl (X_extract (v := (.int .i64 ((squashAllOf (sub z11 0 z100)).2))) rfl rfl) <| lp rfl rfl (X_assign (v := v112) rfl) <| lp rfl rfl (X_assign (v := (.int .i64 ((squashAllOf (sub z11 0 z100)).2))) rfl) <| nx <| wr <| lp rfl rfl (X_move (v := v15) ((K94 5 rfl).trans ((K85 5 rfl).trans ((K76 5 rfl).trans ((K67 5 rfl).trans ((K58 5 rfl).trans (K49 5 rfl))))))) <| lp rfl rfl (X_move (v := (.int .i64 z100)) rfl) ?_
   obtain ⟨c114, H⟩ := bif_some H
   refine L_sub2 (.plain rfl) rfl (ltb rfl) rfl Tryz.underlying23 Tryz.sizeOf35 rfl (Own2.rd (Own2.ext o16 (((((((((((e21.t e28).t e35).t e42).t e51).t e60).t e69).t e78).t e87).t e96).t e103).t e111))) (l := z100) (h := (z11.length : Int)) ⟨_, rfl⟩ rfl c114 <| fun v115 h116 => ?_
   obtain ⟨c117, H⟩ := bif_some H
   obtain ⟨c118, H⟩ := bif_some H
   obtain ⟨c119, H⟩ := bif_some H
   obtain ⟨z122, x123, H⟩ := bind_some H
   replace x123 := si x123
   obtain ⟨z124, x125, H⟩ := bind_some H
   replace x125 := si x125
   refine L_callT (.plain rfl) rfl (ltb rfl) rfl Tryz.call82 (impl_SquashAll.calls (w := w110) (a0 := sub z11 z100 (z11.length : Int)) (GV.ext gv (((((((((((((e7.t e14).t e21).t e28).t e35).t e42).t e51).t e60).t e69).t e78).t e87).t e96).t e103).t e111)) h116 (od c117) (od c118) (od c119)) rfl <| fun v126 w120 e121 o127 => lp rfl rfl (X_move rfl) <| lp rfl rfl (X_extract (v := v126) rfl rfl) <| lp rfl rfl (X_extract (v := (.int .i64 ((squashAllOf (sub z11 z100 (z11.length : Int))).2))) rfl rfl) <| lp rfl rfl (X_assign (v := v126) rfl) <| lp rfl rfl (X_assign (v := (.int .i64 z124)) (congrArg (Value.int .i64) x125)) <| nx <| wr <| lp rfl rfl (X_move (v := v15) ((K94 5 rfl).trans ((K85 5 rfl).trans ((K76 5 rfl).trans ((K67 5 rfl).trans ((K58 5 rfl).trans (K49 5 rfl))))))) <| lp rfl rfl (X_move (v := (.int .i64 z100)) rfl) ?_
   obtain ⟨c128, H⟩ := bif_some H
   refine L_sub2 (.plain rfl) rfl (ltb rfl) rfl Tryz.underlying23 Tryz.sizeOf35 rfl (Own2.rd (Own2.ext o16 ((((((((((((e21.t e28).t e35).t e42).t e51).t e60).t e69).t e78).t e87).t e96).t e103).t e111).t e121))) (l := 0) (h := z100) rfl ⟨_, rfl⟩ c128 <| fun v129 h130 => ?_
   obtain ⟨c131, H⟩ := bif_some H
   obtain ⟨c132, H⟩ := bif_some H
   obtain ⟨c133, H⟩ := bif_some H
   refine L_callT (.plain rfl) rfl (ltb rfl) rfl Tryz.call83 (spec_SquashAll.calls (w := w120) (a0 := sub z11 0 z100) h130 (od c131) (od c132) (od c133)) rfl <| fun v136 w134 e135 o137 => lp rfl rfl (X_move (v := (.tuple #[v136, (.int .i64 ((squashAllOf (sub z11 0 z100)).2))])) rfl) <| lp rfl rfl (X_extract (v := v136) rfl rfl) <| lp rfl rfl (X_extract (v := (.int .i64 ((squashAllOf (sub z11 0 z100)).2))) rfl rfl) <| lp rfl rfl (X_assign (v := v136) rfl) <| lp rfl rfl (X_assign (v := (.int .i64 ((squashAllOf (sub z11 0 z100)).2))) rfl) <| nx <| wr <| lp rfl rfl (X_move (v := v15) ((K94 5 rfl).trans ((K85 5 rfl).trans ((K76 5 rfl).trans ((K67 5 rfl).trans ((K58 5 rfl).trans (K49 5 rfl))))))) <| lp rfl rfl (X_move (v := (.int .i64 z100)) rfl) ?_
   obtain ⟨c138, H⟩ := bif_some H
   refine L_sub2 (.plain rfl) rfl (ltb rfl) rfl Tryz.underlying23 Tryz.sizeOf35 rfl (Own2.rd (Own2.ext o16 (((((((((((((e21.t e28).t e35).t e42).t e51).t e60).t e69).t e78).t e87).t e96).t e103).t e111).t e121).t e135))) (l := z100) (h := (z11.length : Int)) ⟨_, rfl⟩ rfl c138 <| fun v139 h140 => ?_
   obtain ⟨c141, H⟩ := bif_some H
   obtain ⟨c142, H⟩ := bif_some H
   obtain ⟨c143, H⟩ := bif_some H
   obtain ⟨z146, x147, H⟩ := bind_some H
   replace x147 := si x147
   obtain ⟨z148, x149, H⟩ := bind_some H
   replace x149 := si x149
   refine L_callT (.plain rfl) rfl (ltb rfl) rfl Tryz.call83 (spec_SquashAll.calls (w := w134) (a0 := sub z11 z100 (z11.length : Int)) h140 (od c141) (od c142) (od c143)) rfl <| fun v150 w144 e145 o151 => lp rfl rfl (X_move rfl) <| lp rfl rfl (X_extract (v := v150) rfl rfl) <| lp rfl rfl (X_extract (v := (.int .i64 ((squashAllOf (sub z11 z100 (z11.length : Int))).2))) rfl rfl) <| lp rfl rfl (X_assign (v := v150) rfl) <| lp rfl rfl (X_assign (v := (.int .i64 z148)) (congrArg (Value.int .i64) x149)) <| nx <| W_seq <| wr <| lp rfl rfl (X_move (v := (.int .i64 ((squashAllOf (sub z11 0 z100)).2))) rfl) <| lp rfl rfl (X_move (v := (.int .i64 ((squashAllOf (sub z11 0 z100)).2))) rfl) <| lp rfl rfl (X_neq rfl rfl) <| lp rfl rfl (X_move rfl) ?_
   obtain ⟨z153, x154, H⟩ := bind_some H
   refine L_grpE 4 [(128, 132)] 131 (fun q => q = z153) ?_ ?_
   ·rcases bif_two x154 with ⟨b151_, H⟩ | ⟨b151_, H⟩
    ·refine ls rfl rfl rfl (cb b151_) rfl <| ls rfl rfl rfl (cb b151_) rfl <| ls rfl rfl rfl (cb b151_) rfl <| lp rfl rfl (X_pick (b := true) (v := (.bool true)) (cb b151_) rfl) ?_
     obtain rfl := si H
     exact nx ⟨(ku4 kz rfl), ⟨_, rfl, rfl⟩, er⟩
    ·refine lg rfl rfl rfl rfl (cb b151_) (X_move (v := (.int .i64 z124)) rfl) <| lg rfl rfl rfl rfl (cb b151_) (X_move (v := (.int .i64 z148)) rfl) <| lg rfl rfl rfl rfl (cb b151_) (X_neq rfl rfl) <| lp rfl rfl (X_pick (b := false) (v := (.bool (!decide (z124 = z148)))) (cb b151_) rfl) ?_
     obtain rfl := si H
     exact nx ⟨(ku4 kz rfl), ⟨_, rfl, rfl⟩, er⟩
   intro s159 w155 z160 K156 hq h157 e158
   rw [hq] at h157; clear hq
   refine lp rfl rfl (X_move h157) ?_
   obtain ⟨z162, x163, H⟩ := bind_some H
   refine L_grpE 5 [(133, 138)] 137 (fun q => q = z162) ?_ ?_
   ·rcases bif_two x163 with ⟨b160_, H⟩ | ⟨b160_, H⟩
    ·refine ls rfl rfl rfl (cb b160_) rfl <| ls rfl rfl rfl (cb b160_) rfl <| ls rfl rfl rfl (cb b160_) rfl <| ls rfl rfl rfl (cb b160_) rfl <| lp rfl rfl (X_pick (b := true) (v := (.bool true)) (cb b160_) rfl) ?_
     obtain rfl := si H
     exact nx ⟨(ku1 (ku4 kz rfl) rfl), ⟨_, rfl, rfl⟩, er⟩
    ·refine lg rfl rfl rfl rfl (cb b160_) (X_move (v := v112) (K156 15 rfl)) <| lg rfl rfl rfl rfl (cb b160_) (X_move (v := v136) (K156 19 rfl)) ?_
     obtain ⟨c162, H⟩ := bif_some H
     refine L_callP (tg rfl rfl rfl (cb b160_)) rfl (ltb rfl) rfl Tryz.call31 (laws_sameRecords.calls (w := w155) (a0 := (squashAllOf (sub z11 0 z100)).1) (a1 := (squashAllOf (sub z11 0 z100)).1) (Ow.rd (Ow.ext o113 (((e121.t e135).t e145).t e158))) (Ow.rd (Ow.ext o137 (e145.t e158))) (od c162)) rfl <| fun w163 e164 => lg rfl rfl rfl rfl (cb b160_) (X_not rfl) <| lp rfl rfl (X_pick (b := false) (v := (.bool (!(decide (((squashAllOf (sub z11 0 z100)).1) = ((squashAllOf (sub z11 0 z100)).1)))))) (cb b160_) rfl) ?_
     obtain rfl := si H
     exact nx ⟨(ku1 (ku4 kz rfl) rfl), ⟨_, rfl, rfl⟩, e164⟩
   intro s168 w164 z169 K165 hq h166 e167
   rw [hq] at h166; clear hq
   refine lp rfl rfl (X_move h166) ?_
   obtain ⟨z171, x172, H⟩ := bind_some H
   refine L_grpE 5 [(139, 144)] 143 (fun q => q = z171) ?_ ?_
   ·rcases bif_two x172 with ⟨b169_, H⟩ | ⟨b169_, H⟩
    ·refine ls rfl rfl rfl (cb b169_) rfl <| ls rfl rfl rfl (cb b169_) rfl <| ls rfl rfl rfl (cb b169_) rfl <| ls rfl rfl rfl (cb b169_) rfl <| lp rfl rfl (X_pick (b := true) (v := (.bool true)) (cb b169_) rfl) ?_
     obtain rfl := si H
     exact nx ⟨(ku1 (ku4 kz rfl) rfl), ⟨_, rfl, rfl⟩, er⟩
    ·refine lg rfl rfl rfl rfl (cb b169_) (X_move (v := v126) ((K165 17 rfl).trans (K156 17 rfl))) <| lg rfl rfl rfl rfl (cb b169_) (X_move (v := v150) ((K165 21 rfl).trans (K156 21 rfl))) ?_
     obtain ⟨c171, H⟩ := bif_some H
     refine L_callP (tg rfl rfl rfl (cb b169_)) rfl (ltb rfl) rfl Tryz.call31 (laws_sameRecords.calls (w := w164) (a0 := z122) (a1 := z146) (Ow.rd (Ow.ext (x123 ▸ o127) (((e135.t e145).t e158).t e167))) (Ow.rd (Ow.ext (x147 ▸ o151) (e158.t e167))) (od c171)) rfl <| fun w172 e173 => lg rfl rfl rfl rfl (cb b169_) (X_not rfl) <| lp rfl rfl (X_pick (b := false) (v := (.bool (!(decide (z122 = z146))))) (cb b169_) rfl) ?_
     obtain rfl := si H
     exact nx ⟨(ku1 (ku4 kz rfl) rfl), ⟨_, rfl, rfl⟩, e173⟩
   intro s177 w173 z178 K174 hq h175 e176
   rw [hq] at h175; clear hq
   refine nx ?_
   rcases bif_two H with ⟨q179, H⟩ | ⟨q179, H⟩
   ·refine W_true (h175.trans (cb q179)) <| wr <| lp rfl rfl (X_assign (v := (.bool false)) rfl) <| nx <| W_ret <| thn_r <| fin_r ?_
    obtain rfl := si H
    exact fin1 rfl (((((((((((((((((((e7.t e14).t e21).t e28).t e35).t e42).t e51).t e60).t e69).t e78).t e87).t e96).t e103).t e111).t e121).t e135).t e145).t e158).t e167).t e176)
   ·refine W_false (h175.trans (cb q179)) <| W_skip <| thn_n <| W_seq <| wr <| lp rfl rfl (X_move (v := (.int .i64 ((squashAllOf (sub z11 0 z100)).2))) ((K174 20 rfl).trans ((K165 20 rfl).trans (K156 20 rfl)))) <| lp rfl rfl (X_neq rfl rfl) <| lp rfl rfl (X_move (v := (.bool (!decide (((squashAllOf (sub z11 0 z100)).2) = 0)))) rfl) ?_
    obtain ⟨z181, x182, H⟩ := bind_some H
    refine L_grpE 3 [(147, 150)] 149 (fun q => q = z181) ?_ ?_
    ·rcases bif_two x182 with ⟨b179_, H⟩ | ⟨b179_, H⟩
     ·refine ls rfl rfl rfl (cb b179_) rfl <| ls rfl rfl rfl (cb b179_) rfl <| lp rfl rfl (X_pick (b := true) (v := (.bool true)) (cb b179_) rfl) ?_
      obtain rfl := si H
      exact nx ⟨(ku3 kz rfl), ⟨_, rfl, rfl⟩, er⟩
     ·refine lg rfl rfl rfl rfl (cb b179_) (X_move (v := (.int .i64 z148)) ((K174 22 rfl).trans ((K165 22 rfl).trans (K156 22 rfl)))) <| lg rfl rfl rfl rfl (cb b179_) (X_neq rfl rfl) <| lp rfl rfl (X_pick (b := false) (v := (.bool (!decide (z148 = 0)))) (cb b179_) rfl) ?_
      obtain rfl := si H
      exact nx ⟨(ku3 kz rfl), ⟨_, rfl, rfl⟩, er⟩
    intro s187 w183 z188 K184 hq h185 e186
    rw [hq] at h185; clear hq
    refine nx ?_
    rcases bif_two H with ⟨q189, H⟩ | ⟨q189, H⟩
    ·refine W_true (h185.trans (cb q189)) <| wr <| lp rfl rfl (X_move (v := (.int .i64 ((squashAllOf (sub z11 0 z100)).2))) ((K184 20 rfl).trans ((K174 20 rfl).trans ((K165 20 rfl).trans (K156 20 rfl))))) <| lp rfl rfl (X_eql rfl rfl) <| lp rfl rfl (X_move (v := (.bool (decide (((squashAllOf (sub z11 0 z100)).2) = 7)))) rfl) ?_
     obtain ⟨z191, x192, H⟩ := bind_some H
     refine L_grpE 3 [(153, 156)] 155 (fun q => q = z191) ?_ ?_
     ·rcases bif_two x192 with ⟨b189_, H⟩ | ⟨b189_, H⟩
      ·refine ls rfl rfl rfl (cb b189_) rfl <| ls rfl rfl rfl (cb b189_) rfl <| lp rfl rfl (X_pick (b := true) (v := (.bool true)) (cb b189_) rfl) ?_
       obtain rfl := si H
       exact nx ⟨(ku3 kz rfl), ⟨_, rfl, rfl⟩, er⟩
      ·refine lg rfl rfl rfl rfl (cb b189_) (X_move (v := (.int .i64 z148)) ((K184 22 rfl).trans ((K174 22 rfl).trans ((K165 22 rfl).trans (K156 22 rfl))))) <| lg rfl rfl rfl rfl (cb b189_) (X_eql rfl rfl) <| lp rfl rfl (X_pick (b := false) (v := (.bool (decide (z148 = 7)))) (cb b189_) rfl) ?_
       obtain rfl := si H
       exact nx ⟨(ku3 kz rfl), ⟨_, rfl, rfl⟩, er⟩
     intro s197 w193 z198 K194 hq h195 e196
     rw [hq] at h195; clear hq
     refine lp rfl rfl (X_assign h195) <| nx <| W_ret <| thn_r <| fin_r ?_
     obtain rfl := si H
     exact fin1 rfl (((((((((((((((((((((e7.t e14).t e21).t e28).t e35).t e42).t e51).t e60).t e69).t e78).t e87).t e96).t e103).t e111).t e121).t e135).t e145).t e158).t e167).t e176).t e186).t e196)
    ·refine W_false (h185.trans (cb q189)) <| W_skip <| thn_n <| wr <| lp rfl rfl (X_move (v := v112) ((K184 15 rfl).trans ((K174 15 rfl).trans ((K165 15 rfl).trans (K156 15 rfl))))) <| lp rfl rfl (X_move (v := v126) ((K184 17 rfl).trans ((K174 17 rfl).trans ((K165 17 rfl).trans (K156 17 rfl))))) ?_
     obtain ⟨c199, H⟩ := bif_some H
     obtain ⟨c200, H⟩ := bif_some H
     obtain ⟨c201, H⟩ := bif_some H
     obtain ⟨c202, H⟩ := bif_some H
     obtain ⟨z205, x206, H⟩ := bind_some H
     replace x206 := si x206
     obtain ⟨z207, x208, H⟩ := bind_some H
     replace x208 := si x208
     refine L_callT (.plain rfl) rfl (ltb rfl) rfl Tryz.call27 (impl_Squash.calls (w := w183) (a0 := (squashAllOf (sub z11 0 z100)).1) (a1 := z122) (GV.ext gv ((((((((((((((((((((e7.t e14).t e21).t e28).t e35).t e42).t e51).t e60).t e69).t e78).t e87).t e96).t e103).t e111).t e121).t e135).t e145).t e158).t e167).t e176).t e186)) (Ow.rd (Ow.ext o113 ((((((e121.t e135).t e145).t e158).t e167).t e176).t e186))) (Ow.rd (Ow.ext (x123 ▸ o127) (((((e135.t e145).t e158).t e167).t e176).t e186))) (od c199) (od c200) (od c201) (od c202)) rfl <| fun v209 w203 e204 o210 => lp rfl rfl (X_move rfl) <| lp rfl rfl (X_extract (v := v209) rfl rfl) <| lp rfl rfl (X_extract (v := (.int .i64 ((squashOf ((squashAllOf (sub z11 0 z100)).1) z122).2))) rfl rfl) <| lp rfl rfl (X_assign (v := v209) rfl) <| lp rfl rfl (X_assign (v := (.int .i64 z207)) (congrArg (Value.int .i64) x208)) <| nx <| wr <| lp rfl rfl (X_move (v := (.int .i64 z207)) rfl) <| lp rfl rfl (X_move (v := (.int .i64 ((squashAllOf z11).2))) ((K184 9 rfl).trans ((K174 9 rfl).trans ((K165 9 rfl).trans ((K156 9 rfl).trans ((K94 9 rfl).trans ((K85 9 rfl).trans ((K76 9 rfl).trans ((K67 9 rfl).trans ((K58 9 rfl).trans (K49 9 rfl))))))))))) <| lp rfl rfl (X_eql rfl rfl) <| lp rfl rfl (X_move (v := (.bool (decide (z207 = ((squashAllOf z11).2))))) rfl) ?_
     obtain ⟨z212, x213, H⟩ := bind_some H
     refine L_grpE 4 [(166, 170)] 169 (fun q => q = z212) ?_ ?_
     ·rcases bif_two x213 with ⟨b210_, H⟩ | ⟨b210_, H⟩
      ·refine lg rfl rfl rfl rfl (cb b210_) (X_move (v := v209) rfl) <| lg rfl rfl rfl rfl (cb b210_) (X_move (v := v29) ((K184 8 rfl).trans ((K174 8 rfl).trans ((K165 8 rfl).trans ((K156 8 rfl).trans ((K94 8 rfl).trans ((K85 8 rfl).trans ((K76 8 rfl).trans ((K67 8 rfl).trans ((K58 8 rfl).trans (K49 8 rfl))))))))))) ?_
       obtain ⟨c212, H⟩ := bif_some H
       refine L_callP (tg rfl rfl rfl (cb b210_)) rfl (ltb rfl) rfl Tryz.call31 (laws_sameRecords.calls (w := w203) (a0 := z205) (a1 := (squashAllOf z11).1) (Ow.rd (x206 ▸ o210)) (Ow.rd (Ow.ext o30 (((((((((((((((((e35.t e42).t e51).t e60).t e69).t e78).t e87).t e96).t e103).t e111).t e121).t e135).t e145).t e158).t e167).t e176).t e186).t e204))) (od c212)) rfl <| fun w213 e214 => lp rfl rfl (X_pick (b := true) (v := (.bool (decide (z205 = ((squashAllOf z11).1))))) (cb b210_) rfl) ?_
       obtain rfl := si H
       exact nx ⟨(ku4 kz rfl), ⟨_, rfl, rfl⟩, e214⟩
      ·refine ls rfl rfl rfl (cb b210_) rfl <| ls rfl rfl rfl (cb b210_) rfl <| ls rfl rfl rfl (cb b210_) rfl <| lp rfl rfl (X_pick (b := false) (v := (.bool false)) (cb b210_) rfl) ?_
       obtain rfl := si H
       exact nx ⟨(ku4 kz rfl), ⟨_, rfl, rfl⟩, er⟩
     intro s218 w214 z219 K215 hq h216 e217
     rw [hq] at h216; clear hq
     refine lp rfl rfl (X_assign h216) <| nx <| W_ret <| fin_r ?_
     obtain rfl := si H
     exact fin1 rfl ((((((((((((((((((((((e7.t e14).t e21).t e28).t e35).t e42).t e51).t e60).t e69).t e78).t e87).t e96).t e103).t e111).t e121).t e135).t e145).t e158).t e167).t e176).t e186).t e204).t e217)
theorem law_FnOrder.calls {w : World} {a0 : List Int} {a1 : List Int} (gv : GV 0 w) {v_a0 : Value} (f_a0 : Rd 1 (Go.UL.encI .u8) w v_a0 a0) {v_a1 : Value} (f_a1 : Rd 1 (Go.UL.encI .u8) w v_a1 a1) (h0 : ∀ x ∈ a0, okB x) (h1 : a0.length ≤ 9223372036854775807) (h2 : ∀ x ∈ a1, okB x) (h3 : a1.length ≤ 9223372036854775807) :
  Calls Tryz.prog 10 #[v_a0, v_a1] w (Rt (RP w (.bool true))) := law_FnOrder.walk gv f_a0 f_a1 (law_FnOrder.eq a0 a1 h0 h1 h2 h3)
end Go.Proofs.YtfefjaohlhkmaaaGreatDoor
