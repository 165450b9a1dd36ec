/- The walks, by program (wip/tools). -/
import Derived.Test.YtfefjaohlhkmaaaGreatDoorProg
import Derived.Test.YtfefjaohlhkmaaaGreatDoorKI
import Derived.Test.YtfefjaohlhkmaaaGreatDoorKJ
import Derived.Test.YtfefjaohlhkmaaaGreatDoorKL
import Derived.Test.YtfefjaohlhkmaaaGreatDoortWB
set_option linter.unusedVariables false
set_option linter.unusedSimpArgs false
set_option maxRecDepth 10000
namespace Go.Proofs.YtfefjaohlhkmaaaGreatDoor
open Go.UL Go.RowKit
/-! spec.l03Put -/
abbrev spec_l03Put0.e1 (a1 : Rec) (x0_13 : List Rec) (x9_50 : Int) := ((!decide (((gt x0_13 x9_50).path) = a1.path)) && (!(decide (a1.kind = 3))))
abbrev spec_l03Put0.e2 (a1 : Rec) (x0_13 : List Rec) (x9_50 : Int) := ((decide (a1.path = []) && !decide (((gt x0_13 x9_50).path) = [])) || belowP ((gt x0_13 x9_50).path) a1.path)
theorem spec_l03Put0.walk {k : Nat} {w : World} {a0 : List Rec} {a1 : Rec} {v_a0 : Value} (f_a0 : Rd 5 encRec w v_a0 a0) {r : List Rec} (H : spec_l03Put0.sh k a0 a1 = some r) :
  Calls Tryz.prog 202 #[v_a0, .agg (encRec a1).toArray] w (Rt (RO 58 5 encRec w r)) := by
 unfold spec_l03Put0.sh at H
 refine calls_of_W Tryz.func202 rfl (Nat.le_of_ble_eq_true rfl) Tryz.ntmps202 rfl ?_
 refine wr <| L_box (.plain rfl) rfl (ltb rfl) rfl rfl <| fun b1 w2 z3 z4 e5 k6 => lp rfl rfl (xa (.slice none 0 0) rfl) <| nx <| W_seq <| wr <| lp rfl rfl (X_fieldAddr Tryz.underlying58 rfl Tryz.sizeOf9 rfl rfl) <| lp rfl rfl (X_loadB Tryz.isAgg9 k6 rfl rfl) ?_
 obtain ⟨c7, H⟩ := bif_some H
 refine lc rfl rfl rfl Tryz.call161 (spec_l01Parent.calls (w := w2) (a0 := a1.path) (od c7)) rfl <| fun w8 e9 => lp rfl rfl (xa (S (parentP a1.path)) rfl) <| nx <| wr <| lp rfl rfl (xm (S (parentP a1.path)) rfl) <| lp rfl rfl (X_sne rfl rfl) <| nx ?_
 obtain ⟨z10, L11, C12⟩ := bind_some H
 clear H
 refine W_cutQ (fun s0 sQ wQ => ∃ (x0_13 : List Rec) (v14 : Value), Kp [(0, 1), (6, 7), (15, 32)] s0 sQ ∧ sQ 0 = v14 ∧ Rd 5 encRec wQ v14 x0_13 ∧ Ext w8 wQ ∧ z10 = .inr x0_13) ?_ ?_
 ·have H := L11
  rcases bif_two H with ⟨q15, H⟩ | ⟨q15, H⟩
  ·refine W_true (cb q15) <| wr <| lp rfl rfl (xm v_a0 rfl) <| lp rfl rfl (xm (S (parentP a1.path)) rfl) ?_
   obtain ⟨c16, H⟩ := bif_some H
   refine lc rfl rfl rfl Tryz.call145 (spec_l03At.calls (w := w8) (a0 := a0) (a1 := (parentP a1.path)) (Rd.ext f_a0 (e5.t e9)) (od c16)) rfl <| fun w17 e18 => lp rfl rfl (xa (.int .i64 (findR a0 (parentP a1.path))) rfl) <| nx <| wr <| lp rfl rfl (xm (.int .i64 (findR a0 (parentP a1.path))) rfl) <| lp rfl rfl (X_lss rfl rfl) <| lp rfl rfl (xm (.bool (decide ((findR a0 (parentP a1.path)) < 0))) rfl) ?_
   obtain ⟨z20, x21, H⟩ := bind_some H
   refine L_grpE 7 [(21, 28)] 27 (fun q => q = z20) ?_ ?_
   ·rcases bif_two x21 with ⟨b18_, H⟩ | ⟨b18_, H⟩
    ·refine ls rfl rfl rfl (cb b18_) rfl <| ls rfl rfl rfl (cb b18_) rfl <| ls rfl rfl rfl (cb b18_) rfl <| ls rfl rfl rfl (cb b18_) rfl <| ls rfl rfl rfl (cb b18_) rfl <| ls rfl rfl rfl (cb b18_) rfl <| lp rfl rfl (X_pick (b := true) (v := (.bool true)) (cb b18_) rfl) ?_
     obtain rfl := si H
     exact nx ⟨(ku3 (ku4 kz rfl) rfl), ⟨_, rfl, rfl⟩, er⟩
    ·refine lg rfl rfl rfl rfl (cb b18_) (xm v_a0 rfl) <| lg rfl rfl rfl rfl (cb b18_) (xm (.int .i64 (findR a0 (parentP a1.path))) rfl) ?_
     obtain ⟨c20, H⟩ := bif_some H
     refine L_idx (tg rfl rfl rfl (cb b18_)) rfl (ltb rfl) rfl Tryz.underlying35 Tryz.sizeOf58 rfl (Rd.ext f_a0 ((e5.t e9).t e18)) rfl c20 <| fun p21 h22 => lg rfl rfl rfl rfl (cb b18_) (X_fieldAddr Tryz.underlying58 rfl Tryz.sizeOf3 rfl rfl) <| lg rfl rfl rfl rfl (cb b18_) (X_loadF Tryz.isAgg3 (j := 0) h22 rfl rfl) <| lg rfl rfl rfl rfl (cb b18_) (X_neq rfl rfl) <| lp rfl rfl (X_pick (b := false) (v := (.bool (!decide (((gt a0 (findR a0 (parentP a1.path))).kind) = 3)))) (cb b18_) rfl) ?_
     obtain rfl := si H
     exact nx ⟨(ku3 (ku4 kz rfl) rfl), ⟨_, rfl, rfl⟩, er⟩
   intro s26 w22 z27 K23 hq h24 e25
   rw [hq] at h24; clear hq
   refine nx ?_
   rcases bif_two H with ⟨q28, H⟩ | ⟨q28, H⟩
   ·refine W_true (h24.trans (cb q28)) <| W_reg <| lp rfl rfl (xm v_a0 (K23 0 rfl)) <| lp rfl rfl (xm (S (parentP a1.path)) (K23 5 rfl)) <| lp rfl rfl (X_build1 (vs := [(0, (.int .i64 3)), (1, (S (parentP a1.path))), (3, (.int .i64 493))]) (pl := #[(0, 1), (1, 1), (2, 1), (3, 1), (4, 1)]) Tryz.underlying58 Tryz.zeroValue58 rfl (fun _ => by kernel_rfl) rfl rfl rfl) ?_
    obtain ⟨c29, H⟩ := bif_some H
    refine L_callO (.plain rfl) rfl (ltb rfl) rfl Tryz.call202 (spec_l03PutF.calls (w := w22) (a0 := a0) (a1 := (⟨3, (parentP a1.path), ([] : List UInt8), 493, false⟩ : Rec)) (Rd.ext f_a0 (((e5.t e9).t e18).t e25)) (od c29)) rfl <| fun v32 w30 e31 o33 => lp rfl rfl (xa v32 rfl) <| nx ?_
    obtain rfl := si H
    exact ⟨([] : List Rec), v32, (ku1 (ku4 (Kp.cut (ku3 (ku4 kz rfl) rfl) K23 rfl) rfl) rfl), rfl, (Ow.rd o33), ((e18.t e25).t e31), rfl⟩
   ·refine W_false (h24.trans (cb q28)) <| W_skip <| thn_n ?_
    obtain rfl := si H
    exact ⟨a0, v_a0, (Kp.cut (ku3 (ku4 kz rfl) rfl) K23 rfl), (K23 0 rfl), (Rd.ext f_a0 (((e5.t e9).t e18).t e25)), (e18.t e25), rfl⟩
  ·refine W_false (cb q15) <| W_skip <| thn_n ?_
   obtain rfl := si H
   exact ⟨a0, v_a0, kz, rfl, (Rd.ext f_a0 (e5.t e9)), er, rfl⟩
 ·rintro s35 w34 ⟨x0_13, v14, K36, h39, h40, e37, y38⟩
  rw [y38] at C12
  have H := C12
  refine thn_n <| wr <| L_lit (.plain rfl) rfl (ltb rfl) rfl Tryz.underlying35 Tryz.sizeOf58 Tryz.zeroValue58 rfl rfl rfl (vs := []) rfl (lit_all rfl) <| fun b41 w42 z43 z44 e45 k46 => lp rfl rfl (xa (.slice (some ⟨b41, 0, none⟩) 0 0) rfl) <| nx <| wr <| lp rfl rfl (xa (.bool false) rfl) <| nx <| W_seq <| wr <| lp rfl rfl (xa (.int .i64 0) rfl) <| nx ?_
  obtain ⟨z51, L52, C53⟩ := bind_some H
  clear H
  refine  W_cutQ (fun s0 sQ wQ => ∃ (x7_54 : List Rec) (v55 : Value) (x8_56 : Bool), Kp [(7, 10), (33, 86)] s0 sQ ∧ sQ 7 = v55 ∧ Ow 58 5 encRec w42.heap.size wQ v55 x7_54 ∧ sQ 8 = .bool x8_56 ∧ Ext w42 wQ ∧ z51 = .inr (x7_54, x8_56)) ?_ ?_
  ·refine W_block <| W_loopI (fun s0 kk sQ wQ => ∃ (x7_47 : List Rec) (v48 : Value) (x8_49 : Bool) (x9_50 : Int), Kp [(7, 10), (33, 86)] s0 sQ ∧ sQ 7 = v48 ∧ Ow 58 5 encRec w42.heap.size wQ v48 x7_47 ∧ sQ 8 = .bool x8_49 ∧ sQ 9 = .int .i64 x9_50 ∧ Ext w42 wQ ∧ loopF (spec_l03Put0.b1 a1 x0_13) kk (x7_47, x8_49, x9_50) = some z51) k ⟨([] : List Rec), (.slice (some ⟨b41, 0, none⟩) 0 0), false, 0, kz, rfl, (Ow.zero), rfl, rfl, er, L52⟩ ?_
   rintro k61 s62 w63 ⟨x7_47, v48, x8_49, x9_50, K64, h67, h68, h69, h70, e65, L66⟩
   cases k61 with
   | zero => exact absurd L66 (by simp [loopF])
   | succ k61 =>
    obtain ⟨t71, H, S72⟩ := loopF_succ L66
    clear L66
    unfold spec_l03Put0.b1 at H
    refine W_seq <| wr <| lp rfl rfl (X_move h70) <| lp rfl rfl (xm v14 ((K64 0 rfl).trans h39)) <| lp rfl rfl (X_lenR Tryz.underlying35 rfl (Rd.ext h40 (e45.t e65))) <| lp rfl rfl (X_lss rfl rfl) <| nx ?_
    rcases bif_two H with ⟨q73, H⟩ | ⟨q73, H⟩
    ·refine W_true (cb q73) <| W_skip <| thn_n <| W_seq <| W_block <| W_seq <| W_seq ?_
     obtain ⟨c74, H⟩ := bif_some H
     obtain ⟨c77, H⟩ := bif_some H
     obtain ⟨c78, H⟩ := bif_some H
     refine W_dM [LEq (.bool x8_49), LEq (.bool (!x8_49)), LEq (.bool (!x8_49)), LIf (!x8_49) (LEq (.pointer (some ⟨b1, 1, none⟩))), LIf (!x8_49) (LEq (S a1.path)), LIf (!x8_49) (LEq v14), LIf (!x8_49) (LEq (.int .i64 x9_50)), LIf (!x8_49) (LAt0 (encRec (gt x0_13 x9_50))), LIf (!x8_49) (LAt 1 (encRec (gt x0_13 x9_50))), LIf (!x8_49) (LEq (S ((gt x0_13 x9_50).path))), LIf (!x8_49) (LEq (.bool (lessL (cut 47 a1.path) (cut 47 ((gt x0_13 x9_50).path))))), LEq (.bool ((!x8_49) && (lessL (cut 47 a1.path) (cut 47 ((gt x0_13 x9_50).path)))))] (by kernel_rfl) (by kernel_rfl) ⟨qm, qm, qm, lm, lm, lm, lm, (LIf.mono LAt0.mono), (LIf.mono LAt.mono), lm, lm, qm, trivial⟩ ⟨?_, ?_, ?_, ?_, ?_, ?_, ?_, ?_, ?_, ?_, ?_, ?_, trivial⟩ ?_
     ·exact fun s x e f d u => lp rfl rfl (xm (.bool x8_49) ((f 8 rfl).trans h69)) <| se rfl rfl
     ·exact fun s x e f d u => lp rfl rfl (X_not (d 0 rfl)) <| se rfl rfl
     ·exact fun s x e f d u => lp rfl rfl (X_move (d 1 rfl)) <| se rfl rfl
     ·exact fun s x e f d u => gT rfl rfl rfl rfl (d 2 rfl) rfl fun b t => lt t rfl rfl (X_fieldAddr Tryz.underlying58 rfl Tryz.sizeOf9 rfl ((f 3 rfl).trans ((K64 3 rfl).trans (K36 3 rfl)))) <| sg rfl rfl b rfl
     ·exact fun s x e f d u => gT rfl rfl rfl rfl (d 2 rfl) rfl fun b t => lt t rfl rfl (X_loadB Tryz.isAgg9 (Blk.ext k6 ((((e9.t e37).t e45).t e65).t e)) ((d 3 rfl).1 b) rfl) <| sg rfl rfl b rfl
     ·exact fun s x e f d u => gT rfl rfl rfl rfl (d 2 rfl) rfl fun b t => lt t rfl rfl (xm v14 ((f 0 rfl).trans ((K64 0 rfl).trans h39))) <| sg rfl rfl b rfl
     ·exact fun s x e f d u => gT rfl rfl rfl rfl (d 2 rfl) rfl fun b t => lt t rfl rfl (xm (.int .i64 x9_50) ((f 9 rfl).trans h70)) <| sg rfl rfl b rfl
     ·exact fun s x e f d u => gT rfl rfl rfl rfl (d 2 rfl) rfl fun b t => L_idx t rfl (ltb rfl) rfl Tryz.underlying35 Tryz.sizeOf58 ((d 5 rfl).1 b) (Rd.ext h40 ((e45.t e65).t e)) ((d 6 rfl).1 b) (imp_take b c74) <| fun p82 h83 => sg rfl rfl b ⟨_, rfl, h83⟩
     ·intro s x e f d u
      refine gT rfl rfl rfl rfl (d 2 rfl) rfl fun b t => ?_
      obtain ⟨p84, h85, h86⟩ := ((d 7 rfl).1 b)
      exact lt t rfl rfl (X_fieldAddr Tryz.underlying58 rfl Tryz.sizeOf9 rfl h85) <| sg rfl rfl b ⟨_, rfl, h86⟩
     ·intro s x e f d u
      refine gT rfl rfl rfl rfl (d 2 rfl) rfl fun b t => ?_
      obtain ⟨p87, h88, h89⟩ := ((d 8 rfl).1 b)
      exact lt t rfl rfl (X_loadF Tryz.isAgg9 (j := 1) h89 h88 rfl) <| sg rfl rfl b rfl
     ·exact fun s x e f d u => gT rfl rfl rfl rfl (d 2 rfl) rfl fun b t => L_callP t rfl (ltb rfl) rfl Tryz.call205 (spec_l01Less.calls (w := x) (a0 := a1.path) (a1 := (gt x0_13 x9_50).path) (od (imp_take b c77)) (od (imp_take b c78))) (cons2 ((d 4 rfl).1 b) (cons2 ((d 9 rfl).1 b) rfl)) <| fun w92 e93 => sgx rfl rfl b e93 rfl
     ·exact fun s x e f d u => lp rfl rfl (X_pickA (d 2 rfl) rfl fun h => ((d 10 rfl).1 h)) <| se rfl rfl
     intro s94 w95 e96 hf97 ha98
     have K99 := Kp.ofD (kp := [(39, 51)]) rfl hf97
     have d100 : s94 50 = (.bool ((!x8_49) && (lessL (cut 47 a1.path) (cut 47 ((gt x0_13 x9_50).path))))) := ha98 11 rfl
     clear ha98 hf97
     refine thn_n ?_
     obtain ⟨z101, L102, C103⟩ := bind_some H
     clear H
     refine W_cutQ (fun s0 sQ wQ => ∃ (x7_104 : List Rec) (v105 : Value) (x8_106 : Bool), Kp [(7, 9), (51, 55)] s0 sQ ∧ sQ 7 = v105 ∧ Ow 58 5 encRec w42.heap.size wQ v105 x7_104 ∧ sQ 8 = .bool x8_106 ∧ Ext w42 wQ ∧ z101 = .inr (x7_104, x8_106)) ?_ ?_
     ·have H := L102
      rcases bif_two H with ⟨q107, H⟩ | ⟨q107, H⟩
      ·refine W_true (d100.trans (cb q107)) <| wr <| lp rfl rfl (xm v48 ((K99 7 rfl).trans h67)) <| lp rfl rfl (X_loadS Tryz.isAgg58 Tryz.sizeOf58 rfl ((K99 3 rfl).trans ((K64 3 rfl).trans (K36 3 rfl))) (Blk.at0 (Blk.ext k6 ((((e9.t e37).t e45).t e65).t e96)))) <| L_lit (.plain rfl) rfl (ltb rfl) rfl Tryz.underlying35 Tryz.sizeOf58 Tryz.zeroValue58 rfl rfl rfl (vs := [(.agg #[(.int .i64 a1.kind), (S a1.path), (S a1.body), (.int .i64 a1.mode), (.bool a1.opq)])]) rfl (lit_all rfl) <| fun b108 w109 z110 z111 e112 k113 => ?_
       obtain ⟨c114, H⟩ := bif_some H
       refine L_append (enc := encRec) (.plain rfl) rfl (ltb rfl) rfl El.t35 rfl rfl (Ow.ext h68 (e96.t e112)) (Ow.rd (Ow.new (xs := [a1]) (sz := 5) (enc := encRec) (base := w95.heap.size) k113 (Nat.le_of_eq z110) rfl (fun _ _ => by rfl) (Nat.le_of_ble_eq_true rfl))) (ones_Rec _) (od c114) (((e65.t e96).t e112)).size <| fun v115 w116 o117 z118 g119 => lp rfl rfl (xa v115 rfl) <| nx <| W_reg <| lp rfl rfl (xa (.bool true) rfl) <| nx ?_
       obtain rfl := si H
       exact ⟨x7_47 ++ ([a1] : List Rec), v115, true, (ku2 (ku4 kz rfl) rfl), rfl, o117, rfl, (g119 _ ((e65.t e96).t e112)), rfl⟩
      ·refine W_false (d100.trans (cb q107)) <| W_skip <| thn_n ?_
       obtain rfl := si H
       exact ⟨x7_47, v48, x8_49, kz, ((K99 7 rfl).trans h67), (Ow.ext h68 e96), ((K99 8 rfl).trans h69), (e65.t e96), rfl⟩
     ·rintro s121 w120 ⟨x7_104, v105, x8_106, K122, h125, h126, h127, e123, y124⟩
      rw [y124] at C103
      have H := C103
      refine thn_n <| W_seq ?_
      obtain ⟨c128, H⟩ := bif_some H
      obtain ⟨c131, H⟩ := bif_some H
      refine W_dM [LEq v14, LEq (.int .i64 x9_50), LAt0 (encRec (gt x0_13 x9_50)), LAt 1 (encRec (gt x0_13 x9_50)), LEq (S ((gt x0_13 x9_50).path)), LEq (.pointer (some ⟨b1, 1, none⟩)), LEq (S a1.path), LEq (.bool (!decide (((gt x0_13 x9_50).path) = a1.path))), LEq (.bool (!decide (((gt x0_13 x9_50).path) = a1.path))), LIf (!decide (((gt x0_13 x9_50).path) = a1.path)) (LEq (.pointer (some ⟨b1, 0, none⟩))), LIf (!decide (((gt x0_13 x9_50).path) = a1.path)) (LEq (.int .i64 a1.kind)), LIf (!decide (((gt x0_13 x9_50).path) = a1.path)) (LEq (.bool (decide (a1.kind = 3)))), LIf (!decide (((gt x0_13 x9_50).path) = a1.path)) (LEq (.bool (decide (a1.kind = 3)))), LIf (spec_l03Put0.e1 a1 x0_13 x9_50) (LEq v14), LIf (spec_l03Put0.e1 a1 x0_13 x9_50) (LEq (.int .i64 x9_50)), LIf (spec_l03Put0.e1 a1 x0_13 x9_50) (LAt0 (encRec (gt x0_13 x9_50))), LIf (spec_l03Put0.e1 a1 x0_13 x9_50) (LAt 1 (encRec (gt x0_13 x9_50))), LIf (spec_l03Put0.e1 a1 x0_13 x9_50) (LEq (S ((gt x0_13 x9_50).path))), LIf (spec_l03Put0.e1 a1 x0_13 x9_50) (LEq (.pointer (some ⟨b1, 1, none⟩))), LIf (spec_l03Put0.e1 a1 x0_13 x9_50) (LEq (S a1.path)), LIf (spec_l03Put0.e1 a1 x0_13 x9_50) (LEq (.bool (spec_l03Put0.e2 a1 x0_13 x9_50))), LIf (spec_l03Put0.e1 a1 x0_13 x9_50) (LEq (.bool (!(spec_l03Put0.e2 a1 x0_13 x9_50)))), LIf (!decide (((gt x0_13 x9_50).path) = a1.path)) (LEq (.bool ((decide (a1.kind = 3)) || (!(spec_l03Put0.e2 a1 x0_13 x9_50))))), LEq (.bool ((!decide (((gt x0_13 x9_50).path) = a1.path)) && ((decide (a1.kind = 3)) || (!(spec_l03Put0.e2 a1 x0_13 x9_50)))))] (by kernel_rfl) (by kernel_rfl) ⟨qm, qm, LAt0.mono, LAt.mono, qm, qm, qm, qm, qm, lm, lm, lm, lm, lm, lm, (LIf.mono LAt0.mono), (LIf.mono LAt.mono), lm, lm, lm, lm, lm, lm, qm, trivial⟩ ⟨?_, ?_, ?_, ?_, ?_, ?_, ?_, ?_, ?_, ?_, ?_, ?_, ?_, ?_, ?_, ?_, ?_, ?_, ?_, ?_, ?_, ?_, ?_, ?_, trivial⟩ ?_
      ·exact fun s x e f d u => lp rfl rfl (xm v14 ((f 0 rfl).trans ((K122 0 rfl).trans ((K99 0 rfl).trans ((K64 0 rfl).trans h39))))) <| se rfl rfl
      ·exact fun s x e f d u => lp rfl rfl (xm (.int .i64 x9_50) ((f 9 rfl).trans ((K122 9 rfl).trans ((K99 9 rfl).trans h70)))) <| se rfl rfl
      ·exact fun s x e f d u => L_idx (.plain rfl) rfl (ltb rfl) rfl Tryz.underlying35 Tryz.sizeOf58 (d 0 rfl) (Rd.ext h40 ((e45.t e123).t e)) (d 1 rfl) c128 <| fun p137 h138 => se rfl ⟨_, rfl, h138⟩
      ·intro s x e f d u
       obtain ⟨p139, h140, h141⟩ := (d 2 rfl)
       exact lp rfl rfl (X_fieldAddr Tryz.underlying58 rfl Tryz.sizeOf9 rfl h140) <| se rfl ⟨_, rfl, h141⟩
      ·intro s x e f d u
       obtain ⟨p142, h143, h144⟩ := (d 3 rfl)
       exact lp rfl rfl (X_loadF Tryz.isAgg9 (j := 1) h144 h143 rfl) <| se rfl rfl
      ·exact fun s x e f d u => lp rfl rfl (X_fieldAddr Tryz.underlying58 rfl Tryz.sizeOf9 rfl ((f 3 rfl).trans ((K122 3 rfl).trans ((K99 3 rfl).trans ((K64 3 rfl).trans (K36 3 rfl)))))) <| se rfl rfl
      ·exact fun s x e f d u => lp rfl rfl (X_loadB Tryz.isAgg9 (Blk.ext k6 ((((e9.t e37).t e45).t e123).t e)) (d 5 rfl) rfl) <| se rfl rfl
      ·exact fun s x e f d u => lp rfl rfl (X_sne (d 4 rfl) (d 6 rfl)) <| se rfl rfl
      ·exact fun s x e f d u => lp rfl rfl (X_move (d 7 rfl)) <| se rfl rfl
      ·exact fun s x e f d u => gT rfl rfl rfl rfl (d 8 rfl) rfl fun b t => lt t rfl rfl (X_fieldAddr Tryz.underlying58 rfl Tryz.sizeOf3 rfl ((f 3 rfl).trans ((K122 3 rfl).trans ((K99 3 rfl).trans ((K64 3 rfl).trans (K36 3 rfl)))))) <| sg rfl rfl b rfl
      ·exact fun s x e f d u => gT rfl rfl rfl rfl (d 8 rfl) rfl fun b t => lt t rfl rfl (X_loadB Tryz.isAgg3 (Blk.ext k6 ((((e9.t e37).t e45).t e123).t e)) ((d 9 rfl).1 b) rfl) <| sg rfl rfl b rfl
      ·exact fun s x e f d u => gT rfl rfl rfl rfl (d 8 rfl) rfl fun b t => lt t rfl rfl (X_eql ((d 10 rfl).1 b) rfl) <| sg rfl rfl b rfl
      ·exact fun s x e f d u => gT rfl rfl rfl rfl (d 8 rfl) rfl fun b t => lt t rfl rfl (xm (.bool (decide (a1.kind = 3))) ((d 11 rfl).1 b)) <| sg rfl rfl b rfl
      ·exact fun s x e f d u => hF rfl rfl rfl rfl (d 12 rfl) rfl fun b t => lt t rfl rfl (xm v14 ((f 0 rfl).trans ((K122 0 rfl).trans ((K99 0 rfl).trans ((K64 0 rfl).trans h39))))) <| sg rfl rfl b rfl
      ·exact fun s x e f d u => hF rfl rfl rfl rfl (d 12 rfl) rfl fun b t => lt t rfl rfl (xm (.int .i64 x9_50) ((f 9 rfl).trans ((K122 9 rfl).trans ((K99 9 rfl).trans h70)))) <| sg rfl rfl b rfl
      ·exact fun s x e f d u => hF rfl rfl rfl rfl (d 12 rfl) rfl fun b t => L_idx t rfl (ltb rfl) rfl Tryz.underlying35 Tryz.sizeOf58 ((d 13 rfl).1 (and_mk (and_l b) (not_mk (not_f (and_r b))))) (Rd.ext h40 ((e45.t e123).t e)) ((d 14 rfl).1 (and_mk (and_l b) (not_mk (not_f (and_r b))))) (imp_take b c131) <| fun p146 h147 => sg rfl rfl b ⟨_, rfl, h147⟩
      ·intro s x e f d u
       refine hF rfl rfl rfl rfl (d 12 rfl) rfl fun b t => ?_
       obtain ⟨p148, h149, h150⟩ := ((d 15 rfl).1 (and_mk (and_l b) (not_mk (not_f (and_r b)))))
       exact lt t rfl rfl (X_fieldAddr Tryz.underlying58 rfl Tryz.sizeOf9 rfl h149) <| sg rfl rfl b ⟨_, rfl, h150⟩
      ·intro s x e f d u
       refine hF rfl rfl rfl rfl (d 12 rfl) rfl fun b t => ?_
       obtain ⟨p151, h152, h153⟩ := ((d 16 rfl).1 (and_mk (and_l b) (not_mk (not_f (and_r b)))))
       exact lt t rfl rfl (X_loadF Tryz.isAgg9 (j := 1) h153 h152 rfl) <| sg rfl rfl b rfl
      ·exact fun s x e f d u => hF rfl rfl rfl rfl (d 12 rfl) rfl fun b t => lt t rfl rfl (X_fieldAddr Tryz.underlying58 rfl Tryz.sizeOf9 rfl ((f 3 rfl).trans ((K122 3 rfl).trans ((K99 3 rfl).trans ((K64 3 rfl).trans (K36 3 rfl)))))) <| sg rfl rfl b rfl
      ·exact fun s x e f d u => hF rfl rfl rfl rfl (d 12 rfl) rfl fun b t => lt t rfl rfl (X_loadB Tryz.isAgg9 (Blk.ext k6 ((((e9.t e37).t e45).t e123).t e)) ((d 18 rfl).1 (and_mk (and_l b) (not_mk (not_f (and_r b))))) rfl) <| sg rfl rfl b rfl
      ·exact fun s x e f d u => hF rfl rfl rfl rfl (d 12 rfl) rfl fun b t => L_callP t rfl (ltb rfl) rfl Tryz.call171 (spec_l01Below.calls (w := x) (a0 := (gt x0_13 x9_50).path) (a1 := a1.path)) (cons2 ((d 17 rfl).1 (and_mk (and_l b) (not_mk (not_f (and_r b))))) (cons2 ((d 19 rfl).1 (and_mk (and_l b) (not_mk (not_f (and_r b))))) rfl)) <| fun w154 e155 => sgx rfl rfl b e155 rfl
      ·exact fun s x e f d u => hF rfl rfl rfl rfl (d 12 rfl) rfl fun b t => lt t rfl rfl (X_not ((d 20 rfl).1 (and_mk (and_l b) (not_mk (not_f (and_r b)))))) <| sg rfl rfl b rfl
      ·exact fun s x e f d u => gT rfl rfl rfl rfl (d 8 rfl) rfl fun b t => lt t rfl rfl (X_pickO ((d 12 rfl).1 b) rfl fun h => ((d 21 rfl).1 (and_mk b (not_mk h)))) <| sg rfl rfl b rfl
      ·exact fun s x e f d u => lp rfl rfl (X_pickA (d 8 rfl) rfl fun h => ((d 22 rfl).1 h)) <| se rfl rfl
      intro s156 w157 e158 hf159 ha160
      have K161 := Kp.ofD (kp := [(55, 79)]) rfl hf159
      have d162 : s156 78 = (.bool ((!decide (((gt x0_13 x9_50).path) = a1.path)) && ((decide (a1.kind = 3)) || (!(spec_l03Put0.e2 a1 x0_13 x9_50))))) := ha160 23 rfl
      clear ha160 hf159
      refine thn_n ?_
      rcases bif_two H with ⟨q163, H⟩ | ⟨q163, H⟩
      ·refine W_true (d162.trans (cb q163)) <| W_reg <| lp rfl rfl (xm v105 ((K161 7 rfl).trans h125)) <| lp rfl rfl (xm v14 ((K161 0 rfl).trans ((K122 0 rfl).trans ((K99 0 rfl).trans ((K64 0 rfl).trans h39))))) <| lp rfl rfl (xm (.int .i64 x9_50) ((K161 9 rfl).trans ((K122 9 rfl).trans ((K99 9 rfl).trans h70)))) ?_
       obtain ⟨c164, H⟩ := bif_some H
       refine L_idx (.plain rfl) rfl (ltb rfl) rfl Tryz.underlying35 Tryz.sizeOf58 rfl (Rd.ext h40 ((e45.t e123).t e158)) rfl c164 <| fun p165 h166 => lp rfl rfl (X_loadS Tryz.isAgg58 Tryz.sizeOf58 rfl rfl h166) <| L_lit (.plain rfl) rfl (ltb rfl) rfl Tryz.underlying35 Tryz.sizeOf58 Tryz.zeroValue58 rfl rfl rfl (vs := [(.agg (encRec (gt x0_13 x9_50)).toArray)]) rfl (lit_all rfl) <| fun b167 w168 z169 z170 e171 k172 => ?_
       obtain ⟨c173, H⟩ := bif_some H
       refine L_append (enc := encRec) (.plain rfl) rfl (ltb rfl) rfl El.t35 rfl rfl (Ow.ext h126 (e158.t e171)) (Ow.rd (Ow.new (xs := [gt x0_13 x9_50]) (sz := 5) (enc := encRec) (base := w157.heap.size) k172 (Nat.le_of_eq z169) rfl (fun _ _ => by rfl) (Nat.le_of_ble_eq_true rfl))) (ones_Rec _) (od c173) (((e123.t e158).t e171)).size <| fun v174 w175 o176 z177 g178 => lp rfl rfl (xa v174 rfl) <| L_nil <| blk_n <| thn_n <| W_reg <| lp rfl rfl (xm (.int .i64 x9_50) ((K161 9 rfl).trans ((K122 9 rfl).trans ((K99 9 rfl).trans h70)))) <| lp rfl rfl (X_add rfl rfl) <| lp rfl rfl (xa (.int .i64 (IntKind.wrap .i64 (x9_50 + 1))) rfl) <| nx ?_
       obtain rfl := si H
       exact ⟨_, Nat.lt_succ_self _, x7_104 ++ ([gt x0_13 x9_50] : List Rec), v174, x8_106, IntKind.wrap .i64 (x9_50 + 1), (ku3 (ku8 (Kp.cut (Kp.cut (Kp.cut (ku4 K64 rfl) K99 rfl) K122 rfl) K161 rfl) rfl) rfl), rfl, o176, ((K161 8 rfl).trans h127), rfl, (g178 _ ((e123.t e158).t e171)), S72⟩
      ·refine W_false (d162.trans (cb q163)) <| W_skip <| blk_n <| thn_n <| W_reg <| lp rfl rfl (xm (.int .i64 x9_50) ((K161 9 rfl).trans ((K122 9 rfl).trans ((K99 9 rfl).trans h70)))) <| lp rfl rfl (X_add rfl rfl) <| lp rfl rfl (xa (.int .i64 (IntKind.wrap .i64 (x9_50 + 1))) rfl) <| nx ?_
       obtain rfl := si H
       exact ⟨_, Nat.lt_succ_self _, x7_104, v105, x8_106, IntKind.wrap .i64 (x9_50 + 1), (ku3 (Kp.cut (Kp.cut (Kp.cut (ku4 K64 rfl) K99 rfl) K122 rfl) K161 rfl) rfl), ((K161 7 rfl).trans h125), (Ow.ext h126 e158), ((K161 8 rfl).trans h127), rfl, (e123.t e158), S72⟩
    ·refine W_false (cb q73) <| W_exit <| thn_x <| thn_x <| blk_x <| thn_n ?_
     obtain rfl := si H
     obtain rfl := si S72
     exact ⟨x7_47, v48, x8_49, (ku4 K64 rfl), h67, h68, h69, e65, rfl⟩
  ·rintro s58 w57 ⟨x7_54, v55, x8_56, K59, h179, h180, h181, e60, y182⟩
   rw [y182] at C53
   have H := C53
   replace H : _ = some _ := H
   refine thn_n <| W_seq <| wr <| lp rfl rfl (X_move h181) <| lp rfl rfl (X_not rfl) <| nx ?_
   rcases bif_two H with ⟨q183, H⟩ | ⟨q183, H⟩
   ·refine W_true (cb q183) <| W_reg <| lp rfl rfl (X_move h179) <| lp rfl rfl (X_loadS Tryz.isAgg58 Tryz.sizeOf58 rfl ((K59 3 rfl).trans (K36 3 rfl)) (Blk.at0 (Blk.ext k6 (((e9.t e37).t e45).t e60)))) <| L_lit (.plain rfl) rfl (ltb rfl) rfl Tryz.underlying35 Tryz.sizeOf58 Tryz.zeroValue58 rfl rfl rfl (vs := [(.agg #[(.int .i64 a1.kind), (S a1.path), (S a1.body), (.int .i64 a1.mode), (.bool a1.opq)])]) rfl (lit_all rfl) <| fun b184 w185 z186 z187 e188 k189 => ?_
    obtain ⟨c190, H⟩ := bif_some H
    refine L_append (enc := encRec) (.plain rfl) rfl (ltb rfl) rfl El.t35 rfl rfl (Ow.ext h180 e188) (Ow.rd (Ow.new (xs := [a1]) (sz := 5) (enc := encRec) (base := w57.heap.size) k189 (Nat.le_of_eq z186) rfl (fun _ _ => by rfl) (Nat.le_of_ble_eq_true rfl))) (ones_Rec _) (od c190) ((e60.t e188)).size <| fun v191 w192 o193 z194 g195 => lp rfl rfl (xa v191 rfl) <| nx <| wr <| lp rfl rfl (xm v191 rfl) <| lp rfl rfl (xa v191 rfl) <| nx <| W_ret <| fin_r ?_
    obtain rfl := si H
    exact fin1o rfl ((((e5.t e9).t e37).t e45).t (g195 _ (e60.t e188))) o193 ((((e5.t e9).t e37).t e45)).size
   ·refine W_false (cb q183) <| W_skip <| thn_n <| wr <| lp rfl rfl (X_move h179) <| lp rfl rfl (xa v55 rfl) <| nx <| W_ret <| fin_r ?_
    obtain rfl := si H
    exact fin1o rfl ((((e5.t e9).t e37).t e45).t e60) h180 ((((e5.t e9).t e37).t e45)).size
theorem spec_l03Put0.calls {w : World} {a0 : List Rec} {a1 : Rec} {v_a0 : Value} (f_a0 : Rd 5 encRec w v_a0 a0) (h0 : putOKb 0 a0 a1 = true) :
  Calls Tryz.prog 202 #[v_a0, .agg (encRec a1).toArray] w (Rt (RO 58 5 encRec w (putR 0 a0 a1))) := by
 obtain ⟨k, h⟩ := spec_l03Put0.eq a0 a1 h0
 exact spec_l03Put0.walk f_a0 h
/-! spec.l03Put -/
abbrev spec_l03Put1.e1 (a1 : Rec) (x0_13 : List Rec) (x9_50 : Int) := ((!decide (((gt x0_13 x9_50).path) = a1.path)) && (!(decide (a1.kind = 3))))
abbrev spec_l03Put1.e2 (a1 : Rec) (x0_13 : List Rec) (x9_50 : Int) := ((decide (a1.path = []) && !decide (((gt x0_13 x9_50).path) = [])) || belowP ((gt x0_13 x9_50).path) a1.path)
theorem spec_l03Put1.walk {k : Nat} {w : World} {a0 : List Rec} {a1 : Rec} {v_a0 : Value} (f_a0 : Rd 5 encRec w v_a0 a0) {r : List Rec} (H : spec_l03Put1.sh k a0 a1 = some r) :
  Calls Tryz.prog 202 #[v_a0, .agg (encRec a1).toArray] w (Rt (RO 58 5 encRec w r)) := by
 unfold spec_l03Put1.sh at H
 refine calls_of_W Tryz.func202 rfl (Nat.le_of_ble_eq_true rfl) Tryz.ntmps202 rfl ?_
 refine wr <| L_box (.plain rfl) rfl (ltb rfl) rfl rfl <| fun b1 w2 z3 z4 e5 k6 => lp rfl rfl (xa (.slice none 0 0) rfl) <| nx <| W_seq <| wr <| lp rfl rfl (X_fieldAddr Tryz.underlying58 rfl Tryz.sizeOf9 rfl rfl) <| lp rfl rfl (X_loadB Tryz.isAgg9 k6 rfl rfl) ?_
 obtain ⟨c7, H⟩ := bif_some H
 refine lc rfl rfl rfl Tryz.call161 (spec_l01Parent.calls (w := w2) (a0 := a1.path) (od c7)) rfl <| fun w8 e9 => lp rfl rfl (xa (S (parentP a1.path)) rfl) <| nx <| wr <| lp rfl rfl (xm (S (parentP a1.path)) rfl) <| lp rfl rfl (X_sne rfl rfl) <| nx ?_
 obtain ⟨z10, L11, C12⟩ := bind_some H
 clear H
 refine W_cutQ (fun s0 sQ wQ => ∃ (x0_13 : List Rec) (v14 : Value), Kp [(0, 1), (6, 7), (15, 32)] s0 sQ ∧ sQ 0 = v14 ∧ Rd 5 encRec wQ v14 x0_13 ∧ Ext w8 wQ ∧ z10 = .inr x0_13) ?_ ?_
 ·have H := L11
  rcases bif_two H with ⟨q15, H⟩ | ⟨q15, H⟩
  ·refine W_true (cb q15) <| wr <| lp rfl rfl (xm v_a0 rfl) <| lp rfl rfl (xm (S (parentP a1.path)) rfl) ?_
   obtain ⟨c16, H⟩ := bif_some H
   refine lc rfl rfl rfl Tryz.call145 (spec_l03At.calls (w := w8) (a0 := a0) (a1 := (parentP a1.path)) (Rd.ext f_a0 (e5.t e9)) (od c16)) rfl <| fun w17 e18 => lp rfl rfl (xa (.int .i64 (findR a0 (parentP a1.path))) rfl) <| nx <| wr <| lp rfl rfl (xm (.int .i64 (findR a0 (parentP a1.path))) rfl) <| lp rfl rfl (X_lss rfl rfl) <| lp rfl rfl (xm (.bool (decide ((findR a0 (parentP a1.path)) < 0))) rfl) ?_
   obtain ⟨z20, x21, H⟩ := bind_some H
   refine L_grpE 7 [(21, 28)] 27 (fun q => q = z20) ?_ ?_
   ·rcases bif_two x21 with ⟨b18_, H⟩ | ⟨b18_, H⟩
    ·refine ls rfl rfl rfl (cb b18_) rfl <| ls rfl rfl rfl (cb b18_) rfl <| ls rfl rfl rfl (cb b18_) rfl <| ls rfl rfl rfl (cb b18_) rfl <| ls rfl rfl rfl (cb b18_) rfl <| ls rfl rfl rfl (cb b18_) rfl <| lp rfl rfl (X_pick (b := true) (v := (.bool true)) (cb b18_) rfl) ?_
     obtain rfl := si H
     exact nx ⟨(ku3 (ku4 kz rfl) rfl), ⟨_, rfl, rfl⟩, er⟩
    ·refine lg rfl rfl rfl rfl (cb b18_) (xm v_a0 rfl) <| lg rfl rfl rfl rfl (cb b18_) (xm (.int .i64 (findR a0 (parentP a1.path))) rfl) ?_
     obtain ⟨c20, H⟩ := bif_some H
     refine L_idx (tg rfl rfl rfl (cb b18_)) rfl (ltb rfl) rfl Tryz.underlying35 Tryz.sizeOf58 rfl (Rd.ext f_a0 ((e5.t e9).t e18)) rfl c20 <| fun p21 h22 => lg rfl rfl rfl rfl (cb b18_) (X_fieldAddr Tryz.underlying58 rfl Tryz.sizeOf3 rfl rfl) <| lg rfl rfl rfl rfl (cb b18_) (X_loadF Tryz.isAgg3 (j := 0) h22 rfl rfl) <| lg rfl rfl rfl rfl (cb b18_) (X_neq rfl rfl) <| lp rfl rfl (X_pick (b := false) (v := (.bool (!decide (((gt a0 (findR a0 (parentP a1.path))).kind) = 3)))) (cb b18_) rfl) ?_
     obtain rfl := si H
     exact nx ⟨(ku3 (ku4 kz rfl) rfl), ⟨_, rfl, rfl⟩, er⟩
   intro s26 w22 z27 K23 hq h24 e25
   rw [hq] at h24; clear hq
   refine nx ?_
   rcases bif_two H with ⟨q28, H⟩ | ⟨q28, H⟩
   ·refine W_true (h24.trans (cb q28)) <| W_reg <| lp rfl rfl (xm v_a0 (K23 0 rfl)) <| lp rfl rfl (xm (S (parentP a1.path)) (K23 5 rfl)) <| lp rfl rfl (X_build1 (vs := [(0, (.int .i64 3)), (1, (S (parentP a1.path))), (3, (.int .i64 493))]) (pl := #[(0, 1), (1, 1), (2, 1), (3, 1), (4, 1)]) Tryz.underlying58 Tryz.zeroValue58 rfl (fun _ => by kernel_rfl) rfl rfl rfl) ?_
    obtain ⟨c29, H⟩ := bif_some H
    refine L_callO (.plain rfl) rfl (ltb rfl) rfl Tryz.call202 (spec_l03Put0.calls (w := w22) (a0 := a0) (a1 := (⟨3, (parentP a1.path), ([] : List UInt8), 493, false⟩ : Rec)) (Rd.ext f_a0 (((e5.t e9).t e18).t e25)) (od c29)) rfl <| fun v32 w30 e31 o33 => lp rfl rfl (xa v32 rfl) <| nx ?_
    obtain rfl := si H
    exact ⟨(putR 0 a0 (⟨3, (parentP a1.path), ([] : List UInt8), 493, false⟩ : Rec)), v32, (ku1 (ku4 (Kp.cut (ku3 (ku4 kz rfl) rfl) K23 rfl) rfl) rfl), rfl, (Ow.rd o33), ((e18.t e25).t e31), rfl⟩
   ·refine W_false (h24.trans (cb q28)) <| W_skip <| thn_n ?_
    obtain rfl := si H
    exact ⟨a0, v_a0, (Kp.cut (ku3 (ku4 kz rfl) rfl) K23 rfl), (K23 0 rfl), (Rd.ext f_a0 (((e5.t e9).t e18).t e25)), (e18.t e25), rfl⟩
  ·refine W_false (cb q15) <| W_skip <| thn_n ?_
   obtain rfl := si H
   exact ⟨a0, v_a0, kz, rfl, (Rd.ext f_a0 (e5.t e9)), er, rfl⟩
 ·rintro s35 w34 ⟨x0_13, v14, K36, h39, h40, e37, y38⟩
  rw [y38] at C12
  have H := C12
  refine thn_n <| wr <| L_lit (.plain rfl) rfl (ltb rfl) rfl Tryz.underlying35 Tryz.sizeOf58 Tryz.zeroValue58 rfl rfl rfl (vs := []) rfl (lit_all rfl) <| fun b41 w42 z43 z44 e45 k46 => lp rfl rfl (xa (.slice (some ⟨b41, 0, none⟩) 0 0) rfl) <| nx <| wr <| lp rfl rfl (xa (.bool false) rfl) <| nx <| W_seq <| wr <| lp rfl rfl (xa (.int .i64 0) rfl) <| nx ?_
  obtain ⟨z51, L52, C53⟩ := bind_some H
  clear H
  refine  W_cutQ (fun s0 sQ wQ => ∃ (x7_54 : List Rec) (v55 : Value) (x8_56 : Bool), Kp [(7, 10), (33, 86)] s0 sQ ∧ sQ 7 = v55 ∧ Ow 58 5 encRec w42.heap.size wQ v55 x7_54 ∧ sQ 8 = .bool x8_56 ∧ Ext w42 wQ ∧ z51 = .inr (x7_54, x8_56)) ?_ ?_
  ·refine W_block <| W_loopI (fun s0 kk sQ wQ => ∃ (x7_47 : List Rec) (v48 : Value) (x8_49 : Bool) (x9_50 : Int), Kp [(7, 10), (33, 86)] s0 sQ ∧ sQ 7 = v48 ∧ Ow 58 5 encRec w42.heap.size wQ v48 x7_47 ∧ sQ 8 = .bool x8_49 ∧ sQ 9 = .int .i64 x9_50 ∧ Ext w42 wQ ∧ loopF (spec_l03Put1.b1 a1 x0_13) kk (x7_47, x8_49, x9_50) = some z51) k ⟨([] : List Rec), (.slice (some ⟨b41, 0, none⟩) 0 0), false, 0, kz, rfl, (Ow.zero), rfl, rfl, er, L52⟩ ?_
   rintro k61 s62 w63 ⟨x7_47, v48, x8_49, x9_50, K64, h67, h68, h69, h70, e65, L66⟩
   cases k61 with
   | zero => exact absurd L66 (by simp [loopF])
   | succ k61 =>
    obtain ⟨t71, H, S72⟩ := loopF_succ L66
    clear L66
    unfold spec_l03Put1.b1 at H
    refine W_seq <| wr <| lp rfl rfl (X_move h70) <| lp rfl rfl (xm v14 ((K64 0 rfl).trans h39)) <| lp rfl rfl (X_lenR Tryz.underlying35 rfl (Rd.ext h40 (e45.t e65))) <| lp rfl rfl (X_lss rfl rfl) <| nx ?_
    rcases bif_two H with ⟨q73, H⟩ | ⟨q73, H⟩
    ·refine W_true (cb q73) <| W_skip <| thn_n <| W_seq <| W_block <| W_seq <| W_seq ?_
     obtain ⟨c74, H⟩ := bif_some H
     obtain ⟨c77, H⟩ := bif_some H
     obtain ⟨c78, H⟩ := bif_some H
     refine W_dM [LEq (.bool x8_49), LEq (.bool (!x8_49)), LEq (.bool (!x8_49)), LIf (!x8_49) (LEq (.pointer (some ⟨b1, 1, none⟩))), LIf (!x8_49) (LEq (S a1.path)), LIf (!x8_49) (LEq v14), LIf (!x8_49) (LEq (.int .i64 x9_50)), LIf (!x8_49) (LAt0 (encRec (gt x0_13 x9_50))), LIf (!x8_49) (LAt 1 (encRec (gt x0_13 x9_50))), LIf (!x8_49) (LEq (S ((gt x0_13 x9_50).path))), LIf (!x8_49) (LEq (.bool (lessL (cut 47 a1.path) (cut 47 ((gt x0_13 x9_50).path))))), LEq (.bool ((!x8_49) && (lessL (cut 47 a1.path) (cut 47 ((gt x0_13 x9_50).path)))))] (by kernel_rfl) (by kernel_rfl) ⟨qm, qm, qm, lm, lm, lm, lm, (LIf.mono LAt0.mono), (LIf.mono LAt.mono), lm, lm, qm, trivial⟩ ⟨?_, ?_, ?_, ?_, ?_, ?_, ?_, ?_, ?_, ?_, ?_, ?_, trivial⟩ ?_
     ·exact fun s x e f d u => lp rfl rfl (xm (.bool x8_49) ((f 8 rfl).trans h69)) <| se rfl rfl
     ·exact fun s x e f d u => lp rfl rfl (X_not (d 0 rfl)) <| se rfl rfl
     ·exact fun s x e f d u => lp rfl rfl (X_move (d 1 rfl)) <| se rfl rfl
     ·exact fun s x e f d u => gT rfl rfl rfl rfl (d 2 rfl) rfl fun b t => lt t rfl rfl (X_fieldAddr Tryz.underlying58 rfl Tryz.sizeOf9 rfl ((f 3 rfl).trans ((K64 3 rfl).trans (K36 3 rfl)))) <| sg rfl rfl b rfl
     ·exact fun s x e f d u => gT rfl rfl rfl rfl (d 2 rfl) rfl fun b t => lt t rfl rfl (X_loadB Tryz.isAgg9 (Blk.ext k6 ((((e9.t e37).t e45).t e65).t e)) ((d 3 rfl).1 b) rfl) <| sg rfl rfl b rfl
     ·exact fun s x e f d u => gT rfl rfl rfl rfl (d 2 rfl) rfl fun b t => lt t rfl rfl (xm v14 ((f 0 rfl).trans ((K64 0 rfl).trans h39))) <| sg rfl rfl b rfl
     ·exact fun s x e f d u => gT rfl rfl rfl rfl (d 2 rfl) rfl fun b t => lt t rfl rfl (xm (.int .i64 x9_50) ((f 9 rfl).trans h70)) <| sg rfl rfl b rfl
     ·exact fun s x e f d u => gT rfl rfl rfl rfl (d 2 rfl) rfl fun b t => L_idx t rfl (ltb rfl) rfl Tryz.underlying35 Tryz.sizeOf58 ((d 5 rfl).1 b) (Rd.ext h40 ((e45.t e65).t e)) ((d 6 rfl).1 b) (imp_take b c74) <| fun p82 h83 => sg rfl rfl b ⟨_, rfl, h83⟩
     ·intro s x e f d u
      refine gT rfl rfl rfl rfl (d 2 rfl) rfl fun b t => ?_
      obtain ⟨p84, h85, h86⟩ := ((d 7 rfl).1 b)
      exact lt t rfl rfl (X_fieldAddr Tryz.underlying58 rfl Tryz.sizeOf9 rfl h85) <| sg rfl rfl b ⟨_, rfl, h86⟩
     ·intro s x e f d u
      refine gT rfl rfl rfl rfl (d 2 rfl) rfl fun b t => ?_
      obtain ⟨p87, h88, h89⟩ := ((d 8 rfl).1 b)
      exact lt t rfl rfl (X_loadF Tryz.isAgg9 (j := 1) h89 h88 rfl) <| sg rfl rfl b rfl
     ·exact fun s x e f d u => gT rfl rfl rfl rfl (d 2 rfl) rfl fun b t => L_callP t rfl (ltb rfl) rfl Tryz.call205 (spec_l01Less.calls (w := x) (a0 := a1.path) (a1 := (gt x0_13 x9_50).path) (od (imp_take b c77)) (od (imp_take b c78))) (cons2 ((d 4 rfl).1 b) (cons2 ((d 9 rfl).1 b) rfl)) <| fun w92 e93 => sgx rfl rfl b e93 rfl
     ·exact fun s x e f d u => lp rfl rfl (X_pickA (d 2 rfl) rfl fun h => ((d 10 rfl).1 h)) <| se rfl rfl
     intro s94 w95 e96 hf97 ha98
     have K99 := Kp.ofD (kp := [(39, 51)]) rfl hf97
     have d100 : s94 50 = (.bool ((!x8_49) && (lessL (cut 47 a1.path) (cut 47 ((gt x0_13 x9_50).path))))) := ha98 11 rfl
     clear ha98 hf97
     refine thn_n ?_
     obtain ⟨z101, L102, C103⟩ := bind_some H
     clear H
     refine W_cutQ (fun s0 sQ wQ => ∃ (x7_104 : List Rec) (v105 : Value) (x8_106 : Bool), Kp [(7, 9), (51, 55)] s0 sQ ∧ sQ 7 = v105 ∧ Ow 58 5 encRec w42.heap.size wQ v105 x7_104 ∧ sQ 8 = .bool x8_106 ∧ Ext w42 wQ ∧ z101 = .inr (x7_104, x8_106)) ?_ ?_
     ·have H := L102
      rcases bif_two H with ⟨q107, H⟩ | ⟨q107, H⟩
      ·refine W_true (d100.trans (cb q107)) <| wr <| lp rfl rfl (xm v48 ((K99 7 rfl).trans h67)) <| lp rfl rfl (X_loadS Tryz.isAgg58 Tryz.sizeOf58 rfl ((K99 3 rfl).trans ((K64 3 rfl).trans (K36 3 rfl))) (Blk.at0 (Blk.ext k6 ((((e9.t e37).t e45).t e65).t e96)))) <| L_lit (.plain rfl) rfl (ltb rfl) rfl Tryz.underlying35 Tryz.sizeOf58 Tryz.zeroValue58 rfl rfl rfl (vs := [(.agg #[(.int .i64 a1.kind), (S a1.path), (S a1.body), (.int .i64 a1.mode), (.bool a1.opq)])]) rfl (lit_all rfl) <| fun b108 w109 z110 z111 e112 k113 => ?_
       obtain ⟨c114, H⟩ := bif_some H
       refine L_append (enc := encRec) (.plain rfl) rfl (ltb rfl) rfl El.t35 rfl rfl (Ow.ext h68 (e96.t e112)) (Ow.rd (Ow.new (xs := [a1]) (sz := 5) (enc := encRec) (base := w95.heap.size) k113 (Nat.le_of_eq z110) rfl (fun _ _ => by rfl) (Nat.le_of_ble_eq_true rfl))) (ones_Rec _) (od c114) (((e65.t e96).t e112)).size <| fun v115 w116 o117 z118 g119 => lp rfl rfl (xa v115 rfl) <| nx <| W_reg <| lp rfl rfl (xa (.bool true) rfl) <| nx ?_
       obtain rfl := si H
       exact ⟨x7_47 ++ ([a1] : List Rec), v115, true, (ku2 (ku4 kz rfl) rfl), rfl, o117, rfl, (g119 _ ((e65.t e96).t e112)), rfl⟩
      ·refine W_false (d100.trans (cb q107)) <| W_skip <| thn_n ?_
       obtain rfl := si H
       exact ⟨x7_47, v48, x8_49, kz, ((K99 7 rfl).trans h67), (Ow.ext h68 e96), ((K99 8 rfl).trans h69), (e65.t e96), rfl⟩
     ·rintro s121 w120 ⟨x7_104, v105, x8_106, K122, h125, h126, h127, e123, y124⟩
      rw [y124] at C103
      have H := C103
      refine thn_n <| W_seq ?_
      obtain ⟨c128, H⟩ := bif_some H
      obtain ⟨c131, H⟩ := bif_some H
      refine W_dM [LEq v14, LEq (.int .i64 x9_50), LAt0 (encRec (gt x0_13 x9_50)), LAt 1 (encRec (gt x0_13 x9_50)), LEq (S ((gt x0_13 x9_50).path)), LEq (.pointer (some ⟨b1, 1, none⟩)), LEq (S a1.path), LEq (.bool (!decide (((gt x0_13 x9_50).path) = a1.path))), LEq (.bool (!decide (((gt x0_13 x9_50).path) = a1.path))), LIf (!decide (((gt x0_13 x9_50).path) = a1.path)) (LEq (.pointer (some ⟨b1, 0, none⟩))), LIf (!decide (((gt x0_13 x9_50).path) = a1.path)) (LEq (.int .i64 a1.kind)), LIf (!decide (((gt x0_13 x9_50).path) = a1.path)) (LEq (.bool (decide (a1.kind = 3)))), LIf (!decide (((gt x0_13 x9_50).path) = a1.path)) (LEq (.bool (decide (a1.kind = 3)))), LIf (spec_l03Put1.e1 a1 x0_13 x9_50) (LEq v14), LIf (spec_l03Put1.e1 a1 x0_13 x9_50) (LEq (.int .i64 x9_50)), LIf (spec_l03Put1.e1 a1 x0_13 x9_50) (LAt0 (encRec (gt x0_13 x9_50))), LIf (spec_l03Put1.e1 a1 x0_13 x9_50) (LAt 1 (encRec (gt x0_13 x9_50))), LIf (spec_l03Put1.e1 a1 x0_13 x9_50) (LEq (S ((gt x0_13 x9_50).path))), LIf (spec_l03Put1.e1 a1 x0_13 x9_50) (LEq (.pointer (some ⟨b1, 1, none⟩))), LIf (spec_l03Put1.e1 a1 x0_13 x9_50) (LEq (S a1.path)), LIf (spec_l03Put1.e1 a1 x0_13 x9_50) (LEq (.bool (spec_l03Put1.e2 a1 x0_13 x9_50))), LIf (spec_l03Put1.e1 a1 x0_13 x9_50) (LEq (.bool (!(spec_l03Put1.e2 a1 x0_13 x9_50)))), LIf (!decide (((gt x0_13 x9_50).path) = a1.path)) (LEq (.bool ((decide (a1.kind = 3)) || (!(spec_l03Put1.e2 a1 x0_13 x9_50))))), LEq (.bool ((!decide (((gt x0_13 x9_50).path) = a1.path)) && ((decide (a1.kind = 3)) || (!(spec_l03Put1.e2 a1 x0_13 x9_50)))))] (by kernel_rfl) (by kernel_rfl) ⟨qm, qm, LAt0.mono, LAt.mono, qm, qm, qm, qm, qm, lm, lm, lm, lm, lm, lm, (LIf.mono LAt0.mono), (LIf.mono LAt.mono), lm, lm, lm, lm, lm, lm, qm, trivial⟩ ⟨?_, ?_, ?_, ?_, ?_, ?_, ?_, ?_, ?_, ?_, ?_, ?_, ?_, ?_, ?_, ?_, ?_, ?_, ?_, ?_, ?_, ?_, ?_, ?_, trivial⟩ ?_
      ·exact fun s x e f d u => lp rfl rfl (xm v14 ((f 0 rfl).trans ((K122 0 rfl).trans ((K99 0 rfl).trans ((K64 0 rfl).trans h39))))) <| se rfl rfl
      ·exact fun s x e f d u => lp rfl rfl (xm (.int .i64 x9_50) ((f 9 rfl).trans ((K122 9 rfl).trans ((K99 9 rfl).trans h70)))) <| se rfl rfl
      ·exact fun s x e f d u => L_idx (.plain rfl) rfl (ltb rfl) rfl Tryz.underlying35 Tryz.sizeOf58 (d 0 rfl) (Rd.ext h40 ((e45.t e123).t e)) (d 1 rfl) c128 <| fun p137 h138 => se rfl ⟨_, rfl, h138⟩
      ·intro s x e f d u
       obtain ⟨p139, h140, h141⟩ := (d 2 rfl)
       exact lp rfl rfl (X_fieldAddr Tryz.underlying58 rfl Tryz.sizeOf9 rfl h140) <| se rfl ⟨_, rfl, h141⟩
      ·intro s x e f d u
       obtain ⟨p142, h143, h144⟩ := (d 3 rfl)
       exact lp rfl rfl (X_loadF Tryz.isAgg9 (j := 1) h144 h143 rfl) <| se rfl rfl
      ·exact fun s x e f d u => lp rfl rfl (X_fieldAddr Tryz.underlying58 rfl Tryz.sizeOf9 rfl ((f 3 rfl).trans ((K122 3 rfl).trans ((K99 3 rfl).trans ((K64 3 rfl).trans (K36 3 rfl)))))) <| se rfl rfl
      ·exact fun s x e f d u => lp rfl rfl (X_loadB Tryz.isAgg9 (Blk.ext k6 ((((e9.t e37).t e45).t e123).t e)) (d 5 rfl) rfl) <| se rfl rfl
      ·exact fun s x e f d u => lp rfl rfl (X_sne (d 4 rfl) (d 6 rfl)) <| se rfl rfl
      ·exact fun s x e f d u => lp rfl rfl (X_move (d 7 rfl)) <| se rfl rfl
      ·exact fun s x e f d u => gT rfl rfl rfl rfl (d 8 rfl) rfl fun b t => lt t rfl rfl (X_fieldAddr Tryz.underlying58 rfl Tryz.sizeOf3 rfl ((f 3 rfl).trans ((K122 3 rfl).trans ((K99 3 rfl).trans ((K64 3 rfl).trans (K36 3 rfl)))))) <| sg rfl rfl b rfl
      ·exact fun s x e f d u => gT rfl rfl rfl rfl (d 8 rfl) rfl fun b t => lt t rfl rfl (X_loadB Tryz.isAgg3 (Blk.ext k6 ((((e9.t e37).t e45).t e123).t e)) ((d 9 rfl).1 b) rfl) <| sg rfl rfl b rfl
      ·exact fun s x e f d u => gT rfl rfl rfl rfl (d 8 rfl) rfl fun b t => lt t rfl rfl (X_eql ((d 10 rfl).1 b) rfl) <| sg rfl rfl b rfl
      ·exact fun s x e f d u => gT rfl rfl rfl rfl (d 8 rfl) rfl fun b t => lt t rfl rfl (xm (.bool (decide (a1.kind = 3))) ((d 11 rfl).1 b)) <| sg rfl rfl b rfl
      ·exact fun s x e f d u => hF rfl rfl rfl rfl (d 12 rfl) rfl fun b t => lt t rfl rfl (xm v14 ((f 0 rfl).trans ((K122 0 rfl).trans ((K99 0 rfl).trans ((K64 0 rfl).trans h39))))) <| sg rfl rfl b rfl
      ·exact fun s x e f d u => hF rfl rfl rfl rfl (d 12 rfl) rfl fun b t => lt t rfl rfl (xm (.int .i64 x9_50) ((f 9 rfl).trans ((K122 9 rfl).trans ((K99 9 rfl).trans h70)))) <| sg rfl rfl b rfl
      ·exact fun s x e f d u => hF rfl rfl rfl rfl (d 12 rfl) rfl fun b t => L_idx t rfl (ltb rfl) rfl Tryz.underlying35 Tryz.sizeOf58 ((d 13 rfl).1 (and_mk (and_l b) (not_mk (not_f (and_r b))))) (Rd.ext h40 ((e45.t e123).t e)) ((d 14 rfl).1 (and_mk (and_l b) (not_mk (not_f (and_r b))))) (imp_take b c131) <| fun p146 h147 => sg rfl rfl b ⟨_, rfl, h147⟩
      ·intro s x e f d u
       refine hF rfl rfl rfl rfl (d 12 rfl) rfl fun b t => ?_
       obtain ⟨p148, h149, h150⟩ := ((d 15 rfl).1 (and_mk (and_l b) (not_mk (not_f (and_r b)))))
       exact lt t rfl rfl (X_fieldAddr Tryz.underlying58 rfl Tryz.sizeOf9 rfl h149) <| sg rfl rfl b ⟨_, rfl, h150⟩
      ·intro s x e f d u
       refine hF rfl rfl rfl rfl (d 12 rfl) rfl fun b t => ?_
       obtain ⟨p151, h152, h153⟩ := ((d 16 rfl).1 (and_mk (and_l b) (not_mk (not_f (and_r b)))))
       exact lt t rfl rfl (X_loadF Tryz.isAgg9 (j := 1) h153 h152 rfl) <| sg rfl rfl b rfl
      ·exact fun s x e f d u => hF rfl rfl rfl rfl (d 12 rfl) rfl fun b t => lt t rfl rfl (X_fieldAddr Tryz.underlying58 rfl Tryz.sizeOf9 rfl ((f 3 rfl).trans ((K122 3 rfl).trans ((K99 3 rfl).trans ((K64 3 rfl).trans (K36 3 rfl)))))) <| sg rfl rfl b rfl
      ·exact fun s x e f d u => hF rfl rfl rfl rfl (d 12 rfl) rfl fun b t => lt t rfl rfl (X_loadB Tryz.isAgg9 (Blk.ext k6 ((((e9.t e37).t e45).t e123).t e)) ((d 18 rfl).1 (and_mk (and_l b) (not_mk (not_f (and_r b))))) rfl) <| sg rfl rfl b rfl
      ·exact fun s x e f d u => hF rfl rfl rfl rfl (d 12 rfl) rfl fun b t => L_callP t rfl (ltb rfl) rfl Tryz.call171 (spec_l01Below.calls (w := x) (a0 := (gt x0_13 x9_50).path) (a1 := a1.path)) (cons2 ((d 17 rfl).1 (and_mk (and_l b) (not_mk (not_f (and_r b))))) (cons2 ((d 19 rfl).1 (and_mk (and_l b) (not_mk (not_f (and_r b))))) rfl)) <| fun w154 e155 => sgx rfl rfl b e155 rfl
      ·exact fun s x e f d u => hF rfl rfl rfl rfl (d 12 rfl) rfl fun b t => lt t rfl rfl (X_not ((d 20 rfl).1 (and_mk (and_l b) (not_mk (not_f (and_r b)))))) <| sg rfl rfl b rfl
      ·exact fun s x e f d u => gT rfl rfl rfl rfl (d 8 rfl) rfl fun b t => lt t rfl rfl (X_pickO ((d 12 rfl).1 b) rfl fun h => ((d 21 rfl).1 (and_mk b (not_mk h)))) <| sg rfl rfl b rfl
      ·exact fun s x e f d u => lp rfl rfl (X_pickA (d 8 rfl) rfl fun h => ((d 22 rfl).1 h)) <| se rfl rfl
      intro s156 w157 e158 hf159 ha160
      have K161 := Kp.ofD (kp := [(55, 79)]) rfl hf159
      have d162 : s156 78 = (.bool ((!decide (((gt x0_13 x9_50).path) = a1.path)) && ((decide (a1.kind = 3)) || (!(spec_l03Put1.e2 a1 x0_13 x9_50))))) := ha160 23 rfl
      clear ha160 hf159
      refine thn_n ?_
      rcases bif_two H with ⟨q163, H⟩ | ⟨q163, H⟩
      ·refine W_true (d162.trans (cb q163)) <| W_reg <| lp rfl rfl (xm v105 ((K161 7 rfl).trans h125)) <| lp rfl rfl (xm v14 ((K161 0 rfl).trans ((K122 0 rfl).trans ((K99 0 rfl).trans ((K64 0 rfl).trans h39))))) <| lp rfl rfl (xm (.int .i64 x9_50) ((K161 9 rfl).trans ((K122 9 rfl).trans ((K99 9 rfl).trans h70)))) ?_
       obtain ⟨c164, H⟩ := bif_some H
       refine L_idx (.plain rfl) rfl (ltb rfl) rfl Tryz.underlying35 Tryz.sizeOf58 rfl (Rd.ext h40 ((e45.t e123).t e158)) rfl c164 <| fun p165 h166 => lp rfl rfl (X_loadS Tryz.isAgg58 Tryz.sizeOf58 rfl rfl h166) <| L_lit (.plain rfl) rfl (ltb rfl) rfl Tryz.underlying35 Tryz.sizeOf58 Tryz.zeroValue58 rfl rfl rfl (vs := [(.agg (encRec (gt x0_13 x9_50)).toArray)]) rfl (lit_all rfl) <| fun b167 w168 z169 z170 e171 k172 => ?_
       obtain ⟨c173, H⟩ := bif_some H
       refine L_append (enc := encRec) (.plain rfl) rfl (ltb rfl) rfl El.t35 rfl rfl (Ow.ext h126 (e158.t e171)) (Ow.rd (Ow.new (xs := [gt x0_13 x9_50]) (sz := 5) (enc := encRec) (base := w157.heap.size) k172 (Nat.le_of_eq z169) rfl (fun _ _ => by rfl) (Nat.le_of_ble_eq_true rfl))) (ones_Rec _) (od c173) (((e123.t e158).t e171)).size <| fun v174 w175 o176 z177 g178 => lp rfl rfl (xa v174 rfl) <| L_nil <| blk_n <| thn_n <| W_reg <| lp rfl rfl (xm (.int .i64 x9_50) ((K161 9 rfl).trans ((K122 9 rfl).trans ((K99 9 rfl).trans h70)))) <| lp rfl rfl (X_add rfl rfl) <| lp rfl rfl (xa (.int .i64 (IntKind.wrap .i64 (x9_50 + 1))) rfl) <| nx ?_
       obtain rfl := si H
       exact ⟨_, Nat.lt_succ_self _, x7_104 ++ ([gt x0_13 x9_50] : List Rec), v174, x8_106, IntKind.wrap .i64 (x9_50 + 1), (ku3 (ku8 (Kp.cut (Kp.cut (Kp.cut (ku4 K64 rfl) K99 rfl) K122 rfl) K161 rfl) rfl) rfl), rfl, o176, ((K161 8 rfl).trans h127), rfl, (g178 _ ((e123.t e158).t e171)), S72⟩
      ·refine W_false (d162.trans (cb q163)) <| W_skip <| blk_n <| thn_n <| W_reg <| lp rfl rfl (xm (.int .i64 x9_50) ((K161 9 rfl).trans ((K122 9 rfl).trans ((K99 9 rfl).trans h70)))) <| lp rfl rfl (X_add rfl rfl) <| lp rfl rfl (xa (.int .i64 (IntKind.wrap .i64 (x9_50 + 1))) rfl) <| nx ?_
       obtain rfl := si H
       exact ⟨_, Nat.lt_succ_self _, x7_104, v105, x8_106, IntKind.wrap .i64 (x9_50 + 1), (ku3 (Kp.cut (Kp.cut (Kp.cut (ku4 K64 rfl) K99 rfl) K122 rfl) K161 rfl) rfl), ((K161 7 rfl).trans h125), (Ow.ext h126 e158), ((K161 8 rfl).trans h127), rfl, (e123.t e158), S72⟩
    ·refine W_false (cb q73) <| W_exit <| thn_x <| thn_x <| blk_x <| thn_n ?_
     obtain rfl := si H
     obtain rfl := si S72
     exact ⟨x7_47, v48, x8_49, (ku4 K64 rfl), h67, h68, h69, e65, rfl⟩
  ·rintro s58 w57 ⟨x7_54, v55, x8_56, K59, h179, h180, h181, e60, y182⟩
   rw [y182] at C53
   have H := C53
   replace H : _ = some _ := H
   refine thn_n <| W_seq <| wr <| lp rfl rfl (X_move h181) <| lp rfl rfl (X_not rfl) <| nx ?_
   rcases bif_two H with ⟨q183, H⟩ | ⟨q183, H⟩
   ·refine W_true (cb q183) <| W_reg <| lp rfl rfl (X_move h179) <| lp rfl rfl (X_loadS Tryz.isAgg58 Tryz.sizeOf58 rfl ((K59 3 rfl).trans (K36 3 rfl)) (Blk.at0 (Blk.ext k6 (((e9.t e37).t e45).t e60)))) <| L_lit (.plain rfl) rfl (ltb rfl) rfl Tryz.underlying35 Tryz.sizeOf58 Tryz.zeroValue58 rfl rfl rfl (vs := [(.agg #[(.int .i64 a1.kind), (S a1.path), (S a1.body), (.int .i64 a1.mode), (.bool a1.opq)])]) rfl (lit_all rfl) <| fun b184 w185 z186 z187 e188 k189 => ?_
    obtain ⟨c190, H⟩ := bif_some H
    refine L_append (enc := encRec) (.plain rfl) rfl (ltb rfl) rfl El.t35 rfl rfl (Ow.ext h180 e188) (Ow.rd (Ow.new (xs := [a1]) (sz := 5) (enc := encRec) (base := w57.heap.size) k189 (Nat.le_of_eq z186) rfl (fun _ _ => by rfl) (Nat.le_of_ble_eq_true rfl))) (ones_Rec _) (od c190) ((e60.t e188)).size <| fun v191 w192 o193 z194 g195 => lp rfl rfl (xa v191 rfl) <| nx <| wr <| lp rfl rfl (xm v191 rfl) <| lp rfl rfl (xa v191 rfl) <| nx <| W_ret <| fin_r ?_
    obtain rfl := si H
    exact fin1o rfl ((((e5.t e9).t e37).t e45).t (g195 _ (e60.t e188))) o193 ((((e5.t e9).t e37).t e45)).size
   ·refine W_false (cb q183) <| W_skip <| thn_n <| wr <| lp rfl rfl (X_move h179) <| lp rfl rfl (xa v55 rfl) <| nx <| W_ret <| fin_r ?_
    obtain rfl := si H
    exact fin1o rfl ((((e5.t e9).t e37).t e45).t e60) h180 ((((e5.t e9).t e37).t e45)).size
theorem spec_l03Put1.calls {w : World} {a0 : List Rec} {a1 : Rec} {v_a0 : Value} (f_a0 : Rd 5 encRec w v_a0 a0) (h0 : putOKb 1 a0 a1 = true) :
  Calls Tryz.prog 202 #[v_a0, .agg (encRec a1).toArray] w (Rt (RO 58 5 encRec w (putR 1 a0 a1))) := by
 obtain ⟨k, h⟩ := spec_l03Put1.eq a0 a1 h0
 exact spec_l03Put1.walk f_a0 h
/-! spec.l03Put -/
abbrev spec_l03Put.e1 (a1 : Rec) (x0_13 : List Rec) (x9_50 : Int) := ((!decide (((gt x0_13 x9_50).path) = a1.path)) && (!(decide (a1.kind = 3))))
abbrev spec_l03Put.e2 (a1 : Rec) (x0_13 : List Rec) (x9_50 : Int) := ((decide (a1.path = []) && !decide (((gt x0_13 x9_50).path) = [])) || belowP ((gt x0_13 x9_50).path) a1.path)
theorem spec_l03Put.walk {k : Nat} {w : World} {a0 : List Rec} {a1 : Rec} {v_a0 : Value} (f_a0 : Rd 5 encRec w v_a0 a0) {r : List Rec} (H : spec_l03Put.sh k a0 a1 = some r) :
  Calls Tryz.prog 202 #[v_a0, .agg (encRec a1).toArray] w (Rt (RO 58 5 encRec w r)) := by
 unfold spec_l03Put.sh at H
 refine calls_of_W Tryz.func202 rfl (Nat.le_of_ble_eq_true rfl) Tryz.ntmps202 rfl ?_
 refine wr <| L_box (.plain rfl) rfl (ltb rfl) rfl rfl <| fun b1 w2 z3 z4 e5 k6 => lp rfl rfl (xa (.slice none 0 0) rfl) <| nx <| W_seq <| wr <| lp rfl rfl (X_fieldAddr Tryz.underlying58 rfl Tryz.sizeOf9 rfl rfl) <| lp rfl rfl (X_loadB Tryz.isAgg9 k6 rfl rfl) ?_
 obtain ⟨c7, H⟩ := bif_some H
 refine lc rfl rfl rfl Tryz.call161 (spec_l01Parent.calls (w := w2) (a0 := a1.path) (od c7)) rfl <| fun w8 e9 => lp rfl rfl (xa (S (parentP a1.path)) rfl) <| nx <| wr <| lp rfl rfl (xm (S (parentP a1.path)) rfl) <| lp rfl rfl (X_sne rfl rfl) <| nx ?_
 obtain ⟨z10, L11, C12⟩ := bind_some H
 clear H
 refine W_cutQ (fun s0 sQ wQ => ∃ (x0_13 : List Rec) (v14 : Value), Kp [(0, 1), (6, 7), (15, 32)] s0 sQ ∧ sQ 0 = v14 ∧ Rd 5 encRec wQ v14 x0_13 ∧ Ext w8 wQ ∧ z10 = .inr x0_13) ?_ ?_
 ·have H := L11
  rcases bif_two H with ⟨q15, H⟩ | ⟨q15, H⟩
  ·refine W_true (cb q15) <| wr <| lp rfl rfl (xm v_a0 rfl) <| lp rfl rfl (xm (S (parentP a1.path)) rfl) ?_
   obtain ⟨c16, H⟩ := bif_some H
   refine lc rfl rfl rfl Tryz.call145 (spec_l03At.calls (w := w8) (a0 := a0) (a1 := (parentP a1.path)) (Rd.ext f_a0 (e5.t e9)) (od c16)) rfl <| fun w17 e18 => lp rfl rfl (xa (.int .i64 (findR a0 (parentP a1.path))) rfl) <| nx <| wr <| lp rfl rfl (xm (.int .i64 (findR a0 (parentP a1.path))) rfl) <| lp rfl rfl (X_lss rfl rfl) <| lp rfl rfl (xm (.bool (decide ((findR a0 (parentP a1.path)) < 0))) rfl) ?_
   obtain ⟨z20, x21, H⟩ := bind_some H
   refine L_grpE 7 [(21, 28)] 27 (fun q => q = z20) ?_ ?_
   ·rcases bif_two x21 with ⟨b18_, H⟩ | ⟨b18_, H⟩
    ·refine ls rfl rfl rfl (cb b18_) rfl <| ls rfl rfl rfl (cb b18_) rfl <| ls rfl rfl rfl (cb b18_) rfl <| ls rfl rfl rfl (cb b18_) rfl <| ls rfl rfl rfl (cb b18_) rfl <| ls rfl rfl rfl (cb b18_) rfl <| lp rfl rfl (X_pick (b := true) (v := (.bool true)) (cb b18_) rfl) ?_
     obtain rfl := si H
     exact nx ⟨(ku3 (ku4 kz rfl) rfl), ⟨_, rfl, rfl⟩, er⟩
    ·refine lg rfl rfl rfl rfl (cb b18_) (xm v_a0 rfl) <| lg rfl rfl rfl rfl (cb b18_) (xm (.int .i64 (findR a0 (parentP a1.path))) rfl) ?_
     obtain ⟨c20, H⟩ := bif_some H
     refine L_idx (tg rfl rfl rfl (cb b18_)) rfl (ltb rfl) rfl Tryz.underlying35 Tryz.sizeOf58 rfl (Rd.ext f_a0 ((e5.t e9).t e18)) rfl c20 <| fun p21 h22 => lg rfl rfl rfl rfl (cb b18_) (X_fieldAddr Tryz.underlying58 rfl Tryz.sizeOf3 rfl rfl) <| lg rfl rfl rfl rfl (cb b18_) (X_loadF Tryz.isAgg3 (j := 0) h22 rfl rfl) <| lg rfl rfl rfl rfl (cb b18_) (X_neq rfl rfl) <| lp rfl rfl (X_pick (b := false) (v := (.bool (!decide (((gt a0 (findR a0 (parentP a1.path))).kind) = 3)))) (cb b18_) rfl) ?_
     obtain rfl := si H
     exact nx ⟨(ku3 (ku4 kz rfl) rfl), ⟨_, rfl, rfl⟩, er⟩
   intro s26 w22 z27 K23 hq h24 e25
   rw [hq] at h24; clear hq
   refine nx ?_
   rcases bif_two H with ⟨q28, H⟩ | ⟨q28, H⟩
   ·refine W_true (h24.trans (cb q28)) <| W_reg <| lp rfl rfl (xm v_a0 (K23 0 rfl)) <| lp rfl rfl (xm (S (parentP a1.path)) (K23 5 rfl)) <| lp rfl rfl (X_build1 (vs := [(0, (.int .i64 3)), (1, (S (parentP a1.path))), (3, (.int .i64 493))]) (pl := #[(0, 1), (1, 1), (2, 1), (3, 1), (4, 1)]) Tryz.underlying58 Tryz.zeroValue58 rfl (fun _ => by kernel_rfl) rfl rfl rfl) ?_
    obtain ⟨c29, H⟩ := bif_some H
    refine L_callO (.plain rfl) rfl (ltb rfl) rfl Tryz.call202 (spec_l03Put1.calls (w := w22) (a0 := a0) (a1 := (⟨3, (parentP a1.path), ([] : List UInt8), 493, false⟩ : Rec)) (Rd.ext f_a0 (((e5.t e9).t e18).t e25)) (od c29)) rfl <| fun v32 w30 e31 o33 => lp rfl rfl (xa v32 rfl) <| nx ?_
    obtain rfl := si H
    exact ⟨(putR 1 a0 (⟨3, (parentP a1.path), ([] : List UInt8), 493, false⟩ : Rec)), v32, (ku1 (ku4 (Kp.cut (ku3 (ku4 kz rfl) rfl) K23 rfl) rfl) rfl), rfl, (Ow.rd o33), ((e18.t e25).t e31), rfl⟩
   ·refine W_false (h24.trans (cb q28)) <| W_skip <| thn_n ?_
    obtain rfl := si H
    exact ⟨a0, v_a0, (Kp.cut (ku3 (ku4 kz rfl) rfl) K23 rfl), (K23 0 rfl), (Rd.ext f_a0 (((e5.t e9).t e18).t e25)), (e18.t e25), rfl⟩
  ·refine W_false (cb q15) <| W_skip <| thn_n ?_
   obtain rfl := si H
   exact ⟨a0, v_a0, kz, rfl, (Rd.ext f_a0 (e5.t e9)), er, rfl⟩
 ·rintro s35 w34 ⟨x0_13, v14, K36, h39, h40, e37, y38⟩
  rw [y38] at C12
  have H := C12
  refine thn_n <| wr <| L_lit (.plain rfl) rfl (ltb rfl) rfl Tryz.underlying35 Tryz.sizeOf58 Tryz.zeroValue58 rfl rfl rfl (vs := []) rfl (lit_all rfl) <| fun b41 w42 z43 z44 e45 k46 => lp rfl rfl (xa (.slice (some ⟨b41, 0, none⟩) 0 0) rfl) <| nx <| wr <| lp rfl rfl (xa (.bool false) rfl) <| nx <| W_seq <| wr <| lp rfl rfl (xa (.int .i64 0) rfl) <| nx ?_
  obtain ⟨z51, L52, C53⟩ := bind_some H
  clear H
  refine  W_cutQ (fun s0 sQ wQ => ∃ (x7_54 : List Rec) (v55 : Value) (x8_56 : Bool), Kp [(7, 10), (33, 86)] s0 sQ ∧ sQ 7 = v55 ∧ Ow 58 5 encRec w42.heap.size wQ v55 x7_54 ∧ sQ 8 = .bool x8_56 ∧ Ext w42 wQ ∧ z51 = .inr (x7_54, x8_56)) ?_ ?_
  ·refine W_block <| W_loopI (fun s0 kk sQ wQ => ∃ (x7_47 : List Rec) (v48 : Value) (x8_49 : Bool) (x9_50 : Int), Kp [(7, 10), (33, 86)] s0 sQ ∧ sQ 7 = v48 ∧ Ow 58 5 encRec w42.heap.size wQ v48 x7_47 ∧ sQ 8 = .bool x8_49 ∧ sQ 9 = .int .i64 x9_50 ∧ Ext w42 wQ ∧ loopF (spec_l03Put.b1 a1 x0_13) kk (x7_47, x8_49, x9_50) = some z51) k ⟨([] : List Rec), (.slice (some ⟨b41, 0, none⟩) 0 0), false, 0, kz, rfl, (Ow.zero), rfl, rfl, er, L52⟩ ?_
   rintro k61 s62 w63 ⟨x7_47, v48, x8_49, x9_50, K64, h67, h68, h69, h70, e65, L66⟩
   cases k61 with
   | zero => exact absurd L66 (by simp [loopF])
   | succ k61 =>
    obtain ⟨t71, H, S72⟩ := loopF_succ L66
    clear L66
    unfold spec_l03Put.b1 at H
    refine W_seq <| wr <| lp rfl rfl (X_move h70) <| lp rfl rfl (xm v14 ((K64 0 rfl).trans h39)) <| lp rfl rfl (X_lenR Tryz.underlying35 rfl (Rd.ext h40 (e45.t e65))) <| lp rfl rfl (X_lss rfl rfl) <| nx ?_
    rcases bif_two H with ⟨q73, H⟩ | ⟨q73, H⟩
    ·refine W_true (cb q73) <| W_skip <| thn_n <| W_seq <| W_block <| W_seq <| W_seq ?_
     obtain ⟨c74, H⟩ := bif_some H
     obtain ⟨c77, H⟩ := bif_some H
     obtain ⟨c78, H⟩ := bif_some H
     refine W_dM [LEq (.bool x8_49), LEq (.bool (!x8_49)), LEq (.bool (!x8_49)), LIf (!x8_49) (LEq (.pointer (some ⟨b1, 1, none⟩))), LIf (!x8_49) (LEq (S a1.path)), LIf (!x8_49) (LEq v14), LIf (!x8_49) (LEq (.int .i64 x9_50)), LIf (!x8_49) (LAt0 (encRec (gt x0_13 x9_50))), LIf (!x8_49) (LAt 1 (encRec (gt x0_13 x9_50))), LIf (!x8_49) (LEq (S ((gt x0_13 x9_50).path))), LIf (!x8_49) (LEq (.bool (lessL (cut 47 a1.path) (cut 47 ((gt x0_13 x9_50).path))))), LEq (.bool ((!x8_49) && (lessL (cut 47 a1.path) (cut 47 ((gt x0_13 x9_50).path)))))] (by kernel_rfl) (by kernel_rfl) ⟨qm, qm, qm, lm, lm, lm, lm, (LIf.mono LAt0.mono), (LIf.mono LAt.mono), lm, lm, qm, trivial⟩ ⟨?_, ?_, ?_, ?_, ?_, ?_, ?_, ?_, ?_, ?_, ?_, ?_, trivial⟩ ?_
     ·exact fun s x e f d u => lp rfl rfl (xm (.bool x8_49) ((f 8 rfl).trans h69)) <| se rfl rfl
     ·exact fun s x e f d u => lp rfl rfl (X_not (d 0 rfl)) <| se rfl rfl
     ·exact fun s x e f d u => lp rfl rfl (X_move (d 1 rfl)) <| se rfl rfl
     ·exact fun s x e f d u => gT rfl rfl rfl rfl (d 2 rfl) rfl fun b t => lt t rfl rfl (X_fieldAddr Tryz.underlying58 rfl Tryz.sizeOf9 rfl ((f 3 rfl).trans ((K64 3 rfl).trans (K36 3 rfl)))) <| sg rfl rfl b rfl
     ·exact fun s x e f d u => gT rfl rfl rfl rfl (d 2 rfl) rfl fun b t => lt t rfl rfl (X_loadB Tryz.isAgg9 (Blk.ext k6 ((((e9.t e37).t e45).t e65).t e)) ((d 3 rfl).1 b) rfl) <| sg rfl rfl b rfl
     ·exact fun s x e f d u => gT rfl rfl rfl rfl (d 2 rfl) rfl fun b t => lt t rfl rfl (xm v14 ((f 0 rfl).trans ((K64 0 rfl).trans h39))) <| sg rfl rfl b rfl
     ·exact fun s x e f d u => gT rfl rfl rfl rfl (d 2 rfl) rfl fun b t => lt t rfl rfl (xm (.int .i64 x9_50) ((f 9 rfl).trans h70)) <| sg rfl rfl b rfl
     ·exact fun s x e f d u => gT rfl rfl rfl rfl (d 2 rfl) rfl fun b t => L_idx t rfl (ltb rfl) rfl Tryz.underlying35 Tryz.sizeOf58 ((d 5 rfl).1 b) (Rd.ext h40 ((e45.t e65).t e)) ((d 6 rfl).1 b) (imp_take b c74) <| fun p82 h83 => sg rfl rfl b ⟨_, rfl, h83⟩
     ·intro s x e f d u
      refine gT rfl rfl rfl rfl (d 2 rfl) rfl fun b t => ?_
      obtain ⟨p84, h85, h86⟩ := ((d 7 rfl).1 b)
      exact lt t rfl rfl (X_fieldAddr Tryz.underlying58 rfl Tryz.sizeOf9 rfl h85) <| sg rfl rfl b ⟨_, rfl, h86⟩
     ·intro s x e f d u
      refine gT rfl rfl rfl rfl (d 2 rfl) rfl fun b t => ?_
      obtain ⟨p87, h88, h89⟩ := ((d 8 rfl).1 b)
      exact lt t rfl rfl (X_loadF Tryz.isAgg9 (j := 1) h89 h88 rfl) <| sg rfl rfl b rfl
     ·exact fun s x e f d u => gT rfl rfl rfl rfl (d 2 rfl) rfl fun b t => L_callP t rfl (ltb rfl) rfl Tryz.call205 (spec_l01Less.calls (w := x) (a0 := a1.path) (a1 := (gt x0_13 x9_50).path) (od (imp_take b c77)) (od (imp_take b c78))) (cons2 ((d 4 rfl).1 b) (cons2 ((d 9 rfl).1 b) rfl)) <| fun w92 e93 => sgx rfl rfl b e93 rfl
     ·exact fun s x e f d u => lp rfl rfl (X_pickA (d 2 rfl) rfl fun h => ((d 10 rfl).1 h)) <| se rfl rfl
     intro s94 w95 e96 hf97 ha98
     have K99 := Kp.ofD (kp := [(39, 51)]) rfl hf97
     have d100 : s94 50 = (.bool ((!x8_49) && (lessL (cut 47 a1.path) (cut 47 ((gt x0_13 x9_50).path))))) := ha98 11 rfl
     clear ha98 hf97
     refine thn_n ?_
     obtain ⟨z101, L102, C103⟩ := bind_some H
     clear H
     refine W_cutQ (fun s0 sQ wQ => ∃ (x7_104 : List Rec) (v105 : Value) (x8_106 : Bool), Kp [(7, 9), (51, 55)] s0 sQ ∧ sQ 7 = v105 ∧ Ow 58 5 encRec w42.heap.size wQ v105 x7_104 ∧ sQ 8 = .bool x8_106 ∧ Ext w42 wQ ∧ z101 = .inr (x7_104, x8_106)) ?_ ?_
     ·have H := L102
      rcases bif_two H with ⟨q107, H⟩ | ⟨q107, H⟩
      ·refine W_true (d100.trans (cb q107)) <| wr <| lp rfl rfl (xm v48 ((K99 7 rfl).trans h67)) <| lp rfl rfl (X_loadS Tryz.isAgg58 Tryz.sizeOf58 rfl ((K99 3 rfl).trans ((K64 3 rfl).trans (K36 3 rfl))) (Blk.at0 (Blk.ext k6 ((((e9.t e37).t e45).t e65).t e96)))) <| L_lit (.plain rfl) rfl (ltb rfl) rfl Tryz.underlying35 Tryz.sizeOf58 Tryz.zeroValue58 rfl rfl rfl (vs := [(.agg #[(.int .i64 a1.kind), (S a1.path), (S a1.body), (.int .i64 a1.mode), (.bool a1.opq)])]) rfl (lit_all rfl) <| fun b108 w109 z110 z111 e112 k113 => ?_
       obtain ⟨c114, H⟩ := bif_some H
       refine L_append (enc := encRec) (.plain rfl) rfl (ltb rfl) rfl El.t35 rfl rfl (Ow.ext h68 (e96.t e112)) (Ow.rd (Ow.new (xs := [a1]) (sz := 5) (enc := encRec) (base := w95.heap.size) k113 (Nat.le_of_eq z110) rfl (fun _ _ => by rfl) (Nat.le_of_ble_eq_true rfl))) (ones_Rec _) (od c114) (((e65.t e96).t e112)).size <| fun v115 w116 o117 z118 g119 => lp rfl rfl (xa v115 rfl) <| nx <| W_reg <| lp rfl rfl (xa (.bool true) rfl) <| nx ?_
       obtain rfl := si H
       exact ⟨x7_47 ++ ([a1] : List Rec), v115, true, (ku2 (ku4 kz rfl) rfl), rfl, o117, rfl, (g119 _ ((e65.t e96).t e112)), rfl⟩
      ·refine W_false (d100.trans (cb q107)) <| W_skip <| thn_n ?_
       obtain rfl := si H
       exact ⟨x7_47, v48, x8_49, kz, ((K99 7 rfl).trans h67), (Ow.ext h68 e96), ((K99 8 rfl).trans h69), (e65.t e96), rfl⟩
     ·rintro s121 w120 ⟨x7_104, v105, x8_106, K122, h125, h126, h127, e123, y124⟩
      rw [y124] at C103
      have H := C103
      refine thn_n <| W_seq ?_
      obtain ⟨c128, H⟩ := bif_some H
      obtain ⟨c131, H⟩ := bif_some H
      refine W_dM [LEq v14, LEq (.int .i64 x9_50), LAt0 (encRec (gt x0_13 x9_50)), LAt 1 (encRec (gt x0_13 x9_50)), LEq (S ((gt x0_13 x9_50).path)), LEq (.pointer (some ⟨b1, 1, none⟩)), LEq (S a1.path), LEq (.bool (!decide (((gt x0_13 x9_50).path) = a1.path))), LEq (.bool (!decide (((gt x0_13 x9_50).path) = a1.path))), LIf (!decide (((gt x0_13 x9_50).path) = a1.path)) (LEq (.pointer (some ⟨b1, 0, none⟩))), LIf (!decide (((gt x0_13 x9_50).path) = a1.path)) (LEq (.int .i64 a1.kind)), LIf (!decide (((gt x0_13 x9_50).path) = a1.path)) (LEq (.bool (decide (a1.kind = 3)))), LIf (!decide (((gt x0_13 x9_50).path) = a1.path)) (LEq (.bool (decide (a1.kind = 3)))), LIf (spec_l03Put.e1 a1 x0_13 x9_50) (LEq v14), LIf (spec_l03Put.e1 a1 x0_13 x9_50) (LEq (.int .i64 x9_50)), LIf (spec_l03Put.e1 a1 x0_13 x9_50) (LAt0 (encRec (gt x0_13 x9_50))), LIf (spec_l03Put.e1 a1 x0_13 x9_50) (LAt 1 (encRec (gt x0_13 x9_50))), LIf (spec_l03Put.e1 a1 x0_13 x9_50) (LEq (S ((gt x0_13 x9_50).path))), LIf (spec_l03Put.e1 a1 x0_13 x9_50) (LEq (.pointer (some ⟨b1, 1, none⟩))), LIf (spec_l03Put.e1 a1 x0_13 x9_50) (LEq (S a1.path)), LIf (spec_l03Put.e1 a1 x0_13 x9_50) (LEq (.bool (spec_l03Put.e2 a1 x0_13 x9_50))), LIf (spec_l03Put.e1 a1 x0_13 x9_50) (LEq (.bool (!(spec_l03Put.e2 a1 x0_13 x9_50)))), LIf (!decide (((gt x0_13 x9_50).path) = a1.path)) (LEq (.bool ((decide (a1.kind = 3)) || (!(spec_l03Put.e2 a1 x0_13 x9_50))))), LEq (.bool ((!decide (((gt x0_13 x9_50).path) = a1.path)) && ((decide (a1.kind = 3)) || (!(spec_l03Put.e2 a1 x0_13 x9_50)))))] (by kernel_rfl) (by kernel_rfl) ⟨qm, qm, LAt0.mono, LAt.mono, qm, qm, qm, qm, qm, lm, lm, lm, lm, lm, lm, (LIf.mono LAt0.mono), (LIf.mono LAt.mono), lm, lm, lm, lm, lm, lm, qm, trivial⟩ ⟨?_, ?_, ?_, ?_, ?_, ?_, ?_, ?_, ?_, ?_, ?_, ?_, ?_, ?_, ?_, ?_, ?_, ?_, ?_, ?_, ?_, ?_, ?_, ?_, trivial⟩ ?_
      ·exact fun s x e f d u => lp rfl rfl (xm v14 ((f 0 rfl).trans ((K122 0 rfl).trans ((K99 0 rfl).trans ((K64 0 rfl).trans h39))))) <| se rfl rfl
      ·exact fun s x e f d u => lp rfl rfl (xm (.int .i64 x9_50) ((f 9 rfl).trans ((K122 9 rfl).trans ((K99 9 rfl).trans h70)))) <| se rfl rfl
      ·exact fun s x e f d u => L_idx (.plain rfl) rfl (ltb rfl) rfl Tryz.underlying35 Tryz.sizeOf58 (d 0 rfl) (Rd.ext h40 ((e45.t e123).t e)) (d 1 rfl) c128 <| fun p137 h138 => se rfl ⟨_, rfl, h138⟩
      ·intro s x e f d u
       obtain ⟨p139, h140, h141⟩ := (d 2 rfl)
       exact lp rfl rfl (X_fieldAddr Tryz.underlying58 rfl Tryz.sizeOf9 rfl h140) <| se rfl ⟨_, rfl, h141⟩
      ·intro s x e f d u
       obtain ⟨p142, h143, h144⟩ := (d 3 rfl)
       exact lp rfl rfl (X_loadF Tryz.isAgg9 (j := 1) h144 h143 rfl) <| se rfl rfl
      ·exact fun s x e f d u => lp rfl rfl (X_fieldAddr Tryz.underlying58 rfl Tryz.sizeOf9 rfl ((f 3 rfl).trans ((K122 3 rfl).trans ((K99 3 rfl).trans ((K64 3 rfl).trans (K36 3 rfl)))))) <| se rfl rfl
      ·exact fun s x e f d u => lp rfl rfl (X_loadB Tryz.isAgg9 (Blk.ext k6 ((((e9.t e37).t e45).t e123).t e)) (d 5 rfl) rfl) <| se rfl rfl
      ·exact fun s x e f d u => lp rfl rfl (X_sne (d 4 rfl) (d 6 rfl)) <| se rfl rfl
      ·exact fun s x e f d u => lp rfl rfl (X_move (d 7 rfl)) <| se rfl rfl
      ·exact fun s x e f d u => gT rfl rfl rfl rfl (d 8 rfl) rfl fun b t => lt t rfl rfl (X_fieldAddr Tryz.underlying58 rfl Tryz.sizeOf3 rfl ((f 3 rfl).trans ((K122 3 rfl).trans ((K99 3 rfl).trans ((K64 3 rfl).trans (K36 3 rfl)))))) <| sg rfl rfl b rfl
      ·exact fun s x e f d u => gT rfl rfl rfl rfl (d 8 rfl) rfl fun b t => lt t rfl rfl (X_loadB Tryz.isAgg3 (Blk.ext k6 ((((e9.t e37).t e45).t e123).t e)) ((d 9 rfl).1 b) rfl) <| sg rfl rfl b rfl
      ·exact fun s x e f d u => gT rfl rfl rfl rfl (d 8 rfl) rfl fun b t => lt t rfl rfl (X_eql ((d 10 rfl).1 b) rfl) <| sg rfl rfl b rfl
      ·exact fun s x e f d u => gT rfl rfl rfl rfl (d 8 rfl) rfl fun b t => lt t rfl rfl (xm (.bool (decide (a1.kind = 3))) ((d 11 rfl).1 b)) <| sg rfl rfl b rfl
      ·exact fun s x e f d u => hF rfl rfl rfl rfl (d 12 rfl) rfl fun b t => lt t rfl rfl (xm v14 ((f 0 rfl).trans ((K122 0 rfl).trans ((K99 0 rfl).trans ((K64 0 rfl).trans h39))))) <| sg rfl rfl b rfl
      ·exact fun s x e f d u => hF rfl rfl rfl rfl (d 12 rfl) rfl fun b t => lt t rfl rfl (xm (.int .i64 x9_50) ((f 9 rfl).trans ((K122 9 rfl).trans ((K99 9 rfl).trans h70)))) <| sg rfl rfl b rfl
      ·exact fun s x e f d u => hF rfl rfl rfl rfl (d 12 rfl) rfl fun b t => L_idx t rfl (ltb rfl) rfl Tryz.underlying35 Tryz.sizeOf58 ((d 13 rfl).1 (and_mk (and_l b) (not_mk (not_f (and_r b))))) (Rd.ext h40 ((e45.t e123).t e)) ((d 14 rfl).1 (and_mk (and_l b) (not_mk (not_f (and_r b))))) (imp_take b c131) <| fun p146 h147 => sg rfl rfl b ⟨_, rfl, h147⟩
      ·intro s x e f d u
       refine hF rfl rfl rfl rfl (d 12 rfl) rfl fun b t => ?_
       obtain ⟨p148, h149, h150⟩ := ((d 15 rfl).1 (and_mk (and_l b) (not_mk (not_f (and_r b)))))
       exact lt t rfl rfl (X_fieldAddr Tryz.underlying58 rfl Tryz.sizeOf9 rfl h149) <| sg rfl rfl b ⟨_, rfl, h150⟩
      ·intro s x e f d u
       refine hF rfl rfl rfl rfl (d 12 rfl) rfl fun b t => ?_
       obtain ⟨p151, h152, h153⟩ := ((d 16 rfl).1 (and_mk (and_l b) (not_mk (not_f (and_r b)))))
       exact lt t rfl rfl (X_loadF Tryz.isAgg9 (j := 1) h153 h152 rfl) <| sg rfl rfl b rfl
      ·exact fun s x e f d u => hF rfl rfl rfl rfl (d 12 rfl) rfl fun b t => lt t rfl rfl (X_fieldAddr Tryz.underlying58 rfl Tryz.sizeOf9 rfl ((f 3 rfl).trans ((K122 3 rfl).trans ((K99 3 rfl).trans ((K64 3 rfl).trans (K36 3 rfl)))))) <| sg rfl rfl b rfl
      ·exact fun s x e f d u => hF rfl rfl rfl rfl (d 12 rfl) rfl fun b t => lt t rfl rfl (X_loadB Tryz.isAgg9 (Blk.ext k6 ((((e9.t e37).t e45).t e123).t e)) ((d 18 rfl).1 (and_mk (and_l b) (not_mk (not_f (and_r b))))) rfl) <| sg rfl rfl b rfl
      ·exact fun s x e f d u => hF rfl rfl rfl rfl (d 12 rfl) rfl fun b t => L_callP t rfl (ltb rfl) rfl Tryz.call171 (spec_l01Below.calls (w := x) (a0 := (gt x0_13 x9_50).path) (a1 := a1.path)) (cons2 ((d 17 rfl).1 (and_mk (and_l b) (not_mk (not_f (and_r b))))) (cons2 ((d 19 rfl).1 (and_mk (and_l b) (not_mk (not_f (and_r b))))) rfl)) <| fun w154 e155 => sgx rfl rfl b e155 rfl
      ·exact fun s x e f d u => hF rfl rfl rfl rfl (d 12 rfl) rfl fun b t => lt t rfl rfl (X_not ((d 20 rfl).1 (and_mk (and_l b) (not_mk (not_f (and_r b)))))) <| sg rfl rfl b rfl
      ·exact fun s x e f d u => gT rfl rfl rfl rfl (d 8 rfl) rfl fun b t => lt t rfl rfl (X_pickO ((d 12 rfl).1 b) rfl fun h => ((d 21 rfl).1 (and_mk b (not_mk h)))) <| sg rfl rfl b rfl
      ·exact fun s x e f d u => lp rfl rfl (X_pickA (d 8 rfl) rfl fun h => ((d 22 rfl).1 h)) <| se rfl rfl
      intro s156 w157 e158 hf159 ha160
      have K161 := Kp.ofD (kp := [(55, 79)]) rfl hf159
      have d162 : s156 78 = (.bool ((!decide (((gt x0_13 x9_50).path) = a1.path)) && ((decide (a1.kind = 3)) || (!(spec_l03Put.e2 a1 x0_13 x9_50))))) := ha160 23 rfl
      clear ha160 hf159
      refine thn_n ?_
      rcases bif_two H with ⟨q163, H⟩ | ⟨q163, H⟩
      ·refine W_true (d162.trans (cb q163)) <| W_reg <| lp rfl rfl (xm v105 ((K161 7 rfl).trans h125)) <| lp rfl rfl (xm v14 ((K161 0 rfl).trans ((K122 0 rfl).trans ((K99 0 rfl).trans ((K64 0 rfl).trans h39))))) <| lp rfl rfl (xm (.int .i64 x9_50) ((K161 9 rfl).trans ((K122 9 rfl).trans ((K99 9 rfl).trans h70)))) ?_
       obtain ⟨c164, H⟩ := bif_some H
       refine L_idx (.plain rfl) rfl (ltb rfl) rfl Tryz.underlying35 Tryz.sizeOf58 rfl (Rd.ext h40 ((e45.t e123).t e158)) rfl c164 <| fun p165 h166 => lp rfl rfl (X_loadS Tryz.isAgg58 Tryz.sizeOf58 rfl rfl h166) <| L_lit (.plain rfl) rfl (ltb rfl) rfl Tryz.underlying35 Tryz.sizeOf58 Tryz.zeroValue58 rfl rfl rfl (vs := [(.agg (encRec (gt x0_13 x9_50)).toArray)]) rfl (lit_all rfl) <| fun b167 w168 z169 z170 e171 k172 => ?_
       obtain ⟨c173, H⟩ := bif_some H
       refine L_append (enc := encRec) (.plain rfl) rfl (ltb rfl) rfl El.t35 rfl rfl (Ow.ext h126 (e158.t e171)) (Ow.rd (Ow.new (xs := [gt x0_13 x9_50]) (sz := 5) (enc := encRec) (base := w157.heap.size) k172 (Nat.le_of_eq z169) rfl (fun _ _ => by rfl) (Nat.le_of_ble_eq_true rfl))) (ones_Rec _) (od c173) (((e123.t e158).t e171)).size <| fun v174 w175 o176 z177 g178 => lp rfl rfl (xa v174 rfl) <| L_nil <| blk_n <| thn_n <| W_reg <| lp rfl rfl (xm (.int .i64 x9_50) ((K161 9 rfl).trans ((K122 9 rfl).trans ((K99 9 rfl).trans h70)))) <| lp rfl rfl (X_add rfl rfl) <| lp rfl rfl (xa (.int .i64 (IntKind.wrap .i64 (x9_50 + 1))) rfl) <| nx ?_
       obtain rfl := si H
       exact ⟨_, Nat.lt_succ_self _, x7_104 ++ ([gt x0_13 x9_50] : List Rec), v174, x8_106, IntKind.wrap .i64 (x9_50 + 1), (ku3 (ku8 (Kp.cut (Kp.cut (Kp.cut (ku4 K64 rfl) K99 rfl) K122 rfl) K161 rfl) rfl) rfl), rfl, o176, ((K161 8 rfl).trans h127), rfl, (g178 _ ((e123.t e158).t e171)), S72⟩
      ·refine W_false (d162.trans (cb q163)) <| W_skip <| blk_n <| thn_n <| W_reg <| lp rfl rfl (xm (.int .i64 x9_50) ((K161 9 rfl).trans ((K122 9 rfl).trans ((K99 9 rfl).trans h70)))) <| lp rfl rfl (X_add rfl rfl) <| lp rfl rfl (xa (.int .i64 (IntKind.wrap .i64 (x9_50 + 1))) rfl) <| nx ?_
       obtain rfl := si H
       exact ⟨_, Nat.lt_succ_self _, x7_104, v105, x8_106, IntKind.wrap .i64 (x9_50 + 1), (ku3 (Kp.cut (Kp.cut (Kp.cut (ku4 K64 rfl) K99 rfl) K122 rfl) K161 rfl) rfl), ((K161 7 rfl).trans h125), (Ow.ext h126 e158), ((K161 8 rfl).trans h127), rfl, (e123.t e158), S72⟩
    ·refine W_false (cb q73) <| W_exit <| thn_x <| thn_x <| blk_x <| thn_n ?_
     obtain rfl := si H
     obtain rfl := si S72
     exact ⟨x7_47, v48, x8_49, (ku4 K64 rfl), h67, h68, h69, e65, rfl⟩
  ·rintro s58 w57 ⟨x7_54, v55, x8_56, K59, h179, h180, h181, e60, y182⟩
   rw [y182] at C53
   have H := C53
   replace H : _ = some _ := H
   refine thn_n <| W_seq <| wr <| lp rfl rfl (X_move h181) <| lp rfl rfl (X_not rfl) <| nx ?_
   rcases bif_two H with ⟨q183, H⟩ | ⟨q183, H⟩
   ·refine W_true (cb q183) <| W_reg <| lp rfl rfl (X_move h179) <| lp rfl rfl (X_loadS Tryz.isAgg58 Tryz.sizeOf58 rfl ((K59 3 rfl).trans (K36 3 rfl)) (Blk.at0 (Blk.ext k6 (((e9.t e37).t e45).t e60)))) <| L_lit (.plain rfl) rfl (ltb rfl) rfl Tryz.underlying35 Tryz.sizeOf58 Tryz.zeroValue58 rfl rfl rfl (vs := [(.agg #[(.int .i64 a1.kind), (S a1.path), (S a1.body), (.int .i64 a1.mode), (.bool a1.opq)])]) rfl (lit_all rfl) <| fun b184 w185 z186 z187 e188 k189 => ?_
    obtain ⟨c190, H⟩ := bif_some H
    refine L_append (enc := encRec) (.plain rfl) rfl (ltb rfl) rfl El.t35 rfl rfl (Ow.ext h180 e188) (Ow.rd (Ow.new (xs := [a1]) (sz := 5) (enc := encRec) (base := w57.heap.size) k189 (Nat.le_of_eq z186) rfl (fun _ _ => by rfl) (Nat.le_of_ble_eq_true rfl))) (ones_Rec _) (od c190) ((e60.t e188)).size <| fun v191 w192 o193 z194 g195 => lp rfl rfl (xa v191 rfl) <| nx <| wr <| lp rfl rfl (xm v191 rfl) <| lp rfl rfl (xa v191 rfl) <| nx <| W_ret <| fin_r ?_
    obtain rfl := si H
    exact fin1o rfl ((((e5.t e9).t e37).t e45).t (g195 _ (e60.t e188))) o193 ((((e5.t e9).t e37).t e45)).size
   ·refine W_false (cb q183) <| W_skip <| thn_n <| wr <| lp rfl rfl (X_move h179) <| lp rfl rfl (xa v55 rfl) <| nx <| W_ret <| fin_r ?_
    obtain rfl := si H
    exact fin1o rfl ((((e5.t e9).t e37).t e45).t e60) h180 ((((e5.t e9).t e37).t e45)).size
theorem spec_l03Put.calls {w : World} {a0 : List Rec} {a1 : Rec} {v_a0 : Value} (f_a0 : Rd 5 encRec w v_a0 a0) (h0 : putOKb 2 a0 a1 = true) :
  Calls Tryz.prog 202 #[v_a0, .agg (encRec a1).toArray] w (Rt (RO 58 5 encRec w (putR 2 a0 a1))) := by
 obtain ⟨k, h⟩ := spec_l03Put.eq a0 a1 h0
 exact spec_l03Put.walk f_a0 h
/-! (*spec.l00Src).tree -/
theorem draw_tree.walk {k : Nat} {w : World} {a0 : List Int} {a1 : DSrc} {wc : World} {cv : Value} {bs : Nat} (kc : Ext wc w) (fc : Rd 1 (Go.UL.encI .u8) wc cv a0) (hz : wc.heap.size ≤ bs) (ks : Blk w bs (encSrc cv a1).toArray 162) {r : List Nd × DSrc} (H : draw_tree.sh k a0 a1 = some r) :
  Calls Tryz.prog 116 #[.pointer (some ⟨bs, 0, none⟩)] w (Rt (RSO 162 bs cv 60 4 encNd w r.1 r.2)) := by
 unfold draw_tree.sh at H
 refine calls_of_W Tryz.func116 rfl (Nat.le_of_ble_eq_true rfl) Tryz.ntmps116 rfl ?_
 refine wr <| lp rfl rfl (xa (.slice none 0 0) rfl) <| nx <| wr <| L_lit (.plain rfl) rfl (ltb rfl) rfl Tryz.underlying35 Tryz.sizeOf58 Tryz.zeroValue58 rfl rfl rfl (vs := []) rfl (lit_all rfl) <| fun b1 w2 z3 z4 e5 k6 => lp rfl rfl (xa (.slice (some ⟨b1, 0, none⟩) 0 0) rfl) <| nx <| W_seq <| wr <| lp rfl rfl (xm (.pointer (some ⟨bs, 0, none⟩)) rfl) <| lp rfl rfl (xm (.pointer (some ⟨bs, 0, none⟩)) rfl) ?_
 obtain ⟨z7, x8, H⟩ := bind_some H
 refine L_callS (.plain rfl) rfl (ltb rfl) rfl Tryz.call201 (draw_room.calls (w := w2) (a0 := a0) (a1 := a1) (a2 := 7) (Ext.trans kc e5) fc hz (Blk.ext ks e5) x8) rfl <| fun w11 g12 k13 => lp rfl rfl (X_add rfl rfl) ?_
 obtain ⟨z14, x15, H⟩ := bind_some H
 refine L_callS (.plain rfl) rfl (ltb rfl) rfl Tryz.call195 (draw_next.calls (w := w11) (a0 := a0) (a1 := z7.2) (a2 := IntKind.wrap .i64 (z7.1 + 2)) (Ext.gr (Ext.trans kc e5) g12 hz) fc hz k13 x15) rfl <| fun w18 g19 k20 => lp rfl rfl (xa (.int .i64 z14.1) rfl) <| nx ?_
 obtain ⟨z25, L26, C27⟩ := bind_some H
 clear H
 refine  W_cutQ (fun s0 sQ wQ => ∃ (x3_28 : List Rec) (v29 : Value) (y30 : DSrc), Kp [(3, 7), (15, 35)] s0 sQ ∧ sQ 3 = v29 ∧ Ow 58 5 encRec w18.heap.size wQ v29 x3_28 ∧ Blk wQ bs ((encSrc cv) y30).toArray 162 ∧ Gr bs (bs + 1) w18 wQ ∧ Ext wc wQ ∧ z25 = .inr (x3_28, y30)) ?_ ?_
 ·refine W_block <| W_loopI (fun s0 kk sQ wQ => ∃ (x3_21 : List Rec) (v22 : Value) (x4_23 : Int) (y24 : DSrc), Kp [(3, 7), (15, 35)] s0 sQ ∧ sQ 3 = v22 ∧ Ow 58 5 encRec w18.heap.size wQ v22 x3_21 ∧ sQ 4 = .int .i64 x4_23 ∧ Blk wQ bs ((encSrc cv) y24).toArray 162 ∧ Gr bs (bs + 1) w18 wQ ∧ Ext wc wQ ∧ loopF (draw_tree.b1 a0) kk (x3_21, x4_23, y24) = some z25) k ⟨([] : List Rec), (.slice (some ⟨b1, 0, none⟩) 0 0), z14.1, z14.2, kz, rfl, (Ow.zero), rfl, k20, (Gr.refl _ _ _), (Ext.gr (Ext.gr (Ext.trans kc e5) g12 hz) g19 hz), L26⟩ ?_
  rintro k35 s36 w37 ⟨x3_21, v22, x4_23, y24, K38, h41, h42, h43, h44, e39, e39c, L40⟩
  cases k35 with
  | zero => exact absurd L40 (by simp [loopF])
  | succ k35 =>
   obtain ⟨t45, H, S46⟩ := loopF_succ L40
   clear L40
   unfold draw_tree.b1 at H
   refine W_seq <| wr <| lp rfl rfl (X_move h43) <| lp rfl rfl (X_gtr rfl rfl) <| nx ?_
   rcases bif_two H with ⟨q47, H⟩ | ⟨q47, H⟩
   ·refine W_true (cb q47) <| W_skip <| thn_n <| W_seq <| W_block <| wr <| lp rfl rfl (xm (.pointer (some ⟨bs, 0, none⟩)) (K38 0 rfl)) <| lp rfl rfl (xm (.pointer (some ⟨bs, 0, none⟩)) (K38 0 rfl)) ?_
    obtain ⟨z48, x49, H⟩ := bind_some H
    refine L_callS (.plain rfl) rfl (ltb rfl) rfl Tryz.call148 (draw_path.calls (w := w37) (a0 := a0) (a1 := y24) e39c fc hz h44 x49) rfl <| fun w52 g53 k54 => ?_
    obtain ⟨z55, x56, H⟩ := bind_some H
    refine L_callS (.plain rfl) rfl (ltb rfl) rfl Tryz.call153 (draw_record.calls (w := w52) (a0 := a0) (a1 := z48.2) (a2 := z48.1) (Ext.gr e39c g53 hz) fc hz k54 x56) rfl <| fun w59 g60 k61 => L_alloc (.plain rfl) rfl (ltb rfl) rfl Tryz.zeroValue58 <| fun b62 w63 z64 z65 e66 k67 => L_storeA (.plain rfl) rfl rfl Tryz.sizeOf58 rfl rfl rfl rfl rfl k67 <| fun w68 h69 k70 => nx <| wr <| lp rfl rfl (X_fieldAddr Tryz.underlying58 rfl Tryz.sizeOf4 rfl rfl) <| L_store1 (.plain rfl) rfl rfl Tryz.sizeOf4 rfl rfl rfl k70 (ltb rfl) <| fun w71 h72 k73 => nx <| W_seq <| wr <| lp rfl rfl (X_fieldAddr Tryz.underlying58 rfl Tryz.sizeOf3 rfl rfl) <| lp rfl rfl (X_loadB Tryz.isAgg3 k73 rfl rfl) <| lp rfl rfl (X_eql rfl rfl) <| nx ?_
    rcases bif_two H with ⟨q74, H⟩ | ⟨q74, H⟩
    ·refine W_true (cb q74) <| W_reg <| lp rfl rfl (X_fieldAddr Tryz.underlying58 rfl Tryz.sizeOf3 rfl rfl) <| L_store1 (.plain rfl) rfl rfl Tryz.sizeOf3 rfl rfl rfl k73 (ltb rfl) <| fun w75 h76 k77 => nx <| wr <| lp rfl rfl (X_move h41) <| lp rfl rfl (X_loadS Tryz.isAgg58 Tryz.sizeOf58 rfl rfl (Blk.at0 k77)) ?_
     obtain ⟨c78, H⟩ := bif_some H
     refine L_callO (.plain rfl) rfl (ltb rfl) rfl Tryz.call202 (spec_l03Put.calls (w := w75) (a0 := x3_21) (a1 := (⟨3, z55.1.path, z55.1.body, z55.1.mode, false⟩ : Rec)) (Ow.rd (Ow.ext (Ow.later (Ow.later h42 g53 (Nat.le_trans (Blk.lt ks) ((Gr.trans (Gr.trans (Gr.ext e5) g12) g19)).size)) g60 (Nat.le_trans (Blk.lt ks) ((Gr.trans (Gr.trans (Gr.ext e5) g12) g19)).size)) (Below.trans (Below.trans (Below.trans e66 (Wr.below h69 (Nat.le_of_eq z64))) (Wr.below h72 (Nat.le_of_eq z64))) (Wr.below h76 (Nat.le_of_eq z64))))) (od c78)) rfl <| fun v81 w79 e80 o82 => lp rfl rfl (xa v81 rfl) <| nx <| wr <| lp rfl rfl (xm v81 rfl) <| lp rfl rfl (X_lenR Tryz.underlying35 rfl (Ow.rd o82)) <| lp rfl rfl (X_leq rfl rfl) <| nx ?_
     rcases bif_two H with ⟨q83, H⟩ | ⟨q83, H⟩
     ·refine W_true (cb q83) <| W_reg <| lp rfl rfl (xm v81 rfl) <| lp rfl rfl (xa v81 rfl) <| L_nil <| blk_n <| thn_n <| W_reg <| lp rfl rfl (X_move h43) <| lp rfl rfl (X_sub rfl rfl) <| lp rfl rfl (xa (.int .i64 (IntKind.wrap .i64 (x4_23 - 1))) rfl) <| nx ?_
      obtain rfl := si H
      exact ⟨_, Nat.lt_succ_self _, (putR 2 x3_21 (⟨3, z55.1.path, z55.1.body, z55.1.mode, false⟩ : Rec)), v81, IntKind.wrap .i64 (x4_23 - 1), z55.2, (ku8 (ku8 (ku8 K38 rfl) rfl) rfl), rfl, (Ow.base o82 ((Gr.trans (Gr.trans (Gr.trans e39 g53) g60) (Gr.ext (Below.trans (Below.trans (Below.trans e66 (Wr.below h69 (Nat.le_of_eq z64))) (Wr.below h72 (Nat.le_of_eq z64))) (Wr.below h76 (Nat.le_of_eq z64)))))).size), rfl, (Blk.ext k61 (Ext.trans (Below.trans (Below.trans (Below.trans e66 (Wr.below h69 (Nat.le_of_eq z64))) (Wr.below h72 (Nat.le_of_eq z64))) (Wr.below h76 (Nat.le_of_eq z64))) e80)), (Gr.trans (Gr.trans (Gr.trans (Gr.trans e39 g53) g60) (Gr.ext (Below.trans (Below.trans (Below.trans e66 (Wr.below h69 (Nat.le_of_eq z64))) (Wr.below h72 (Nat.le_of_eq z64))) (Wr.below h76 (Nat.le_of_eq z64))))) (Gr.ext e80)), (Ext.trans (Below.trans (Below.trans (Below.trans (Ext.trans (Ext.gr (Ext.gr e39c g53 hz) g60 hz) e66) (Below.mono (Wr.below h69 (Nat.le_of_eq z64)) ((Ext.gr (Ext.gr e39c g53 hz) g60 hz)).size)) (Below.mono (Wr.below h72 (Nat.le_of_eq z64)) ((Ext.gr (Ext.gr e39c g53 hz) g60 hz)).size)) (Below.mono (Wr.below h76 (Nat.le_of_eq z64)) ((Ext.gr (Ext.gr e39c g53 hz) g60 hz)).size)) e80), S46⟩
     ·refine W_false (cb q83) <| W_skip <| blk_n <| thn_n <| W_reg <| lp rfl rfl (X_move h43) <| lp rfl rfl (X_sub rfl rfl) <| lp rfl rfl (xa (.int .i64 (IntKind.wrap .i64 (x4_23 - 1))) rfl) <| nx ?_
      obtain rfl := si H
      exact ⟨_, Nat.lt_succ_self _, x3_21, v22, IntKind.wrap .i64 (x4_23 - 1), z55.2, (ku2 (ku4 (ku8 (ku8 K38 rfl) rfl) rfl) rfl), h41, (Ow.ext (Ow.later (Ow.later h42 g53 (Nat.le_trans (Blk.lt ks) ((Gr.trans (Gr.trans (Gr.ext e5) g12) g19)).size)) g60 (Nat.le_trans (Blk.lt ks) ((Gr.trans (Gr.trans (Gr.ext e5) g12) g19)).size)) (Ext.trans (Below.trans (Below.trans (Below.trans e66 (Wr.below h69 (Nat.le_of_eq z64))) (Wr.below h72 (Nat.le_of_eq z64))) (Wr.below h76 (Nat.le_of_eq z64))) e80)), rfl, (Blk.ext k61 (Ext.trans (Below.trans (Below.trans (Below.trans e66 (Wr.below h69 (Nat.le_of_eq z64))) (Wr.below h72 (Nat.le_of_eq z64))) (Wr.below h76 (Nat.le_of_eq z64))) e80)), (Gr.trans (Gr.trans (Gr.trans (Gr.trans e39 g53) g60) (Gr.ext (Below.trans (Below.trans (Below.trans e66 (Wr.below h69 (Nat.le_of_eq z64))) (Wr.below h72 (Nat.le_of_eq z64))) (Wr.below h76 (Nat.le_of_eq z64))))) (Gr.ext e80)), (Ext.trans (Below.trans (Below.trans (Below.trans (Ext.trans (Ext.gr (Ext.gr e39c g53 hz) g60 hz) e66) (Below.mono (Wr.below h69 (Nat.le_of_eq z64)) ((Ext.gr (Ext.gr e39c g53 hz) g60 hz)).size)) (Below.mono (Wr.below h72 (Nat.le_of_eq z64)) ((Ext.gr (Ext.gr e39c g53 hz) g60 hz)).size)) (Below.mono (Wr.below h76 (Nat.le_of_eq z64)) ((Ext.gr (Ext.gr e39c g53 hz) g60 hz)).size)) e80), S46⟩
    ·refine W_false (cb q74) <| W_skip <| thn_n <| wr <| lp rfl rfl (X_move h41) <| lp rfl rfl (X_loadS Tryz.isAgg58 Tryz.sizeOf58 rfl rfl (Blk.at0 k73)) ?_
     obtain ⟨c84, H⟩ := bif_some H
     refine L_callO (.plain rfl) rfl (ltb rfl) rfl Tryz.call202 (spec_l03Put.calls (w := w71) (a0 := x3_21) (a1 := (⟨z55.1.kind, z55.1.path, z55.1.body, z55.1.mode, false⟩ : Rec)) (Ow.rd (Ow.ext (Ow.later (Ow.later h42 g53 (Nat.le_trans (Blk.lt ks) ((Gr.trans (Gr.trans (Gr.ext e5) g12) g19)).size)) g60 (Nat.le_trans (Blk.lt ks) ((Gr.trans (Gr.trans (Gr.ext e5) g12) g19)).size)) (Below.trans (Below.trans e66 (Wr.below h69 (Nat.le_of_eq z64))) (Wr.below h72 (Nat.le_of_eq z64))))) (od c84)) rfl <| fun v87 w85 e86 o88 => lp rfl rfl (xa v87 rfl) <| nx <| wr <| lp rfl rfl (xm v87 rfl) <| lp rfl rfl (X_lenR Tryz.underlying35 rfl (Ow.rd o88)) <| lp rfl rfl (X_leq rfl rfl) <| nx ?_
     rcases bif_two H with ⟨q89, H⟩ | ⟨q89, H⟩
     ·refine W_true (cb q89) <| W_reg <| lp rfl rfl (xm v87 rfl) <| lp rfl rfl (xa v87 rfl) <| L_nil <| blk_n <| thn_n <| W_reg <| lp rfl rfl (X_move h43) <| lp rfl rfl (X_sub rfl rfl) <| lp rfl rfl (xa (.int .i64 (IntKind.wrap .i64 (x4_23 - 1))) rfl) <| nx ?_
      obtain rfl := si H
      exact ⟨_, Nat.lt_succ_self _, (putR 2 x3_21 (⟨z55.1.kind, z55.1.path, z55.1.body, z55.1.mode, false⟩ : Rec)), v87, IntKind.wrap .i64 (x4_23 - 1), z55.2, (ku3 (ku4 (ku8 (ku8 K38 rfl) rfl) rfl) rfl), rfl, (Ow.base o88 ((Gr.trans (Gr.trans (Gr.trans e39 g53) g60) (Gr.ext (Below.trans (Below.trans e66 (Wr.below h69 (Nat.le_of_eq z64))) (Wr.below h72 (Nat.le_of_eq z64)))))).size), rfl, (Blk.ext k61 (Ext.trans (Below.trans (Below.trans e66 (Wr.below h69 (Nat.le_of_eq z64))) (Wr.below h72 (Nat.le_of_eq z64))) e86)), (Gr.trans (Gr.trans (Gr.trans (Gr.trans e39 g53) g60) (Gr.ext (Below.trans (Below.trans e66 (Wr.below h69 (Nat.le_of_eq z64))) (Wr.below h72 (Nat.le_of_eq z64))))) (Gr.ext e86)), (Ext.trans (Below.trans (Below.trans (Ext.trans (Ext.gr (Ext.gr e39c g53 hz) g60 hz) e66) (Below.mono (Wr.below h69 (Nat.le_of_eq z64)) ((Ext.gr (Ext.gr e39c g53 hz) g60 hz)).size)) (Below.mono (Wr.below h72 (Nat.le_of_eq z64)) ((Ext.gr (Ext.gr e39c g53 hz) g60 hz)).size)) e86), S46⟩
     ·refine W_false (cb q89) <| W_skip <| blk_n <| thn_n <| W_reg <| lp rfl rfl (X_move h43) <| lp rfl rfl (X_sub rfl rfl) <| lp rfl rfl (xa (.int .i64 (IntKind.wrap .i64 (x4_23 - 1))) rfl) <| nx ?_
      obtain rfl := si H
      exact ⟨_, Nat.lt_succ_self _, x3_21, v22, IntKind.wrap .i64 (x4_23 - 1), z55.2, (ku1 (ku4 (ku8 (ku8 K38 rfl) rfl) rfl) rfl), h41, (Ow.ext (Ow.later (Ow.later h42 g53 (Nat.le_trans (Blk.lt ks) ((Gr.trans (Gr.trans (Gr.ext e5) g12) g19)).size)) g60 (Nat.le_trans (Blk.lt ks) ((Gr.trans (Gr.trans (Gr.ext e5) g12) g19)).size)) (Ext.trans (Below.trans (Below.trans e66 (Wr.below h69 (Nat.le_of_eq z64))) (Wr.below h72 (Nat.le_of_eq z64))) e86)), rfl, (Blk.ext k61 (Ext.trans (Below.trans (Below.trans e66 (Wr.below h69 (Nat.le_of_eq z64))) (Wr.below h72 (Nat.le_of_eq z64))) e86)), (Gr.trans (Gr.trans (Gr.trans (Gr.trans e39 g53) g60) (Gr.ext (Below.trans (Below.trans e66 (Wr.below h69 (Nat.le_of_eq z64))) (Wr.below h72 (Nat.le_of_eq z64))))) (Gr.ext e86)), (Ext.trans (Below.trans (Below.trans (Ext.trans (Ext.gr (Ext.gr e39c g53 hz) g60 hz) e66) (Below.mono (Wr.below h69 (Nat.le_of_eq z64)) ((Ext.gr (Ext.gr e39c g53 hz) g60 hz)).size)) (Below.mono (Wr.below h72 (Nat.le_of_eq z64)) ((Ext.gr (Ext.gr e39c g53 hz) g60 hz)).size)) e86), S46⟩
   ·refine W_false (cb q47) <| W_exit <| thn_x <| thn_x <| blk_x <| thn_n ?_
    obtain rfl := si H
    obtain rfl := si S46
    exact ⟨x3_21, v22, y24, (ku2 K38 rfl), h41, h42, h44, e39, e39c, rfl⟩
 ·rintro s32 w31 ⟨x3_28, v29, y30, K33, h90, h91, h92, e34, e34c, y93⟩
  rw [y93] at C27
  have H := C27
  replace H : _ = some _ := H
  refine thn_n <| wr <| L_lit (.plain rfl) rfl (ltb rfl) rfl Tryz.underlying29 Tryz.sizeOf60 Tryz.zeroValue60 rfl rfl rfl (vs := []) rfl (lit_all rfl) <| fun b94 w95 z96 z97 e98 k99 => lp rfl rfl (xa (.slice (some ⟨b94, 0, none⟩) 0 0) rfl) <| nx <| W_seq <| wr <| lp rfl rfl (xa (.int .i64 0) rfl) <| nx ?_
  obtain ⟨z103, L104, C105⟩ := bind_some H
  clear H
  refine  W_cutQ (fun s0 sQ wQ => ∃ (x7_106 : List Nd) (v107 : Value), Kp [(7, 9), (36, 50)] s0 sQ ∧ sQ 7 = v107 ∧ Ow 60 4 encNd w95.heap.size wQ v107 x7_106 ∧ Blk wQ bs ((encSrc cv) y30).toArray 162 ∧ Gr bs (bs + 1) w95 wQ ∧ Ext wc wQ ∧ z103 = .inr x7_106) ?_ ?_
  ·refine W_block <| W_loopI (fun s0 kk sQ wQ => ∃ (x7_100 : List Nd) (v101 : Value) (x8_102 : Int), Kp [(7, 9), (36, 50)] s0 sQ ∧ sQ 7 = v101 ∧ Ow 60 4 encNd w95.heap.size wQ v101 x7_100 ∧ sQ 8 = .int .i64 x8_102 ∧ Blk wQ bs ((encSrc cv) y30).toArray 162 ∧ Ow 58 5 encRec w18.heap.size wQ v29 x3_28 ∧ Gr bs (bs + 1) w95 wQ ∧ Ext wc wQ ∧ loopF (draw_tree.b2 x3_28) kk (x7_100, x8_102) = some z103) k ⟨([] : List Nd), (.slice (some ⟨b94, 0, none⟩) 0 0), 0, kz, rfl, (Ow.zero), rfl, (Blk.ext h92 e98), (Ow.ext h91 e98), (Gr.refl _ _ _), (Ext.trans e34c e98), L104⟩ ?_
   rintro k112 s113 w114 ⟨x7_100, v101, x8_102, K115, h118, h119, h120, h121, h122, e116, e116c, L117⟩
   cases k112 with
   | zero => exact absurd L117 (by simp [loopF])
   | succ k112 =>
    obtain ⟨t123, H, S124⟩ := loopF_succ L117
    clear L117
    unfold draw_tree.b2 at H
    refine W_seq <| wr <| lp rfl rfl (X_move h120) <| lp rfl rfl (xm v29 ((K115 3 rfl).trans h90)) <| lp rfl rfl (X_lenR Tryz.underlying35 rfl (Ow.rd h122)) <| lp rfl rfl (X_lss rfl rfl) <| nx ?_
    rcases bif_two H with ⟨q125, H⟩ | ⟨q125, H⟩
    ·refine W_true (cb q125) <| W_skip <| thn_n <| W_seq <| W_block <| W_reg <| lp rfl rfl (X_move h118) <| lp rfl rfl (xm v29 ((K115 3 rfl).trans h90)) <| lp rfl rfl (X_move h120) ?_
     obtain ⟨c126, H⟩ := bif_some H
     refine L_idx (.plain rfl) rfl (ltb rfl) rfl Tryz.underlying35 Tryz.sizeOf58 rfl (Ow.rd h122) rfl c126 <| fun p127 h128 => lp rfl rfl (X_loadS Tryz.isAgg58 Tryz.sizeOf58 rfl rfl h128) <| lc rfl rfl rfl Tryz.call203 (spec_l04Node.calls (w := w114) (a0 := gt x3_28 x8_102)) rfl <| fun w129 e130 => L_lit (.plain rfl) rfl (ltb rfl) rfl Tryz.underlying29 Tryz.sizeOf60 Tryz.zeroValue60 rfl rfl rfl (vs := [(.agg (encNd (ndOf (gt x3_28 x8_102))).toArray)]) rfl (lit_all rfl) <| fun b131 w132 z133 z134 e135 k136 => ?_
     obtain ⟨c137, H⟩ := bif_some H
     refine L_append (enc := encNd) (.plain rfl) rfl (ltb rfl) rfl El.t29 rfl rfl (Ow.ext h119 (e130.t e135)) (Ow.rd (Ow.new (xs := [(ndOf (gt x3_28 x8_102))]) (sz := 4) (enc := encNd) (base := w129.heap.size) k136 (Nat.le_of_eq z133) rfl (fun _ _ => by rfl) (Nat.le_of_ble_eq_true rfl))) (ones_Nd _) (od c137) ((Gr.trans (Gr.trans e116 (Gr.ext e130)) (Gr.ext e135))).size <| fun v138 w139 o140 z141 g142 => lp rfl rfl (xa v138 rfl) <| L_nil <| blk_n <| thn_n <| W_reg <| lp rfl rfl (X_move h120) <| lp rfl rfl (X_add rfl rfl) <| lp rfl rfl (xa (.int .i64 (IntKind.wrap .i64 (x8_102 + 1))) rfl) <| nx ?_
     obtain rfl := si H
     exact ⟨_, Nat.lt_succ_self _, x7_100 ++ ([(ndOf (gt x3_28 x8_102))] : List Nd), v138, IntKind.wrap .i64 (x8_102 + 1), (ku8 (ku8 K115 rfl) rfl), rfl, o140, rfl, (Gr.blk (Gr.ofBelow (g142 _ (Below.refl _ _))) (Blk.ext h121 (e130.t e135)) (Or.inr (Nat.le_trans (Blk.lt ks) ((Gr.trans (Gr.trans (Gr.trans (Gr.trans (Gr.ext e5) g12) g19) e34) (Gr.ext e98))).size))), (Ow.before (Ow.ext h122 (e130.t e135)) (Gr.ofBelow (g142 _ (Below.refl _ _))) (Ow.hb h91) (e98).size), (Gr.thn (Gr.trans (Gr.trans e116 (Gr.ext e130)) (Gr.ext e135)) (g142 _ (Below.refl _ _))), (Below.trans (Ext.trans (Ext.trans e116c e130) e135) (Below.mono (g142 _ (Below.refl _ _)) ((Ext.trans e34c e98)).size)), S124⟩
    ·refine W_false (cb q125) <| W_exit <| thn_x <| thn_x <| blk_x <| thn_n ?_
     obtain rfl := si H
     obtain rfl := si S124
     exact ⟨x7_100, v101, (ku4 K115 rfl), h118, h119, h121, e116, e116c, rfl⟩
  ·rintro s109 w108 ⟨x7_106, v107, K110, h143, h144, h145, e111, e111c, y146⟩
   rw [y146] at C105
   have H := C105
   replace H : _ = some _ := H
   refine thn_n <| wr <| lp rfl rfl (X_move h143) <| lp rfl rfl (xa v107 rfl) <| nx <| W_ret <| fin_r ?_
   obtain rfl := si H
   exact fin1so rfl (Gr.trans (Gr.trans (Gr.trans (Gr.trans (Gr.trans (Gr.ext e5) g12) g19) e34) (Gr.ext e98)) e111) h145 h144 ((Gr.trans (Gr.trans (Gr.trans (Gr.trans (Gr.ext e5) g12) g19) e34) (Gr.ext e98))).size
theorem draw_tree.calls {w : World} {a0 : List Int} {a1 : DSrc} {r : List Nd × DSrc} {wc : World} {cv : Value} {bs : Nat} (kc : Ext wc w) (fc : Rd 1 (Go.UL.encI .u8) wc cv a0) (hz : wc.heap.size ≤ bs) (ks : Blk w bs (encSrc cv a1).toArray 162) (H : (draw_tree.sh 24 a0 a1) = some r) :
  Calls Tryz.prog 116 #[.pointer (some ⟨bs, 0, none⟩)] w (Rt (RSO 162 bs cv 60 4 encNd w r.1 r.2)) := by
 obtain ⟨k, h⟩ := draw_tree.eq a0 a1 H
 exact draw_tree.walk kc fc hz ks h
/-! spec.TreeDrawn -/
theorem spec_TreeDrawn.walk {w : World} {a0 : List Int} {v_a0 : Value} (f_a0 : Rd 1 (Go.UL.encI .u8) w v_a0 a0) {r : List Nd} (H : spec_TreeDrawn.sh a0 = some r) :
  Calls Tryz.prog 25 #[v_a0] w (Rt (RO 60 4 encNd w r)) := by
 unfold spec_TreeDrawn.sh at H
 refine calls_of_W Tryz.func25 rfl (Nat.le_of_ble_eq_true rfl) Tryz.ntmps25 rfl ?_
 refine wr <| lp rfl rfl (xa (.slice none 0 0) rfl) <| nx <| wr <| lp rfl rfl (xm v_a0 rfl) ?_
 obtain ⟨z1, x2, H⟩ := bind_some H
 refine L_callSN (.plain rfl) rfl (ltb rfl) rfl Tryz.call103 (spec_l00Source.calls (w := w) (a0 := a0) f_a0 x2) rfl <| fun b5 w3 z6 e4 k7 => ?_
 obtain ⟨z8, x9, H⟩ := bind_some H
 refine L_callSO (.plain rfl) rfl (ltb rfl) rfl Tryz.call116 (draw_tree.calls (w := w3) (a0 := a0) (a1 := z1) e4 f_a0 z6 k7 x9) rfl <| fun v15 w12 g13 k14 o16 => lp rfl rfl (xa v15 rfl) <| nx <| W_ret <| fin_r ?_
 obtain rfl := si H
 exact fin1o rfl (Ext.gr e4 g13 z6) o16 (e4).size
theorem spec_TreeDrawn.calls {w : World} {a0 : List Int} {r : List Nd} {v_a0 : Value} (f_a0 : Rd 1 (Go.UL.encI .u8) w v_a0 a0) (H : (spec_TreeDrawn.sh a0) = some r) :
  Calls Tryz.prog 25 #[v_a0] w (Rt (RO 60 4 encNd w r)) := spec_TreeDrawn.walk f_a0 (spec_TreeDrawn.eq a0 H)
/-! laws.FnTrees -/
abbrev law_FnTrees.e1 (x26_254 : Int) (y42 : Nd) (z11 : List Nd) := (decide (((gt ((addNode z11 y42).1) x26_254).path) = y42.path))
theorem law_FnTrees.walk {k : Nat} {w : World} {a0 : List Int} {a1 : List Int} (gv : GV 0 w) {v_a0 : Value} (f_a0 : Rd 1 (Go.UL.encI .u8) w v_a0 a0) {v_a1 : Value} (f_a1 : Rd 1 (Go.UL.encI .u8) w v_a1 a1) {r : Bool} (H : law_FnTrees.sh k a0 a1 = some r) :
  Calls Tryz.prog 8 #[v_a0, v_a1] w (Rt (RP w (.bool r))) := by
 unfold law_FnTrees.sh at H
 refine calls_of_W Tryz.func8 rfl (Nat.le_of_ble_eq_true rfl) Tryz.ntmps8 rfl ?_
 refine wr <| lp rfl rfl (xa (.bool false) rfl) <| nx <| W_seq <| wr <| lp rfl rfl (xm v_a0 rfl) <| lp rfl rfl (X_lenR Tryz.underlying22 rfl f_a0) <| lp rfl rfl (X_gtr rfl rfl) <| lp rfl rfl (xm (.bool (decide (1048576 < (a0.length : Int)))) rfl) ?_
 obtain ⟨z2, x3, H⟩ := bind_some H
 refine L_grpE 4 [(38, 42)] 41 (fun q => q = z2) ?_ ?_
 ·rcases bif_two x3 with ⟨b0_, H⟩ | ⟨b0_, H⟩
  ·refine ls rfl rfl rfl (cb b0_) rfl <| ls rfl rfl rfl (cb b0_) rfl <| ls rfl rfl rfl (cb b0_) rfl <| lp rfl rfl (X_pick (b := true) (v := (.bool true)) (cb b0_) rfl) ?_
   obtain rfl := si H
   exact nx ⟨(ku4 kz rfl), ⟨_, rfl, rfl⟩, er⟩
  ·refine lg rfl rfl rfl rfl (cb b0_) (xm v_a1 rfl) <| lg rfl rfl rfl rfl (cb b0_) (X_lenR Tryz.underlying22 rfl f_a1) <| lg rfl rfl rfl rfl (cb b0_) (X_gtr rfl rfl) <| lp rfl rfl (X_pick (b := false) (v := (.bool (decide (1048576 < (a1.length : Int))))) (cb b0_) rfl) ?_
   obtain rfl := si H
   exact nx ⟨(ku4 kz rfl), ⟨_, rfl, rfl⟩, er⟩
 intro s8 w4 z9 K5 hq h6 e7
 rw [hq] at h6; clear hq
 refine nx ?_
 rcases bif_two H with ⟨q10, H⟩ | ⟨q10, H⟩
 ·refine W_true (h6.trans (cb q10)) <| wr <| lp rfl rfl (xa (.bool true) rfl) <| nx <| W_ret <| thn_r <| fin_r ?_
  obtain rfl := si H
  exact fin1 rfl e7
 ·refine W_false (h6.trans (cb q10)) <| W_skip <| thn_n <| wr <| lp rfl rfl (xm v_a0 (K5 0 rfl)) ?_
  obtain ⟨z11, x12, H⟩ := bind_some H
  refine L_callO (.plain rfl) rfl (ltb rfl) rfl Tryz.call25 (spec_TreeDrawn.calls (w := w4) (a0 := a0) (Rd.ext f_a0 e7) x12) rfl <| fun v15 w13 e14 o16 => lp rfl rfl (xa v15 rfl) <| nx <| wr <| lp rfl rfl (xm v_a1 (K5 1 rfl)) ?_
  obtain ⟨z17, x18, H⟩ := bind_some H
  refine lc rfl rfl rfl Tryz.call57 (spec_RecordDrawn.calls (w := w13) (a0 := a1) (Rd.ext f_a1 (e7.t e14)) x18) rfl <| fun w19 e20 => L_alloc (.plain rfl) rfl (ltb rfl) rfl Tryz.zeroValue58 <| fun b21 w22 z23 z24 e25 k26 => L_storeA (.plain rfl) rfl rfl Tryz.sizeOf58 rfl rfl rfl rfl rfl k26 <| fun w27 h28 k29 => nx <| wr <| lp rfl rfl (X_fieldAddr Tryz.underlying58 rfl Tryz.sizeOf3 rfl rfl) <| lp rfl rfl (X_loadB Tryz.isAgg3 k29 rfl rfl) <| lp rfl rfl (X_fieldAddr Tryz.underlying58 rfl Tryz.sizeOf9 rfl rfl) <| lp rfl rfl (X_loadB Tryz.isAgg9 k29 rfl rfl) <| lp rfl rfl (X_fieldAddr Tryz.underlying58 rfl Tryz.sizeOf9 rfl rfl) <| lp rfl rfl (X_loadB Tryz.isAgg9 k29 rfl rfl) <| lp rfl rfl (X_fieldAddr Tryz.underlying58 rfl Tryz.sizeOf3 rfl rfl) <| lp rfl rfl (X_loadB Tryz.isAgg3 k29 rfl rfl) <| lp rfl rfl (X_build1 (vs := [(0, (.int .i64 z17.kind)), (1, (S z17.path)), (2, (S z17.body)), (3, (.int .i64 z17.mode))]) (pl := #[(0, 1), (1, 1), (2, 1), (3, 1)]) Tryz.underlying60 Tryz.zeroValue60 rfl (fun _ => by kernel_rfl) rfl rfl rfl) <| L_alloc (.plain rfl) rfl (ltb rfl) rfl Tryz.zeroValue60 <| fun b30 w31 z32 z33 e34 k35 => L_storeA (.plain rfl) rfl rfl Tryz.sizeOf60 rfl rfl rfl rfl rfl k35 <| fun w36 h37 k38 => nx <| W_seq <| wr <| lp rfl rfl (X_fieldAddr Tryz.underlying60 rfl Tryz.sizeOf3 rfl rfl) <| lp rfl rfl (X_loadB Tryz.isAgg3 k38 rfl rfl) <| lp rfl rfl (X_eql rfl rfl) <| nx ?_
  obtain ⟨z39, L40, C41⟩ := bind_some H
  clear H
  refine W_cutQ (fun s0 sQ wQ => ∃ (y42 : Nd), Kp [(58, 59)] s0 sQ ∧ Blk wQ b30 (encNd y42).toArray 60 ∧ Ext w27 wQ ∧ z39 = .inr y42) ?_ ?_
  ·have H := L40
   rcases bif_two H with ⟨q43, H⟩ | ⟨q43, H⟩
   ·refine W_true (cb q43) <| W_reg <| lp rfl rfl (X_fieldAddr Tryz.underlying60 rfl Tryz.sizeOf3 rfl rfl) <| L_store1 (.plain rfl) rfl rfl Tryz.sizeOf3 rfl rfl rfl k38 (ltb rfl) <| fun w44 h45 k46 => nx ?_
    obtain rfl := si H
    exact ⟨(⟨3, z17.path, z17.body, z17.mode⟩ : Nd), (ku1 kz rfl), k46, (Below.trans (Below.trans e34 (Wr.below h37 (Nat.le_of_eq z32))) (Wr.below h45 (Nat.le_of_eq z32))), rfl⟩
   ·refine W_false (cb q43) <| W_skip <| thn_n ?_
    obtain rfl := si H
    exact ⟨(⟨z17.kind, z17.path, z17.body, z17.mode⟩ : Nd), kz, k38, (Below.trans e34 (Wr.below h37 (Nat.le_of_eq z32))), rfl⟩
  ·rintro s48 w47 ⟨y42, K49, h52, e50, y51⟩
   rw [y51] at C41
   have H := C41
   refine thn_n <| wr <| lp rfl rfl (xm v15 (K49 5 rfl)) <| lp rfl rfl (X_loadS Tryz.isAgg60 Tryz.sizeOf60 rfl (K49 7 rfl) (Blk.at0 h52)) ?_
   obtain ⟨c53, H⟩ := bif_some H
   obtain ⟨c54, H⟩ := bif_some H
   obtain ⟨c55, H⟩ := bif_some H
   refine L_callT (.plain rfl) rfl (ltb rfl) rfl Tryz.call59 (impl_AddNode.calls (w := w47) (a0 := z11) (a1 := y42) (GV.ext gv ((((e7.t e14).t e20).t (Below.trans e25 (Wr.below h28 (Nat.le_of_eq z23)))).t e50)) (Ow.rd (Ow.ext o16 ((e20.t (Below.trans e25 (Wr.below h28 (Nat.le_of_eq z23)))).t e50))) (od c53) (od c54) (od c55)) rfl <| fun v58 w56 e57 o59 => lp rfl rfl (xm (.tuple #[v58, (.int .i64 ((addNode z11 y42).2))]) rfl) <| lp rfl rfl (X_extract (v := v58) rfl rfl) <| lp rfl rfl (X_extract (v := (.int .i64 ((addNode z11 y42).2))) rfl rfl) <| lp rfl rfl (xa v58 rfl) <| lp rfl rfl (xa (.int .i64 ((addNode z11 y42).2)) rfl) <| nx <| wr <| lp rfl rfl (xm v15 (K49 5 rfl)) <| lp rfl rfl (X_loadS Tryz.isAgg60 Tryz.sizeOf60 rfl (K49 7 rfl) (Blk.at0 (Blk.ext h52 e57))) ?_
   obtain ⟨c60, H⟩ := bif_some H
   obtain ⟨c61, H⟩ := bif_some H
   obtain ⟨c62, H⟩ := bif_some H
   refine L_callT (.plain rfl) rfl (ltb rfl) rfl Tryz.call60 (spec_AddNode.calls (w := w56) (a0 := z11) (a1 := y42) (Ow.rd (Ow.ext o16 (((e20.t (Below.trans e25 (Wr.below h28 (Nat.le_of_eq z23)))).t e50).t e57))) (od c60) (od c61) (od c62)) rfl <| fun v65 w63 e64 o66 => lp rfl rfl (xm (.tuple #[v65, (.int .i64 ((addNode z11 y42).2))]) rfl) <| lp rfl rfl (X_extract (v := v65) rfl rfl) <| lp rfl rfl (X_extract (v := (.int .i64 ((addNode z11 y42).2))) rfl rfl) <| lp rfl rfl (xa v65 rfl) <| lp rfl rfl (xa (.int .i64 ((addNode z11 y42).2)) rfl) <| nx <| W_seq <| wr <| lp rfl rfl (xm (.int .i64 ((addNode z11 y42).2)) rfl) <| lp rfl rfl (xm (.int .i64 ((addNode z11 y42).2)) rfl) <| lp rfl rfl (X_neq rfl rfl) <| lp rfl rfl (xm (.bool (!decide (((addNode z11 y42).2) = ((addNode z11 y42).2)))) rfl) ?_
   obtain ⟨z68, x69, H⟩ := bind_some H
   refine L_grpE 5 [(75, 80)] 79 (fun q => q = z68) ?_ ?_
   ·rcases bif_two x69 with ⟨b66_, H⟩ | ⟨b66_, H⟩
    ·refine ls rfl rfl rfl (cb b66_) rfl <| ls rfl rfl rfl (cb b66_) rfl <| ls rfl rfl rfl (cb b66_) rfl <| ls rfl rfl rfl (cb b66_) rfl <| lp rfl rfl (X_pick (b := true) (v := (.bool true)) (cb b66_) rfl) ?_
     obtain rfl := si H
     exact nx ⟨(ku1 (ku4 kz rfl) rfl), ⟨_, rfl, rfl⟩, er⟩
    ·refine lg rfl rfl rfl rfl (cb b66_) (xm v58 rfl) <| lg rfl rfl rfl rfl (cb b66_) (xm v65 rfl) ?_
     obtain ⟨c68, H⟩ := bif_some H
     refine L_callP (tg rfl rfl rfl (cb b66_)) rfl (ltb rfl) rfl Tryz.call22 (laws_sameNodes.calls (w := w63) (a0 := (addNode z11 y42).1) (a1 := (addNode z11 y42).1) (Ow.rd (Ow.ext o59 e64)) (Ow.rd o66) (od c68)) rfl <| fun w69 e70 => lg rfl rfl rfl rfl (cb b66_) (X_not rfl) <| lp rfl rfl (X_pick (b := false) (v := (.bool (!(decide (((addNode z11 y42).1) = ((addNode z11 y42).1)))))) (cb b66_) rfl) ?_
     obtain rfl := si H
     exact nx ⟨(ku1 (ku4 kz rfl) rfl), ⟨_, rfl, rfl⟩, e70⟩
   intro s74 w70 z75 K71 hq h72 e73
   rw [hq] at h72; clear hq
   refine lp rfl rfl (X_move h72) ?_
   obtain ⟨z77, x78, H⟩ := bind_some H
   refine L_grpE 4 [(81, 85)] 84 (fun q => q = z77) ?_ ?_
   ·rcases bif_two x78 with ⟨b75_, H⟩ | ⟨b75_, H⟩
    ·refine ls rfl rfl rfl (cb b75_) rfl <| ls rfl rfl rfl (cb b75_) rfl <| ls rfl rfl rfl (cb b75_) rfl <| lp rfl rfl (X_pick (b := true) (v := (.bool true)) (cb b75_) rfl) ?_
     obtain rfl := si H
     exact nx ⟨(ku4 kz rfl), ⟨_, rfl, rfl⟩, er⟩
    ·refine lg rfl rfl rfl rfl (cb b75_) (xm v58 (K71 8 rfl)) ?_
     obtain ⟨c77, H⟩ := bif_some H
     obtain ⟨c78, H⟩ := bif_some H
     refine L_callP (tg rfl rfl rfl (cb b75_)) rfl (ltb rfl) rfl Tryz.call43 (impl_TreeOK.calls (w := w70) (a0 := (addNode z11 y42).1) (GV.ext gv (((((((e7.t e14).t e20).t (Below.trans e25 (Wr.below h28 (Nat.le_of_eq z23)))).t e50).t e57).t e64).t e73)) (Ow.rd (Ow.ext o59 (e64.t e73))) (od c77) (od c78)) rfl <| fun w79 e80 => lg rfl rfl rfl rfl (cb b75_) (X_not rfl) <| lp rfl rfl (X_pick (b := false) (v := (.bool (!(treeOK ((addNode z11 y42).1))))) (cb b75_) rfl) ?_
     obtain rfl := si H
     exact nx ⟨(ku4 kz rfl), ⟨_, rfl, rfl⟩, e80⟩
   intro s83 w79 z84 K80 hq h81 e82
   rw [hq] at h81; clear hq
   refine lp rfl rfl (X_move h81) ?_
   obtain ⟨z86, x87, H⟩ := bind_some H
   refine L_grpE 4 [(86, 90)] 89 (fun q => q = z86) ?_ ?_
   ·rcases bif_two x87 with ⟨b84_, H⟩ | ⟨b84_, H⟩
    ·refine ls rfl rfl rfl (cb b84_) rfl <| ls rfl rfl rfl (cb b84_) rfl <| ls rfl rfl rfl (cb b84_) rfl <| lp rfl rfl (X_pick (b := true) (v := (.bool true)) (cb b84_) rfl) ?_
     obtain rfl := si H
     exact nx ⟨(ku4 kz rfl), ⟨_, rfl, rfl⟩, er⟩
    ·refine lg rfl rfl rfl rfl (cb b84_) (xm v15 ((K80 5 rfl).trans ((K71 5 rfl).trans (K49 5 rfl)))) ?_
     obtain ⟨c86, H⟩ := bif_some H
     obtain ⟨c87, H⟩ := bif_some H
     refine L_callP (tg rfl rfl rfl (cb b84_)) rfl (ltb rfl) rfl Tryz.call43 (impl_TreeOK.calls (w := w79) (a0 := z11) (GV.ext gv ((((((((e7.t e14).t e20).t (Below.trans e25 (Wr.below h28 (Nat.le_of_eq z23)))).t e50).t e57).t e64).t e73).t e82)) (Ow.rd (Ow.ext o16 ((((((e20.t (Below.trans e25 (Wr.below h28 (Nat.le_of_eq z23)))).t e50).t e57).t e64).t e73).t e82))) (od c86) (od c87)) rfl <| fun w88 e89 => lg rfl rfl rfl rfl (cb b84_) (X_not rfl) <| lp rfl rfl (X_pick (b := false) (v := (.bool (!(treeOK z11)))) (cb b84_) rfl) ?_
     obtain rfl := si H
     exact nx ⟨(ku4 kz rfl), ⟨_, rfl, rfl⟩, e89⟩
   intro s92 w88 z93 K89 hq h90 e91
   rw [hq] at h90; clear hq
   refine nx ?_
   rcases bif_two H with ⟨q94, H⟩ | ⟨q94, H⟩
   ·refine W_true (h90.trans (cb q94)) <| wr <| lp rfl rfl (xa (.bool false) rfl) <| nx <| W_ret <| thn_r <| fin_r ?_
    obtain rfl := si H
    exact fin1 rfl (((((((((e7.t e14).t e20).t (Below.trans e25 (Wr.below h28 (Nat.le_of_eq z23)))).t e50).t e57).t e64).t e73).t e82).t e91)
   ·refine W_false (h90.trans (cb q94)) <| W_skip <| thn_n <| wr <| lp rfl rfl (X_fieldAddr Tryz.underlying60 rfl Tryz.sizeOf9 rfl ((K89 7 rfl).trans ((K80 7 rfl).trans ((K71 7 rfl).trans (K49 7 rfl))))) <| lp rfl rfl (X_loadB Tryz.isAgg9 (Blk.ext h52 ((((e57.t e64).t e73).t e82).t e91)) rfl rfl) <| lc rfl rfl rfl Tryz.call61 (spec_ParentOf.calls (w := w88) (a0 := y42.path)) rfl <| fun w95 e96 => lp rfl rfl (X_move rfl) <| lp rfl rfl (X_extract (v := (S ((parentOf y42.path).1))) rfl rfl) <| lp rfl rfl (X_extract (v := (.int .i64 ((parentOf y42.path).2))) rfl rfl) <| lp rfl rfl (xa (S ((parentOf y42.path).1)) rfl) <| lp rfl rfl (xa (.int .i64 ((parentOf y42.path).2)) rfl) <| nx <| wr <| lp rfl rfl (xm v65 ((K89 10 rfl).trans ((K80 10 rfl).trans (K71 10 rfl)))) <| lp rfl rfl (xm (S ((parentOf y42.path).1)) rfl) ?_
    obtain ⟨c97, H⟩ := bif_some H
    obtain ⟨c98, H⟩ := bif_some H
    obtain ⟨z101, x102, H⟩ := bind_some H
    replace x102 := si x102
    obtain ⟨z103, x104, H⟩ := bind_some H
    replace x104 := si x104
    refine L_callT (.plain rfl) rfl (ltb rfl) rfl Tryz.call62 (impl_ListDir.calls (w := w95) (a0 := (addNode z11 y42).1) (a1 := (parentOf y42.path).1) (GV.ext gv ((((((((((e7.t e14).t e20).t (Below.trans e25 (Wr.below h28 (Nat.le_of_eq z23)))).t e50).t e57).t e64).t e73).t e82).t e91).t e96)) (Ow.rd (Ow.ext o66 (((e73.t e82).t e91).t e96))) (od c97) (od c98)) rfl <| fun v105 w99 e100 o106 => lp rfl rfl (X_move rfl) <| lp rfl rfl (X_extract (v := v105) rfl rfl) <| lp rfl rfl (X_extract rfl rfl) <| lp rfl rfl (xa v105 rfl) <| lp rfl rfl (xa (.int .i64 z103) (congrArg (Value.int .i64) x104)) <| nx <| wr <| lp rfl rfl (xm v65 ((K89 10 rfl).trans ((K80 10 rfl).trans (K71 10 rfl)))) <| lp rfl rfl (xm (S ((parentOf y42.path).1)) rfl) ?_
    obtain ⟨c107, H⟩ := bif_some H
    obtain ⟨c108, H⟩ := bif_some H
    obtain ⟨z111, x112, H⟩ := bind_some H
    replace x112 := si x112
    obtain ⟨z113, x114, H⟩ := bind_some H
    replace x114 := si x114
    refine L_callT (.plain rfl) rfl (ltb rfl) rfl Tryz.call63 (spec_ListDir.calls (w := w99) (a0 := (addNode z11 y42).1) (a1 := (parentOf y42.path).1) (Ow.rd (Ow.ext o66 ((((e73.t e82).t e91).t e96).t e100))) (od c107) (od c108)) rfl <| fun v115 w109 e110 o116 => lp rfl rfl (X_move rfl) <| lp rfl rfl (X_extract (v := v115) rfl rfl) <| lp rfl rfl (X_extract rfl rfl) <| lp rfl rfl (xa v115 rfl) <| lp rfl rfl (xa (.int .i64 z113) (congrArg (Value.int .i64) x114)) <| nx <| wr <| lp rfl rfl (xm v65 ((K89 10 rfl).trans ((K80 10 rfl).trans (K71 10 rfl)))) <| lp rfl rfl (X_fieldAddr Tryz.underlying60 rfl Tryz.sizeOf9 rfl ((K89 7 rfl).trans ((K80 7 rfl).trans ((K71 7 rfl).trans (K49 7 rfl))))) <| lp rfl rfl (X_loadB Tryz.isAgg9 (Blk.ext h52 (((((((e57.t e64).t e73).t e82).t e91).t e96).t e100).t e110)) rfl rfl) ?_
    obtain ⟨c117, H⟩ := bif_some H
    obtain ⟨c118, H⟩ := bif_some H
    obtain ⟨z121, x122, H⟩ := bind_some H
    replace x122 := si x122
    obtain ⟨z123, x124, H⟩ := bind_some H
    replace x124 := si x124
    refine lc rfl rfl rfl Tryz.call64 (impl_FindNode.calls (w := w109) (a0 := (addNode z11 y42).1) (a1 := y42.path) (GV.ext gv ((((((((((((e7.t e14).t e20).t (Below.trans e25 (Wr.below h28 (Nat.le_of_eq z23)))).t e50).t e57).t e64).t e73).t e82).t e91).t e96).t e100).t e110)) (Ow.rd (Ow.ext o66 (((((e73.t e82).t e91).t e96).t e100).t e110))) (od c117) (od c118)) rfl <| fun w119 e120 => lp rfl rfl (X_move rfl) <| lp rfl rfl (X_extract (v := (.agg (encNd ((findNode ((addNode z11 y42).1) y42.path).1)).toArray)) rfl rfl) <| lp rfl rfl (X_extract (v := (.int .i64 ((findNode ((addNode z11 y42).1) y42.path).2))) rfl rfl) <| L_alloc (.plain rfl) rfl (ltb rfl) rfl Tryz.zeroValue60 <| fun b125 w126 z127 z128 e129 k130 => L_storeA (.plain rfl) rfl rfl Tryz.sizeOf60 rfl (congrArg (fun q9 => Value.agg (encNd q9).toArray) x122) rfl rfl rfl k130 <| fun w131 h132 k133 => lp rfl rfl (xa (.int .i64 z123) (congrArg (Value.int .i64) x124)) <| nx <| wr <| lp rfl rfl (xm v65 ((K89 10 rfl).trans ((K80 10 rfl).trans (K71 10 rfl)))) <| lp rfl rfl (X_fieldAddr Tryz.underlying60 rfl Tryz.sizeOf9 rfl ((K89 7 rfl).trans ((K80 7 rfl).trans ((K71 7 rfl).trans (K49 7 rfl))))) <| lp rfl rfl (X_loadB Tryz.isAgg9 (Blk.ext h52 (((((((((e57.t e64).t e73).t e82).t e91).t e96).t e100).t e110).t e120).t (Below.trans e129 (Wr.below h132 (Nat.le_of_eq z127))))) rfl rfl) ?_
    obtain ⟨c134, H⟩ := bif_some H
    obtain ⟨c135, H⟩ := bif_some H
    obtain ⟨z138, x139, H⟩ := bind_some H
    replace x139 := si x139
    obtain ⟨z140, x141, H⟩ := bind_some H
    replace x141 := si x141
    refine lc rfl rfl rfl Tryz.call65 (spec_FindNode.calls (w := w131) (a0 := (addNode z11 y42).1) (a1 := y42.path) (Ow.rd (Ow.ext o66 (((((((e73.t e82).t e91).t e96).t e100).t e110).t e120).t (Below.trans e129 (Wr.below h132 (Nat.le_of_eq z127)))))) (od c134) (od c135)) rfl <| fun w136 e137 => lp rfl rfl (X_move rfl) <| lp rfl rfl (X_extract (v := (.agg (encNd ((findNode ((addNode z11 y42).1) y42.path).1)).toArray)) rfl rfl) <| lp rfl rfl (X_extract (v := (.int .i64 ((findNode ((addNode z11 y42).1) y42.path).2))) rfl rfl) <| L_alloc (.plain rfl) rfl (ltb rfl) rfl Tryz.zeroValue60 <| fun b142 w143 z144 z145 e146 k147 => L_storeA (.plain rfl) rfl rfl Tryz.sizeOf60 rfl (congrArg (fun q9 => Value.agg (encNd q9).toArray) x139) rfl rfl rfl k147 <| fun w148 h149 k150 => lp rfl rfl (xa (.int .i64 z140) (congrArg (Value.int .i64) x141)) <| nx <| W_seq <| wr <| lp rfl rfl (xm (.int .i64 z103) rfl) <| lp rfl rfl (xm (.int .i64 z113) rfl) <| lp rfl rfl (X_neq rfl rfl) <| lp rfl rfl (xm (.bool (!decide (z103 = z113))) rfl) ?_
    obtain ⟨z152, x153, H⟩ := bind_some H
    refine L_grpE 5 [(126, 131)] 130 (fun q => q = z152) ?_ ?_
    ·rcases bif_two x153 with ⟨b150_, H⟩ | ⟨b150_, H⟩
     ·refine ls rfl rfl rfl (cb b150_) rfl <| ls rfl rfl rfl (cb b150_) rfl <| ls rfl rfl rfl (cb b150_) rfl <| ls rfl rfl rfl (cb b150_) rfl <| lp rfl rfl (X_pick (b := true) (v := (.bool true)) (cb b150_) rfl) ?_
      obtain rfl := si H
      exact nx ⟨(ku1 (ku4 kz rfl) rfl), ⟨_, rfl, rfl⟩, er⟩
     ·refine lg rfl rfl rfl rfl (cb b150_) (xm v105 rfl) <| lg rfl rfl rfl rfl (cb b150_) (xm v115 rfl) ?_
      obtain ⟨c152, H⟩ := bif_some H
      refine L_callP (tg rfl rfl rfl (cb b150_)) rfl (ltb rfl) rfl Tryz.call32 (laws_sameTexts.calls (w := w148) (a0 := z101) (a1 := z111) (Ow.rd (Ow.ext (x102 ▸ o106) ((((e110.t e120).t (Below.trans e129 (Wr.below h132 (Nat.le_of_eq z127)))).t e137).t (Below.trans e146 (Wr.below h149 (Nat.le_of_eq z144)))))) (Ow.rd (Ow.ext (x112 ▸ o116) (((e120.t (Below.trans e129 (Wr.below h132 (Nat.le_of_eq z127)))).t e137).t (Below.trans e146 (Wr.below h149 (Nat.le_of_eq z144)))))) (od c152)) rfl <| fun w153 e154 => lg rfl rfl rfl rfl (cb b150_) (X_not rfl) <| lp rfl rfl (X_pick (b := false) (v := (.bool (!(decide (z101 = z111))))) (cb b150_) rfl) ?_
      obtain rfl := si H
      exact nx ⟨(ku1 (ku4 kz rfl) rfl), ⟨_, rfl, rfl⟩, e154⟩
    intro s158 w154 z159 K155 hq h156 e157
    rw [hq] at h156; clear hq
    refine lp rfl rfl (X_move h156) <| L_grp 4 [(132, 136)] 135 (.bool (z152 || (!decide (z123 = z140)))) ?_ ?_
    ·rcases bool_two z152 with b159_ | b159_
     ·exact ls rfl rfl rfl (cb b159_) rfl <| ls rfl rfl rfl (cb b159_) rfl <| ls rfl rfl rfl (cb b159_) rfl <| lp rfl rfl (X_pick (b := true) (v := (.bool true)) (cb b159_) rfl) <| nx ⟨(ku4 kz rfl), (or_t b159_), er⟩
     ·exact lg rfl rfl rfl rfl (cb b159_) (xm (.int .i64 z123) (K155 19 rfl)) <| lg rfl rfl rfl rfl (cb b159_) (xm (.int .i64 z140) (K155 21 rfl)) <| lg rfl rfl rfl rfl (cb b159_) (X_neq rfl rfl) <| lp rfl rfl (X_pick (b := false) (v := (.bool (!decide (z123 = z140)))) (cb b159_) rfl) <| nx ⟨(ku4 kz rfl), (or_f b159_), er⟩
    intro s165 w161 K162 h163 e164
    refine lp rfl rfl (X_move h163) ?_
    obtain ⟨z167, x168, H⟩ := bind_some H
    refine L_grpE 4 [(137, 141)] 140 (fun q => q = z167) ?_ ?_
    ·rcases bif_two x168 with ⟨b165_, H⟩ | ⟨b165_, H⟩
     ·refine ls rfl rfl rfl (cb b165_) rfl <| ls rfl rfl rfl (cb b165_) rfl <| ls rfl rfl rfl (cb b165_) rfl <| lp rfl rfl (X_pick (b := true) (v := (.bool true)) (cb b165_) rfl) ?_
      obtain rfl := si H
      exact nx ⟨(ku4 kz rfl), ⟨_, rfl, rfl⟩, er⟩
     ·refine lg rfl rfl rfl rfl (cb b165_) (X_loadS Tryz.isAgg60 Tryz.sizeOf60 rfl ((K162 18 rfl).trans (K155 18 rfl)) (Blk.at0 (Blk.ext k133 (((e137.t (Below.trans e146 (Wr.below h149 (Nat.le_of_eq z144)))).t e157).t e164)))) <| lg rfl rfl rfl rfl (cb b165_) (X_loadS Tryz.isAgg60 Tryz.sizeOf60 rfl ((K162 20 rfl).trans (K155 20 rfl)) (Blk.at0 (Blk.ext k150 (e157.t e164)))) <| lg rfl rfl rfl rfl (cb b165_) (X_neA Eqg.t60 (Eqs.t60 z121 z138) rfl rfl) <| lp rfl rfl (X_pick (b := false) (v := (.bool (!decide (z121 = z138)))) (cb b165_) rfl) ?_
      obtain rfl := si H
      exact nx ⟨(ku4 kz rfl), ⟨_, rfl, rfl⟩, er⟩
    intro s173 w169 z174 K170 hq h171 e172
    rw [hq] at h171; clear hq
    refine lp rfl rfl (X_move h171) ?_
    obtain ⟨z176, x177, H⟩ := bind_some H
    refine L_grpE 20 [(142, 162)] 161 (fun q => q = z176) ?_ ?_
    ·rcases bif_two x177 with ⟨b174_, H⟩ | ⟨b174_, H⟩
     ·refine ls rfl rfl rfl (cb b174_) rfl <| ls rfl rfl rfl (cb b174_) rfl <| ls rfl rfl rfl (cb b174_) rfl <| lu rfl rfl rfl rfl rfl <| lu rfl rfl rfl rfl rfl <| lu rfl rfl rfl rfl rfl <| lu rfl rfl rfl rfl rfl <| lu rfl rfl rfl rfl rfl <| lu rfl rfl rfl rfl rfl <| lu rfl rfl rfl rfl rfl <| lu rfl rfl rfl rfl rfl <| lu rfl rfl rfl rfl rfl <| lu rfl rfl rfl rfl rfl <| lu rfl rfl rfl rfl rfl <| lu rfl rfl rfl rfl rfl <| lu rfl rfl rfl rfl rfl <| lu rfl rfl rfl rfl rfl <| lu rfl rfl rfl rfl rfl <| ls rfl rfl rfl (cb b174_) rfl <| lp rfl rfl (X_pick (b := true) (v := (.bool true)) (cb b174_) rfl) ?_
      obtain rfl := si H
      exact nx ⟨(ku4 (ku8 (ku8 kz rfl) rfl) rfl), ⟨_, rfl, rfl⟩, er⟩
     ·refine lg rfl rfl rfl rfl (cb b174_) (xm (.int .i64 ((addNode z11 y42).2)) ((K170 11 rfl).trans ((K162 11 rfl).trans ((K155 11 rfl).trans ((K89 11 rfl).trans ((K80 11 rfl).trans (K71 11 rfl))))))) <| lg rfl rfl rfl rfl (cb b174_) (X_eql rfl rfl) <| lg rfl rfl rfl rfl (cb b174_) (xm (.bool (decide (((addNode z11 y42).2) = 0))) rfl) ?_
      obtain ⟨z177, x178, H⟩ := bind_some H
      refine L_grpE 16 [(145, 161)] 160 (fun q => q = z177) ?_ ?_
      ·rcases bif_two x178 with ⟨b175_, H⟩ | ⟨b175_, H⟩
       ·refine lg rfl rfl rfl rfl (cb b175_) (xm (.int .i64 z140) ((K170 21 rfl).trans ((K162 21 rfl).trans (K155 21 rfl)))) <| lg rfl rfl rfl rfl (cb b175_) (X_neq rfl rfl) <| lg rfl rfl rfl rfl (cb b175_) (xm (.bool (!decide (z140 = 0))) rfl) ?_
        obtain ⟨z178, x179, H⟩ := bind_some H
        refine L_grpE 4 [(148, 152)] 151 (fun q => q = z178) ?_ ?_
        ·rcases bif_two x179 with ⟨b176_, H⟩ | ⟨b176_, H⟩
         ·refine ls rfl rfl rfl (cb b176_) rfl <| ls rfl rfl rfl (cb b176_) rfl <| ls rfl rfl rfl (cb b176_) rfl <| lg rfl rfl rfl rfl (cb b175_) (X_pick (b := true) (v := (.bool true)) (cb b176_) rfl) ?_
          obtain rfl := si H
          exact nx ⟨(ku4 kz rfl), ⟨_, rfl, rfl⟩, er⟩
         ·refine lg rfl rfl rfl rfl (cb b176_) (X_loadS Tryz.isAgg60 Tryz.sizeOf60 rfl ((K170 20 rfl).trans ((K162 20 rfl).trans (K155 20 rfl))) (Blk.at0 (Blk.ext k150 ((e157.t e164).t e172)))) <| lg rfl rfl rfl rfl (cb b176_) (X_loadS Tryz.isAgg60 Tryz.sizeOf60 rfl ((K170 7 rfl).trans ((K162 7 rfl).trans ((K155 7 rfl).trans ((K89 7 rfl).trans ((K80 7 rfl).trans ((K71 7 rfl).trans (K49 7 rfl))))))) (Blk.at0 (Blk.ext h52 ((((((((((((((e57.t e64).t e73).t e82).t e91).t e96).t e100).t e110).t e120).t (Below.trans e129 (Wr.below h132 (Nat.le_of_eq z127)))).t e137).t (Below.trans e146 (Wr.below h149 (Nat.le_of_eq z144)))).t e157).t e164).t e172)))) <| lg rfl rfl rfl rfl (cb b176_) (X_neA Eqg.t60 (Eqs.t60 z138 y42) rfl rfl) <| lg rfl rfl rfl rfl (cb b175_) (X_pick (b := false) (v := (.bool (!decide (z138 = y42)))) (cb b176_) rfl) ?_
          obtain rfl := si H
          exact nx ⟨(ku4 kz rfl), ⟨_, rfl, rfl⟩, er⟩
        intro s184 w180 z185 K181 hq h182 e183
        rw [hq] at h182; clear hq
        refine lg rfl rfl rfl rfl ((K181 144 rfl).trans (cb b175_)) (X_move h182) ?_
        obtain ⟨z187, x188, H⟩ := bind_some H
        refine L_grpE 7 [(153, 160)] 159 (fun q => q = z187) ?_ ?_
        ·rcases bif_two x188 with ⟨b185_, H⟩ | ⟨b185_, H⟩
         ·refine ls rfl rfl rfl (cb b185_) rfl <| ls rfl rfl rfl (cb b185_) rfl <| ls rfl rfl rfl (cb b185_) rfl <| ls rfl rfl rfl (cb b185_) rfl <| ls rfl rfl rfl (cb b185_) rfl <| ls rfl rfl rfl (cb b185_) rfl <| lg rfl rfl rfl rfl ((K181 144 rfl).trans (cb b175_)) (X_pick (b := true) (v := (.bool true)) (cb b185_) rfl) ?_
          obtain rfl := si H
          exact nx ⟨(ku3 (ku4 kz rfl) rfl), ⟨_, rfl, rfl⟩, er⟩
         ·refine lg rfl rfl rfl rfl (cb b185_) (xm v65 ((K181 10 rfl).trans ((K170 10 rfl).trans ((K162 10 rfl).trans ((K155 10 rfl).trans ((K89 10 rfl).trans ((K80 10 rfl).trans (K71 10 rfl)))))))) <| lg rfl rfl rfl rfl (cb b185_) (X_lenR Tryz.underlying29 rfl (Ow.rd (Ow.ext o66 (((((((((((((e73.t e82).t e91).t e96).t e100).t e110).t e120).t (Below.trans e129 (Wr.below h132 (Nat.le_of_eq z127)))).t e137).t (Below.trans e146 (Wr.below h149 (Nat.le_of_eq z144)))).t e157).t e164).t e172).t e183)))) <| lg rfl rfl rfl rfl (cb b185_) (xm v15 ((K181 5 rfl).trans ((K170 5 rfl).trans ((K162 5 rfl).trans ((K155 5 rfl).trans ((K89 5 rfl).trans ((K80 5 rfl).trans ((K71 5 rfl).trans (K49 5 rfl))))))))) <| lg rfl rfl rfl rfl (cb b185_) (X_lenR Tryz.underlying29 rfl (Ow.rd (Ow.ext o16 ((((((((((((((((((e20.t (Below.trans e25 (Wr.below h28 (Nat.le_of_eq z23)))).t e50).t e57).t e64).t e73).t e82).t e91).t e96).t e100).t e110).t e120).t (Below.trans e129 (Wr.below h132 (Nat.le_of_eq z127)))).t e137).t (Below.trans e146 (Wr.below h149 (Nat.le_of_eq z144)))).t e157).t e164).t e172).t e183)))) <| lg rfl rfl rfl rfl (cb b185_) (X_add rfl rfl) <| lg rfl rfl rfl rfl (cb b185_) (X_neq rfl rfl) <| lg rfl rfl rfl rfl ((K181 144 rfl).trans (cb b175_)) (X_pick (b := false) (v := (.bool (!decide ((((addNode z11 y42).1).length : Int) = (IntKind.wrap .i64 ((z11.length : Int) + 1)))))) (cb b185_) rfl) ?_
          obtain rfl := si H
          exact nx ⟨(ku3 (ku4 kz rfl) rfl), ⟨_, rfl, rfl⟩, er⟩
        intro s193 w189 z194 K190 hq h191 e192
        rw [hq] at h191; clear hq
        refine lg rfl rfl rfl rfl (((K190 141 rfl).trans (K181 141 rfl)).trans (cb b174_)) (X_pick (b := true) (v := (.bool z187)) (((K190 144 rfl).trans (K181 144 rfl)).trans (cb b175_)) h191) ?_
        obtain rfl := si H
        exact nx ⟨(ku1 (Kp.cut (ku1 (Kp.cut (ku3 kz rfl) K181 rfl) rfl) K190 rfl) rfl), ⟨_, rfl, rfl⟩, (e183.t e192)⟩
       ·refine ls rfl rfl rfl (cb b175_) rfl <| ls rfl rfl rfl (cb b175_) rfl <| ls rfl rfl rfl (cb b175_) rfl <| lu rfl rfl rfl rfl rfl <| lu rfl rfl rfl rfl rfl <| lu rfl rfl rfl rfl rfl <| ls rfl rfl rfl (cb b175_) rfl <| ls rfl rfl rfl (cb b175_) rfl <| lu rfl rfl rfl rfl rfl <| lu rfl rfl rfl rfl rfl <| lu rfl rfl rfl rfl rfl <| lu rfl rfl rfl rfl rfl <| lu rfl rfl rfl rfl rfl <| lu rfl rfl rfl rfl rfl <| ls rfl rfl rfl (cb b175_) rfl <| lg rfl rfl rfl rfl (cb b174_) (X_pick (b := false) (v := (.bool false)) (cb b175_) rfl) ?_
        obtain rfl := si H
        exact nx ⟨(ku8 (ku8 kz rfl) rfl), ⟨_, rfl, rfl⟩, er⟩
      intro s195 w179 z196 K180 hq h181 e182
      rw [hq] at h181; clear hq
      refine lp rfl rfl (X_pick (b := false) (v := (.bool z177)) ((K180 141 rfl).trans (cb b174_)) h181) ?_
      obtain rfl := si H
      exact nx ⟨(ku1 (Kp.cut (ku3 kz rfl) K180 rfl) rfl), ⟨_, rfl, rfl⟩, e182⟩
    intro s197 w178 z198 K179 hq h180 e181
    rw [hq] at h180; clear hq
    refine nx ?_
    rcases bif_two H with ⟨q199, H⟩ | ⟨q199, H⟩
    ·refine W_true (h180.trans (cb q199)) <| wr <| lp rfl rfl (xa (.bool false) rfl) <| nx <| W_ret <| thn_r <| fin_r ?_
     obtain rfl := si H
     exact fin1 rfl ((((((((((((((((((((e7.t e14).t e20).t (Below.trans e25 (Wr.below h28 (Nat.le_of_eq z23)))).t e50).t e57).t e64).t e73).t e82).t e91).t e96).t e100).t e110).t e120).t (Below.trans e129 (Wr.below h132 (Nat.le_of_eq z127)))).t e137).t (Below.trans e146 (Wr.below h149 (Nat.le_of_eq z144)))).t e157).t e164).t e172).t e181)
    ·refine W_false (h180.trans (cb q199)) <| W_skip <| thn_n <| wr <| lp rfl rfl (xm v65 ((K179 10 rfl).trans ((K170 10 rfl).trans ((K162 10 rfl).trans ((K155 10 rfl).trans ((K89 10 rfl).trans ((K80 10 rfl).trans (K71 10 rfl)))))))) <| lp rfl rfl (X_fieldAddr Tryz.underlying60 rfl Tryz.sizeOf9 rfl ((K179 7 rfl).trans ((K170 7 rfl).trans ((K162 7 rfl).trans ((K155 7 rfl).trans ((K89 7 rfl).trans ((K80 7 rfl).trans ((K71 7 rfl).trans (K49 7 rfl))))))))) <| lp rfl rfl (X_loadB Tryz.isAgg9 (Blk.ext h52 (((((((((((((((e57.t e64).t e73).t e82).t e91).t e96).t e100).t e110).t e120).t (Below.trans e129 (Wr.below h132 (Nat.le_of_eq z127)))).t e137).t (Below.trans e146 (Wr.below h149 (Nat.le_of_eq z144)))).t e157).t e164).t e172).t e181)) rfl rfl) ?_
     obtain ⟨c200, H⟩ := bif_some H
     obtain ⟨c201, H⟩ := bif_some H
     obtain ⟨z204, x205, H⟩ := bind_some H
     replace x205 := si x205
     obtain ⟨z206, x207, H⟩ := bind_some H
     replace x207 := si x207
     refine L_callT (.plain rfl) rfl (ltb rfl) rfl Tryz.call66 (impl_RemoveNode.calls (w := w178) (a0 := (addNode z11 y42).1) (a1 := y42.path) (GV.ext gv ((((((((((((((((((((e7.t e14).t e20).t (Below.trans e25 (Wr.below h28 (Nat.le_of_eq z23)))).t e50).t e57).t e64).t e73).t e82).t e91).t e96).t e100).t e110).t e120).t (Below.trans e129 (Wr.below h132 (Nat.le_of_eq z127)))).t e137).t (Below.trans e146 (Wr.below h149 (Nat.le_of_eq z144)))).t e157).t e164).t e172).t e181)) (Ow.rd (Ow.ext o66 (((((((((((((e73.t e82).t e91).t e96).t e100).t e110).t e120).t (Below.trans e129 (Wr.below h132 (Nat.le_of_eq z127)))).t e137).t (Below.trans e146 (Wr.below h149 (Nat.le_of_eq z144)))).t e157).t e164).t e172).t e181))) (od c200) (od c201)) rfl <| fun v208 w202 e203 o209 => lp rfl rfl (X_move rfl) <| lp rfl rfl (X_extract (v := v208) rfl rfl) <| lp rfl rfl (X_extract (v := (.int .i64 ((removeNode ((addNode z11 y42).1) y42.path).2))) rfl rfl) <| lp rfl rfl (xa v208 rfl) <| lp rfl rfl (xa (.int .i64 z206) (congrArg (Value.int .i64) x207)) <| nx <| wr <| lp rfl rfl (xm v65 ((K179 10 rfl).trans ((K170 10 rfl).trans ((K162 10 rfl).trans ((K155 10 rfl).trans ((K89 10 rfl).trans ((K80 10 rfl).trans (K71 10 rfl)))))))) <| lp rfl rfl (X_fieldAddr Tryz.underlying60 rfl Tryz.sizeOf9 rfl ((K179 7 rfl).trans ((K170 7 rfl).trans ((K162 7 rfl).trans ((K155 7 rfl).trans ((K89 7 rfl).trans ((K80 7 rfl).trans ((K71 7 rfl).trans (K49 7 rfl))))))))) <| lp rfl rfl (X_loadB Tryz.isAgg9 (Blk.ext h52 ((((((((((((((((e57.t e64).t e73).t e82).t e91).t e96).t e100).t e110).t e120).t (Below.trans e129 (Wr.below h132 (Nat.le_of_eq z127)))).t e137).t (Below.trans e146 (Wr.below h149 (Nat.le_of_eq z144)))).t e157).t e164).t e172).t e181).t e203)) rfl rfl) ?_
     obtain ⟨c210, H⟩ := bif_some H
     obtain ⟨c211, H⟩ := bif_some H
     obtain ⟨z214, x215, H⟩ := bind_some H
     replace x215 := si x215
     obtain ⟨z216, x217, H⟩ := bind_some H
     replace x217 := si x217
     refine L_callT (.plain rfl) rfl (ltb rfl) rfl Tryz.call67 (spec_RemoveNode.calls (w := w202) (a0 := (addNode z11 y42).1) (a1 := y42.path) (Ow.rd (Ow.ext o66 ((((((((((((((e73.t e82).t e91).t e96).t e100).t e110).t e120).t (Below.trans e129 (Wr.below h132 (Nat.le_of_eq z127)))).t e137).t (Below.trans e146 (Wr.below h149 (Nat.le_of_eq z144)))).t e157).t e164).t e172).t e181).t e203))) (od c210) (od c211)) rfl <| fun v218 w212 e213 o219 => lp rfl rfl (X_move rfl) <| lp rfl rfl (X_extract (v := v218) rfl rfl) <| lp rfl rfl (X_extract (v := (.int .i64 ((removeNode ((addNode z11 y42).1) y42.path).2))) rfl rfl) <| lp rfl rfl (xa v218 rfl) <| lp rfl rfl (xa (.int .i64 z216) (congrArg (Value.int .i64) x217)) <| nx <| W_seq <| wr <| lp rfl rfl (xm (.int .i64 z206) rfl) <| lp rfl rfl (xm (.int .i64 z216) rfl) <| lp rfl rfl (X_neq rfl rfl) <| lp rfl rfl (xm (.bool (!decide (z206 = z216))) rfl) ?_
     obtain ⟨z221, x222, H⟩ := bind_some H
     refine L_grpE 5 [(180, 185)] 184 (fun q => q = z221) ?_ ?_
     ·rcases bif_two x222 with ⟨b219_, H⟩ | ⟨b219_, H⟩
      ·refine ls rfl rfl rfl (cb b219_) rfl <| ls rfl rfl rfl (cb b219_) rfl <| ls rfl rfl rfl (cb b219_) rfl <| ls rfl rfl rfl (cb b219_) rfl <| lp rfl rfl (X_pick (b := true) (v := (.bool true)) (cb b219_) rfl) ?_
       obtain rfl := si H
       exact nx ⟨(ku1 (ku4 kz rfl) rfl), ⟨_, rfl, rfl⟩, er⟩
      ·refine lg rfl rfl rfl rfl (cb b219_) (xm v208 rfl) <| lg rfl rfl rfl rfl (cb b219_) (xm v218 rfl) ?_
       obtain ⟨c221, H⟩ := bif_some H
       refine L_callP (tg rfl rfl rfl (cb b219_)) rfl (ltb rfl) rfl Tryz.call22 (laws_sameNodes.calls (w := w212) (a0 := z204) (a1 := z214) (Ow.rd (Ow.ext (x205 ▸ o209) e213)) (Ow.rd (x215 ▸ o219)) (od c221)) rfl <| fun w222 e223 => lg rfl rfl rfl rfl (cb b219_) (X_not rfl) <| lp rfl rfl (X_pick (b := false) (v := (.bool (!(decide (z204 = z214))))) (cb b219_) rfl) ?_
       obtain rfl := si H
       exact nx ⟨(ku1 (ku4 kz rfl) rfl), ⟨_, rfl, rfl⟩, e223⟩
     intro s227 w223 z228 K224 hq h225 e226
     rw [hq] at h225; clear hq
     refine lp rfl rfl (X_move h225) ?_
     obtain ⟨z230, x231, H⟩ := bind_some H
     refine L_grpE 9 [(186, 195)] 194 (fun q => q = z230) ?_ ?_
     ·rcases bif_two x231 with ⟨b228_, H⟩ | ⟨b228_, H⟩
      ·refine ls rfl rfl rfl (cb b228_) rfl <| ls rfl rfl rfl (cb b228_) rfl <| ls rfl rfl rfl (cb b228_) rfl <| lu rfl rfl rfl rfl rfl <| lu rfl rfl rfl rfl rfl <| lu rfl rfl rfl rfl rfl <| lu rfl rfl rfl rfl rfl <| ls rfl rfl rfl (cb b228_) rfl <| lp rfl rfl (X_pick (b := true) (v := (.bool true)) (cb b228_) rfl) ?_
       obtain rfl := si H
       exact nx ⟨(ku1 (ku8 kz rfl) rfl), ⟨_, rfl, rfl⟩, er⟩
      ·refine lg rfl rfl rfl rfl (cb b228_) (xm (.int .i64 z216) (K224 25 rfl)) <| lg rfl rfl rfl rfl (cb b228_) (X_neq rfl rfl) <| lg rfl rfl rfl rfl (cb b228_) (xm (.bool (!decide (z216 = 0))) rfl) ?_
       obtain ⟨z231, x232, H⟩ := bind_some H
       refine L_grpE 5 [(189, 194)] 193 (fun q => q = z231) ?_ ?_
       ·rcases bif_two x232 with ⟨b229_, H⟩ | ⟨b229_, H⟩
        ·refine lg rfl rfl rfl rfl (cb b229_) (xm v208 (K224 22 rfl)) <| lg rfl rfl rfl rfl (cb b229_) (xm v65 ((K224 10 rfl).trans ((K179 10 rfl).trans ((K170 10 rfl).trans ((K162 10 rfl).trans ((K155 10 rfl).trans ((K89 10 rfl).trans ((K80 10 rfl).trans (K71 10 rfl))))))))) ?_
         obtain ⟨c231, H⟩ := bif_some H
         refine L_callP (tg rfl rfl rfl (cb b229_)) rfl (ltb rfl) rfl Tryz.call22 (laws_sameNodes.calls (w := w223) (a0 := z204) (a1 := (addNode z11 y42).1) (Ow.rd (Ow.ext (x205 ▸ o209) (e213.t e226))) (Ow.rd (Ow.ext o66 ((((((((((((((((e73.t e82).t e91).t e96).t e100).t e110).t e120).t (Below.trans e129 (Wr.below h132 (Nat.le_of_eq z127)))).t e137).t (Below.trans e146 (Wr.below h149 (Nat.le_of_eq z144)))).t e157).t e164).t e172).t e181).t e203).t e213).t e226))) (od c231)) rfl <| fun w232 e233 => lg rfl rfl rfl rfl (cb b229_) (X_not rfl) <| lg rfl rfl rfl rfl (cb b228_) (X_pick (b := true) (v := (.bool (!(decide (z204 = ((addNode z11 y42).1)))))) (cb b229_) rfl) ?_
         obtain rfl := si H
         exact nx ⟨(ku1 (ku4 kz rfl) rfl), ⟨_, rfl, rfl⟩, e233⟩
        ·refine ls rfl rfl rfl (cb b229_) rfl <| ls rfl rfl rfl (cb b229_) rfl <| ls rfl rfl rfl (cb b229_) rfl <| ls rfl rfl rfl (cb b229_) rfl <| lg rfl rfl rfl rfl (cb b228_) (X_pick (b := false) (v := (.bool false)) (cb b229_) rfl) ?_
         obtain rfl := si H
         exact nx ⟨(ku1 (ku4 kz rfl) rfl), ⟨_, rfl, rfl⟩, er⟩
       intro s237 w233 z238 K234 hq h235 e236
       rw [hq] at h235; clear hq
       refine lp rfl rfl (X_pick (b := false) (v := (.bool z231)) ((K234 185 rfl).trans (cb b228_)) h235) ?_
       obtain rfl := si H
       exact nx ⟨(ku1 (Kp.cut (ku3 kz rfl) K234 rfl) rfl), ⟨_, rfl, rfl⟩, e236⟩
     intro s239 w232 z240 K233 hq h234 e235
     rw [hq] at h234; clear hq
     refine lp rfl rfl (X_move h234) ?_
     obtain ⟨z242, x243, H⟩ := bind_some H
     refine L_grpE 9 [(196, 205)] 204 (fun q => q = z242) ?_ ?_
     ·rcases bif_two x243 with ⟨b240_, H⟩ | ⟨b240_, H⟩
      ·refine ls rfl rfl rfl (cb b240_) rfl <| ls rfl rfl rfl (cb b240_) rfl <| ls rfl rfl rfl (cb b240_) rfl <| lu rfl rfl rfl rfl rfl <| lu rfl rfl rfl rfl rfl <| lu rfl rfl rfl rfl rfl <| lu rfl rfl rfl rfl rfl <| ls rfl rfl rfl (cb b240_) rfl <| lp rfl rfl (X_pick (b := true) (v := (.bool true)) (cb b240_) rfl) ?_
       obtain rfl := si H
       exact nx ⟨(ku1 (ku8 kz rfl) rfl), ⟨_, rfl, rfl⟩, er⟩
      ·refine lg rfl rfl rfl rfl (cb b240_) (xm (.int .i64 ((addNode z11 y42).2)) ((K233 11 rfl).trans ((K224 11 rfl).trans ((K179 11 rfl).trans ((K170 11 rfl).trans ((K162 11 rfl).trans ((K155 11 rfl).trans ((K89 11 rfl).trans ((K80 11 rfl).trans (K71 11 rfl)))))))))) <| lg rfl rfl rfl rfl (cb b240_) (X_eql rfl rfl) <| lg rfl rfl rfl rfl (cb b240_) (xm (.bool (decide (((addNode z11 y42).2) = 0))) rfl) ?_
       obtain ⟨z243, x244, H⟩ := bind_some H
       refine L_grpE 5 [(199, 204)] 203 (fun q => q = z243) ?_ ?_
       ·rcases bif_two x244 with ⟨b241_, H⟩ | ⟨b241_, H⟩
        ·refine lg rfl rfl rfl rfl (cb b241_) (xm v208 ((K233 22 rfl).trans (K224 22 rfl))) <| lg rfl rfl rfl rfl (cb b241_) (xm v15 ((K233 5 rfl).trans ((K224 5 rfl).trans ((K179 5 rfl).trans ((K170 5 rfl).trans ((K162 5 rfl).trans ((K155 5 rfl).trans ((K89 5 rfl).trans ((K80 5 rfl).trans ((K71 5 rfl).trans (K49 5 rfl))))))))))) ?_
         obtain ⟨c243, H⟩ := bif_some H
         refine L_callP (tg rfl rfl rfl (cb b241_)) rfl (ltb rfl) rfl Tryz.call22 (laws_sameNodes.calls (w := w232) (a0 := z204) (a1 := z11) (Ow.rd (Ow.ext (x205 ▸ o209) ((e213.t e226).t e235))) (Ow.rd (Ow.ext o16 ((((((((((((((((((((((e20.t (Below.trans e25 (Wr.below h28 (Nat.le_of_eq z23)))).t e50).t e57).t e64).t e73).t e82).t e91).t e96).t e100).t e110).t e120).t (Below.trans e129 (Wr.below h132 (Nat.le_of_eq z127)))).t e137).t (Below.trans e146 (Wr.below h149 (Nat.le_of_eq z144)))).t e157).t e164).t e172).t e181).t e203).t e213).t e226).t e235))) (od c243)) rfl <| fun w244 e245 => lg rfl rfl rfl rfl (cb b241_) (X_not rfl) <| lg rfl rfl rfl rfl (cb b240_) (X_pick (b := true) (v := (.bool (!(decide (z204 = z11))))) (cb b241_) rfl) ?_
         obtain rfl := si H
         exact nx ⟨(ku1 (ku4 kz rfl) rfl), ⟨_, rfl, rfl⟩, e245⟩
        ·refine ls rfl rfl rfl (cb b241_) rfl <| ls rfl rfl rfl (cb b241_) rfl <| ls rfl rfl rfl (cb b241_) rfl <| ls rfl rfl rfl (cb b241_) rfl <| lg rfl rfl rfl rfl (cb b240_) (X_pick (b := false) (v := (.bool false)) (cb b241_) rfl) ?_
         obtain rfl := si H
         exact nx ⟨(ku1 (ku4 kz rfl) rfl), ⟨_, rfl, rfl⟩, er⟩
       intro s249 w245 z250 K246 hq h247 e248
       rw [hq] at h247; clear hq
       refine lp rfl rfl (X_pick (b := false) (v := (.bool z243)) ((K246 195 rfl).trans (cb b240_)) h247) ?_
       obtain rfl := si H
       exact nx ⟨(ku1 (Kp.cut (ku3 kz rfl) K246 rfl) rfl), ⟨_, rfl, rfl⟩, e248⟩
     intro s251 w244 z252 K245 hq h246 e247
     rw [hq] at h246; clear hq
     refine nx ?_
     rcases bif_two H with ⟨q253, H⟩ | ⟨q253, H⟩
     ·refine W_true (h246.trans (cb q253)) <| wr <| lp rfl rfl (xa (.bool false) rfl) <| nx <| W_ret <| thn_r <| fin_r ?_
      obtain rfl := si H
      exact fin1 rfl (((((((((((((((((((((((((e7.t e14).t e20).t (Below.trans e25 (Wr.below h28 (Nat.le_of_eq z23)))).t e50).t e57).t e64).t e73).t e82).t e91).t e96).t e100).t e110).t e120).t (Below.trans e129 (Wr.below h132 (Nat.le_of_eq z127)))).t e137).t (Below.trans e146 (Wr.below h149 (Nat.le_of_eq z144)))).t e157).t e164).t e172).t e181).t e203).t e213).t e226).t e235).t e247)
     ·refine W_false (h246.trans (cb q253)) <| W_skip <| thn_n <| W_seq <| wr <| lp rfl rfl (xa (.int .i64 0) rfl) <| nx ?_
      obtain ⟨z255, L256, C257⟩ := bind_some H
      clear H
      refine  W_cutQ (fun s0 sQ wQ => Kp [(4, 5), (26, 28), (205, 243)] s0 sQ ∧ Ext w244 wQ ∧ z255 = .inr ()) ?_ ?_
      ·refine W_block <| W_loopI (fun s0 kk sQ wQ => ∃ (x26_254 : Int), Kp [(4, 5), (26, 28), (205, 243)] s0 sQ ∧ sQ 26 = .int .i64 x26_254 ∧ Ext w244 wQ ∧ loopF (law_FnTrees.b1 z11 y42 z204 z216) kk x26_254 = some z255) k ⟨0, kz, rfl, er, L256⟩ ?_
       rintro k262 s263 w264 ⟨x26_254, K265, h268, e266, L267⟩
       cases k262 with
       | zero => exact absurd L267 (by simp [loopF])
       | succ k262 =>
        obtain ⟨t269, H, S270⟩ := loopF_succ L267
        clear L267
        unfold law_FnTrees.b1 at H
        refine W_seq <| wr <| lp rfl rfl (X_move h268) <| lp rfl rfl (xm v65 ((K265 10 rfl).trans ((K245 10 rfl).trans ((K233 10 rfl).trans ((K224 10 rfl).trans ((K179 10 rfl).trans ((K170 10 rfl).trans ((K162 10 rfl).trans ((K155 10 rfl).trans ((K89 10 rfl).trans ((K80 10 rfl).trans (K71 10 rfl)))))))))))) <| lp rfl rfl (X_lenR Tryz.underlying29 rfl (Ow.rd (Ow.ext o66 (((((((((((((((((((e73.t e82).t e91).t e96).t e100).t e110).t e120).t (Below.trans e129 (Wr.below h132 (Nat.le_of_eq z127)))).t e137).t (Below.trans e146 (Wr.below h149 (Nat.le_of_eq z144)))).t e157).t e164).t e172).t e181).t e203).t e213).t e226).t e235).t e247).t e266)))) <| lp rfl rfl (X_lss rfl rfl) <| lp rfl rfl (xm (.bool (decide (x26_254 < (((addNode z11 y42).1).length : Int)))) rfl) ?_
        obtain ⟨z272, x273, H⟩ := bind_some H
        refine L_grpE 3 [(210, 213)] 212 (fun q => q = z272) ?_ ?_
        ·rcases bif_two x273 with ⟨b270_, H⟩ | ⟨b270_, H⟩
         ·refine lg rfl rfl rfl rfl (cb b270_) (xm (.int .i64 z216) ((K265 25 rfl).trans ((K245 25 rfl).trans ((K233 25 rfl).trans (K224 25 rfl))))) <| lg rfl rfl rfl rfl (cb b270_) (X_eql rfl rfl) <| lp rfl rfl (X_pick (b := true) (v := (.bool (decide (z216 = 0)))) (cb b270_) rfl) ?_
          obtain rfl := si H
          exact nx ⟨(ku3 kz rfl), ⟨_, rfl, rfl⟩, er⟩
         ·refine ls rfl rfl rfl (cb b270_) rfl <| ls rfl rfl rfl (cb b270_) rfl <| lp rfl rfl (X_pick (b := false) (v := (.bool false)) (cb b270_) rfl) ?_
          obtain rfl := si H
          exact nx ⟨(ku3 kz rfl), ⟨_, rfl, rfl⟩, er⟩
        intro s278 w274 z279 K275 hq h276 e277
        rw [hq] at h276; clear hq
        refine nx ?_
        rcases bif_two H with ⟨q280, H⟩ | ⟨q280, H⟩
        ·refine W_true (h276.trans (cb q280)) <| W_skip <| thn_n <| W_seq <| W_block <| W_seq ?_
         obtain ⟨c281, H⟩ := bif_some H
         obtain ⟨c284, H⟩ := bif_some H
         refine W_dM [LEq v65, LEq (.int .i64 x26_254), LAt0 (encNd (gt ((addNode z11 y42).1) x26_254)), LAt 1 (encNd (gt ((addNode z11 y42).1) x26_254)), LEq (S ((gt ((addNode z11 y42).1) x26_254).path)), LEq (.pointer (some ⟨b30, 1, none⟩)), LEq (S y42.path), LEq (.bool (law_FnTrees.e1 x26_254 y42 z11)), LEq (.bool (law_FnTrees.e1 x26_254 y42 z11)), LIf (!(law_FnTrees.e1 x26_254 y42 z11)) (LEq v65), LIf (!(law_FnTrees.e1 x26_254 y42 z11)) (LEq (.int .i64 x26_254)), LIf (!(law_FnTrees.e1 x26_254 y42 z11)) (LAt0 (encNd (gt ((addNode z11 y42).1) x26_254))), LIf (!(law_FnTrees.e1 x26_254 y42 z11)) (LAt 1 (encNd (gt ((addNode z11 y42).1) x26_254))), LIf (!(law_FnTrees.e1 x26_254 y42 z11)) (LEq (S ((gt ((addNode z11 y42).1) x26_254).path))), LIf (!(law_FnTrees.e1 x26_254 y42 z11)) (LEq (.pointer (some ⟨b30, 1, none⟩))), LIf (!(law_FnTrees.e1 x26_254 y42 z11)) (LEq (S y42.path)), LIf (!(law_FnTrees.e1 x26_254 y42 z11)) (LEq (.bool (isBelow ((gt ((addNode z11 y42).1) x26_254).path) y42.path))), LEq (.bool ((law_FnTrees.e1 x26_254 y42 z11) || (isBelow ((gt ((addNode z11 y42).1) x26_254).path) y42.path))), LEq (.bool ((law_FnTrees.e1 x26_254 y42 z11) || (isBelow ((gt ((addNode z11 y42).1) x26_254).path) y42.path)))] (by kernel_rfl) (by kernel_rfl) ⟨qm, qm, LAt0.mono, LAt.mono, qm, qm, qm, qm, qm, lm, lm, (LIf.mono LAt0.mono), (LIf.mono LAt.mono), lm, lm, lm, lm, qm, qm, trivial⟩ ⟨?_, ?_, ?_, ?_, ?_, ?_, ?_, ?_, ?_, ?_, ?_, ?_, ?_, ?_, ?_, ?_, ?_, ?_, ?_, trivial⟩ ?_
         ·exact fun s x e f d u => lp rfl rfl (xm v65 ((f 10 rfl).trans ((K275 10 rfl).trans ((K265 10 rfl).trans ((K245 10 rfl).trans ((K233 10 rfl).trans ((K224 10 rfl).trans ((K179 10 rfl).trans ((K170 10 rfl).trans ((K162 10 rfl).trans ((K155 10 rfl).trans ((K89 10 rfl).trans ((K80 10 rfl).trans (K71 10 rfl)))))))))))))) <| se rfl rfl
         ·exact fun s x e f d u => lp rfl rfl (xm (.int .i64 x26_254) ((f 26 rfl).trans ((K275 26 rfl).trans h268))) <| se rfl rfl
         ·exact fun s x e f d u => L_idx (.plain rfl) rfl (ltb rfl) rfl Tryz.underlying29 Tryz.sizeOf60 (d 0 rfl) (Ow.rd (Ow.ext o66 (((((((((((((((((((((e73.t e82).t e91).t e96).t e100).t e110).t e120).t (Below.trans e129 (Wr.below h132 (Nat.le_of_eq z127)))).t e137).t (Below.trans e146 (Wr.below h149 (Nat.le_of_eq z144)))).t e157).t e164).t e172).t e181).t e203).t e213).t e226).t e235).t e247).t e266).t e277).t e))) (d 1 rfl) c281 <| fun p290 h291 => se rfl ⟨_, rfl, h291⟩
         ·intro s x e f d u
          obtain ⟨p292, h293, h294⟩ := (d 2 rfl)
          exact lp rfl rfl (X_fieldAddr Tryz.underlying60 rfl Tryz.sizeOf9 rfl h293) <| se rfl ⟨_, rfl, h294⟩
         ·intro s x e f d u
          obtain ⟨p295, h296, h297⟩ := (d 3 rfl)
          exact lp rfl rfl (X_loadF Tryz.isAgg9 (j := 1) h297 h296 rfl) <| se rfl rfl
         ·exact fun s x e f d u => lp rfl rfl (X_fieldAddr Tryz.underlying60 rfl Tryz.sizeOf9 rfl ((f 7 rfl).trans ((K275 7 rfl).trans ((K265 7 rfl).trans ((K245 7 rfl).trans ((K233 7 rfl).trans ((K224 7 rfl).trans ((K179 7 rfl).trans ((K170 7 rfl).trans ((K162 7 rfl).trans ((K155 7 rfl).trans ((K89 7 rfl).trans ((K80 7 rfl).trans ((K71 7 rfl).trans (K49 7 rfl))))))))))))))) <| se rfl rfl
         ·exact fun s x e f d u => lp rfl rfl (X_loadB Tryz.isAgg9 (Blk.ext h52 (((((((((((((((((((((((e57.t e64).t e73).t e82).t e91).t e96).t e100).t e110).t e120).t (Below.trans e129 (Wr.below h132 (Nat.le_of_eq z127)))).t e137).t (Below.trans e146 (Wr.below h149 (Nat.le_of_eq z144)))).t e157).t e164).t e172).t e181).t e203).t e213).t e226).t e235).t e247).t e266).t e277).t e)) (d 5 rfl) rfl) <| se rfl rfl
         ·exact fun s x e f d u => lp rfl rfl (X_seq (d 4 rfl) (d 6 rfl)) <| se rfl rfl
         ·exact fun s x e f d u => lp rfl rfl (X_move (d 7 rfl)) <| se rfl rfl
         ·exact fun s x e f d u => gF rfl rfl rfl rfl (d 8 rfl) rfl fun b t => lt t rfl rfl (xm v65 ((f 10 rfl).trans ((K275 10 rfl).trans ((K265 10 rfl).trans ((K245 10 rfl).trans ((K233 10 rfl).trans ((K224 10 rfl).trans ((K179 10 rfl).trans ((K170 10 rfl).trans ((K162 10 rfl).trans ((K155 10 rfl).trans ((K89 10 rfl).trans ((K80 10 rfl).trans (K71 10 rfl)))))))))))))) <| sg rfl rfl b rfl
         ·exact fun s x e f d u => gF rfl rfl rfl rfl (d 8 rfl) rfl fun b t => lt t rfl rfl (xm (.int .i64 x26_254) ((f 26 rfl).trans ((K275 26 rfl).trans h268))) <| sg rfl rfl b rfl
         ·exact fun s x e f d u => gF rfl rfl rfl rfl (d 8 rfl) rfl fun b t => L_idx t rfl (ltb rfl) rfl Tryz.underlying29 Tryz.sizeOf60 ((d 9 rfl).1 (not_mk (not_f b))) (Ow.rd (Ow.ext o66 (((((((((((((((((((((e73.t e82).t e91).t e96).t e100).t e110).t e120).t (Below.trans e129 (Wr.below h132 (Nat.le_of_eq z127)))).t e137).t (Below.trans e146 (Wr.below h149 (Nat.le_of_eq z144)))).t e157).t e164).t e172).t e181).t e203).t e213).t e226).t e235).t e247).t e266).t e277).t e))) ((d 10 rfl).1 (not_mk (not_f b))) (imp_take b c284) <| fun p299 h300 => sg rfl rfl b ⟨_, rfl, h300⟩
         ·intro s x e f d u
          refine gF rfl rfl rfl rfl (d 8 rfl) rfl fun b t => ?_
          obtain ⟨p301, h302, h303⟩ := ((d 11 rfl).1 (not_mk (not_f b)))
          exact lt t rfl rfl (X_fieldAddr Tryz.underlying60 rfl Tryz.sizeOf9 rfl h302) <| sg rfl rfl b ⟨_, rfl, h303⟩
         ·intro s x e f d u
          refine gF rfl rfl rfl rfl (d 8 rfl) rfl fun b t => ?_
          obtain ⟨p304, h305, h306⟩ := ((d 12 rfl).1 (not_mk (not_f b)))
          exact lt t rfl rfl (X_loadF Tryz.isAgg9 (j := 1) h306 h305 rfl) <| sg rfl rfl b rfl
         ·exact fun s x e f d u => gF rfl rfl rfl rfl (d 8 rfl) rfl fun b t => lt t rfl rfl (X_fieldAddr Tryz.underlying60 rfl Tryz.sizeOf9 rfl ((f 7 rfl).trans ((K275 7 rfl).trans ((K265 7 rfl).trans ((K245 7 rfl).trans ((K233 7 rfl).trans ((K224 7 rfl).trans ((K179 7 rfl).trans ((K170 7 rfl).trans ((K162 7 rfl).trans ((K155 7 rfl).trans ((K89 7 rfl).trans ((K80 7 rfl).trans ((K71 7 rfl).trans (K49 7 rfl))))))))))))))) <| sg rfl rfl b rfl
         ·exact fun s x e f d u => gF rfl rfl rfl rfl (d 8 rfl) rfl fun b t => lt t rfl rfl (X_loadB Tryz.isAgg9 (Blk.ext h52 (((((((((((((((((((((((e57.t e64).t e73).t e82).t e91).t e96).t e100).t e110).t e120).t (Below.trans e129 (Wr.below h132 (Nat.le_of_eq z127)))).t e137).t (Below.trans e146 (Wr.below h149 (Nat.le_of_eq z144)))).t e157).t e164).t e172).t e181).t e203).t e213).t e226).t e235).t e247).t e266).t e277).t e)) ((d 14 rfl).1 (not_mk (not_f b))) rfl) <| sg rfl rfl b rfl
         ·exact fun s x e f d u => gF rfl rfl rfl rfl (d 8 rfl) rfl fun b t => L_callP t rfl (ltb rfl) rfl Tryz.call68 (spec_IsBelow.calls (w := x) (a0 := (gt ((addNode z11 y42).1) x26_254).path) (a1 := y42.path)) (cons2 ((d 13 rfl).1 (not_mk (not_f b))) (cons2 ((d 15 rfl).1 (not_mk (not_f b))) rfl)) <| fun w307 e308 => sgx rfl rfl b e308 rfl
         ·exact fun s x e f d u => lp rfl rfl (X_pickO (d 8 rfl) rfl fun h => ((d 16 rfl).1 (not_mk h))) <| se rfl rfl
         ·exact fun s x e f d u => lp rfl rfl (X_assign (d 17 rfl)) <| se rfl rfl
         intro s309 w310 e311 hf312 ha313
         have K314 := Kp.ofD (kp := [(27, 28), (215, 233)]) rfl hf312
         have d315 : s309 27 = (.bool ((law_FnTrees.e1 x26_254 y42 z11) || (isBelow ((gt ((addNode z11 y42).1) x26_254).path) y42.path))) := ha313 18 rfl
         clear ha313 hf312
         refine thn_n <| wr <| lp rfl rfl (xm v208 ((K314 22 rfl).trans ((K275 22 rfl).trans ((K265 22 rfl).trans ((K245 22 rfl).trans ((K233 22 rfl).trans (K224 22 rfl))))))) <| lp rfl rfl (xm v65 ((K314 10 rfl).trans ((K275 10 rfl).trans ((K265 10 rfl).trans ((K245 10 rfl).trans ((K233 10 rfl).trans ((K224 10 rfl).trans ((K179 10 rfl).trans ((K170 10 rfl).trans ((K162 10 rfl).trans ((K155 10 rfl).trans ((K89 10 rfl).trans ((K80 10 rfl).trans (K71 10 rfl)))))))))))))) <| lp rfl rfl (xm (.int .i64 x26_254) ((K314 26 rfl).trans ((K275 26 rfl).trans h268))) ?_
         obtain ⟨c316, H⟩ := bif_some H
         refine L_idx (.plain rfl) rfl (ltb rfl) rfl Tryz.underlying29 Tryz.sizeOf60 rfl (Ow.rd (Ow.ext o66 (((((((((((((((((((((e73.t e82).t e91).t e96).t e100).t e110).t e120).t (Below.trans e129 (Wr.below h132 (Nat.le_of_eq z127)))).t e137).t (Below.trans e146 (Wr.below h149 (Nat.le_of_eq z144)))).t e157).t e164).t e172).t e181).t e203).t e213).t e226).t e235).t e247).t e266).t e277).t e311))) rfl c316 <| fun p317 h318 => lp rfl rfl (X_fieldAddr Tryz.underlying60 rfl Tryz.sizeOf9 rfl rfl) <| lp rfl rfl (X_loadF Tryz.isAgg9 (j := 1) h318 rfl rfl) ?_
         obtain ⟨c319, H⟩ := bif_some H
         obtain ⟨z322, x323, H⟩ := bind_some H
         replace x323 := si x323
         refine lc rfl rfl rfl Tryz.call45 (laws_find.calls (w := w310) (a0 := z204) (a1 := (gt ((addNode z11 y42).1) x26_254).path) (Ow.rd (Ow.ext (x205 ▸ o209) ((((((e213.t e226).t e235).t e247).t e266).t e277).t e311))) (od c319)) rfl <| fun w320 e321 => lp rfl rfl (X_geq (congrArg (Value.int .i64) x323) rfl) <| lp rfl rfl (X_move d315) <| lp rfl rfl (X_beq Tryz.underlying4 rfl rfl) <| nx ?_
         rcases bif_two H with ⟨q324, H⟩ | ⟨q324, H⟩
         ·refine W_true (cb q324) <| wr <| lp rfl rfl (xa (.bool false) rfl) <| nx <| W_ret <| blk_r <| thn_r <| thn_r <| blk_r <| thn_r <| thn_r <| fin_r ?_
          obtain rfl := si H
          obtain rfl := si S270
          have H := C257
          obtain rfl := si H
          exact fin1 rfl (((((((((((((((((((((((((((((e7.t e14).t e20).t (Below.trans e25 (Wr.below h28 (Nat.le_of_eq z23)))).t e50).t e57).t e64).t e73).t e82).t e91).t e96).t e100).t e110).t e120).t (Below.trans e129 (Wr.below h132 (Nat.le_of_eq z127)))).t e137).t (Below.trans e146 (Wr.below h149 (Nat.le_of_eq z144)))).t e157).t e164).t e172).t e181).t e203).t e213).t e226).t e235).t e247).t e266).t e277).t e311).t e321)
         ·refine W_false (cb q324) <| W_skip <| blk_n <| thn_n <| W_reg <| lp rfl rfl (xm (.int .i64 x26_254) ((K314 26 rfl).trans ((K275 26 rfl).trans h268))) <| lp rfl rfl (X_add rfl rfl) <| lp rfl rfl (xa (.int .i64 (IntKind.wrap .i64 (x26_254 + 1))) rfl) <| nx ?_
          obtain rfl := si H
          exact ⟨_, Nat.lt_succ_self _, IntKind.wrap .i64 (x26_254 + 1), (ku1 (ku4 (ku8 (Kp.cut (Kp.cut (ku1 (ku4 K265 rfl) rfl) K275 rfl) K314 rfl) rfl) rfl) rfl), rfl, (((e266.t e277).t e311).t e321), S270⟩
        ·refine W_false (h276.trans (cb q280)) <| W_exit <| thn_x <| thn_x <| blk_x <| thn_n ?_
         obtain rfl := si H
         obtain rfl := si S270
         exact ⟨(Kp.cut (ku1 (ku4 K265 rfl) rfl) K275 rfl), (e266.t e277), rfl⟩
      ·rintro s259 w258 ⟨K260, e261, y325⟩
       rw [y325] at C257
       have H := C257
       replace H : _ = some _ := H
       refine thn_n <| wr <| lp rfl rfl (xm v15 ((K260 5 rfl).trans ((K245 5 rfl).trans ((K233 5 rfl).trans ((K224 5 rfl).trans ((K179 5 rfl).trans ((K170 5 rfl).trans ((K162 5 rfl).trans ((K155 5 rfl).trans ((K89 5 rfl).trans ((K80 5 rfl).trans ((K71 5 rfl).trans (K49 5 rfl))))))))))))) ?_
       obtain ⟨c326, H⟩ := bif_some H
       obtain ⟨c327, H⟩ := bif_some H
       refine L_callT (.plain rfl) rfl (ltb rfl) rfl Tryz.call69 (impl_LayerOfTree.calls (w := w258) (a0 := z11) (GV.ext gv ((((((((((((((((((((((((((e7.t e14).t e20).t (Below.trans e25 (Wr.below h28 (Nat.le_of_eq z23)))).t e50).t e57).t e64).t e73).t e82).t e91).t e96).t e100).t e110).t e120).t (Below.trans e129 (Wr.below h132 (Nat.le_of_eq z127)))).t e137).t (Below.trans e146 (Wr.below h149 (Nat.le_of_eq z144)))).t e157).t e164).t e172).t e181).t e203).t e213).t e226).t e235).t e247).t e261)) (Ow.rd (Ow.ext o16 ((((((((((((((((((((((((e20.t (Below.trans e25 (Wr.below h28 (Nat.le_of_eq z23)))).t e50).t e57).t e64).t e73).t e82).t e91).t e96).t e100).t e110).t e120).t (Below.trans e129 (Wr.below h132 (Nat.le_of_eq z127)))).t e137).t (Below.trans e146 (Wr.below h149 (Nat.le_of_eq z144)))).t e157).t e164).t e172).t e181).t e203).t e213).t e226).t e235).t e247).t e261))) (od c326) (od c327)) rfl <| fun v330 w328 e329 o331 => lp rfl rfl (xm (.tuple #[v330, (.int .i64 ((layerOfT z11).2))]) rfl) <| lp rfl rfl (X_extract (v := v330) rfl rfl) <| lp rfl rfl (X_extract (v := (.int .i64 ((layerOfT z11).2))) rfl rfl) <| lp rfl rfl (xa v330 rfl) <| lp rfl rfl (xa (.int .i64 ((layerOfT z11).2)) rfl) <| nx <| wr <| lp rfl rfl (xm v15 ((K260 5 rfl).trans ((K245 5 rfl).trans ((K233 5 rfl).trans ((K224 5 rfl).trans ((K179 5 rfl).trans ((K170 5 rfl).trans ((K162 5 rfl).trans ((K155 5 rfl).trans ((K89 5 rfl).trans ((K80 5 rfl).trans ((K71 5 rfl).trans (K49 5 rfl))))))))))))) ?_
       obtain ⟨c332, H⟩ := bif_some H
       obtain ⟨c333, H⟩ := bif_some H
       refine L_callT (.plain rfl) rfl (ltb rfl) rfl Tryz.call70 (spec_LayerOfTree.calls (w := w328) (a0 := z11) (Ow.rd (Ow.ext o16 (((((((((((((((((((((((((e20.t (Below.trans e25 (Wr.below h28 (Nat.le_of_eq z23)))).t e50).t e57).t e64).t e73).t e82).t e91).t e96).t e100).t e110).t e120).t (Below.trans e129 (Wr.below h132 (Nat.le_of_eq z127)))).t e137).t (Below.trans e146 (Wr.below h149 (Nat.le_of_eq z144)))).t e157).t e164).t e172).t e181).t e203).t e213).t e226).t e235).t e247).t e261).t e329))) (od c332) (od c333)) rfl <| fun v336 w334 e335 o337 => lp rfl rfl (xm (.tuple #[v336, (.int .i64 ((layerOfT z11).2))]) rfl) <| lp rfl rfl (X_extract (v := v336) rfl rfl) <| lp rfl rfl (X_extract (v := (.int .i64 ((layerOfT z11).2))) rfl rfl) <| lp rfl rfl (xa v336 rfl) <| lp rfl rfl (xa (.int .i64 ((layerOfT z11).2)) rfl) <| nx <| wr <| lp rfl rfl (xm v330 rfl) ?_
       obtain ⟨c338, H⟩ := bif_some H
       obtain ⟨c339, H⟩ := bif_some H
       obtain ⟨c340, H⟩ := bif_some H
       obtain ⟨c341, H⟩ := bif_some H
       obtain ⟨z344, x345, H⟩ := bind_some H
       replace x345 := si x345
       obtain ⟨z346, x347, H⟩ := bind_some H
       replace x347 := si x347
       refine L_callT (.plain rfl) rfl (ltb rfl) rfl Tryz.call34 (impl_Apply.calls (w := w334) (a0 := (layerOfT z11).1) (a1 := ([] : List Nd)) (GV.ext gv ((((((((((((((((((((((((((((e7.t e14).t e20).t (Below.trans e25 (Wr.below h28 (Nat.le_of_eq z23)))).t e50).t e57).t e64).t e73).t e82).t e91).t e96).t e100).t e110).t e120).t (Below.trans e129 (Wr.below h132 (Nat.le_of_eq z127)))).t e137).t (Below.trans e146 (Wr.below h149 (Nat.le_of_eq z144)))).t e157).t e164).t e172).t e181).t e203).t e213).t e226).t e235).t e247).t e261).t e329).t e335)) (Ow.rd (Ow.ext o331 e335)) (Rd.nil _ _ _) (od c338) (od c339) (od c340) (od c341)) rfl <| fun v348 w342 e343 o349 => lp rfl rfl (X_move rfl) <| lp rfl rfl (X_extract (v := v348) rfl rfl) <| lp rfl rfl (X_extract (v := (.int .i64 ((applyOf ((layerOfT z11).1) ([] : List Nd)).2))) rfl rfl) <| lp rfl rfl (xa v348 rfl) <| lp rfl rfl (xa (.int .i64 z346) (congrArg (Value.int .i64) x347)) <| nx <| wr <| lp rfl rfl (xm (.int .i64 ((layerOfT z11).2)) rfl) <| lp rfl rfl (xm (.int .i64 ((layerOfT z11).2)) rfl) <| lp rfl rfl (X_eql rfl rfl) <| lp rfl rfl (xm (.bool (decide (((layerOfT z11).2) = ((layerOfT z11).2)))) rfl) ?_
       obtain ⟨z351, x352, H⟩ := bind_some H
       refine L_grpE 3 [(262, 265)] 264 (fun q => q = z351) ?_ ?_
       ·rcases bif_two x352 with ⟨b349_, H⟩ | ⟨b349_, H⟩
        ·refine lg rfl rfl rfl rfl (cb b349_) (xm (.int .i64 ((layerOfT z11).2)) rfl) <| lg rfl rfl rfl rfl (cb b349_) (X_eql rfl rfl) <| lp rfl rfl (X_pick (b := true) (v := (.bool (decide (((layerOfT z11).2) = 0)))) (cb b349_) rfl) ?_
         obtain rfl := si H
         exact nx ⟨(ku3 kz rfl), ⟨_, rfl, rfl⟩, er⟩
        ·refine ls rfl rfl rfl (cb b349_) rfl <| ls rfl rfl rfl (cb b349_) rfl <| lp rfl rfl (X_pick (b := false) (v := (.bool false)) (cb b349_) rfl) ?_
         obtain rfl := si H
         exact nx ⟨(ku3 kz rfl), ⟨_, rfl, rfl⟩, er⟩
       intro s357 w353 z358 K354 hq h355 e356
       rw [hq] at h355; clear hq
       refine lp rfl rfl (X_move h355) ?_
       obtain ⟨z360, x361, H⟩ := bind_some H
       refine L_grpE 4 [(266, 270)] 269 (fun q => q = z360) ?_ ?_
       ·rcases bif_two x361 with ⟨b358_, H⟩ | ⟨b358_, H⟩
        ·refine lg rfl rfl rfl rfl (cb b358_) (xm v330 (K354 28 rfl)) <| lg rfl rfl rfl rfl (cb b358_) (xm v336 (K354 30 rfl)) ?_
         obtain ⟨c360, H⟩ := bif_some H
         obtain ⟨c361, H⟩ := bif_some H
         obtain ⟨c362, H⟩ := bif_some H
         obtain ⟨c363, H⟩ := bif_some H
         refine L_callP (tg rfl rfl rfl (cb b358_)) rfl (ltb rfl) rfl Tryz.call71 (impl_SameLayer.calls (w := w353) (a0 := (layerOfT z11).1) (a1 := (layerOfT z11).1) (GV.ext gv ((((((((((((((((((((((((((((((e7.t e14).t e20).t (Below.trans e25 (Wr.below h28 (Nat.le_of_eq z23)))).t e50).t e57).t e64).t e73).t e82).t e91).t e96).t e100).t e110).t e120).t (Below.trans e129 (Wr.below h132 (Nat.le_of_eq z127)))).t e137).t (Below.trans e146 (Wr.below h149 (Nat.le_of_eq z144)))).t e157).t e164).t e172).t e181).t e203).t e213).t e226).t e235).t e247).t e261).t e329).t e335).t e343).t e356)) (Ow.rd (Ow.ext o331 ((e335.t e343).t e356))) (Ow.rd (Ow.ext o337 (e343.t e356))) (od c360) (od c361) (od c362) (od c363)) rfl <| fun w364 e365 => lp rfl rfl (X_pick (b := true) (v := (.bool (sameLayer ((layerOfT z11).1) ((layerOfT z11).1)))) (cb b358_) rfl) ?_
         obtain rfl := si H
         exact nx ⟨(ku4 kz rfl), ⟨_, rfl, rfl⟩, e365⟩
        ·refine ls rfl rfl rfl (cb b358_) rfl <| ls rfl rfl rfl (cb b358_) rfl <| ls rfl rfl rfl (cb b358_) rfl <| lp rfl rfl (X_pick (b := false) (v := (.bool false)) (cb b358_) rfl) ?_
         obtain rfl := si H
         exact nx ⟨(ku4 kz rfl), ⟨_, rfl, rfl⟩, er⟩
       intro s366 w362 z367 K363 hq h364 e365
       rw [hq] at h364; clear hq
       refine lp rfl rfl (X_move h364) <| L_grp 3 [(271, 274)] 273 (.bool (z360 && (decide (z346 = 0)))) ?_ ?_
       ·rcases bool_two z360 with b367_ | b367_
        ·exact lg rfl rfl rfl rfl (cb b367_) (xm (.int .i64 z346) ((K363 33 rfl).trans (K354 33 rfl))) <| lg rfl rfl rfl rfl (cb b367_) (X_eql rfl rfl) <| lp rfl rfl (X_pick (b := true) (v := (.bool (decide (z346 = 0)))) (cb b367_) rfl) <| nx ⟨(ku3 kz rfl), (and_t b367_), er⟩
        ·exact ls rfl rfl rfl (cb b367_) rfl <| ls rfl rfl rfl (cb b367_) rfl <| lp rfl rfl (X_pick (b := false) (v := (.bool false)) (cb b367_) rfl) <| nx ⟨(ku3 kz rfl), (and_f b367_), er⟩
       intro s373 w369 K370 h371 e372
       refine lp rfl rfl (X_move h371) ?_
       obtain ⟨z375, x376, H⟩ := bind_some H
       refine L_grpE 4 [(275, 279)] 278 (fun q => q = z375) ?_ ?_
       ·rcases bif_two x376 with ⟨b373_, H⟩ | ⟨b373_, H⟩
        ·refine lg rfl rfl rfl rfl (cb b373_) (xm v348 ((K370 32 rfl).trans ((K363 32 rfl).trans (K354 32 rfl)))) <| lg rfl rfl rfl rfl (cb b373_) (xm v15 ((K370 5 rfl).trans ((K363 5 rfl).trans ((K354 5 rfl).trans ((K260 5 rfl).trans ((K245 5 rfl).trans ((K233 5 rfl).trans ((K224 5 rfl).trans ((K179 5 rfl).trans ((K170 5 rfl).trans ((K162 5 rfl).trans ((K155 5 rfl).trans ((K89 5 rfl).trans ((K80 5 rfl).trans ((K71 5 rfl).trans (K49 5 rfl)))))))))))))))) ?_
         obtain ⟨c375, H⟩ := bif_some H
         obtain ⟨c376, H⟩ := bif_some H
         obtain ⟨c377, H⟩ := bif_some H
         obtain ⟨c378, H⟩ := bif_some H
         refine L_callP (tg rfl rfl rfl (cb b373_)) rfl (ltb rfl) rfl Tryz.call72 (impl_SameTree.calls (w := w369) (a0 := z344) (a1 := z11) (GV.ext gv ((((((((((((((((((((((((((((((((e7.t e14).t e20).t (Below.trans e25 (Wr.below h28 (Nat.le_of_eq z23)))).t e50).t e57).t e64).t e73).t e82).t e91).t e96).t e100).t e110).t e120).t (Below.trans e129 (Wr.below h132 (Nat.le_of_eq z127)))).t e137).t (Below.trans e146 (Wr.below h149 (Nat.le_of_eq z144)))).t e157).t e164).t e172).t e181).t e203).t e213).t e226).t e235).t e247).t e261).t e329).t e335).t e343).t e356).t e365).t e372)) (Ow.rd (Ow.ext (x345 ▸ o349) ((e356.t e365).t e372))) (Ow.rd (Ow.ext o16 ((((((((((((((((((((((((((((((e20.t (Below.trans e25 (Wr.below h28 (Nat.le_of_eq z23)))).t e50).t e57).t e64).t e73).t e82).t e91).t e96).t e100).t e110).t e120).t (Below.trans e129 (Wr.below h132 (Nat.le_of_eq z127)))).t e137).t (Below.trans e146 (Wr.below h149 (Nat.le_of_eq z144)))).t e157).t e164).t e172).t e181).t e203).t e213).t e226).t e235).t e247).t e261).t e329).t e335).t e343).t e356).t e365).t e372))) (od c375) (od c376) (od c377) (od c378)) rfl <| fun w379 e380 => lp rfl rfl (X_pick (b := true) (v := (.bool (sameTree z344 z11))) (cb b373_) rfl) ?_
         obtain rfl := si H
         exact nx ⟨(ku4 kz rfl), ⟨_, rfl, rfl⟩, e380⟩
        ·refine ls rfl rfl rfl (cb b373_) rfl <| ls rfl rfl rfl (cb b373_) rfl <| ls rfl rfl rfl (cb b373_) rfl <| lp rfl rfl (X_pick (b := false) (v := (.bool false)) (cb b373_) rfl) ?_
         obtain rfl := si H
         exact nx ⟨(ku4 kz rfl), ⟨_, rfl, rfl⟩, er⟩
       intro s381 w377 z382 K378 hq h379 e380
       rw [hq] at h379; clear hq
       refine lp rfl rfl (X_assign h379) <| nx <| W_ret <| fin_r ?_
       obtain rfl := si H
       exact fin1 rfl (((((((((((((((((((((((((((((((((e7.t e14).t e20).t (Below.trans e25 (Wr.below h28 (Nat.le_of_eq z23)))).t e50).t e57).t e64).t e73).t e82).t e91).t e96).t e100).t e110).t e120).t (Below.trans e129 (Wr.below h132 (Nat.le_of_eq z127)))).t e137).t (Below.trans e146 (Wr.below h149 (Nat.le_of_eq z144)))).t e157).t e164).t e172).t e181).t e203).t e213).t e226).t e235).t e247).t e261).t e329).t e335).t e343).t e356).t e365).t e372).t e380)
theorem law_FnTrees.calls {w : World} {a0 : List Int} {a1 : List Int} (gv : GV 0 w) {v_a0 : Value} (f_a0 : Rd 1 (Go.UL.encI .u8) w v_a0 a0) {v_a1 : Value} (f_a1 : Rd 1 (Go.UL.encI .u8) w v_a1 a1) (h0 : ∀ x ∈ a0, okB x) (h1 : a0.length ≤ 9223372036854775807) (h2 : ∀ x ∈ a1, okB x) (h3 : a1.length ≤ 9223372036854775807) :
  Calls Tryz.prog 8 #[v_a0, v_a1] w (Rt (RP w (.bool true))) := by
 obtain ⟨k, h⟩ := law_FnTrees.eq a0 a1 h0 h1 h2 h3
 exact law_FnTrees.walk gv f_a0 f_a1 h
end Go.Proofs.YtfefjaohlhkmaaaGreatDoor
