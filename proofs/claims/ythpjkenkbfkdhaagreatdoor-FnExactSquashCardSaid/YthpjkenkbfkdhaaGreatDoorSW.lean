/- The walks, by program (wip/tools). -/
import Derived.Test.YthpjkenkbfkdhaaGreatDoorProg
import Derived.Test.YthpjkenkbfkdhaaGreatDoorSWB
set_option linter.unusedVariables false
set_option maxRecDepth 10000
namespace Go.Proofs.YthpjkenkbfkdhaaGreatDoor
open Go.UL Go.RowKit
/-! spec.l06Two -/
abbrev spec_l06Two.e1 (a0 : List Rec) (a1 : List Rec) (x6_9 : Int) (x7_10 : Int) := ((!(decide (x7_10 = (a1.length : Int)))) && (decide (x6_9 < (a0.length : Int))))
abbrev spec_l06Two.e2 (a0 : List Rec) (a1 : List Rec) (x6_9 : Int) (x7_10 : Int) := ((decide (x6_9 < (a0.length : Int))) && (lessL (cut 47 ((gt a0 x6_9).path)) (cut 47 ((gt a1 x7_10).path))))
theorem spec_l06Two.walk {k : Nat} {w : World} {a0 : List Rec} {a1 : List Rec} {v_a0 : Value} (f_a0 : Rd 5 encRec w v_a0 a0) {v_a1 : Value} (f_a1 : Rd 5 encRec w v_a1 a1) {r : List Rec} (H : spec_l06Two.sh k a0 a1 = some r) :
    Calls Tryz.prog 86 #[v_a0, v_a1] w (Rt (RO 78 5 encRec w r)) := by
  unfold spec_l06Two.sh at H
  refine calls_of_W Tryz.func86 rfl (Nat.le_of_ble_eq_true rfl) Tryz.ntmps86 rfl ?_
  refine W_seq <| W_reg <| L_op (.plain rfl) rfl (ltb rfl) (X_assign (v := (.slice none 0 0)) rfl) <| L_nil <| thn_n <| W_seq <| W_reg <| L_lit (.plain rfl) rfl (ltb rfl) rfl Tryz.underlying28 Tryz.sizeOf78 Tryz.zeroValue78 rfl rfl rfl (vs := []) rfl (lit_all rfl) <| fun b1 w2 z3 z4 e5 k6 => L_op (.plain rfl) rfl (ltb rfl) (X_assign (v := (.slice (some ⟨b1, 0, none⟩) 0 0)) rfl) <| L_nil <| thn_n <| W_seq <| W_reg <| L_op (.plain rfl) rfl (ltb rfl) (X_assign (v := (.int .i64 0)) rfl) <| L_nil <| thn_n <| W_seq <| W_reg <| L_op (.plain rfl) rfl (ltb rfl) (X_assign (v := (.int .i64 0)) rfl) <| L_nil <| thn_n <| W_seq ?_
  obtain ⟨z11, L12, C13⟩ := bind_some H
  clear H
  refine  W_cutQ (fun s0 sQ wQ => ∃ (x5_14 : List Rec) (v15 : Value), Kp [(5, 8), (9, 103)] s0 sQ ∧ sQ 5 = v15 ∧ Ow 78 5 encRec w2.heap.size wQ v15 x5_14 ∧ Ext w2 wQ ∧ z11 = .inr x5_14) ?_ ?_
  · refine W_block <| W_loopI (fun s0 kk sQ wQ => ∃ (x5_7 : List Rec) (v8 : Value) (x6_9 : Int) (x7_10 : Int), Kp [(5, 8), (9, 103)] s0 sQ ∧ sQ 5 = v8 ∧ Ow 78 5 encRec w2.heap.size wQ v8 x5_7 ∧ sQ 6 = .int .i64 x6_9 ∧ sQ 7 = .int .i64 x7_10 ∧ Ext w2 wQ ∧ loopF (spec_l06Two.b1 a0 a1) kk (x5_7, x6_9, x7_10) = some z11) k ⟨([] : List Rec), (.slice (some ⟨b1, 0, none⟩) 0 0), 0, 0, (Kp.refl _ _), rfl, (Ow.zero), rfl, rfl, (Ext.refl w2), L12⟩ ?_
    rintro k20 s21 w22 ⟨x5_7, v8, x6_9, x7_10, K23, h26, h27, h28, h29, e24, L25⟩
    cases k20 with
    | zero => exact absurd L25 (by simp [loopF])
    | succ k20 =>
      obtain ⟨t30, H, S31⟩ := loopF_succ L25
      clear L25
      unfold spec_l06Two.b1 at H
      refine W_seq <| W_seq <| W_reg <| L_op (.plain rfl) rfl (ltb rfl) (X_move (v := (.int .i64 x6_9)) h28) <| L_op (.plain rfl) rfl (ltb rfl) (X_move (v := v_a0) (K23 0 rfl)) <| L_op (.plain rfl) rfl (ltb rfl) (X_lenR Tryz.underlying28 rfl (Rd.ext f_a0 (Ext.trans e5 e24))) <| L_op (.plain rfl) rfl (ltb rfl) (X_lss rfl rfl) <| L_op (.plain rfl) rfl (ltb rfl) (X_move (v := (.bool (decide (x6_9 < (a0.length : Int))))) rfl) <| L_grp 5 [(14, 19)] 18 (.bool ((decide (x6_9 < (a0.length : Int))) || (decide (x7_10 < (a1.length : Int))))) ?_ ?_
      · rcases bool_two (decide (x6_9 < (a0.length : Int))) with b31_ | b31_
        · exact L_skip rfl rfl (ltb rfl) (congrArg Value.bool b31_) rfl rfl (ltb rfl) <| L_skip rfl rfl (ltb rfl) (congrArg Value.bool b31_) rfl rfl (ltb rfl) <| L_skip rfl rfl (ltb rfl) (congrArg Value.bool b31_) rfl rfl (ltb rfl) <| L_skip rfl rfl (ltb rfl) (congrArg Value.bool b31_) rfl rfl (ltb rfl) <| L_op (.plain rfl) rfl (ltb rfl) (X_pick (b := true) (v := (.bool true)) (congrArg Value.bool b31_) rfl) <| L_nil <| thn_n ⟨(Kp.upd (Kp.upd (Kp.upd (Kp.upd (Kp.upd (Kp.refl _ _) rfl) rfl) rfl) rfl) rfl), (or_t b31_), (Ext.refl w22)⟩
        · exact L_op (.guard 4 false 13 rfl rfl (ltb rfl) (congrArg Value.bool b31_)) rfl (ltb rfl) (X_move (v := (.int .i64 x7_10)) h29) <| L_op (.guard 4 false 13 rfl rfl (ltb rfl) (congrArg Value.bool b31_)) rfl (ltb rfl) (X_move (v := v_a1) (K23 1 rfl)) <| L_op (.guard 4 false 13 rfl rfl (ltb rfl) (congrArg Value.bool b31_)) rfl (ltb rfl) (X_lenR Tryz.underlying28 rfl (Rd.ext f_a1 (Ext.trans e5 e24))) <| L_op (.guard 4 false 13 rfl rfl (ltb rfl) (congrArg Value.bool b31_)) rfl (ltb rfl) (X_lss rfl rfl) <| L_op (.plain rfl) rfl (ltb rfl) (X_pick (b := false) (v := (.bool (decide (x7_10 < (a1.length : Int))))) (congrArg Value.bool b31_) rfl) <| L_nil <| thn_n ⟨(Kp.upd (Kp.upd (Kp.upd (Kp.upd (Kp.upd (Kp.refl _ _) rfl) rfl) rfl) rfl) rfl), (or_f b31_), (Ext.refl w22)⟩
      intro s37 w33 K34 h35 e36
      refine L_nil <| thn_n ?_
      rcases bif_two H with ⟨q38, H⟩ | ⟨q38, H⟩
      · refine W_true (h35.trans (congrArg Value.bool q38)) <| W_skip <| thn_n <| W_block <| W_block <| W_seq ?_
        obtain ⟨c39, H⟩ := bif_some H
        obtain ⟨c42, H⟩ := bif_some H
        obtain ⟨c45, H⟩ := bif_some H
        obtain ⟨c46, H⟩ := bif_some H
        refine W_drawM [LEq (.int .i64 x7_10), LEq v_a1, LEq (.int .i64 (a1.length : Int)), LEq (.bool (decide (x7_10 = (a1.length : Int)))), LEq (.bool (decide (x7_10 = (a1.length : Int)))), LIf (!(decide (x7_10 = (a1.length : Int)))) (LEq (.int .i64 x6_9)), LIf (!(decide (x7_10 = (a1.length : Int)))) (LEq v_a0), LIf (!(decide (x7_10 = (a1.length : Int)))) (LEq (.int .i64 (a0.length : Int))), LIf (!(decide (x7_10 = (a1.length : Int)))) (LEq (.bool (decide (x6_9 < (a0.length : Int))))), LIf (!(decide (x7_10 = (a1.length : Int)))) (LEq (.bool (decide (x6_9 < (a0.length : Int))))), LIf (spec_l06Two.e1 a0 a1 x6_9 x7_10) (LEq v_a0), LIf (spec_l06Two.e1 a0 a1 x6_9 x7_10) (LEq (.int .i64 x6_9)), LIf (spec_l06Two.e1 a0 a1 x6_9 x7_10) (LAt0 (encRec (gt a0 x6_9))), LIf (spec_l06Two.e1 a0 a1 x6_9 x7_10) (LAt 1 (encRec (gt a0 x6_9))), LIf (spec_l06Two.e1 a0 a1 x6_9 x7_10) (LEq (S ((gt a0 x6_9).path))), LIf (spec_l06Two.e1 a0 a1 x6_9 x7_10) (LEq v_a1), LIf (spec_l06Two.e1 a0 a1 x6_9 x7_10) (LEq (.int .i64 x7_10)), LIf (spec_l06Two.e1 a0 a1 x6_9 x7_10) (LAt0 (encRec (gt a1 x7_10))), LIf (spec_l06Two.e1 a0 a1 x6_9 x7_10) (LAt 1 (encRec (gt a1 x7_10))), LIf (spec_l06Two.e1 a0 a1 x6_9 x7_10) (LEq (S ((gt a1 x7_10).path))), LIf (spec_l06Two.e1 a0 a1 x6_9 x7_10) (LEq (.bool (lessL (cut 47 ((gt a0 x6_9).path)) (cut 47 ((gt a1 x7_10).path))))), LIf (!(decide (x7_10 = (a1.length : Int)))) (LEq (.bool (spec_l06Two.e2 a0 a1 x6_9 x7_10))), LEq (.bool ((decide (x7_10 = (a1.length : Int))) || (spec_l06Two.e2 a0 a1 x6_9 x7_10))), LEq (.bool ((decide (x7_10 = (a1.length : Int))) || (spec_l06Two.e2 a0 a1 x6_9 x7_10)))] (by kernel_rfl) (by kernel_rfl) ⟨LEq.mono, LEq.mono, LEq.mono, LEq.mono, LEq.mono, (LIf.mono LEq.mono), (LIf.mono LEq.mono), (LIf.mono LEq.mono), (LIf.mono LEq.mono), (LIf.mono LEq.mono), (LIf.mono LEq.mono), (LIf.mono LEq.mono), (LIf.mono LAt0.mono), (LIf.mono LAt.mono), (LIf.mono LEq.mono), (LIf.mono LEq.mono), (LIf.mono LEq.mono), (LIf.mono LAt0.mono), (LIf.mono LAt.mono), (LIf.mono LEq.mono), (LIf.mono LEq.mono), (LIf.mono LEq.mono), LEq.mono, LEq.mono, trivial⟩ ⟨?_, ?_, ?_, ?_, ?_, ?_, ?_, ?_, ?_, ?_, ?_, ?_, ?_, ?_, ?_, ?_, ?_, ?_, ?_, ?_, ?_, ?_, ?_, ?_, trivial⟩ ?_
        · intro s49 w50 e51 hf52 hd53 hu54
          exact L_op (.plain rfl) rfl (ltb rfl) (X_move (v := (.int .i64 x7_10)) ((hf52 7 rfl).trans ((K34 7 rfl).trans h29))) <| L_nil <| stepEnd rfl rfl (Ext.refl w50) rfl
        · intro s55 w56 e57 hf58 hd59 hu60
          exact L_op (.plain rfl) rfl (ltb rfl) (X_move (v := v_a1) ((hf58 1 rfl).trans ((K34 1 rfl).trans (K23 1 rfl)))) <| L_nil <| stepEnd rfl rfl (Ext.refl w56) rfl
        · intro s61 w62 e63 hf64 hd65 hu66
          have d67 : s61 37 = v_a1 := (hd65 1 rfl)
          exact L_op (.plain rfl) rfl (ltb rfl) (X_lenR Tryz.underlying28 d67 (Rd.ext f_a1 (Ext.trans (Ext.trans (Ext.trans e5 e24) e36) e63))) <| L_nil <| stepEnd rfl rfl (Ext.refl w62) rfl
        · intro s68 w69 e70 hf71 hd72 hu73
          have d74 : s68 36 = (.int .i64 x7_10) := (hd72 0 rfl)
          have d75 : s68 38 = (.int .i64 (a1.length : Int)) := (hd72 2 rfl)
          exact L_op (.plain rfl) rfl (ltb rfl) (X_eql d74 d75) <| L_nil <| stepEnd rfl rfl (Ext.refl w69) rfl
        · intro s76 w77 e78 hf79 hd80 hu81
          have d82 : s76 39 = (.bool (decide (x7_10 = (a1.length : Int)))) := (hd80 3 rfl)
          exact L_op (.plain rfl) rfl (ltb rfl) (X_move (v := (.bool (decide (x7_10 = (a1.length : Int))))) d82) <| L_nil <| stepEnd rfl rfl (Ext.refl w77) rfl
        · intro s83 w84 e85 hf86 hd87 hu88
          rcases bool_two (!(decide (x7_10 = (a1.length : Int)))) with b89 | b89
          · have g90 : (decide (x7_10 = (a1.length : Int))) = false := (not_f b89)
            have d91 : s83 40 = (.bool (decide (x7_10 = (a1.length : Int)))) := (hd87 4 rfl)
            have d92 : s83 40 = (.bool (decide (x7_10 = (a1.length : Int)))) := (hd87 4 rfl)
            exact L_op (.guard 4 false 40 rfl rfl (ltb rfl) (d91.trans (congrArg Value.bool g90))) rfl (ltb rfl) (X_move (v := (.int .i64 x6_9)) ((hf86 6 rfl).trans ((K34 6 rfl).trans h28))) <| L_nil <| stepEnd rfl rfl (Ext.refl w84) ⟨fun _ => rfl, fun h => absurd (b89.symm.trans h) (by decide)⟩
          · have d93 : s83 40 = (.bool (decide (x7_10 = (a1.length : Int)))) := (hd87 4 rfl)
            have g94 : (decide (x7_10 = (a1.length : Int))) = true := (not_ff b89)
            exact L_skip rfl rfl (ltb rfl) (d93.trans (congrArg Value.bool g94)) rfl rfl (ltb rfl) <| L_nil <| stepEnd rfl rfl (Ext.refl w84) ⟨fun h => absurd (b89.symm.trans h) (by decide), fun _ => rfl⟩
        · intro s95 w96 e97 hf98 hd99 hu100
          rcases bool_two (!(decide (x7_10 = (a1.length : Int)))) with b101 | b101
          · have g102 : (decide (x7_10 = (a1.length : Int))) = false := (not_f b101)
            have d103 : s95 40 = (.bool (decide (x7_10 = (a1.length : Int)))) := (hd99 4 rfl)
            have d104 : s95 40 = (.bool (decide (x7_10 = (a1.length : Int)))) := (hd99 4 rfl)
            exact L_op (.guard 4 false 40 rfl rfl (ltb rfl) (d103.trans (congrArg Value.bool g102))) rfl (ltb rfl) (X_move (v := v_a0) ((hf98 0 rfl).trans ((K34 0 rfl).trans (K23 0 rfl)))) <| L_nil <| stepEnd rfl rfl (Ext.refl w96) ⟨fun _ => rfl, fun h => absurd (b101.symm.trans h) (by decide)⟩
          · have d105 : s95 40 = (.bool (decide (x7_10 = (a1.length : Int)))) := (hd99 4 rfl)
            have g106 : (decide (x7_10 = (a1.length : Int))) = true := (not_ff b101)
            exact L_skip rfl rfl (ltb rfl) (d105.trans (congrArg Value.bool g106)) rfl rfl (ltb rfl) <| L_nil <| stepEnd rfl rfl (Ext.refl w96) ⟨fun h => absurd (b101.symm.trans h) (by decide), fun _ => rfl⟩
        · intro s107 w108 e109 hf110 hd111 hu112
          rcases bool_two (!(decide (x7_10 = (a1.length : Int)))) with b113 | b113
          · have g114 : (decide (x7_10 = (a1.length : Int))) = false := (not_f b113)
            have d115 : s107 40 = (.bool (decide (x7_10 = (a1.length : Int)))) := (hd111 4 rfl)
            have d116 : s107 40 = (.bool (decide (x7_10 = (a1.length : Int)))) := (hd111 4 rfl)
            have d117 : s107 42 = v_a0 := ((hd111 6 rfl).1 (not_mk (not_f b113)))
            exact L_op (.guard 4 false 40 rfl rfl (ltb rfl) (d115.trans (congrArg Value.bool g114))) rfl (ltb rfl) (X_lenR Tryz.underlying28 d117 (Rd.ext f_a0 (Ext.trans (Ext.trans (Ext.trans e5 e24) e36) e109))) <| L_nil <| stepEnd rfl rfl (Ext.refl w108) ⟨fun _ => rfl, fun h => absurd (b113.symm.trans h) (by decide)⟩
          · have d118 : s107 40 = (.bool (decide (x7_10 = (a1.length : Int)))) := (hd111 4 rfl)
            have g119 : (decide (x7_10 = (a1.length : Int))) = true := (not_ff b113)
            exact L_skip rfl rfl (ltb rfl) (d118.trans (congrArg Value.bool g119)) rfl rfl (ltb rfl) <| L_nil <| stepEnd rfl rfl (Ext.refl w108) ⟨fun h => absurd (b113.symm.trans h) (by decide), fun _ => rfl⟩
        · intro s120 w121 e122 hf123 hd124 hu125
          rcases bool_two (!(decide (x7_10 = (a1.length : Int)))) with b126 | b126
          · have g127 : (decide (x7_10 = (a1.length : Int))) = false := (not_f b126)
            have d128 : s120 40 = (.bool (decide (x7_10 = (a1.length : Int)))) := (hd124 4 rfl)
            have d129 : s120 40 = (.bool (decide (x7_10 = (a1.length : Int)))) := (hd124 4 rfl)
            have d130 : s120 41 = (.int .i64 x6_9) := ((hd124 5 rfl).1 (not_mk (not_f b126)))
            have d131 : s120 43 = (.int .i64 (a0.length : Int)) := ((hd124 7 rfl).1 (not_mk (not_f b126)))
            exact L_op (.guard 4 false 40 rfl rfl (ltb rfl) (d128.trans (congrArg Value.bool g127))) rfl (ltb rfl) (X_lss d130 d131) <| L_nil <| stepEnd rfl rfl (Ext.refl w121) ⟨fun _ => rfl, fun h => absurd (b126.symm.trans h) (by decide)⟩
          · have d132 : s120 40 = (.bool (decide (x7_10 = (a1.length : Int)))) := (hd124 4 rfl)
            have g133 : (decide (x7_10 = (a1.length : Int))) = true := (not_ff b126)
            exact L_skip rfl rfl (ltb rfl) (d132.trans (congrArg Value.bool g133)) rfl rfl (ltb rfl) <| L_nil <| stepEnd rfl rfl (Ext.refl w121) ⟨fun h => absurd (b126.symm.trans h) (by decide), fun _ => rfl⟩
        · intro s134 w135 e136 hf137 hd138 hu139
          rcases bool_two (!(decide (x7_10 = (a1.length : Int)))) with b140 | b140
          · have g141 : (decide (x7_10 = (a1.length : Int))) = false := (not_f b140)
            have d142 : s134 40 = (.bool (decide (x7_10 = (a1.length : Int)))) := (hd138 4 rfl)
            have d143 : s134 40 = (.bool (decide (x7_10 = (a1.length : Int)))) := (hd138 4 rfl)
            have d144 : s134 44 = (.bool (decide (x6_9 < (a0.length : Int)))) := ((hd138 8 rfl).1 (not_mk (not_f b140)))
            exact L_op (.guard 4 false 40 rfl rfl (ltb rfl) (d142.trans (congrArg Value.bool g141))) rfl (ltb rfl) (X_move (v := (.bool (decide (x6_9 < (a0.length : Int))))) d144) <| L_nil <| stepEnd rfl rfl (Ext.refl w135) ⟨fun _ => rfl, fun h => absurd (b140.symm.trans h) (by decide)⟩
          · have d145 : s134 40 = (.bool (decide (x7_10 = (a1.length : Int)))) := (hd138 4 rfl)
            have g146 : (decide (x7_10 = (a1.length : Int))) = true := (not_ff b140)
            exact L_skip rfl rfl (ltb rfl) (d145.trans (congrArg Value.bool g146)) rfl rfl (ltb rfl) <| L_nil <| stepEnd rfl rfl (Ext.refl w135) ⟨fun h => absurd (b140.symm.trans h) (by decide), fun _ => rfl⟩
        · intro s147 w148 e149 hf150 hd151 hu152
          rcases bool_two (spec_l06Two.e1 a0 a1 x6_9 x7_10) with b153 | b153
          · have g154 : (decide (x6_9 < (a0.length : Int))) = true := (and_r b153)
            have d155 : s147 45 = (.bool (decide (x6_9 < (a0.length : Int)))) := ((hd151 9 rfl).1 (not_mk (not_f (and_l b153))))
            have d156 : s147 45 = (.bool (decide (x6_9 < (a0.length : Int)))) := ((hd151 9 rfl).1 (not_mk (not_f (and_l b153))))
            exact L_op (.guard 9 true 45 rfl rfl (ltb rfl) (d155.trans (congrArg Value.bool g154))) rfl (ltb rfl) (X_move (v := v_a0) ((hf150 0 rfl).trans ((K34 0 rfl).trans (K23 0 rfl)))) <| L_nil <| stepEnd rfl rfl (Ext.refl w148) ⟨fun _ => rfl, fun h => absurd (b153.symm.trans h) (by decide)⟩
          · rcases bool_two (!(decide (x7_10 = (a1.length : Int)))) with b157 | b157
            · have d158 : s147 45 = (.bool (decide (x6_9 < (a0.length : Int)))) := ((hd151 9 rfl).1 (not_mk (not_f b157)))
              have g159 : (decide (x6_9 < (a0.length : Int))) = false := (and_fr b153 b157)
              exact L_skip rfl rfl (ltb rfl) (d158.trans (congrArg Value.bool g159)) rfl rfl (ltb rfl) <| L_nil <| stepEnd rfl rfl (Ext.refl w148) ⟨fun h => absurd (b153.symm.trans h) (by decide), fun _ => rfl⟩
            · exact L_skipU rfl rfl (ltb rfl) ((hd151 9 rfl).2 b157) rfl (ltb rfl) <| L_nil <| stepEnd rfl rfl (Ext.refl w148) ⟨fun h => absurd (b153.symm.trans h) (by decide), fun _ => rfl⟩
        · intro s160 w161 e162 hf163 hd164 hu165
          rcases bool_two (spec_l06Two.e1 a0 a1 x6_9 x7_10) with b166 | b166
          · have g167 : (decide (x6_9 < (a0.length : Int))) = true := (and_r b166)
            have d168 : s160 45 = (.bool (decide (x6_9 < (a0.length : Int)))) := ((hd164 9 rfl).1 (not_mk (not_f (and_l b166))))
            have d169 : s160 45 = (.bool (decide (x6_9 < (a0.length : Int)))) := ((hd164 9 rfl).1 (not_mk (not_f (and_l b166))))
            exact L_op (.guard 9 true 45 rfl rfl (ltb rfl) (d168.trans (congrArg Value.bool g167))) rfl (ltb rfl) (X_move (v := (.int .i64 x6_9)) ((hf163 6 rfl).trans ((K34 6 rfl).trans h28))) <| L_nil <| stepEnd rfl rfl (Ext.refl w161) ⟨fun _ => rfl, fun h => absurd (b166.symm.trans h) (by decide)⟩
          · rcases bool_two (!(decide (x7_10 = (a1.length : Int)))) with b170 | b170
            · have d171 : s160 45 = (.bool (decide (x6_9 < (a0.length : Int)))) := ((hd164 9 rfl).1 (not_mk (not_f b170)))
              have g172 : (decide (x6_9 < (a0.length : Int))) = false := (and_fr b166 b170)
              exact L_skip rfl rfl (ltb rfl) (d171.trans (congrArg Value.bool g172)) rfl rfl (ltb rfl) <| L_nil <| stepEnd rfl rfl (Ext.refl w161) ⟨fun h => absurd (b166.symm.trans h) (by decide), fun _ => rfl⟩
            · exact L_skipU rfl rfl (ltb rfl) ((hd164 9 rfl).2 b170) rfl (ltb rfl) <| L_nil <| stepEnd rfl rfl (Ext.refl w161) ⟨fun h => absurd (b166.symm.trans h) (by decide), fun _ => rfl⟩
        · intro s173 w174 e175 hf176 hd177 hu178
          rcases bool_two (spec_l06Two.e1 a0 a1 x6_9 x7_10) with b179 | b179
          · have g180 : (decide (x6_9 < (a0.length : Int))) = true := (and_r b179)
            have d181 : s173 45 = (.bool (decide (x6_9 < (a0.length : Int)))) := ((hd177 9 rfl).1 (not_mk (not_f (and_l b179))))
            have d182 : s173 45 = (.bool (decide (x6_9 < (a0.length : Int)))) := ((hd177 9 rfl).1 (not_mk (not_f (and_l b179))))
            have d183 : s173 46 = v_a0 := ((hd177 10 rfl).1 (and_mk (not_mk (not_f (and_l b179))) (and_r b179)))
            have d184 : s173 47 = (.int .i64 x6_9) := ((hd177 11 rfl).1 (and_mk (not_mk (not_f (and_l b179))) (and_r b179)))
            have c185 := imp_take b179 c39
            exact L_idx (.guard 9 true 45 rfl rfl (ltb rfl) (d181.trans (congrArg Value.bool g180))) rfl (ltb rfl) rfl Tryz.underlying28 Tryz.sizeOf78 d183 (Rd.ext f_a0 (Ext.trans (Ext.trans (Ext.trans e5 e24) e36) e175)) d184 c185 <| fun p186 h187 => L_nil <| stepEnd rfl rfl (Ext.refl w174) ⟨fun _ => ⟨_, rfl, h187⟩, fun h => absurd (b179.symm.trans h) (by decide)⟩
          · rcases bool_two (!(decide (x7_10 = (a1.length : Int)))) with b188 | b188
            · have d189 : s173 45 = (.bool (decide (x6_9 < (a0.length : Int)))) := ((hd177 9 rfl).1 (not_mk (not_f b188)))
              have g190 : (decide (x6_9 < (a0.length : Int))) = false := (and_fr b179 b188)
              exact L_skip rfl rfl (ltb rfl) (d189.trans (congrArg Value.bool g190)) rfl rfl (ltb rfl) <| L_nil <| stepEnd rfl rfl (Ext.refl w174) ⟨fun h => absurd (b179.symm.trans h) (by decide), fun _ => rfl⟩
            · exact L_skipU rfl rfl (ltb rfl) ((hd177 9 rfl).2 b188) rfl (ltb rfl) <| L_nil <| stepEnd rfl rfl (Ext.refl w174) ⟨fun h => absurd (b179.symm.trans h) (by decide), fun _ => rfl⟩
        · intro s191 w192 e193 hf194 hd195 hu196
          rcases bool_two (spec_l06Two.e1 a0 a1 x6_9 x7_10) with b197 | b197
          · have g198 : (decide (x6_9 < (a0.length : Int))) = true := (and_r b197)
            have d199 : s191 45 = (.bool (decide (x6_9 < (a0.length : Int)))) := ((hd195 9 rfl).1 (not_mk (not_f (and_l b197))))
            have d200 : s191 45 = (.bool (decide (x6_9 < (a0.length : Int)))) := ((hd195 9 rfl).1 (not_mk (not_f (and_l b197))))
            obtain ⟨p201, h202, h203⟩ := ((hd195 12 rfl).1 (and_mk (not_mk (not_f (and_l b197))) (and_r b197)))
            exact L_op (.guard 9 true 45 rfl rfl (ltb rfl) (d199.trans (congrArg Value.bool g198))) rfl (ltb rfl) (X_fieldAddr Tryz.underlying78 rfl Tryz.sizeOf9 rfl h202) <| L_nil <| stepEnd rfl rfl (Ext.refl w192) ⟨fun _ => ⟨_, rfl, h203⟩, fun h => absurd (b197.symm.trans h) (by decide)⟩
          · rcases bool_two (!(decide (x7_10 = (a1.length : Int)))) with b204 | b204
            · have d205 : s191 45 = (.bool (decide (x6_9 < (a0.length : Int)))) := ((hd195 9 rfl).1 (not_mk (not_f b204)))
              have g206 : (decide (x6_9 < (a0.length : Int))) = false := (and_fr b197 b204)
              exact L_skip rfl rfl (ltb rfl) (d205.trans (congrArg Value.bool g206)) rfl rfl (ltb rfl) <| L_nil <| stepEnd rfl rfl (Ext.refl w192) ⟨fun h => absurd (b197.symm.trans h) (by decide), fun _ => rfl⟩
            · exact L_skipU rfl rfl (ltb rfl) ((hd195 9 rfl).2 b204) rfl (ltb rfl) <| L_nil <| stepEnd rfl rfl (Ext.refl w192) ⟨fun h => absurd (b197.symm.trans h) (by decide), fun _ => rfl⟩
        · intro s207 w208 e209 hf210 hd211 hu212
          rcases bool_two (spec_l06Two.e1 a0 a1 x6_9 x7_10) with b213 | b213
          · have g214 : (decide (x6_9 < (a0.length : Int))) = true := (and_r b213)
            have d215 : s207 45 = (.bool (decide (x6_9 < (a0.length : Int)))) := ((hd211 9 rfl).1 (not_mk (not_f (and_l b213))))
            have d216 : s207 45 = (.bool (decide (x6_9 < (a0.length : Int)))) := ((hd211 9 rfl).1 (not_mk (not_f (and_l b213))))
            obtain ⟨p217, h218, h219⟩ := ((hd211 13 rfl).1 (and_mk (not_mk (not_f (and_l b213))) (and_r b213)))
            exact L_op (.guard 9 true 45 rfl rfl (ltb rfl) (d215.trans (congrArg Value.bool g214))) rfl (ltb rfl) (X_loadF Tryz.isAgg9 (j := 1) h219 h218 rfl) <| L_nil <| stepEnd rfl rfl (Ext.refl w208) ⟨fun _ => rfl, fun h => absurd (b213.symm.trans h) (by decide)⟩
          · rcases bool_two (!(decide (x7_10 = (a1.length : Int)))) with b220 | b220
            · have d221 : s207 45 = (.bool (decide (x6_9 < (a0.length : Int)))) := ((hd211 9 rfl).1 (not_mk (not_f b220)))
              have g222 : (decide (x6_9 < (a0.length : Int))) = false := (and_fr b213 b220)
              exact L_skip rfl rfl (ltb rfl) (d221.trans (congrArg Value.bool g222)) rfl rfl (ltb rfl) <| L_nil <| stepEnd rfl rfl (Ext.refl w208) ⟨fun h => absurd (b213.symm.trans h) (by decide), fun _ => rfl⟩
            · exact L_skipU rfl rfl (ltb rfl) ((hd211 9 rfl).2 b220) rfl (ltb rfl) <| L_nil <| stepEnd rfl rfl (Ext.refl w208) ⟨fun h => absurd (b213.symm.trans h) (by decide), fun _ => rfl⟩
        · intro s223 w224 e225 hf226 hd227 hu228
          rcases bool_two (spec_l06Two.e1 a0 a1 x6_9 x7_10) with b229 | b229
          · have g230 : (decide (x6_9 < (a0.length : Int))) = true := (and_r b229)
            have d231 : s223 45 = (.bool (decide (x6_9 < (a0.length : Int)))) := ((hd227 9 rfl).1 (not_mk (not_f (and_l b229))))
            have d232 : s223 45 = (.bool (decide (x6_9 < (a0.length : Int)))) := ((hd227 9 rfl).1 (not_mk (not_f (and_l b229))))
            exact L_op (.guard 9 true 45 rfl rfl (ltb rfl) (d231.trans (congrArg Value.bool g230))) rfl (ltb rfl) (X_move (v := v_a1) ((hf226 1 rfl).trans ((K34 1 rfl).trans (K23 1 rfl)))) <| L_nil <| stepEnd rfl rfl (Ext.refl w224) ⟨fun _ => rfl, fun h => absurd (b229.symm.trans h) (by decide)⟩
          · rcases bool_two (!(decide (x7_10 = (a1.length : Int)))) with b233 | b233
            · have d234 : s223 45 = (.bool (decide (x6_9 < (a0.length : Int)))) := ((hd227 9 rfl).1 (not_mk (not_f b233)))
              have g235 : (decide (x6_9 < (a0.length : Int))) = false := (and_fr b229 b233)
              exact L_skip rfl rfl (ltb rfl) (d234.trans (congrArg Value.bool g235)) rfl rfl (ltb rfl) <| L_nil <| stepEnd rfl rfl (Ext.refl w224) ⟨fun h => absurd (b229.symm.trans h) (by decide), fun _ => rfl⟩
            · exact L_skipU rfl rfl (ltb rfl) ((hd227 9 rfl).2 b233) rfl (ltb rfl) <| L_nil <| stepEnd rfl rfl (Ext.refl w224) ⟨fun h => absurd (b229.symm.trans h) (by decide), fun _ => rfl⟩
        · intro s236 w237 e238 hf239 hd240 hu241
          rcases bool_two (spec_l06Two.e1 a0 a1 x6_9 x7_10) with b242 | b242
          · have g243 : (decide (x6_9 < (a0.length : Int))) = true := (and_r b242)
            have d244 : s236 45 = (.bool (decide (x6_9 < (a0.length : Int)))) := ((hd240 9 rfl).1 (not_mk (not_f (and_l b242))))
            have d245 : s236 45 = (.bool (decide (x6_9 < (a0.length : Int)))) := ((hd240 9 rfl).1 (not_mk (not_f (and_l b242))))
            exact L_op (.guard 9 true 45 rfl rfl (ltb rfl) (d244.trans (congrArg Value.bool g243))) rfl (ltb rfl) (X_move (v := (.int .i64 x7_10)) ((hf239 7 rfl).trans ((K34 7 rfl).trans h29))) <| L_nil <| stepEnd rfl rfl (Ext.refl w237) ⟨fun _ => rfl, fun h => absurd (b242.symm.trans h) (by decide)⟩
          · rcases bool_two (!(decide (x7_10 = (a1.length : Int)))) with b246 | b246
            · have d247 : s236 45 = (.bool (decide (x6_9 < (a0.length : Int)))) := ((hd240 9 rfl).1 (not_mk (not_f b246)))
              have g248 : (decide (x6_9 < (a0.length : Int))) = false := (and_fr b242 b246)
              exact L_skip rfl rfl (ltb rfl) (d247.trans (congrArg Value.bool g248)) rfl rfl (ltb rfl) <| L_nil <| stepEnd rfl rfl (Ext.refl w237) ⟨fun h => absurd (b242.symm.trans h) (by decide), fun _ => rfl⟩
            · exact L_skipU rfl rfl (ltb rfl) ((hd240 9 rfl).2 b246) rfl (ltb rfl) <| L_nil <| stepEnd rfl rfl (Ext.refl w237) ⟨fun h => absurd (b242.symm.trans h) (by decide), fun _ => rfl⟩
        · intro s249 w250 e251 hf252 hd253 hu254
          rcases bool_two (spec_l06Two.e1 a0 a1 x6_9 x7_10) with b255 | b255
          · have g256 : (decide (x6_9 < (a0.length : Int))) = true := (and_r b255)
            have d257 : s249 45 = (.bool (decide (x6_9 < (a0.length : Int)))) := ((hd253 9 rfl).1 (not_mk (not_f (and_l b255))))
            have d258 : s249 45 = (.bool (decide (x6_9 < (a0.length : Int)))) := ((hd253 9 rfl).1 (not_mk (not_f (and_l b255))))
            have d259 : s249 51 = v_a1 := ((hd253 15 rfl).1 (and_mk (not_mk (not_f (and_l b255))) (and_r b255)))
            have d260 : s249 52 = (.int .i64 x7_10) := ((hd253 16 rfl).1 (and_mk (not_mk (not_f (and_l b255))) (and_r b255)))
            have c261 := imp_take b255 c42
            exact L_idx (.guard 9 true 45 rfl rfl (ltb rfl) (d257.trans (congrArg Value.bool g256))) rfl (ltb rfl) rfl Tryz.underlying28 Tryz.sizeOf78 d259 (Rd.ext f_a1 (Ext.trans (Ext.trans (Ext.trans e5 e24) e36) e251)) d260 c261 <| fun p262 h263 => L_nil <| stepEnd rfl rfl (Ext.refl w250) ⟨fun _ => ⟨_, rfl, h263⟩, fun h => absurd (b255.symm.trans h) (by decide)⟩
          · rcases bool_two (!(decide (x7_10 = (a1.length : Int)))) with b264 | b264
            · have d265 : s249 45 = (.bool (decide (x6_9 < (a0.length : Int)))) := ((hd253 9 rfl).1 (not_mk (not_f b264)))
              have g266 : (decide (x6_9 < (a0.length : Int))) = false := (and_fr b255 b264)
              exact L_skip rfl rfl (ltb rfl) (d265.trans (congrArg Value.bool g266)) rfl rfl (ltb rfl) <| L_nil <| stepEnd rfl rfl (Ext.refl w250) ⟨fun h => absurd (b255.symm.trans h) (by decide), fun _ => rfl⟩
            · exact L_skipU rfl rfl (ltb rfl) ((hd253 9 rfl).2 b264) rfl (ltb rfl) <| L_nil <| stepEnd rfl rfl (Ext.refl w250) ⟨fun h => absurd (b255.symm.trans h) (by decide), fun _ => rfl⟩
        · intro s267 w268 e269 hf270 hd271 hu272
          rcases bool_two (spec_l06Two.e1 a0 a1 x6_9 x7_10) with b273 | b273
          · have g274 : (decide (x6_9 < (a0.length : Int))) = true := (and_r b273)
            have d275 : s267 45 = (.bool (decide (x6_9 < (a0.length : Int)))) := ((hd271 9 rfl).1 (not_mk (not_f (and_l b273))))
            have d276 : s267 45 = (.bool (decide (x6_9 < (a0.length : Int)))) := ((hd271 9 rfl).1 (not_mk (not_f (and_l b273))))
            obtain ⟨p277, h278, h279⟩ := ((hd271 17 rfl).1 (and_mk (not_mk (not_f (and_l b273))) (and_r b273)))
            exact L_op (.guard 9 true 45 rfl rfl (ltb rfl) (d275.trans (congrArg Value.bool g274))) rfl (ltb rfl) (X_fieldAddr Tryz.underlying78 rfl Tryz.sizeOf9 rfl h278) <| L_nil <| stepEnd rfl rfl (Ext.refl w268) ⟨fun _ => ⟨_, rfl, h279⟩, fun h => absurd (b273.symm.trans h) (by decide)⟩
          · rcases bool_two (!(decide (x7_10 = (a1.length : Int)))) with b280 | b280
            · have d281 : s267 45 = (.bool (decide (x6_9 < (a0.length : Int)))) := ((hd271 9 rfl).1 (not_mk (not_f b280)))
              have g282 : (decide (x6_9 < (a0.length : Int))) = false := (and_fr b273 b280)
              exact L_skip rfl rfl (ltb rfl) (d281.trans (congrArg Value.bool g282)) rfl rfl (ltb rfl) <| L_nil <| stepEnd rfl rfl (Ext.refl w268) ⟨fun h => absurd (b273.symm.trans h) (by decide), fun _ => rfl⟩
            · exact L_skipU rfl rfl (ltb rfl) ((hd271 9 rfl).2 b280) rfl (ltb rfl) <| L_nil <| stepEnd rfl rfl (Ext.refl w268) ⟨fun h => absurd (b273.symm.trans h) (by decide), fun _ => rfl⟩
        · intro s283 w284 e285 hf286 hd287 hu288
          rcases bool_two (spec_l06Two.e1 a0 a1 x6_9 x7_10) with b289 | b289
          · have g290 : (decide (x6_9 < (a0.length : Int))) = true := (and_r b289)
            have d291 : s283 45 = (.bool (decide (x6_9 < (a0.length : Int)))) := ((hd287 9 rfl).1 (not_mk (not_f (and_l b289))))
            have d292 : s283 45 = (.bool (decide (x6_9 < (a0.length : Int)))) := ((hd287 9 rfl).1 (not_mk (not_f (and_l b289))))
            obtain ⟨p293, h294, h295⟩ := ((hd287 18 rfl).1 (and_mk (not_mk (not_f (and_l b289))) (and_r b289)))
            exact L_op (.guard 9 true 45 rfl rfl (ltb rfl) (d291.trans (congrArg Value.bool g290))) rfl (ltb rfl) (X_loadF Tryz.isAgg9 (j := 1) h295 h294 rfl) <| L_nil <| stepEnd rfl rfl (Ext.refl w284) ⟨fun _ => rfl, fun h => absurd (b289.symm.trans h) (by decide)⟩
          · rcases bool_two (!(decide (x7_10 = (a1.length : Int)))) with b296 | b296
            · have d297 : s283 45 = (.bool (decide (x6_9 < (a0.length : Int)))) := ((hd287 9 rfl).1 (not_mk (not_f b296)))
              have g298 : (decide (x6_9 < (a0.length : Int))) = false := (and_fr b289 b296)
              exact L_skip rfl rfl (ltb rfl) (d297.trans (congrArg Value.bool g298)) rfl rfl (ltb rfl) <| L_nil <| stepEnd rfl rfl (Ext.refl w284) ⟨fun h => absurd (b289.symm.trans h) (by decide), fun _ => rfl⟩
            · exact L_skipU rfl rfl (ltb rfl) ((hd287 9 rfl).2 b296) rfl (ltb rfl) <| L_nil <| stepEnd rfl rfl (Ext.refl w284) ⟨fun h => absurd (b289.symm.trans h) (by decide), fun _ => rfl⟩
        · intro s299 w300 e301 hf302 hd303 hu304
          rcases bool_two (spec_l06Two.e1 a0 a1 x6_9 x7_10) with b305 | b305
          · have g306 : (decide (x6_9 < (a0.length : Int))) = true := (and_r b305)
            have d307 : s299 45 = (.bool (decide (x6_9 < (a0.length : Int)))) := ((hd303 9 rfl).1 (not_mk (not_f (and_l b305))))
            have d308 : s299 45 = (.bool (decide (x6_9 < (a0.length : Int)))) := ((hd303 9 rfl).1 (not_mk (not_f (and_l b305))))
            have d309 : s299 50 = (S ((gt a0 x6_9).path)) := ((hd303 14 rfl).1 (and_mk (not_mk (not_f (and_l b305))) (and_r b305)))
            have d310 : s299 55 = (S ((gt a1 x7_10).path)) := ((hd303 19 rfl).1 (and_mk (not_mk (not_f (and_l b305))) (and_r b305)))
            have c311 := imp_take b305 c45
            have c312 := imp_take b305 c46
            exact L_callP (.guard 9 true 45 rfl rfl (ltb rfl) (d307.trans (congrArg Value.bool g306))) rfl (ltb rfl) rfl Tryz.call112 (spec_l01Less.calls (w := w300) (a0 := (gt a0 x6_9).path) (a1 := (gt a1 x7_10).path) (of_decide_eq_true c311) (of_decide_eq_true c312)) (cons2 d309 (cons2 d310 rfl)) <| fun w313 e314 => L_nil <| stepEnd rfl rfl e314 ⟨fun _ => rfl, fun h => absurd (b305.symm.trans h) (by decide)⟩
          · rcases bool_two (!(decide (x7_10 = (a1.length : Int)))) with b315 | b315
            · have d316 : s299 45 = (.bool (decide (x6_9 < (a0.length : Int)))) := ((hd303 9 rfl).1 (not_mk (not_f b315)))
              have g317 : (decide (x6_9 < (a0.length : Int))) = false := (and_fr b305 b315)
              exact L_skip rfl rfl (ltb rfl) (d316.trans (congrArg Value.bool g317)) rfl rfl (ltb rfl) <| L_nil <| stepEnd rfl rfl (Ext.refl w300) ⟨fun h => absurd (b305.symm.trans h) (by decide), fun _ => rfl⟩
            · exact L_skipU rfl rfl (ltb rfl) ((hd303 9 rfl).2 b315) rfl (ltb rfl) <| L_nil <| stepEnd rfl rfl (Ext.refl w300) ⟨fun h => absurd (b305.symm.trans h) (by decide), fun _ => rfl⟩
        · intro s318 w319 e320 hf321 hd322 hu323
          rcases bool_two (!(decide (x7_10 = (a1.length : Int)))) with b324 | b324
          · have g325 : (decide (x7_10 = (a1.length : Int))) = false := (not_f b324)
            have d326 : s318 40 = (.bool (decide (x7_10 = (a1.length : Int)))) := (hd322 4 rfl)
            rcases bool_two (decide (x6_9 < (a0.length : Int))) with b327 | b327
            · have d328 : s318 45 = (.bool (decide (x6_9 < (a0.length : Int)))) := ((hd322 9 rfl).1 (not_mk (not_f b324)))
              have d329 : s318 56 = (.bool (lessL (cut 47 ((gt a0 x6_9).path)) (cut 47 ((gt a1 x7_10).path)))) := ((hd322 20 rfl).1 (and_mk (not_mk (not_f b324)) b327))
              exact L_op (.guard 4 false 40 rfl rfl (ltb rfl) (d326.trans (congrArg Value.bool g325))) rfl (ltb rfl) (X_pick (b := true) (v := (.bool (lessL (cut 47 ((gt a0 x6_9).path)) (cut 47 ((gt a1 x7_10).path))))) (d328.trans (congrArg Value.bool b327)) d329) <| L_nil <| stepEnd rfl rfl (Ext.refl w319) ⟨fun _ => (and_t b327), fun h => absurd (b324.symm.trans h) (by decide)⟩
            · have d330 : s318 45 = (.bool (decide (x6_9 < (a0.length : Int)))) := ((hd322 9 rfl).1 (not_mk (not_f b324)))
              exact L_op (.guard 4 false 40 rfl rfl (ltb rfl) (d326.trans (congrArg Value.bool g325))) rfl (ltb rfl) (X_pick (b := false) (v := (.bool false)) (d330.trans (congrArg Value.bool b327)) rfl) <| L_nil <| stepEnd rfl rfl (Ext.refl w319) ⟨fun _ => (and_f b327), fun h => absurd (b324.symm.trans h) (by decide)⟩
          · have d331 : s318 40 = (.bool (decide (x7_10 = (a1.length : Int)))) := (hd322 4 rfl)
            have g332 : (decide (x7_10 = (a1.length : Int))) = true := (not_ff b324)
            exact L_skip rfl rfl (ltb rfl) (d331.trans (congrArg Value.bool g332)) rfl rfl (ltb rfl) <| L_nil <| stepEnd rfl rfl (Ext.refl w319) ⟨fun h => absurd (b324.symm.trans h) (by decide), fun _ => rfl⟩
        · intro s333 w334 e335 hf336 hd337 hu338
          rcases bool_two (decide (x7_10 = (a1.length : Int))) with b339 | b339
          · have d340 : s333 40 = (.bool (decide (x7_10 = (a1.length : Int)))) := (hd337 4 rfl)
            exact L_op (.plain rfl) rfl (ltb rfl) (X_pick (b := true) (v := (.bool true)) (d340.trans (congrArg Value.bool b339)) rfl) <| L_nil <| stepEnd rfl rfl (Ext.refl w334) (or_t b339)
          · have d341 : s333 40 = (.bool (decide (x7_10 = (a1.length : Int)))) := (hd337 4 rfl)
            have d342 : s333 57 = (.bool (spec_l06Two.e2 a0 a1 x6_9 x7_10)) := ((hd337 21 rfl).1 (not_mk b339))
            exact L_op (.plain rfl) rfl (ltb rfl) (X_pick (b := false) (v := (.bool (spec_l06Two.e2 a0 a1 x6_9 x7_10))) (d341.trans (congrArg Value.bool b339)) d342) <| L_nil <| stepEnd rfl rfl (Ext.refl w334) (or_f b339)
        · intro s343 w344 e345 hf346 hd347 hu348
          have d349 : s343 58 = (.bool ((decide (x7_10 = (a1.length : Int))) || (spec_l06Two.e2 a0 a1 x6_9 x7_10))) := (hd347 22 rfl)
          exact L_op (.plain rfl) rfl (ltb rfl) (X_assign d349) <| L_nil <| stepEnd rfl rfl (Ext.refl w344) rfl
        intro s350 w351 e352 hf353 ha354
        have K355 := Kp.ofD (kp := [(35, 59)]) rfl hf353
        have d356 : s350 35 = (.bool ((decide (x7_10 = (a1.length : Int))) || (spec_l06Two.e2 a0 a1 x6_9 x7_10))) := ha354 23 rfl
        clear ha354 hf353
        refine thn_n ?_
        rcases bif_two H with ⟨q357, H⟩ | ⟨q357, H⟩
        · refine W_true (d356.trans (congrArg Value.bool q357)) <| W_seq <| W_seq <| W_reg <| L_op (.plain rfl) rfl (ltb rfl) (X_move (v := v_a1) ((K355 1 rfl).trans ((K34 1 rfl).trans (K23 1 rfl)))) <| L_op (.plain rfl) rfl (ltb rfl) (X_move (v := v_a0) ((K355 0 rfl).trans ((K34 0 rfl).trans (K23 0 rfl)))) <| L_op (.plain rfl) rfl (ltb rfl) (X_move (v := (.int .i64 x6_9)) ((K355 6 rfl).trans ((K34 6 rfl).trans h28))) ?_
          obtain ⟨c358, H⟩ := bif_some H
          refine L_idx (.plain rfl) rfl (ltb rfl) rfl Tryz.underlying28 Tryz.sizeOf78 rfl (Rd.ext f_a0 (Ext.trans (Ext.trans (Ext.trans e5 e24) e36) e352)) rfl c358 <| fun p359 h360 => L_op (.plain rfl) rfl (ltb rfl) (X_fieldAddr Tryz.underlying78 rfl Tryz.sizeOf9 rfl rfl) <| L_op (.plain rfl) rfl (ltb rfl) (X_loadF Tryz.isAgg9 (j := 1) h360 rfl rfl) ?_
          obtain ⟨c361, H⟩ := bif_some H
          obtain ⟨c362, H⟩ := bif_some H
          refine L_callP (.plain rfl) rfl (ltb rfl) rfl Tryz.call130 (spec_l06Cuts.calls (w := w351) (a0 := a1) (a1 := (gt a0 x6_9).path) (Rd.ext f_a1 (Ext.trans (Ext.trans (Ext.trans e5 e24) e36) e352)) (of_decide_eq_true c361) (of_decide_eq_true c362)) rfl <| fun w363 e364 => L_op (.plain rfl) rfl (ltb rfl) (X_not rfl) <| L_nil <| thn_n ?_
          rcases bif_two H with ⟨q365, H⟩ | ⟨q365, H⟩
          · refine W_true (congrArg Value.bool q365) <| W_reg <| L_op (.plain rfl) rfl (ltb rfl) (X_move (v := v8) ((K355 5 rfl).trans ((K34 5 rfl).trans h26))) <| L_op (.plain rfl) rfl (ltb rfl) (X_move (v := v_a0) ((K355 0 rfl).trans ((K34 0 rfl).trans (K23 0 rfl)))) <| L_op (.plain rfl) rfl (ltb rfl) (X_move (v := (.int .i64 x6_9)) ((K355 6 rfl).trans ((K34 6 rfl).trans h28))) ?_
            obtain ⟨c366, H⟩ := bif_some H
            refine L_idx (.plain rfl) rfl (ltb rfl) rfl Tryz.underlying28 Tryz.sizeOf78 rfl (Rd.ext f_a0 (Ext.trans (Ext.trans (Ext.trans (Ext.trans e5 e24) e36) e352) e364)) rfl c366 <| fun p367 h368 => L_op (.plain rfl) rfl (ltb rfl) (X_loadS Tryz.isAgg78 Tryz.sizeOf78 rfl rfl h368) <| L_lit (.plain rfl) rfl (ltb rfl) rfl Tryz.underlying28 Tryz.sizeOf78 Tryz.zeroValue78 rfl rfl rfl (vs := [(.agg (encRec (gt a0 x6_9)).toArray)]) rfl (lit_all rfl) <| fun b369 w370 z371 z372 e373 k374 => ?_
            obtain ⟨c375, H⟩ := bif_some H
            refine L_append (enc := encRec) (.plain rfl) rfl (ltb rfl) rfl El.t28 rfl rfl (Ow.ext h27 (Ext.trans (Ext.trans (Ext.trans e36 e352) e364) e373)) (Ow.rd (Ow.new (xs := [gt a0 x6_9]) (sz := 5) (enc := encRec) (base := w363.heap.size) k374 (Nat.le_of_eq z371) rfl (fun _ _ => by rfl) (Nat.le_of_ble_eq_true rfl))) (ones_Rec _) (of_decide_eq_true c375) ((Ext.trans (Ext.trans (Ext.trans (Ext.trans e24 e36) e352) e364) e373)).size <| fun v376 w377 o378 z379 g380 => L_op (.plain rfl) rfl (ltb rfl) (X_assign (v := v376) rfl) <| L_nil <| thn_n <| W_reg <| L_op (.plain rfl) rfl (ltb rfl) (X_move (v := (.int .i64 x6_9)) ((K355 6 rfl).trans ((K34 6 rfl).trans h28))) <| L_op (.plain rfl) rfl (ltb rfl) (X_add rfl rfl) <| L_op (.plain rfl) rfl (ltb rfl) (X_assign (v := (.int .i64 (IntKind.wrap .i64 (x6_9 + 1)))) rfl) <| L_nil <| blk_n <| blk_n <| thn_n ?_
            obtain rfl := Option.some.inj H
            exact ⟨_, Nat.lt_succ_self _, x5_7 ++ ([gt a0 x6_9] : List Rec), v376, IntKind.wrap .i64 (x6_9 + 1), x7_10, (Kp.upd (Kp.upd (Kp.upd (Kp.upd (Kp.upd (Kp.upd (Kp.upd (Kp.upd (Kp.upd (Kp.upd (Kp.upd (Kp.upd (Kp.upd (Kp.upd (Kp.upd (Kp.upd (Kp.upd (Kp.upd (Kp.upd (Kp.cut (Kp.cut (Kp.upd (Kp.upd (Kp.upd (Kp.upd (Kp.upd K23 rfl) rfl) rfl) rfl) rfl) K34 rfl) K355 rfl) rfl) rfl) rfl) rfl) rfl) rfl) rfl) rfl) rfl) rfl) rfl) rfl) rfl) rfl) rfl) rfl) rfl) rfl) rfl), rfl, o378, rfl, ((K355 7 rfl).trans ((K34 7 rfl).trans h29)), (g380 _ (Ext.trans (Ext.trans (Ext.trans (Ext.trans e24 e36) e352) e364) e373)), S31⟩
          · refine W_false (congrArg Value.bool q365) <| W_skip <| thn_n <| W_reg <| L_op (.plain rfl) rfl (ltb rfl) (X_move (v := (.int .i64 x6_9)) ((K355 6 rfl).trans ((K34 6 rfl).trans h28))) <| L_op (.plain rfl) rfl (ltb rfl) (X_add rfl rfl) <| L_op (.plain rfl) rfl (ltb rfl) (X_assign (v := (.int .i64 (IntKind.wrap .i64 (x6_9 + 1)))) rfl) <| L_nil <| blk_n <| blk_n <| thn_n ?_
            obtain rfl := Option.some.inj H
            exact ⟨_, Nat.lt_succ_self _, x5_7, v8, IntKind.wrap .i64 (x6_9 + 1), x7_10, (Kp.upd (Kp.upd (Kp.upd (Kp.upd (Kp.upd (Kp.upd (Kp.upd (Kp.upd (Kp.upd (Kp.upd (Kp.upd (Kp.cut (Kp.cut (Kp.upd (Kp.upd (Kp.upd (Kp.upd (Kp.upd K23 rfl) rfl) rfl) rfl) rfl) K34 rfl) K355 rfl) rfl) rfl) rfl) rfl) rfl) rfl) rfl) rfl) rfl) rfl) rfl), ((K355 5 rfl).trans ((K34 5 rfl).trans h26)), (Ow.ext h27 (Ext.trans (Ext.trans e36 e352) e364)), rfl, ((K355 7 rfl).trans ((K34 7 rfl).trans h29)), (Ext.trans (Ext.trans (Ext.trans e24 e36) e352) e364), S31⟩
        · refine W_false (d356.trans (congrArg Value.bool q357)) <| W_seq ?_
          obtain ⟨c381, H⟩ := bif_some H
          obtain ⟨c384, H⟩ := bif_some H
          obtain ⟨c387, H⟩ := bif_some H
          obtain ⟨c388, H⟩ := bif_some H
          refine W_drawM [LEq (.int .i64 x6_9), LEq v_a0, LEq (.int .i64 (a0.length : Int)), LEq (.bool (decide (x6_9 = (a0.length : Int)))), LEq (.bool (decide (x6_9 = (a0.length : Int)))), LIf (!(decide (x6_9 = (a0.length : Int)))) (LEq v_a1), LIf (!(decide (x6_9 = (a0.length : Int)))) (LEq (.int .i64 x7_10)), LIf (!(decide (x6_9 = (a0.length : Int)))) (LAt0 (encRec (gt a1 x7_10))), LIf (!(decide (x6_9 = (a0.length : Int)))) (LAt 1 (encRec (gt a1 x7_10))), LIf (!(decide (x6_9 = (a0.length : Int)))) (LEq (S ((gt a1 x7_10).path))), LIf (!(decide (x6_9 = (a0.length : Int)))) (LEq v_a0), LIf (!(decide (x6_9 = (a0.length : Int)))) (LEq (.int .i64 x6_9)), LIf (!(decide (x6_9 = (a0.length : Int)))) (LAt0 (encRec (gt a0 x6_9))), LIf (!(decide (x6_9 = (a0.length : Int)))) (LAt 1 (encRec (gt a0 x6_9))), LIf (!(decide (x6_9 = (a0.length : Int)))) (LEq (S ((gt a0 x6_9).path))), LIf (!(decide (x6_9 = (a0.length : Int)))) (LEq (.bool (lessL (cut 47 ((gt a1 x7_10).path)) (cut 47 ((gt a0 x6_9).path))))), LEq (.bool ((decide (x6_9 = (a0.length : Int))) || (lessL (cut 47 ((gt a1 x7_10).path)) (cut 47 ((gt a0 x6_9).path))))), LEq (.bool ((decide (x6_9 = (a0.length : Int))) || (lessL (cut 47 ((gt a1 x7_10).path)) (cut 47 ((gt a0 x6_9).path)))))] (by kernel_rfl) (by kernel_rfl) ⟨LEq.mono, LEq.mono, LEq.mono, LEq.mono, LEq.mono, (LIf.mono LEq.mono), (LIf.mono LEq.mono), (LIf.mono LAt0.mono), (LIf.mono LAt.mono), (LIf.mono LEq.mono), (LIf.mono LEq.mono), (LIf.mono LEq.mono), (LIf.mono LAt0.mono), (LIf.mono LAt.mono), (LIf.mono LEq.mono), (LIf.mono LEq.mono), LEq.mono, LEq.mono, trivial⟩ ⟨?_, ?_, ?_, ?_, ?_, ?_, ?_, ?_, ?_, ?_, ?_, ?_, ?_, ?_, ?_, ?_, ?_, ?_, trivial⟩ ?_
          · intro s391 w392 e393 hf394 hd395 hu396
            exact L_op (.plain rfl) rfl (ltb rfl) (X_move (v := (.int .i64 x6_9)) ((hf394 6 rfl).trans ((K355 6 rfl).trans ((K34 6 rfl).trans h28)))) <| L_nil <| stepEnd rfl rfl (Ext.refl w392) rfl
          · intro s397 w398 e399 hf400 hd401 hu402
            exact L_op (.plain rfl) rfl (ltb rfl) (X_move (v := v_a0) ((hf400 0 rfl).trans ((K355 0 rfl).trans ((K34 0 rfl).trans (K23 0 rfl))))) <| L_nil <| stepEnd rfl rfl (Ext.refl w398) rfl
          · intro s403 w404 e405 hf406 hd407 hu408
            have d409 : s403 78 = v_a0 := (hd407 1 rfl)
            exact L_op (.plain rfl) rfl (ltb rfl) (X_lenR Tryz.underlying28 d409 (Rd.ext f_a0 (Ext.trans (Ext.trans (Ext.trans (Ext.trans e5 e24) e36) e352) e405))) <| L_nil <| stepEnd rfl rfl (Ext.refl w404) rfl
          · intro s410 w411 e412 hf413 hd414 hu415
            have d416 : s410 77 = (.int .i64 x6_9) := (hd414 0 rfl)
            have d417 : s410 79 = (.int .i64 (a0.length : Int)) := (hd414 2 rfl)
            exact L_op (.plain rfl) rfl (ltb rfl) (X_eql d416 d417) <| L_nil <| stepEnd rfl rfl (Ext.refl w411) rfl
          · intro s418 w419 e420 hf421 hd422 hu423
            have d424 : s418 80 = (.bool (decide (x6_9 = (a0.length : Int)))) := (hd422 3 rfl)
            exact L_op (.plain rfl) rfl (ltb rfl) (X_move (v := (.bool (decide (x6_9 = (a0.length : Int))))) d424) <| L_nil <| stepEnd rfl rfl (Ext.refl w419) rfl
          · intro s425 w426 e427 hf428 hd429 hu430
            rcases bool_two (!(decide (x6_9 = (a0.length : Int)))) with b431 | b431
            · have g432 : (decide (x6_9 = (a0.length : Int))) = false := (not_f b431)
              have d433 : s425 81 = (.bool (decide (x6_9 = (a0.length : Int)))) := (hd429 4 rfl)
              have d434 : s425 81 = (.bool (decide (x6_9 = (a0.length : Int)))) := (hd429 4 rfl)
              exact L_op (.guard 4 false 81 rfl rfl (ltb rfl) (d433.trans (congrArg Value.bool g432))) rfl (ltb rfl) (X_move (v := v_a1) ((hf428 1 rfl).trans ((K355 1 rfl).trans ((K34 1 rfl).trans (K23 1 rfl))))) <| L_nil <| stepEnd rfl rfl (Ext.refl w426) ⟨fun _ => rfl, fun h => absurd (b431.symm.trans h) (by decide)⟩
            · have d435 : s425 81 = (.bool (decide (x6_9 = (a0.length : Int)))) := (hd429 4 rfl)
              have g436 : (decide (x6_9 = (a0.length : Int))) = true := (not_ff b431)
              exact L_skip rfl rfl (ltb rfl) (d435.trans (congrArg Value.bool g436)) rfl rfl (ltb rfl) <| L_nil <| stepEnd rfl rfl (Ext.refl w426) ⟨fun h => absurd (b431.symm.trans h) (by decide), fun _ => rfl⟩
          · intro s437 w438 e439 hf440 hd441 hu442
            rcases bool_two (!(decide (x6_9 = (a0.length : Int)))) with b443 | b443
            · have g444 : (decide (x6_9 = (a0.length : Int))) = false := (not_f b443)
              have d445 : s437 81 = (.bool (decide (x6_9 = (a0.length : Int)))) := (hd441 4 rfl)
              have d446 : s437 81 = (.bool (decide (x6_9 = (a0.length : Int)))) := (hd441 4 rfl)
              exact L_op (.guard 4 false 81 rfl rfl (ltb rfl) (d445.trans (congrArg Value.bool g444))) rfl (ltb rfl) (X_move (v := (.int .i64 x7_10)) ((hf440 7 rfl).trans ((K355 7 rfl).trans ((K34 7 rfl).trans h29)))) <| L_nil <| stepEnd rfl rfl (Ext.refl w438) ⟨fun _ => rfl, fun h => absurd (b443.symm.trans h) (by decide)⟩
            · have d447 : s437 81 = (.bool (decide (x6_9 = (a0.length : Int)))) := (hd441 4 rfl)
              have g448 : (decide (x6_9 = (a0.length : Int))) = true := (not_ff b443)
              exact L_skip rfl rfl (ltb rfl) (d447.trans (congrArg Value.bool g448)) rfl rfl (ltb rfl) <| L_nil <| stepEnd rfl rfl (Ext.refl w438) ⟨fun h => absurd (b443.symm.trans h) (by decide), fun _ => rfl⟩
          · intro s449 w450 e451 hf452 hd453 hu454
            rcases bool_two (!(decide (x6_9 = (a0.length : Int)))) with b455 | b455
            · have g456 : (decide (x6_9 = (a0.length : Int))) = false := (not_f b455)
              have d457 : s449 81 = (.bool (decide (x6_9 = (a0.length : Int)))) := (hd453 4 rfl)
              have d458 : s449 81 = (.bool (decide (x6_9 = (a0.length : Int)))) := (hd453 4 rfl)
              have d459 : s449 82 = v_a1 := ((hd453 5 rfl).1 (not_mk (not_f b455)))
              have d460 : s449 83 = (.int .i64 x7_10) := ((hd453 6 rfl).1 (not_mk (not_f b455)))
              have c461 := imp_take b455 c381
              exact L_idx (.guard 4 false 81 rfl rfl (ltb rfl) (d457.trans (congrArg Value.bool g456))) rfl (ltb rfl) rfl Tryz.underlying28 Tryz.sizeOf78 d459 (Rd.ext f_a1 (Ext.trans (Ext.trans (Ext.trans (Ext.trans e5 e24) e36) e352) e451)) d460 c461 <| fun p462 h463 => L_nil <| stepEnd rfl rfl (Ext.refl w450) ⟨fun _ => ⟨_, rfl, h463⟩, fun h => absurd (b455.symm.trans h) (by decide)⟩
            · have d464 : s449 81 = (.bool (decide (x6_9 = (a0.length : Int)))) := (hd453 4 rfl)
              have g465 : (decide (x6_9 = (a0.length : Int))) = true := (not_ff b455)
              exact L_skip rfl rfl (ltb rfl) (d464.trans (congrArg Value.bool g465)) rfl rfl (ltb rfl) <| L_nil <| stepEnd rfl rfl (Ext.refl w450) ⟨fun h => absurd (b455.symm.trans h) (by decide), fun _ => rfl⟩
          · intro s466 w467 e468 hf469 hd470 hu471
            rcases bool_two (!(decide (x6_9 = (a0.length : Int)))) with b472 | b472
            · have g473 : (decide (x6_9 = (a0.length : Int))) = false := (not_f b472)
              have d474 : s466 81 = (.bool (decide (x6_9 = (a0.length : Int)))) := (hd470 4 rfl)
              have d475 : s466 81 = (.bool (decide (x6_9 = (a0.length : Int)))) := (hd470 4 rfl)
              obtain ⟨p476, h477, h478⟩ := ((hd470 7 rfl).1 (not_mk (not_f b472)))
              exact L_op (.guard 4 false 81 rfl rfl (ltb rfl) (d474.trans (congrArg Value.bool g473))) rfl (ltb rfl) (X_fieldAddr Tryz.underlying78 rfl Tryz.sizeOf9 rfl h477) <| L_nil <| stepEnd rfl rfl (Ext.refl w467) ⟨fun _ => ⟨_, rfl, h478⟩, fun h => absurd (b472.symm.trans h) (by decide)⟩
            · have d479 : s466 81 = (.bool (decide (x6_9 = (a0.length : Int)))) := (hd470 4 rfl)
              have g480 : (decide (x6_9 = (a0.length : Int))) = true := (not_ff b472)
              exact L_skip rfl rfl (ltb rfl) (d479.trans (congrArg Value.bool g480)) rfl rfl (ltb rfl) <| L_nil <| stepEnd rfl rfl (Ext.refl w467) ⟨fun h => absurd (b472.symm.trans h) (by decide), fun _ => rfl⟩
          · intro s481 w482 e483 hf484 hd485 hu486
            rcases bool_two (!(decide (x6_9 = (a0.length : Int)))) with b487 | b487
            · have g488 : (decide (x6_9 = (a0.length : Int))) = false := (not_f b487)
              have d489 : s481 81 = (.bool (decide (x6_9 = (a0.length : Int)))) := (hd485 4 rfl)
              have d490 : s481 81 = (.bool (decide (x6_9 = (a0.length : Int)))) := (hd485 4 rfl)
              obtain ⟨p491, h492, h493⟩ := ((hd485 8 rfl).1 (not_mk (not_f b487)))
              exact L_op (.guard 4 false 81 rfl rfl (ltb rfl) (d489.trans (congrArg Value.bool g488))) rfl (ltb rfl) (X_loadF Tryz.isAgg9 (j := 1) h493 h492 rfl) <| L_nil <| stepEnd rfl rfl (Ext.refl w482) ⟨fun _ => rfl, fun h => absurd (b487.symm.trans h) (by decide)⟩
            · have d494 : s481 81 = (.bool (decide (x6_9 = (a0.length : Int)))) := (hd485 4 rfl)
              have g495 : (decide (x6_9 = (a0.length : Int))) = true := (not_ff b487)
              exact L_skip rfl rfl (ltb rfl) (d494.trans (congrArg Value.bool g495)) rfl rfl (ltb rfl) <| L_nil <| stepEnd rfl rfl (Ext.refl w482) ⟨fun h => absurd (b487.symm.trans h) (by decide), fun _ => rfl⟩
          · intro s496 w497 e498 hf499 hd500 hu501
            rcases bool_two (!(decide (x6_9 = (a0.length : Int)))) with b502 | b502
            · have g503 : (decide (x6_9 = (a0.length : Int))) = false := (not_f b502)
              have d504 : s496 81 = (.bool (decide (x6_9 = (a0.length : Int)))) := (hd500 4 rfl)
              have d505 : s496 81 = (.bool (decide (x6_9 = (a0.length : Int)))) := (hd500 4 rfl)
              exact L_op (.guard 4 false 81 rfl rfl (ltb rfl) (d504.trans (congrArg Value.bool g503))) rfl (ltb rfl) (X_move (v := v_a0) ((hf499 0 rfl).trans ((K355 0 rfl).trans ((K34 0 rfl).trans (K23 0 rfl))))) <| L_nil <| stepEnd rfl rfl (Ext.refl w497) ⟨fun _ => rfl, fun h => absurd (b502.symm.trans h) (by decide)⟩
            · have d506 : s496 81 = (.bool (decide (x6_9 = (a0.length : Int)))) := (hd500 4 rfl)
              have g507 : (decide (x6_9 = (a0.length : Int))) = true := (not_ff b502)
              exact L_skip rfl rfl (ltb rfl) (d506.trans (congrArg Value.bool g507)) rfl rfl (ltb rfl) <| L_nil <| stepEnd rfl rfl (Ext.refl w497) ⟨fun h => absurd (b502.symm.trans h) (by decide), fun _ => rfl⟩
          · intro s508 w509 e510 hf511 hd512 hu513
            rcases bool_two (!(decide (x6_9 = (a0.length : Int)))) with b514 | b514
            · have g515 : (decide (x6_9 = (a0.length : Int))) = false := (not_f b514)
              have d516 : s508 81 = (.bool (decide (x6_9 = (a0.length : Int)))) := (hd512 4 rfl)
              have d517 : s508 81 = (.bool (decide (x6_9 = (a0.length : Int)))) := (hd512 4 rfl)
              exact L_op (.guard 4 false 81 rfl rfl (ltb rfl) (d516.trans (congrArg Value.bool g515))) rfl (ltb rfl) (X_move (v := (.int .i64 x6_9)) ((hf511 6 rfl).trans ((K355 6 rfl).trans ((K34 6 rfl).trans h28)))) <| L_nil <| stepEnd rfl rfl (Ext.refl w509) ⟨fun _ => rfl, fun h => absurd (b514.symm.trans h) (by decide)⟩
            · have d518 : s508 81 = (.bool (decide (x6_9 = (a0.length : Int)))) := (hd512 4 rfl)
              have g519 : (decide (x6_9 = (a0.length : Int))) = true := (not_ff b514)
              exact L_skip rfl rfl (ltb rfl) (d518.trans (congrArg Value.bool g519)) rfl rfl (ltb rfl) <| L_nil <| stepEnd rfl rfl (Ext.refl w509) ⟨fun h => absurd (b514.symm.trans h) (by decide), fun _ => rfl⟩
          · intro s520 w521 e522 hf523 hd524 hu525
            rcases bool_two (!(decide (x6_9 = (a0.length : Int)))) with b526 | b526
            · have g527 : (decide (x6_9 = (a0.length : Int))) = false := (not_f b526)
              have d528 : s520 81 = (.bool (decide (x6_9 = (a0.length : Int)))) := (hd524 4 rfl)
              have d529 : s520 81 = (.bool (decide (x6_9 = (a0.length : Int)))) := (hd524 4 rfl)
              have d530 : s520 87 = v_a0 := ((hd524 10 rfl).1 (not_mk (not_f b526)))
              have d531 : s520 88 = (.int .i64 x6_9) := ((hd524 11 rfl).1 (not_mk (not_f b526)))
              have c532 := imp_take b526 c384
              exact L_idx (.guard 4 false 81 rfl rfl (ltb rfl) (d528.trans (congrArg Value.bool g527))) rfl (ltb rfl) rfl Tryz.underlying28 Tryz.sizeOf78 d530 (Rd.ext f_a0 (Ext.trans (Ext.trans (Ext.trans (Ext.trans e5 e24) e36) e352) e522)) d531 c532 <| fun p533 h534 => L_nil <| stepEnd rfl rfl (Ext.refl w521) ⟨fun _ => ⟨_, rfl, h534⟩, fun h => absurd (b526.symm.trans h) (by decide)⟩
            · have d535 : s520 81 = (.bool (decide (x6_9 = (a0.length : Int)))) := (hd524 4 rfl)
              have g536 : (decide (x6_9 = (a0.length : Int))) = true := (not_ff b526)
              exact L_skip rfl rfl (ltb rfl) (d535.trans (congrArg Value.bool g536)) rfl rfl (ltb rfl) <| L_nil <| stepEnd rfl rfl (Ext.refl w521) ⟨fun h => absurd (b526.symm.trans h) (by decide), fun _ => rfl⟩
          · intro s537 w538 e539 hf540 hd541 hu542
            rcases bool_two (!(decide (x6_9 = (a0.length : Int)))) with b543 | b543
            · have g544 : (decide (x6_9 = (a0.length : Int))) = false := (not_f b543)
              have d545 : s537 81 = (.bool (decide (x6_9 = (a0.length : Int)))) := (hd541 4 rfl)
              have d546 : s537 81 = (.bool (decide (x6_9 = (a0.length : Int)))) := (hd541 4 rfl)
              obtain ⟨p547, h548, h549⟩ := ((hd541 12 rfl).1 (not_mk (not_f b543)))
              exact L_op (.guard 4 false 81 rfl rfl (ltb rfl) (d545.trans (congrArg Value.bool g544))) rfl (ltb rfl) (X_fieldAddr Tryz.underlying78 rfl Tryz.sizeOf9 rfl h548) <| L_nil <| stepEnd rfl rfl (Ext.refl w538) ⟨fun _ => ⟨_, rfl, h549⟩, fun h => absurd (b543.symm.trans h) (by decide)⟩
            · have d550 : s537 81 = (.bool (decide (x6_9 = (a0.length : Int)))) := (hd541 4 rfl)
              have g551 : (decide (x6_9 = (a0.length : Int))) = true := (not_ff b543)
              exact L_skip rfl rfl (ltb rfl) (d550.trans (congrArg Value.bool g551)) rfl rfl (ltb rfl) <| L_nil <| stepEnd rfl rfl (Ext.refl w538) ⟨fun h => absurd (b543.symm.trans h) (by decide), fun _ => rfl⟩
          · intro s552 w553 e554 hf555 hd556 hu557
            rcases bool_two (!(decide (x6_9 = (a0.length : Int)))) with b558 | b558
            · have g559 : (decide (x6_9 = (a0.length : Int))) = false := (not_f b558)
              have d560 : s552 81 = (.bool (decide (x6_9 = (a0.length : Int)))) := (hd556 4 rfl)
              have d561 : s552 81 = (.bool (decide (x6_9 = (a0.length : Int)))) := (hd556 4 rfl)
              obtain ⟨p562, h563, h564⟩ := ((hd556 13 rfl).1 (not_mk (not_f b558)))
              exact L_op (.guard 4 false 81 rfl rfl (ltb rfl) (d560.trans (congrArg Value.bool g559))) rfl (ltb rfl) (X_loadF Tryz.isAgg9 (j := 1) h564 h563 rfl) <| L_nil <| stepEnd rfl rfl (Ext.refl w553) ⟨fun _ => rfl, fun h => absurd (b558.symm.trans h) (by decide)⟩
            · have d565 : s552 81 = (.bool (decide (x6_9 = (a0.length : Int)))) := (hd556 4 rfl)
              have g566 : (decide (x6_9 = (a0.length : Int))) = true := (not_ff b558)
              exact L_skip rfl rfl (ltb rfl) (d565.trans (congrArg Value.bool g566)) rfl rfl (ltb rfl) <| L_nil <| stepEnd rfl rfl (Ext.refl w553) ⟨fun h => absurd (b558.symm.trans h) (by decide), fun _ => rfl⟩
          · intro s567 w568 e569 hf570 hd571 hu572
            rcases bool_two (!(decide (x6_9 = (a0.length : Int)))) with b573 | b573
            · have g574 : (decide (x6_9 = (a0.length : Int))) = false := (not_f b573)
              have d575 : s567 81 = (.bool (decide (x6_9 = (a0.length : Int)))) := (hd571 4 rfl)
              have d576 : s567 81 = (.bool (decide (x6_9 = (a0.length : Int)))) := (hd571 4 rfl)
              have d577 : s567 86 = (S ((gt a1 x7_10).path)) := ((hd571 9 rfl).1 (not_mk (not_f b573)))
              have d578 : s567 91 = (S ((gt a0 x6_9).path)) := ((hd571 14 rfl).1 (not_mk (not_f b573)))
              have c579 := imp_take b573 c387
              have c580 := imp_take b573 c388
              exact L_callP (.guard 4 false 81 rfl rfl (ltb rfl) (d575.trans (congrArg Value.bool g574))) rfl (ltb rfl) rfl Tryz.call112 (spec_l01Less.calls (w := w568) (a0 := (gt a1 x7_10).path) (a1 := (gt a0 x6_9).path) (of_decide_eq_true c579) (of_decide_eq_true c580)) (cons2 d577 (cons2 d578 rfl)) <| fun w581 e582 => L_nil <| stepEnd rfl rfl e582 ⟨fun _ => rfl, fun h => absurd (b573.symm.trans h) (by decide)⟩
            · have d583 : s567 81 = (.bool (decide (x6_9 = (a0.length : Int)))) := (hd571 4 rfl)
              have g584 : (decide (x6_9 = (a0.length : Int))) = true := (not_ff b573)
              exact L_skip rfl rfl (ltb rfl) (d583.trans (congrArg Value.bool g584)) rfl rfl (ltb rfl) <| L_nil <| stepEnd rfl rfl (Ext.refl w568) ⟨fun h => absurd (b573.symm.trans h) (by decide), fun _ => rfl⟩
          · intro s585 w586 e587 hf588 hd589 hu590
            rcases bool_two (decide (x6_9 = (a0.length : Int))) with b591 | b591
            · have d592 : s585 81 = (.bool (decide (x6_9 = (a0.length : Int)))) := (hd589 4 rfl)
              exact L_op (.plain rfl) rfl (ltb rfl) (X_pick (b := true) (v := (.bool true)) (d592.trans (congrArg Value.bool b591)) rfl) <| L_nil <| stepEnd rfl rfl (Ext.refl w586) (or_t b591)
            · have d593 : s585 81 = (.bool (decide (x6_9 = (a0.length : Int)))) := (hd589 4 rfl)
              have d594 : s585 92 = (.bool (lessL (cut 47 ((gt a1 x7_10).path)) (cut 47 ((gt a0 x6_9).path)))) := ((hd589 15 rfl).1 (not_mk b591))
              exact L_op (.plain rfl) rfl (ltb rfl) (X_pick (b := false) (v := (.bool (lessL (cut 47 ((gt a1 x7_10).path)) (cut 47 ((gt a0 x6_9).path))))) (d593.trans (congrArg Value.bool b591)) d594) <| L_nil <| stepEnd rfl rfl (Ext.refl w586) (or_f b591)
          · intro s595 w596 e597 hf598 hd599 hu600
            have d601 : s595 93 = (.bool ((decide (x6_9 = (a0.length : Int))) || (lessL (cut 47 ((gt a1 x7_10).path)) (cut 47 ((gt a0 x6_9).path))))) := (hd599 16 rfl)
            exact L_op (.plain rfl) rfl (ltb rfl) (X_assign d601) <| L_nil <| stepEnd rfl rfl (Ext.refl w596) rfl
          intro s602 w603 e604 hf605 ha606
          have K607 := Kp.ofD (kp := [(76, 94)]) rfl hf605
          have d608 : s602 76 = (.bool ((decide (x6_9 = (a0.length : Int))) || (lessL (cut 47 ((gt a1 x7_10).path)) (cut 47 ((gt a0 x6_9).path))))) := ha606 17 rfl
          clear ha606 hf605
          refine thn_n ?_
          rcases bif_two H with ⟨q609, H⟩ | ⟨q609, H⟩
          · refine W_true (d608.trans (congrArg Value.bool q609)) <| W_seq <| W_reg <| L_op (.plain rfl) rfl (ltb rfl) (X_move (v := v8) ((K607 5 rfl).trans ((K355 5 rfl).trans ((K34 5 rfl).trans h26)))) <| L_op (.plain rfl) rfl (ltb rfl) (X_move (v := v_a1) ((K607 1 rfl).trans ((K355 1 rfl).trans ((K34 1 rfl).trans (K23 1 rfl))))) <| L_op (.plain rfl) rfl (ltb rfl) (X_move (v := (.int .i64 x7_10)) ((K607 7 rfl).trans ((K355 7 rfl).trans ((K34 7 rfl).trans h29)))) ?_
            obtain ⟨c610, H⟩ := bif_some H
            refine L_idx (.plain rfl) rfl (ltb rfl) rfl Tryz.underlying28 Tryz.sizeOf78 rfl (Rd.ext f_a1 (Ext.trans (Ext.trans (Ext.trans (Ext.trans e5 e24) e36) e352) e604)) rfl c610 <| fun p611 h612 => L_op (.plain rfl) rfl (ltb rfl) (X_loadS Tryz.isAgg78 Tryz.sizeOf78 rfl rfl h612) <| L_lit (.plain rfl) rfl (ltb rfl) rfl Tryz.underlying28 Tryz.sizeOf78 Tryz.zeroValue78 rfl rfl rfl (vs := [(.agg (encRec (gt a1 x7_10)).toArray)]) rfl (lit_all rfl) <| fun b613 w614 z615 z616 e617 k618 => ?_
            obtain ⟨c619, H⟩ := bif_some H
            refine L_append (enc := encRec) (.plain rfl) rfl (ltb rfl) rfl El.t28 rfl rfl (Ow.ext h27 (Ext.trans (Ext.trans (Ext.trans e36 e352) e604) e617)) (Ow.rd (Ow.new (xs := [gt a1 x7_10]) (sz := 5) (enc := encRec) (base := w603.heap.size) k618 (Nat.le_of_eq z615) rfl (fun _ _ => by rfl) (Nat.le_of_ble_eq_true rfl))) (ones_Rec _) (of_decide_eq_true c619) ((Ext.trans (Ext.trans (Ext.trans (Ext.trans e24 e36) e352) e604) e617)).size <| fun v620 w621 o622 z623 g624 => L_op (.plain rfl) rfl (ltb rfl) (X_assign (v := v620) rfl) <| L_nil <| thn_n <| W_reg <| L_op (.plain rfl) rfl (ltb rfl) (X_move (v := (.int .i64 x7_10)) ((K607 7 rfl).trans ((K355 7 rfl).trans ((K34 7 rfl).trans h29)))) <| L_op (.plain rfl) rfl (ltb rfl) (X_add rfl rfl) <| L_op (.plain rfl) rfl (ltb rfl) (X_assign (v := (.int .i64 (IntKind.wrap .i64 (x7_10 + 1)))) rfl) <| L_nil <| blk_n <| blk_n <| thn_n ?_
            obtain rfl := Option.some.inj H
            exact ⟨_, Nat.lt_succ_self _, x5_7 ++ ([gt a1 x7_10] : List Rec), v620, x6_9, IntKind.wrap .i64 (x7_10 + 1), (Kp.upd (Kp.upd (Kp.upd (Kp.upd (Kp.upd (Kp.upd (Kp.upd (Kp.upd (Kp.upd (Kp.upd (Kp.upd (Kp.cut (Kp.cut (Kp.cut (Kp.upd (Kp.upd (Kp.upd (Kp.upd (Kp.upd K23 rfl) rfl) rfl) rfl) rfl) K34 rfl) K355 rfl) K607 rfl) rfl) rfl) rfl) rfl) rfl) rfl) rfl) rfl) rfl) rfl) rfl), rfl, o622, ((K607 6 rfl).trans ((K355 6 rfl).trans ((K34 6 rfl).trans h28))), rfl, (g624 _ (Ext.trans (Ext.trans (Ext.trans (Ext.trans e24 e36) e352) e604) e617)), S31⟩
          · refine W_false (d608.trans (congrArg Value.bool q609)) <| W_seq ?_
            obtain ⟨c625, H⟩ := bif_some H
            obtain ⟨c628, H⟩ := bif_some H
            obtain ⟨c639, H⟩ := bif_some H
            refine W_drawR (B := w2.heap.size) [LEq v8, LEq v_a0, LEq (.int .i64 x6_9), LAt0W w603 (encRec (gt a0 x6_9)), LEq (.agg (encRec (gt a0 x6_9)).toArray), LEq v_a1, LEq (.int .i64 x7_10), LAt0W w603 (encRec (gt a1 x7_10)), LEq (.agg (encRec (gt a1 x7_10)).toArray), LEq (.agg (encRec (overR (gt a0 x6_9) (gt a1 x7_10))).toArray), LRd 5 encRec ([(overR (gt a0 x6_9) (gt a1 x7_10))] : List Rec), LOw 78 5 encRec w2.heap.size (x5_7 ++ ([(overR (gt a0 x6_9) (gt a1 x7_10))] : List Rec)), LOw 78 5 encRec w2.heap.size (x5_7 ++ ([(overR (gt a0 x6_9) (gt a1 x7_10))] : List Rec))] [⟨true, true, true, false, []⟩, ⟨true, true, true, false, []⟩, ⟨true, true, true, false, []⟩, ⟨true, true, true, false, [1, 2]⟩, ⟨true, true, true, false, [3]⟩, ⟨true, true, true, false, []⟩, ⟨true, true, true, false, []⟩, ⟨true, true, true, false, [5, 6]⟩, ⟨true, true, true, false, [7]⟩, ⟨true, true, true, false, [4, 8]⟩, ⟨true, false, true, false, [9]⟩, ⟨false, false, true, false, [0, 10]⟩, ⟨true, false, false, true, [11]⟩] [(11, 0, []), (11, 1, [9, 4, 3]), (11, 2, [9, 4, 3]), (11, 3, [9, 4]), (11, 4, [9]), (11, 5, [9, 8, 7]), (11, 6, [9, 8, 7]), (11, 7, [9, 8]), (11, 8, [9]), (11, 9, []), (11, 10, []), (12, 11, [])] (by kernel_rfl) (by kernel_rfl) (Ext.trans (Ext.trans (Ext.trans e24 e36) e352) e604).size ⟨⟨LEq.rig.mono, fun _ => LEq.rig⟩, ⟨LEq.rig.mono, fun _ => LEq.rig⟩, ⟨LEq.rig.mono, fun _ => LEq.rig⟩, ⟨LAt0W.rig.mono, fun _ => LAt0W.rig⟩, ⟨LEq.rig.mono, fun _ => LEq.rig⟩, ⟨LEq.rig.mono, fun _ => LEq.rig⟩, ⟨LEq.rig.mono, fun _ => LEq.rig⟩, ⟨LAt0W.rig.mono, fun _ => LAt0W.rig⟩, ⟨LEq.rig.mono, fun _ => LEq.rig⟩, ⟨LEq.rig.mono, fun _ => LEq.rig⟩, ⟨LRd.mono, noR⟩, ⟨LOw.mono, noR⟩, ⟨LOw.mono, noR⟩, trivial⟩ ⟨?_, ?_, ?_, ?_, ?_, ?_, ?_, ?_, ?_, ?_, ?_, ?_, ?_, trivial⟩ ?_
            · intro s645 w646 hb647 hx648 hf649 hd650 hu651
              have e652 : Ext w603 w646 := hx648 rfl
              exact L_op (.plain rfl) rfl (ltb rfl) (X_move (v := v8) ((hu651 12 rfl).trans ((K607 5 rfl).trans ((K355 5 rfl).trans ((K34 5 rfl).trans h26))))) <| L_nil <| stepS rfl rfl rfl (Ext.refl w646) rfl
            · intro s653 w654 hb655 hx656 hf657 hd658 hu659
              have e660 : Ext w603 w654 := hx656 rfl
              exact L_op (.plain rfl) rfl (ltb rfl) (X_move (v := v_a0) ((hf657 0 rfl).trans ((K607 0 rfl).trans ((K355 0 rfl).trans ((K34 0 rfl).trans (K23 0 rfl)))))) <| L_nil <| stepS rfl rfl rfl (Ext.refl w654) rfl
            · intro s661 w662 hb663 hx664 hf665 hd666 hu667
              have e668 : Ext w603 w662 := hx664 rfl
              exact L_op (.plain rfl) rfl (ltb rfl) (X_move (v := (.int .i64 x6_9)) ((hf665 6 rfl).trans ((K607 6 rfl).trans ((K355 6 rfl).trans ((K34 6 rfl).trans h28))))) <| L_nil <| stepS rfl rfl rfl (Ext.refl w662) rfl
            · intro s669 w670 hb671 hx672 hf673 hd674 hu675
              have e676 : Ext w603 w670 := hx672 rfl
              have d677 : s669 20 = v_a0 := (hd674 1 rfl)
              have d678 : s669 21 = (.int .i64 x6_9) := (hd674 2 rfl)
              have c679 := c625
              exact L_idx (.plain rfl) rfl (ltb rfl) rfl Tryz.underlying28 Tryz.sizeOf78 d677 (Rd.ext f_a0 (Ext.trans (Ext.trans (Ext.trans (Ext.trans e5 e24) e36) e352) e604)) d678 c679 <| fun p680 h681 => L_nil <| stepS rfl rfl rfl (Ext.refl w670) ⟨_, rfl, h681⟩
            · intro s682 w683 hb684 hx685 hf686 hd687 hu688
              have e689 : Ext w603 w683 := hx685 rfl
              obtain ⟨p690, h691, h692⟩ := (hd687 3 rfl)
              exact L_op (.plain rfl) rfl (ltb rfl) (X_loadS Tryz.isAgg78 Tryz.sizeOf78 rfl h691 (At.ext h692 e689)) <| L_nil <| stepS rfl rfl rfl (Ext.refl w683) rfl
            · intro s693 w694 hb695 hx696 hf697 hd698 hu699
              have e700 : Ext w603 w694 := hx696 rfl
              exact L_op (.plain rfl) rfl (ltb rfl) (X_move (v := v_a1) ((hf697 1 rfl).trans ((K607 1 rfl).trans ((K355 1 rfl).trans ((K34 1 rfl).trans (K23 1 rfl)))))) <| L_nil <| stepS rfl rfl rfl (Ext.refl w694) rfl
            · intro s701 w702 hb703 hx704 hf705 hd706 hu707
              have e708 : Ext w603 w702 := hx704 rfl
              exact L_op (.plain rfl) rfl (ltb rfl) (X_move (v := (.int .i64 x7_10)) ((hf705 7 rfl).trans ((K607 7 rfl).trans ((K355 7 rfl).trans ((K34 7 rfl).trans h29))))) <| L_nil <| stepS rfl rfl rfl (Ext.refl w702) rfl
            · intro s709 w710 hb711 hx712 hf713 hd714 hu715
              have e716 : Ext w603 w710 := hx712 rfl
              have d717 : s709 24 = v_a1 := (hd714 5 rfl)
              have d718 : s709 25 = (.int .i64 x7_10) := (hd714 6 rfl)
              have c719 := c628
              exact L_idx (.plain rfl) rfl (ltb rfl) rfl Tryz.underlying28 Tryz.sizeOf78 d717 (Rd.ext f_a1 (Ext.trans (Ext.trans (Ext.trans (Ext.trans e5 e24) e36) e352) e604)) d718 c719 <| fun p720 h721 => L_nil <| stepS rfl rfl rfl (Ext.refl w710) ⟨_, rfl, h721⟩
            · intro s722 w723 hb724 hx725 hf726 hd727 hu728
              have e729 : Ext w603 w723 := hx725 rfl
              obtain ⟨p730, h731, h732⟩ := (hd727 7 rfl)
              exact L_op (.plain rfl) rfl (ltb rfl) (X_loadS Tryz.isAgg78 Tryz.sizeOf78 rfl h731 (At.ext h732 e729)) <| L_nil <| stepS rfl rfl rfl (Ext.refl w723) rfl
            · intro s733 w734 hb735 hx736 hf737 hd738 hu739
              have e740 : Ext w603 w734 := hx736 rfl
              have d741 : s733 23 = (.agg (encRec (gt a0 x6_9)).toArray) := (hd738 4 rfl)
              have d742 : s733 27 = (.agg (encRec (gt a1 x7_10)).toArray) := (hd738 8 rfl)
              exact L_callP (.plain rfl) rfl (ltb rfl) rfl Tryz.call131 (spec_l06Over.calls (w := w734) (a0 := gt a0 x6_9) (a1 := gt a1 x7_10)) (cons2 d741 (cons2 d742 rfl)) <| fun w743 e744 => L_nil <| stepS rfl rfl rfl e744 rfl
            · intro s745 w746 hb747 hx748 hf749 hd750 hu751
              have e752 : Ext w603 w746 := hx748 rfl
              have d753 : s745 28 = (.agg (encRec (overR (gt a0 x6_9) (gt a1 x7_10))).toArray) := (hd750 9 rfl)
              exact L_lit (.plain rfl) rfl (ltb rfl) rfl Tryz.underlying28 Tryz.sizeOf78 Tryz.zeroValue78 rfl rfl rfl (vs := [(.agg (encRec (overR (gt a0 x6_9) (gt a1 x7_10))).toArray)]) (cons2 d753 rfl) (lit_all rfl) <| fun b754 w755 z756 z757 e758 k759 => L_nil <| stepS rfl rfl rfl e758 (Ow.rd (Ow.new (xs := [(overR (gt a0 x6_9) (gt a1 x7_10))]) (sz := 5) (enc := encRec) (base := w746.heap.size) k759 (Nat.le_of_eq z756) rfl (fun _ _ => by rfl) (Nat.le_of_ble_eq_true rfl)))
            · intro s760 w761 hb762 hx763 hf764 hd765 hu766
              have e767 : Ext w603 w761 := hx763 rfl
              have d768 : s760 19 = v8 := (hd765 0 rfl)
              have d769 : Rd 5 encRec w761 (s760 29) ([(overR (gt a0 x6_9) (gt a1 x7_10))] : List Rec) := (hd765 10 rfl)
              have c770 := c639
              exact L_append (enc := encRec) (.plain rfl) rfl (ltb rfl) rfl El.t28 d768 rfl (Ow.ext h27 (Ext.trans (Ext.trans (Ext.trans e36 e352) e604) e767)) d769 (ones_Rec _) (of_decide_eq_true c770) ((Ext.trans (Ext.trans (Ext.trans (Ext.trans e24 e36) e352) e604) e767)).size <| fun v771 w772 o773 z774 g775 => L_nil <| stepH rfl rfl rfl (g775 _ (Below.refl _ _)) o773
            · intro s776 w777 hb778 hx779 hf780 hd781 hu782
              have e783 : Ext w2 w777 := Below.trans (Ext.trans (Ext.trans (Ext.trans e24 e36) e352) e604) hb778
              have d784 : Ow 78 5 encRec w2.heap.size w777 (s776 30) (x5_7 ++ ([(overR (gt a0 x6_9) (gt a1 x7_10))] : List Rec)) := (hd781 11 rfl)
              exact L_op (.plain rfl) rfl (ltb rfl) (X_assign (v := (s776 30)) rfl) <| L_nil <| stepS rfl rfl rfl (Ext.refl w777) d784
            intro s785 w786 hb787 hf789 ha790
            have K791 := Kp.ofD (kp := [(5, 6), (19, 31)]) rfl hf789
            have e788 : Ext w2 w786 := Below.trans (Ext.trans (Ext.trans (Ext.trans e24 e36) e352) e604) hb787
            have d792 : Ow 78 5 encRec w2.heap.size w786 (s785 5) (x5_7 ++ ([(overR (gt a0 x6_9) (gt a1 x7_10))] : List Rec)) := ha790 12 rfl rfl
            clear ha790 hf789
            refine thn_n <| W_seq <| W_reg <| L_op (.plain rfl) rfl (ltb rfl) (X_move (v := (.int .i64 x6_9)) ((K791 6 rfl).trans ((K607 6 rfl).trans ((K355 6 rfl).trans ((K34 6 rfl).trans h28))))) <| L_op (.plain rfl) rfl (ltb rfl) (X_add rfl rfl) <| L_op (.plain rfl) rfl (ltb rfl) (X_assign (v := (.int .i64 (IntKind.wrap .i64 (x6_9 + 1)))) rfl) <| L_nil <| thn_n <| W_reg <| L_op (.plain rfl) rfl (ltb rfl) (X_move (v := (.int .i64 x7_10)) ((K791 7 rfl).trans ((K607 7 rfl).trans ((K355 7 rfl).trans ((K34 7 rfl).trans h29))))) <| L_op (.plain rfl) rfl (ltb rfl) (X_add rfl rfl) <| L_op (.plain rfl) rfl (ltb rfl) (X_assign (v := (.int .i64 (IntKind.wrap .i64 (x7_10 + 1)))) rfl) <| L_nil <| blk_n <| blk_n <| thn_n ?_
            obtain rfl := Option.some.inj H
            exact ⟨_, Nat.lt_succ_self _, x5_7 ++ ([(overR (gt a0 x6_9) (gt a1 x7_10))] : List Rec), (s785 5), IntKind.wrap .i64 (x6_9 + 1), IntKind.wrap .i64 (x7_10 + 1), (Kp.upd (Kp.upd (Kp.upd (Kp.upd (Kp.upd (Kp.upd (Kp.cut (Kp.cut (Kp.cut (Kp.cut (Kp.upd (Kp.upd (Kp.upd (Kp.upd (Kp.upd K23 rfl) rfl) rfl) rfl) rfl) K34 rfl) K355 rfl) K607 rfl) K791 rfl) rfl) rfl) rfl) rfl) rfl) rfl), rfl, d792, rfl, rfl, e788, S31⟩
      · refine W_false (h35.trans (congrArg Value.bool q38)) <| W_exit <| thn_x <| thn_x <| blk_x <| thn_n ?_
        obtain rfl := Option.some.inj H
        obtain rfl := Option.some.inj S31
        exact ⟨x5_7, v8, (Kp.cut (Kp.upd (Kp.upd (Kp.upd (Kp.upd (Kp.upd K23 rfl) rfl) rfl) rfl) rfl) K34 rfl), ((K34 5 rfl).trans h26), (Ow.ext h27 e36), (Ext.trans e24 e36), rfl⟩
  · rintro s17 w16 ⟨x5_14, v15, K18, h793, h794, e19, y795⟩
    rw [y795] at C13
    have H := C13
    replace H : _ = some _ := H
    refine thn_n <| W_seq <| W_reg <| L_op (.plain rfl) rfl (ltb rfl) (X_move (v := v15) h793) ?_
    obtain ⟨c796, H⟩ := bif_some H
    obtain ⟨c797, H⟩ := bif_some H
    refine L_callO (.plain rfl) rfl (ltb rfl) rfl Tryz.call132 (spec_l03Canon.calls (w := w16) (a0 := x5_14) (Ow.rd h794) (of_decide_eq_true c796) (of_decide_eq_true c797)) rfl <| fun v800 w798 e799 o801 => L_op (.plain rfl) rfl (ltb rfl) (X_assign (v := v800) rfl) <| L_nil <| thn_n <| W_ret <| fin_r ?_
    obtain rfl := Option.some.inj H
    exact fin1o rfl (Ext.trans (Ext.trans e5 e19) e799) o801 ((Ext.trans e5 e19)).size
theorem spec_l06Two.calls {w : World} {a0 : List Rec} {a1 : List Rec} {v_a0 : Value} (f_a0 : Rd 5 encRec w v_a0 a0) {v_a1 : Value} (f_a1 : Rd 5 encRec w v_a1 a1) (h0 : a0.length ≤ 500000) (h1 : a1.length ≤ 500000) (h2 : sheetB a0 = true) (h3 : sheetB a1 = true) :
    Calls Tryz.prog 86 #[v_a0, v_a1] w (Rt (RO 78 5 encRec w (squashL a0 a1))) := by
  obtain ⟨k, h⟩ := spec_l06Two.eq a0 a1 h0 h1 h2 h3
  exact spec_l06Two.walk f_a0 f_a1 h
/-! spec.Squash -/
theorem spec_Squash.walk {w : World} {a0 : List Rec} {a1 : List Rec} {v_a0 : Value} (f_a0 : Rd 5 encRec w v_a0 a0) {v_a1 : Value} (f_a1 : Rd 5 encRec w v_a1 a1) {r : List Rec × Int} (H : spec_Squash.sh a0 a1 = some r) :
    Calls Tryz.prog 41 #[v_a0, v_a1] w (Rt (RT 78 5 encRec w r.1 (.int .i64 r.2))) := by
  unfold spec_Squash.sh at H
  refine calls_of_W Tryz.func41 rfl (Nat.le_of_ble_eq_true rfl) Tryz.ntmps41 rfl ?_
  refine W_seq <| W_reg <| L_op (.plain rfl) rfl (ltb rfl) (X_assign (v := (.slice none 0 0)) rfl) <| L_op (.plain rfl) rfl (ltb rfl) (X_assign (v := (.int .i64 0)) rfl) <| L_nil <| thn_n <| W_seq <| W_seq <| W_reg <| L_op (.plain rfl) rfl (ltb rfl) (X_move (v := v_a0) rfl) <| L_op (.plain rfl) rfl (ltb rfl) (X_lenR Tryz.underlying28 rfl f_a0) <| L_op (.plain rfl) rfl (ltb rfl) (X_gtr rfl rfl) <| L_op (.plain rfl) rfl (ltb rfl) (X_move (v := (.bool (decide (4096 < (a0.length : Int))))) rfl) <| L_grp 4 [(11, 15)] 14 (.bool ((decide (4096 < (a0.length : Int))) || (decide (4096 < (a1.length : Int))))) ?_ ?_
  · rcases bool_two (decide (4096 < (a0.length : Int))) with b0_ | b0_
    · exact L_skip rfl rfl (ltb rfl) (congrArg Value.bool b0_) rfl rfl (ltb rfl) <| L_skip rfl rfl (ltb rfl) (congrArg Value.bool b0_) rfl rfl (ltb rfl) <| L_skip rfl rfl (ltb rfl) (congrArg Value.bool b0_) rfl rfl (ltb rfl) <| L_op (.plain rfl) rfl (ltb rfl) (X_pick (b := true) (v := (.bool true)) (congrArg Value.bool b0_) rfl) <| L_nil <| thn_n ⟨(Kp.upd (Kp.upd (Kp.upd (Kp.upd (Kp.refl _ _) rfl) rfl) rfl) rfl), (or_t b0_), (Ext.refl w)⟩
    · exact L_op (.guard 3 false 10 rfl rfl (ltb rfl) (congrArg Value.bool b0_)) rfl (ltb rfl) (X_move (v := v_a1) rfl) <| L_op (.guard 3 false 10 rfl rfl (ltb rfl) (congrArg Value.bool b0_)) rfl (ltb rfl) (X_lenR Tryz.underlying28 rfl f_a1) <| L_op (.guard 3 false 10 rfl rfl (ltb rfl) (congrArg Value.bool b0_)) rfl (ltb rfl) (X_gtr rfl rfl) <| L_op (.plain rfl) rfl (ltb rfl) (X_pick (b := false) (v := (.bool (decide (4096 < (a1.length : Int))))) (congrArg Value.bool b0_) rfl) <| L_nil <| thn_n ⟨(Kp.upd (Kp.upd (Kp.upd (Kp.upd (Kp.refl _ _) rfl) rfl) rfl) rfl), (or_f b0_), (Ext.refl w)⟩
  intro s6 w2 K3 h4 e5
  refine L_nil <| thn_n ?_
  rcases bif_two H with ⟨q7, H⟩ | ⟨q7, H⟩
  · refine W_true (h4.trans (congrArg Value.bool q7)) <| W_seq <| W_reg <| L_lit (.plain rfl) rfl (ltb rfl) rfl Tryz.underlying28 Tryz.sizeOf78 Tryz.zeroValue78 rfl rfl rfl (vs := []) rfl (lit_all rfl) <| fun b8 w9 z10 z11 e12 k13 => L_op (.plain rfl) rfl (ltb rfl) (X_assign (v := (.slice (some ⟨b8, 0, none⟩) 0 0)) rfl) <| L_op (.plain rfl) rfl (ltb rfl) (X_assign (v := (.int .i64 2)) rfl) <| L_nil <| thn_n <| W_ret <| thn_r <| fin_r ?_
    obtain rfl := Option.some.inj H
    exact fin2o rfl rfl (Ext.trans e5 e12) (Ow.zero (base := w.heap.size)) (Nat.le_refl _)
  · refine W_false (h4.trans (congrArg Value.bool q7)) <| W_skip <| thn_n <| W_seq <| W_seq <| W_reg <| L_op (.plain rfl) rfl (ltb rfl) (X_move (v := v_a0) (K3 0 rfl)) ?_
    obtain ⟨c14, H⟩ := bif_some H
    obtain ⟨c15, H⟩ := bif_some H
    refine L_callP (.plain rfl) rfl (ltb rfl) rfl Tryz.call62 (spec_l03OK.calls (w := w2) (a0 := a0) (Rd.ext f_a0 e5) (of_decide_eq_true c14) (of_decide_eq_true c15)) rfl <| fun w16 e17 => L_op (.plain rfl) rfl (ltb rfl) (X_not rfl) <| L_op (.plain rfl) rfl (ltb rfl) (X_move (v := (.bool (!(decide ((layerFault a0).2 = 0))))) rfl) ?_
    obtain ⟨z19, x20, H⟩ := bind_some H
    refine L_grpE 4 [(20, 24)] 23 (fun q => q = z19) ?_ ?_
    · rcases bif_two x20 with ⟨b17_, H⟩ | ⟨b17_, H⟩
      · refine L_skip rfl rfl (ltb rfl) (congrArg Value.bool b17_) rfl rfl (ltb rfl) <| L_skip rfl rfl (ltb rfl) (congrArg Value.bool b17_) rfl rfl (ltb rfl) <| L_skip rfl rfl (ltb rfl) (congrArg Value.bool b17_) rfl rfl (ltb rfl) <| L_op (.plain rfl) rfl (ltb rfl) (X_pick (b := true) (v := (.bool true)) (congrArg Value.bool b17_) rfl) ?_
        obtain rfl := Option.some.inj H
        exact L_nil <| thn_n ⟨(Kp.upd (Kp.upd (Kp.upd (Kp.upd (Kp.refl _ _) rfl) rfl) rfl) rfl), ⟨_, rfl, rfl⟩, (Ext.refl w16)⟩
      · refine L_op (.guard 3 false 19 rfl rfl (ltb rfl) (congrArg Value.bool b17_)) rfl (ltb rfl) (X_move (v := v_a1) (K3 1 rfl)) ?_
        obtain ⟨c19, H⟩ := bif_some H
        obtain ⟨c20, H⟩ := bif_some H
        refine L_callP (.guard 3 false 19 rfl rfl (ltb rfl) (congrArg Value.bool b17_)) rfl (ltb rfl) rfl Tryz.call62 (spec_l03OK.calls (w := w16) (a0 := a1) (Rd.ext f_a1 (Ext.trans e5 e17)) (of_decide_eq_true c19) (of_decide_eq_true c20)) rfl <| fun w21 e22 => L_op (.guard 3 false 19 rfl rfl (ltb rfl) (congrArg Value.bool b17_)) rfl (ltb rfl) (X_not rfl) <| L_op (.plain rfl) rfl (ltb rfl) (X_pick (b := false) (v := (.bool (!(decide ((layerFault a1).2 = 0))))) (congrArg Value.bool b17_) rfl) ?_
        obtain rfl := Option.some.inj H
        exact L_nil <| thn_n ⟨(Kp.upd (Kp.upd (Kp.upd (Kp.upd (Kp.refl _ _) rfl) rfl) rfl) rfl), ⟨_, rfl, rfl⟩, e22⟩
    intro s25 w21 z26 K22 hq h23 e24
    rw [hq] at h23; clear hq
    refine L_nil <| thn_n ?_
    rcases bif_two H with ⟨q27, H⟩ | ⟨q27, H⟩
    · refine W_true (h23.trans (congrArg Value.bool q27)) <| W_seq <| W_reg <| L_lit (.plain rfl) rfl (ltb rfl) rfl Tryz.underlying28 Tryz.sizeOf78 Tryz.zeroValue78 rfl rfl rfl (vs := []) rfl (lit_all rfl) <| fun b28 w29 z30 z31 e32 k33 => L_op (.plain rfl) rfl (ltb rfl) (X_assign (v := (.slice (some ⟨b28, 0, none⟩) 0 0)) rfl) <| L_op (.plain rfl) rfl (ltb rfl) (X_assign (v := (.int .i64 1)) rfl) <| L_nil <| thn_n <| W_ret <| thn_r <| fin_r ?_
      obtain rfl := Option.some.inj H
      exact fin2o rfl rfl (Ext.trans (Ext.trans (Ext.trans e5 e17) e24) e32) (Ow.zero (base := w.heap.size)) (Nat.le_refl _)
    · refine W_false (h23.trans (congrArg Value.bool q27)) <| W_skip <| thn_n <| W_seq <| W_reg <| L_op (.plain rfl) rfl (ltb rfl) (X_move (v := v_a0) ((K22 0 rfl).trans (K3 0 rfl))) <| L_op (.plain rfl) rfl (ltb rfl) (X_move (v := v_a1) ((K22 1 rfl).trans (K3 1 rfl))) ?_
      obtain ⟨c34, H⟩ := bif_some H
      obtain ⟨c35, H⟩ := bif_some H
      obtain ⟨c36, H⟩ := bif_some H
      obtain ⟨c37, H⟩ := bif_some H
      refine L_callO (.plain rfl) rfl (ltb rfl) rfl Tryz.call86 (spec_l06Two.calls (w := w21) (a0 := a0) (a1 := a1) (Rd.ext f_a0 (Ext.trans (Ext.trans e5 e17) e24)) (Rd.ext f_a1 (Ext.trans (Ext.trans e5 e17) e24)) (of_decide_eq_true c34) (of_decide_eq_true c35) (of_decide_eq_true c36) (of_decide_eq_true c37)) rfl <| fun v40 w38 e39 o41 => L_op (.plain rfl) rfl (ltb rfl) (X_assign (v := v40) rfl) <| L_nil <| thn_n <| W_seq <| W_seq <| W_reg <| L_op (.plain rfl) rfl (ltb rfl) (X_move (v := v40) rfl) <| L_op (.plain rfl) rfl (ltb rfl) (X_lenR Tryz.underlying28 rfl (Ow.rd o41)) <| L_op (.plain rfl) rfl (ltb rfl) (X_gtr rfl rfl) <| L_nil <| thn_n ?_
      rcases bif_two H with ⟨q42, H⟩ | ⟨q42, H⟩
      · refine W_true (congrArg Value.bool q42) <| W_seq <| W_reg <| L_lit (.plain rfl) rfl (ltb rfl) rfl Tryz.underlying28 Tryz.sizeOf78 Tryz.zeroValue78 rfl rfl rfl (vs := []) rfl (lit_all rfl) <| fun b43 w44 z45 z46 e47 k48 => L_op (.plain rfl) rfl (ltb rfl) (X_assign (v := (.slice (some ⟨b43, 0, none⟩) 0 0)) rfl) <| L_op (.plain rfl) rfl (ltb rfl) (X_assign (v := (.int .i64 7)) rfl) <| L_nil <| thn_n <| W_ret <| thn_r <| fin_r ?_
        obtain rfl := Option.some.inj H
        exact fin2o rfl rfl (Ext.trans (Ext.trans (Ext.trans (Ext.trans e5 e17) e24) e39) e47) (Ow.zero (base := w.heap.size)) (Nat.le_refl _)
      · refine W_false (congrArg Value.bool q42) <| W_skip <| thn_n <| W_seq <| W_reg <| L_op (.plain rfl) rfl (ltb rfl) (X_move (v := v40) rfl) <| L_op (.plain rfl) rfl (ltb rfl) (X_assign (v := v40) rfl) <| L_op (.plain rfl) rfl (ltb rfl) (X_assign (v := (.int .i64 0)) rfl) <| L_nil <| thn_n <| W_ret <| fin_r ?_
        obtain rfl := Option.some.inj H
        exact fin2o rfl rfl (Ext.trans (Ext.trans (Ext.trans e5 e17) e24) e39) o41 ((Ext.trans (Ext.trans e5 e17) e24)).size
theorem spec_Squash.calls {w : World} {a0 : List Rec} {a1 : List Rec} {v_a0 : Value} (f_a0 : Rd 5 encRec w v_a0 a0) {v_a1 : Value} (f_a1 : Rd 5 encRec w v_a1 a1) (h0 : a0.length ≤ 1048576) (h1 : a1.length ≤ 1048576) (h2 : ∀ x ∈ a0, x.path.length ≤ 1048576) (h3 : ∀ x ∈ a1, x.path.length ≤ 1048576) :
    Calls Tryz.prog 41 #[v_a0, v_a1] w (Rt (RT 78 5 encRec w ((squashOf a0 a1).1) (.int .i64 ((squashOf a0 a1).2)))) := spec_Squash.walk f_a0 f_a1 (spec_Squash.eq a0 a1 h0 h1 h2 h3)
/-! impl.squash -/
abbrev impl_squash.e1 (a0 : List Rec) (a1 : List Rec) (x17_22 : Int) := (gt a1 (findR a1 (gt (pathsL ([a0, a1] : List (List Rec))) x17_22)))
theorem impl_squash.walk {k : Nat} {w : World} {a0 : List Rec} {a1 : List Rec} (gv : GV 0 w) {v_a0 : Value} (f_a0 : Rd 5 encRec w v_a0 a0) {v_a1 : Value} (f_a1 : Rd 5 encRec w v_a1 a1) {r : List Rec} (H : impl_squash.sh k a0 a1 = some r) :
    Calls Tryz.prog 89 #[v_a0, v_a1] w (Rt (RO 78 5 encRec w r)) := by
  unfold impl_squash.sh at H
  refine calls_of_W Tryz.func89 rfl (Nat.le_of_ble_eq_true rfl) Tryz.ntmps89 rfl ?_
  refine W_seq <| W_reg <| L_op (.plain rfl) rfl (ltb rfl) (X_assign (v := (.slice none 0 0)) rfl) <| L_nil <| thn_n <| W_seq <| W_reg <| L_lit (.plain rfl) rfl (ltb rfl) rfl Tryz.underlying28 Tryz.sizeOf78 Tryz.zeroValue78 rfl rfl rfl (vs := []) rfl (lit_all rfl) <| fun b1 w2 z3 z4 e5 k6 => L_op (.plain rfl) rfl (ltb rfl) (X_assign (v := (.slice (some ⟨b1, 0, none⟩) 0 0)) rfl) <| L_nil <| thn_n <| W_seq <| W_seq <| W_reg <| L_op (.plain rfl) rfl (ltb rfl) (X_move (v := v_a0) rfl) <| L_op (.plain rfl) rfl (ltb rfl) (X_move (v := v_a1) rfl) <| L_lit (.plain rfl) rfl (ltb rfl) rfl Tryz.underlying39 Tryz.sizeOf28 Tryz.zeroValue28 rfl rfl rfl (vs := [v_a0, v_a1]) rfl (by simp; exact ⟨(Rd.one (Rd.ext f_a0 e5)), (Rd.one (Rd.ext f_a1 e5))⟩) <| fun b7 w8 z9 z10 e11 k12 => ?_
  obtain ⟨c13, H⟩ := bif_some H
  obtain ⟨c14, H⟩ := bif_some H
  obtain ⟨c15, H⟩ := bif_some H
  refine L_callO (.plain rfl) rfl (ltb rfl) rfl Tryz.call85 (impl_paths.calls (w := w8) (a0 := ([a0, a1] : List (List Rec))) (GV.ext gv (Ext.trans e5 e11)) (Rd2.new (vs := [v_a0, v_a1]) k12 ⟨(Rd.ext f_a0 (Ext.trans e5 e11)), (Rd.ext f_a1 (Ext.trans e5 e11)), trivial⟩ (Nat.le_of_ble_eq_true rfl)) (of_decide_eq_true c13) (of_decide_eq_true c14) (of_decide_eq_true c15)) rfl <| fun v18 w16 e17 o19 => L_op (.plain rfl) rfl (ltb rfl) (X_lenR Tryz.underlying49 rfl (Ow.rd o19)) <| L_op (.plain rfl) rfl (ltb rfl) (X_move (v := (.int .i64 0)) rfl) <| L_nil <| thn_n ?_
  obtain ⟨z23, L24, C25⟩ := bind_some H
  clear H
  refine  W_cutQ (fun s0 sQ wQ => ∃ (x5_26 : List Rec) (v27 : Value), Kp [(5, 6), (7, 11), (17, 66)] s0 sQ ∧ sQ 5 = v27 ∧ Ow 78 5 encRec w16.heap.size wQ v27 x5_26 ∧ Ext w16 wQ ∧ z23 = .inr x5_26) ?_ ?_
  · refine W_block <| W_loopI (fun s0 kk sQ wQ => ∃ (x5_20 : List Rec) (v21 : Value) (x17_22 : Int), Kp [(5, 6), (7, 11), (17, 66)] s0 sQ ∧ sQ 5 = v21 ∧ Ow 78 5 encRec w16.heap.size wQ v21 x5_20 ∧ sQ 17 = .int .i64 x17_22 ∧ Ext w16 wQ ∧ loopF (impl_squash.b1 a0 a1) kk (x5_20, x17_22) = some z23) k ⟨([] : List Rec), (.slice (some ⟨b1, 0, none⟩) 0 0), 0, (Kp.refl _ _), rfl, (Ow.zero), rfl, (Ext.refl w16), L24⟩ ?_
    rintro k32 s33 w34 ⟨x5_20, v21, x17_22, K35, h38, h39, h40, e36, L37⟩
    cases k32 with
    | zero => exact absurd L37 (by simp [loopF])
    | succ k32 =>
      obtain ⟨t41, H, S42⟩ := loopF_succ L37
      clear L37
      unfold impl_squash.b1 at H
      refine W_seq <| W_reg <| L_op (.plain rfl) rfl (ltb rfl) (X_lss h40 (K35 16 rfl)) <| L_nil <| thn_n <| W_seq ?_
      rcases bif_two H with ⟨q43, H⟩ | ⟨q43, H⟩
      · refine W_true (congrArg Value.bool q43) <| W_skip <| thn_n <| W_seq <| W_block <| W_seq <| W_reg ?_
        obtain ⟨c44, H⟩ := bif_some H
        refine L_idx (.plain rfl) rfl (ltb rfl) rfl Tryz.underlying49 Tryz.sizeOf9 (K35 15 rfl) (Ow.rd (Ow.ext o19 e36)) h40 c44 <| fun p45 h46 => L_op (.plain rfl) rfl (ltb rfl) (X_loadAt Tryz.isAgg9 rfl h46 rfl) <| L_op (.plain rfl) rfl (ltb rfl) (X_assign (v := (S (gt (pathsL ([a0, a1] : List (List Rec))) x17_22))) rfl) <| L_nil <| thn_n <| W_seq <| W_reg <| L_op (.plain rfl) rfl (ltb rfl) (X_move (v := v_a0) (K35 0 rfl)) <| L_op (.plain rfl) rfl (ltb rfl) (X_move (v := (S (gt (pathsL ([a0, a1] : List (List Rec))) x17_22))) rfl) ?_
        obtain ⟨c47, H⟩ := bif_some H
        refine L_callP (.plain rfl) rfl (ltb rfl) rfl Tryz.call105 (impl_find.calls (w := w34) (a0 := a0) (a1 := gt (pathsL ([a0, a1] : List (List Rec))) x17_22) (Rd.ext f_a0 (Ext.trans (Ext.trans (Ext.trans e5 e11) e17) e36)) (of_decide_eq_true c47)) rfl <| fun w48 e49 => L_op (.plain rfl) rfl (ltb rfl) (X_move (v := v_a1) (K35 1 rfl)) <| L_op (.plain rfl) rfl (ltb rfl) (X_move (v := (S (gt (pathsL ([a0, a1] : List (List Rec))) x17_22))) rfl) ?_
        obtain ⟨c50, H⟩ := bif_some H
        refine L_callP (.plain rfl) rfl (ltb rfl) rfl Tryz.call105 (impl_find.calls (w := w48) (a0 := a1) (a1 := gt (pathsL ([a0, a1] : List (List Rec))) x17_22) (Rd.ext f_a1 (Ext.trans (Ext.trans (Ext.trans (Ext.trans e5 e11) e17) e36) e49)) (of_decide_eq_true c50)) rfl <| fun w51 e52 => L_op (.plain rfl) rfl (ltb rfl) (X_assign rfl) <| L_op (.plain rfl) rfl (ltb rfl) (X_assign rfl) <| L_nil <| thn_n <| W_block <| W_seq <| W_reg <| L_op (.plain rfl) rfl (ltb rfl) (X_move rfl) <| L_op (.plain rfl) rfl (ltb rfl) (X_geq rfl rfl) <| L_op (.plain rfl) rfl (ltb rfl) (X_assign rfl) <| L_nil <| thn_n ?_
        rcases bif_two H with ⟨q53, H⟩ | ⟨q53, H⟩
        · refine W_true (congrArg Value.bool q53) <| W_seq <| W_reg <| L_op (.plain rfl) rfl (ltb rfl) (X_move (v := v_a1) (K35 1 rfl)) <| L_op (.plain rfl) rfl (ltb rfl) (X_move rfl) ?_
          obtain ⟨c54, H⟩ := bif_some H
          refine L_idx (.plain rfl) rfl (ltb rfl) rfl Tryz.underlying28 Tryz.sizeOf78 rfl (Rd.ext f_a1 (Ext.trans (Ext.trans (Ext.trans (Ext.trans (Ext.trans e5 e11) e17) e36) e49) e52)) rfl c54 <| fun p55 h56 => L_op (.plain rfl) rfl (ltb rfl) (X_loadS Tryz.isAgg78 Tryz.sizeOf78 rfl rfl h56) <| L_alloc (.plain rfl) rfl (ltb rfl) rfl Tryz.zeroValue78 <| fun b57 w58 z59 z60 e61 k62 => L_storeA (.plain rfl) rfl rfl Tryz.sizeOf78 rfl rfl rfl rfl rfl k62 <| fun w63 h64 k65 => L_nil <| thn_n <| W_seq <| W_seq <| W_reg <| L_op (.plain rfl) rfl (ltb rfl) (X_move rfl) <| L_op (.plain rfl) rfl (ltb rfl) (X_geq rfl rfl) <| L_op (.plain rfl) rfl (ltb rfl) (X_move rfl) <| L_grp 4 [(37, 41)] 40 (.bool ((decide (0 ≤ (findR a0 (gt (pathsL ([a0, a1] : List (List Rec))) x17_22)))) && (decide (((impl_squash.e1 a0 a1 x17_22).kind) = 3)))) ?_ ?_
          · rcases bool_two (decide (0 ≤ (findR a0 (gt (pathsL ([a0, a1] : List (List Rec))) x17_22)))) with b65_ | b65_
            · exact L_op (.guard 2 true 36 rfl rfl (ltb rfl) (congrArg Value.bool b65_)) rfl (ltb rfl) (X_fieldAddr Tryz.underlying78 rfl Tryz.sizeOf3 rfl rfl) <| L_op (.guard 2 true 36 rfl rfl (ltb rfl) (congrArg Value.bool b65_)) rfl (ltb rfl) (X_loadB Tryz.isAgg3 k65 rfl rfl) <| L_op (.guard 2 true 36 rfl rfl (ltb rfl) (congrArg Value.bool b65_)) rfl (ltb rfl) (X_eql rfl rfl) <| L_op (.plain rfl) rfl (ltb rfl) (X_pick (b := true) (v := (.bool (decide (((impl_squash.e1 a0 a1 x17_22).kind) = 3)))) (congrArg Value.bool b65_) rfl) <| L_nil <| thn_n ⟨(Kp.upd (Kp.upd (Kp.upd (Kp.upd (Kp.refl _ _) rfl) rfl) rfl) rfl), (and_t b65_), (Ext.refl w63)⟩
            · exact L_skip rfl rfl (ltb rfl) (congrArg Value.bool b65_) rfl rfl (ltb rfl) <| L_skip rfl rfl (ltb rfl) (congrArg Value.bool b65_) rfl rfl (ltb rfl) <| L_skip rfl rfl (ltb rfl) (congrArg Value.bool b65_) rfl rfl (ltb rfl) <| L_op (.plain rfl) rfl (ltb rfl) (X_pick (b := false) (v := (.bool false)) (congrArg Value.bool b65_) rfl) <| L_nil <| thn_n ⟨(Kp.upd (Kp.upd (Kp.upd (Kp.upd (Kp.refl _ _) rfl) rfl) rfl) rfl), (and_f b65_), (Ext.refl w63)⟩
          intro s71 w67 K68 h69 e70
          refine L_op (.plain rfl) rfl (ltb rfl) (X_move h69) ?_
          obtain ⟨z73, x74, H⟩ := bind_some H
          refine L_grpE 6 [(42, 48)] 47 (fun q => q = z73) ?_ ?_
          · rcases bif_two x74 with ⟨b71_, H⟩ | ⟨b71_, H⟩
            · refine L_op (.guard 7 true 41 rfl rfl (ltb rfl) (congrArg Value.bool b71_)) rfl (ltb rfl) (X_move (v := v_a0) ((K68 0 rfl).trans (K35 0 rfl))) <| L_op (.guard 7 true 41 rfl rfl (ltb rfl) (congrArg Value.bool b71_)) rfl (ltb rfl) (X_move (K68 8 rfl)) ?_
              obtain ⟨c73, H⟩ := bif_some H
              refine L_idx (.guard 7 true 41 rfl rfl (ltb rfl) (congrArg Value.bool b71_)) rfl (ltb rfl) rfl Tryz.underlying28 Tryz.sizeOf78 rfl (Rd.ext f_a0 (Ext.trans (Ext.trans (Ext.trans (Ext.trans (Ext.trans (Ext.trans (Ext.trans e5 e11) e17) e36) e49) e52) (Below.trans e61 (Wr.below h64 (Nat.le_of_eq z59)))) e70)) rfl c73 <| fun p74 h75 => L_op (.guard 7 true 41 rfl rfl (ltb rfl) (congrArg Value.bool b71_)) rfl (ltb rfl) (X_loadS Tryz.isAgg78 Tryz.sizeOf78 rfl rfl h75) <| L_callP (.guard 7 true 41 rfl rfl (ltb rfl) (congrArg Value.bool b71_)) rfl (ltb rfl) rfl Tryz.call133 (impl_stops.calls (w := w67) (a0 := gt a0 (findR a0 (gt (pathsL ([a0, a1] : List (List Rec))) x17_22)))) rfl <| fun w76 e77 => L_op (.plain rfl) rfl (ltb rfl) (X_pick (b := true) (v := (.bool (stopsR (gt a0 (findR a0 (gt (pathsL ([a0, a1] : List (List Rec))) x17_22)))))) (congrArg Value.bool b71_) rfl) ?_
              obtain rfl := Option.some.inj H
              exact L_nil <| thn_n ⟨(Kp.upd (Kp.upd (Kp.upd (Kp.upd (Kp.upd (Kp.upd (Kp.refl _ _) rfl) rfl) rfl) rfl) rfl) rfl), ⟨_, rfl, rfl⟩, e77⟩
            · refine L_skip rfl rfl (ltb rfl) (congrArg Value.bool b71_) rfl rfl (ltb rfl) <| L_skip rfl rfl (ltb rfl) (congrArg Value.bool b71_) rfl rfl (ltb rfl) <| L_skip rfl rfl (ltb rfl) (congrArg Value.bool b71_) rfl rfl (ltb rfl) <| L_skip rfl rfl (ltb rfl) (congrArg Value.bool b71_) rfl rfl (ltb rfl) <| L_skip rfl rfl (ltb rfl) (congrArg Value.bool b71_) rfl rfl (ltb rfl) <| L_op (.plain rfl) rfl (ltb rfl) (X_pick (b := false) (v := (.bool false)) (congrArg Value.bool b71_) rfl) ?_
              obtain rfl := Option.some.inj H
              exact L_nil <| thn_n ⟨(Kp.upd (Kp.upd (Kp.upd (Kp.upd (Kp.upd (Kp.upd (Kp.refl _ _) rfl) rfl) rfl) rfl) rfl) rfl), ⟨_, rfl, rfl⟩, (Ext.refl w67)⟩
          intro s79 w75 z80 K76 hq h77 e78
          rw [hq] at h77; clear hq
          refine L_nil <| thn_n ?_
          rcases bif_two H with ⟨q81, H⟩ | ⟨q81, H⟩
          · refine W_true (h77.trans (congrArg Value.bool q81)) <| W_reg <| L_op (.plain rfl) rfl (ltb rfl) (X_fieldAddr Tryz.underlying78 rfl Tryz.sizeOf4 rfl ((K76 10 rfl).trans (K68 10 rfl))) <| L_store1 (.plain rfl) rfl rfl Tryz.sizeOf4 rfl rfl rfl (Blk.ext k65 (Ext.trans e70 e78)) (ltb rfl) <| fun w82 h83 k84 => L_nil <| thn_n <| W_reg <| L_op (.plain rfl) rfl (ltb rfl) (X_move (v := v21) ((K76 5 rfl).trans ((K68 5 rfl).trans h38))) <| L_op (.plain rfl) rfl (ltb rfl) (X_loadS Tryz.isAgg78 Tryz.sizeOf78 rfl ((K76 10 rfl).trans (K68 10 rfl)) (Blk.at0 k84)) <| L_lit (.plain rfl) rfl (ltb rfl) rfl Tryz.underlying28 Tryz.sizeOf78 Tryz.zeroValue78 rfl rfl rfl (vs := [(.agg #[(.int .i64 ((impl_squash.e1 a0 a1 x17_22).kind)), (S ((impl_squash.e1 a0 a1 x17_22).path)), (S ((impl_squash.e1 a0 a1 x17_22).body)), (.int .i64 ((impl_squash.e1 a0 a1 x17_22).mode)), (.bool true)])]) rfl (lit_all rfl) <| fun b85 w86 z87 z88 e89 k90 => ?_
            obtain ⟨c91, H⟩ := bif_some H
            refine L_append (enc := encRec) (.plain rfl) rfl (ltb rfl) rfl El.t28 rfl rfl (Ow.ext h39 (Ext.trans (Ext.trans (Ext.trans e49 e52) (Below.trans (Ext.trans (Ext.trans (Below.trans e61 (Wr.below h64 (Nat.le_of_eq z59))) e70) e78) (Wr.below h83 (Nat.le_of_eq z59)))) e89)) (Ow.rd (Ow.new (xs := [(⟨(impl_squash.e1 a0 a1 x17_22).kind, (impl_squash.e1 a0 a1 x17_22).path, (impl_squash.e1 a0 a1 x17_22).body, (impl_squash.e1 a0 a1 x17_22).mode, true⟩ : Rec)]) (sz := 5) (enc := encRec) (base := w82.heap.size) k90 (Nat.le_of_eq z87) rfl (fun _ _ => by rfl) (Nat.le_of_ble_eq_true rfl))) (ones_Rec _) (of_decide_eq_true c91) ((Ext.trans (Ext.trans (Ext.trans (Ext.trans e36 e49) e52) (Below.trans (Ext.trans (Ext.trans (Below.trans e61 (Wr.below h64 (Nat.le_of_eq z59))) e70) e78) (Wr.below h83 (Nat.le_of_eq z59)))) e89)).size <| fun v92 w93 o94 z95 g96 => L_op (.plain rfl) rfl (ltb rfl) (X_assign (v := v92) rfl) <| L_nil <| blk_n <| blk_n <| thn_n <| W_reg <| L_op (.plain rfl) rfl (ltb rfl) (X_add ((K76 17 rfl).trans ((K68 17 rfl).trans h40)) rfl) <| L_op (.plain rfl) rfl (ltb rfl) (X_move (v := (.int .i64 (IntKind.wrap .i64 (x17_22 + 1)))) rfl) <| L_nil <| thn_n ?_
            obtain rfl := Option.some.inj H
            exact ⟨_, Nat.lt_succ_self _, x5_20 ++ ([(⟨(impl_squash.e1 a0 a1 x17_22).kind, (impl_squash.e1 a0 a1 x17_22).path, (impl_squash.e1 a0 a1 x17_22).body, (impl_squash.e1 a0 a1 x17_22).mode, true⟩ : Rec)] : List Rec), v92, IntKind.wrap .i64 (x17_22 + 1), (Kp.upd (Kp.upd (Kp.upd (Kp.upd (Kp.upd (Kp.upd (Kp.upd (Kp.upd (Kp.cut (Kp.upd (Kp.cut (Kp.upd (Kp.upd (Kp.upd (Kp.upd (Kp.upd (Kp.upd (Kp.upd (Kp.upd (Kp.upd (Kp.upd (Kp.upd (Kp.upd (Kp.upd (Kp.upd (Kp.upd (Kp.upd (Kp.upd (Kp.upd (Kp.upd (Kp.upd (Kp.upd (Kp.upd (Kp.upd K35 rfl) rfl) rfl) rfl) rfl) rfl) rfl) rfl) rfl) rfl) rfl) rfl) rfl) rfl) rfl) rfl) rfl) rfl) rfl) rfl) rfl) rfl) rfl) K68 rfl) rfl) K76 rfl) rfl) rfl) rfl) rfl) rfl) rfl) rfl) rfl), rfl, o94, rfl, (g96 _ (Ext.trans (Ext.trans (Ext.trans (Ext.trans e36 e49) e52) (Below.trans (Ext.trans (Ext.trans (Below.trans e61 (Wr.below h64 (Nat.le_of_eq z59))) e70) e78) (Wr.below h83 (Nat.le_of_eq z59)))) e89)), S42⟩
          · refine W_false (h77.trans (congrArg Value.bool q81)) <| W_skip <| thn_n <| W_reg <| L_op (.plain rfl) rfl (ltb rfl) (X_move (v := v21) ((K76 5 rfl).trans ((K68 5 rfl).trans h38))) <| L_op (.plain rfl) rfl (ltb rfl) (X_loadS Tryz.isAgg78 Tryz.sizeOf78 rfl ((K76 10 rfl).trans (K68 10 rfl)) (Blk.at0 (Blk.ext k65 (Ext.trans e70 e78)))) <| L_lit (.plain rfl) rfl (ltb rfl) rfl Tryz.underlying28 Tryz.sizeOf78 Tryz.zeroValue78 rfl rfl rfl (vs := [(.agg #[(.int .i64 ((impl_squash.e1 a0 a1 x17_22).kind)), (S ((impl_squash.e1 a0 a1 x17_22).path)), (S ((impl_squash.e1 a0 a1 x17_22).body)), (.int .i64 ((impl_squash.e1 a0 a1 x17_22).mode)), (.bool ((impl_squash.e1 a0 a1 x17_22).opq))])]) rfl (lit_all rfl) <| fun b97 w98 z99 z100 e101 k102 => ?_
            obtain ⟨c103, H⟩ := bif_some H
            refine L_append (enc := encRec) (.plain rfl) rfl (ltb rfl) rfl El.t28 rfl rfl (Ow.ext h39 (Ext.trans (Ext.trans (Ext.trans (Ext.trans (Ext.trans e49 e52) (Below.trans e61 (Wr.below h64 (Nat.le_of_eq z59)))) e70) e78) e101)) (Ow.rd (Ow.new (xs := [(impl_squash.e1 a0 a1 x17_22)]) (sz := 5) (enc := encRec) (base := w75.heap.size) k102 (Nat.le_of_eq z99) rfl (fun _ _ => by rfl) (Nat.le_of_ble_eq_true rfl))) (ones_Rec _) (of_decide_eq_true c103) ((Ext.trans (Ext.trans (Ext.trans (Ext.trans (Ext.trans (Ext.trans e36 e49) e52) (Below.trans e61 (Wr.below h64 (Nat.le_of_eq z59)))) e70) e78) e101)).size <| fun v104 w105 o106 z107 g108 => L_op (.plain rfl) rfl (ltb rfl) (X_assign (v := v104) rfl) <| L_nil <| blk_n <| blk_n <| thn_n <| W_reg <| L_op (.plain rfl) rfl (ltb rfl) (X_add ((K76 17 rfl).trans ((K68 17 rfl).trans h40)) rfl) <| L_op (.plain rfl) rfl (ltb rfl) (X_move (v := (.int .i64 (IntKind.wrap .i64 (x17_22 + 1)))) rfl) <| L_nil <| thn_n ?_
            obtain rfl := Option.some.inj H
            exact ⟨_, Nat.lt_succ_self _, x5_20 ++ ([(impl_squash.e1 a0 a1 x17_22)] : List Rec), v104, IntKind.wrap .i64 (x17_22 + 1), (Kp.upd (Kp.upd (Kp.upd (Kp.upd (Kp.upd (Kp.upd (Kp.upd (Kp.cut (Kp.upd (Kp.cut (Kp.upd (Kp.upd (Kp.upd (Kp.upd (Kp.upd (Kp.upd (Kp.upd (Kp.upd (Kp.upd (Kp.upd (Kp.upd (Kp.upd (Kp.upd (Kp.upd (Kp.upd (Kp.upd (Kp.upd (Kp.upd (Kp.upd (Kp.upd (Kp.upd (Kp.upd (Kp.upd K35 rfl) rfl) rfl) rfl) rfl) rfl) rfl) rfl) rfl) rfl) rfl) rfl) rfl) rfl) rfl) rfl) rfl) rfl) rfl) rfl) rfl) rfl) rfl) K68 rfl) rfl) K76 rfl) rfl) rfl) rfl) rfl) rfl) rfl) rfl), rfl, o106, rfl, (g108 _ (Ext.trans (Ext.trans (Ext.trans (Ext.trans (Ext.trans (Ext.trans e36 e49) e52) (Below.trans e61 (Wr.below h64 (Nat.le_of_eq z59)))) e70) e78) e101)), S42⟩
        · refine W_false (congrArg Value.bool q53) <| W_seq <| W_reg <| L_op (.plain rfl) rfl (ltb rfl) (X_move (v := v_a1) (K35 1 rfl)) <| L_op (.plain rfl) rfl (ltb rfl) (X_move (v := (S (gt (pathsL ([a0, a1] : List (List Rec))) x17_22))) rfl) ?_
          obtain ⟨c109, H⟩ := bif_some H
          obtain ⟨c110, H⟩ := bif_some H
          refine L_callP (.plain rfl) rfl (ltb rfl) rfl Tryz.call134 (impl_cuts.calls (w := w51) (a0 := a1) (a1 := gt (pathsL ([a0, a1] : List (List Rec))) x17_22) (Rd.ext f_a1 (Ext.trans (Ext.trans (Ext.trans (Ext.trans (Ext.trans e5 e11) e17) e36) e49) e52)) (of_decide_eq_true c109) (of_decide_eq_true c110)) rfl <| fun w111 e112 => L_op (.plain rfl) rfl (ltb rfl) (X_not rfl) <| L_op (.plain rfl) rfl (ltb rfl) (X_assign rfl) <| L_nil <| thn_n ?_
          rcases bif_two H with ⟨q113, H⟩ | ⟨q113, H⟩
          · refine W_true (congrArg Value.bool q113) <| W_reg <| L_op (.plain rfl) rfl (ltb rfl) (X_move (v := v21) h38) <| L_op (.plain rfl) rfl (ltb rfl) (X_move (v := v_a0) (K35 0 rfl)) <| L_op (.plain rfl) rfl (ltb rfl) (X_move rfl) ?_
            obtain ⟨c114, H⟩ := bif_some H
            refine L_idx (.plain rfl) rfl (ltb rfl) rfl Tryz.underlying28 Tryz.sizeOf78 rfl (Rd.ext f_a0 (Ext.trans (Ext.trans (Ext.trans (Ext.trans (Ext.trans (Ext.trans e5 e11) e17) e36) e49) e52) e112)) rfl c114 <| fun p115 h116 => L_op (.plain rfl) rfl (ltb rfl) (X_loadS Tryz.isAgg78 Tryz.sizeOf78 rfl rfl h116) <| L_lit (.plain rfl) rfl (ltb rfl) rfl Tryz.underlying28 Tryz.sizeOf78 Tryz.zeroValue78 rfl rfl rfl (vs := [(.agg (encRec (gt a0 (findR a0 (gt (pathsL ([a0, a1] : List (List Rec))) x17_22)))).toArray)]) rfl (lit_all rfl) <| fun b117 w118 z119 z120 e121 k122 => ?_
            obtain ⟨c123, H⟩ := bif_some H
            refine L_append (enc := encRec) (.plain rfl) rfl (ltb rfl) rfl El.t28 rfl rfl (Ow.ext h39 (Ext.trans (Ext.trans (Ext.trans e49 e52) e112) e121)) (Ow.rd (Ow.new (xs := [gt a0 (findR a0 (gt (pathsL ([a0, a1] : List (List Rec))) x17_22))]) (sz := 5) (enc := encRec) (base := w111.heap.size) k122 (Nat.le_of_eq z119) rfl (fun _ _ => by rfl) (Nat.le_of_ble_eq_true rfl))) (ones_Rec _) (of_decide_eq_true c123) ((Ext.trans (Ext.trans (Ext.trans (Ext.trans e36 e49) e52) e112) e121)).size <| fun v124 w125 o126 z127 g128 => L_op (.plain rfl) rfl (ltb rfl) (X_assign (v := v124) rfl) <| L_nil <| blk_n <| blk_n <| thn_n <| W_reg <| L_op (.plain rfl) rfl (ltb rfl) (X_add h40 rfl) <| L_op (.plain rfl) rfl (ltb rfl) (X_move (v := (.int .i64 (IntKind.wrap .i64 (x17_22 + 1)))) rfl) <| L_nil <| thn_n ?_
            obtain rfl := Option.some.inj H
            exact ⟨_, Nat.lt_succ_self _, x5_20 ++ ([gt a0 (findR a0 (gt (pathsL ([a0, a1] : List (List Rec))) x17_22))] : List Rec), v124, IntKind.wrap .i64 (x17_22 + 1), (Kp.upd (Kp.upd (Kp.upd (Kp.upd (Kp.upd (Kp.upd (Kp.upd (Kp.upd (Kp.upd (Kp.upd (Kp.upd (Kp.upd (Kp.upd (Kp.upd (Kp.upd (Kp.upd (Kp.upd (Kp.upd (Kp.upd (Kp.upd (Kp.upd (Kp.upd (Kp.upd (Kp.upd (Kp.upd (Kp.upd (Kp.upd (Kp.upd (Kp.upd (Kp.upd K35 rfl) rfl) rfl) rfl) rfl) rfl) rfl) rfl) rfl) rfl) rfl) rfl) rfl) rfl) rfl) rfl) rfl) rfl) rfl) rfl) rfl) rfl) rfl) rfl) rfl) rfl) rfl) rfl) rfl) rfl), rfl, o126, rfl, (g128 _ (Ext.trans (Ext.trans (Ext.trans (Ext.trans e36 e49) e52) e112) e121)), S42⟩
          · refine W_false (congrArg Value.bool q113) <| W_skip <| blk_n <| blk_n <| thn_n <| W_reg <| L_op (.plain rfl) rfl (ltb rfl) (X_add h40 rfl) <| L_op (.plain rfl) rfl (ltb rfl) (X_move (v := (.int .i64 (IntKind.wrap .i64 (x17_22 + 1)))) rfl) <| L_nil <| thn_n ?_
            obtain rfl := Option.some.inj H
            exact ⟨_, Nat.lt_succ_self _, x5_20, v21, IntKind.wrap .i64 (x17_22 + 1), (Kp.upd (Kp.upd (Kp.upd (Kp.upd (Kp.upd (Kp.upd (Kp.upd (Kp.upd (Kp.upd (Kp.upd (Kp.upd (Kp.upd (Kp.upd (Kp.upd (Kp.upd (Kp.upd (Kp.upd (Kp.upd (Kp.upd (Kp.upd (Kp.upd (Kp.upd K35 rfl) rfl) rfl) rfl) rfl) rfl) rfl) rfl) rfl) rfl) rfl) rfl) rfl) rfl) rfl) rfl) rfl) rfl) rfl) rfl) rfl) rfl), h38, (Ow.ext h39 (Ext.trans (Ext.trans e49 e52) e112)), rfl, (Ext.trans (Ext.trans (Ext.trans e36 e49) e52) e112), S42⟩
      · refine W_false (congrArg Value.bool q43) <| W_exit <| thn_x <| thn_x <| blk_x <| thn_n ?_
        obtain rfl := Option.some.inj H
        obtain rfl := Option.some.inj S42
        exact ⟨x5_20, v21, (Kp.upd K35 rfl), h38, h39, e36, rfl⟩
  · rintro s29 w28 ⟨x5_26, v27, K30, h129, h130, e31, y131⟩
    rw [y131] at C25
    have H := C25
    replace H : _ = some _ := H
    refine thn_n <| W_seq <| W_reg <| L_op (.plain rfl) rfl (ltb rfl) (X_move (v := v27) h129) ?_
    obtain ⟨c132, H⟩ := bif_some H
    obtain ⟨c133, H⟩ := bif_some H
    refine L_callO (.plain rfl) rfl (ltb rfl) rfl Tryz.call104 (impl_canonical.calls (w := w28) (a0 := x5_26) (GV.ext gv (Ext.trans (Ext.trans (Ext.trans e5 e11) e17) e31)) (Ow.rd h130) (of_decide_eq_true c132) (of_decide_eq_true c133)) rfl <| fun v136 w134 e135 o137 => L_op (.plain rfl) rfl (ltb rfl) (X_assign (v := v136) rfl) <| L_nil <| thn_n <| W_ret <| fin_r ?_
    obtain rfl := Option.some.inj H
    exact fin1o rfl (Ext.trans (Ext.trans (Ext.trans (Ext.trans e5 e11) e17) e31) e135) o137 ((Ext.trans (Ext.trans (Ext.trans e5 e11) e17) e31)).size
theorem impl_squash.calls {w : World} {a0 : List Rec} {a1 : List Rec} (gv : GV 0 w) {v_a0 : Value} (f_a0 : Rd 5 encRec w v_a0 a0) {v_a1 : Value} (f_a1 : Rd 5 encRec w v_a1 a1) (h0 : a0.length ≤ 500000) (h1 : a1.length ≤ 500000) (h2 : sheetB a0 = true) (h3 : sheetB a1 = true) :
    Calls Tryz.prog 89 #[v_a0, v_a1] w (Rt (RO 78 5 encRec w (squashL a0 a1))) := by
  obtain ⟨k, h⟩ := impl_squash.eq a0 a1 h0 h1 h2 h3
  exact impl_squash.walk gv f_a0 f_a1 h
/-! impl.fitting, by text -/
theorem impl_fitting.calls {w : World} {a : List Rec} {v : Value} (h : Rd 5 encRec w v a) :
    Calls Tryz.prog 88 #[v] w (Rt (fun r w' => r = .tuple #[fitV v a, .int .i64 (fitC a)] ∧ Ext w w')) := by
  refine calls_of_W Tryz.func88 rfl (Nat.le_of_ble_eq_true rfl) Tryz.ntmps88 rfl ?_
  refine W_seq <| W_reg <| L_op (.plain rfl) rfl (ltb rfl) (X_assign rfl) <| L_op (.plain rfl) rfl (ltb rfl) (X_assign rfl) <| L_nil <| thn_n <| W_seq <| W_seq <| W_reg <| L_op (.plain rfl) rfl (ltb rfl) (X_move (v := v) rfl) <| L_op (.plain rfl) rfl (ltb rfl) (X_lenR Tryz.underlying28 rfl h) <|
    L_op (.plain rfl) rfl (ltb rfl) (X_gtr rfl rfl) <| L_nil <| thn_n ?_
  by_cases hc : 16 < a.length
  · refine W_true (congrArg Value.bool (decide_eq_true (by omega))) <| W_seq <| W_reg <| L_op (.plain rfl) rfl (ltb rfl) (X_assign rfl) <| L_op (.plain rfl) rfl (ltb rfl) (X_assign rfl) <| L_nil <| thn_n <| W_ret <| thn_r <| fin_r ?_
    exact ⟨_, rfl, by simp only [fitV, fitC, hc, if_true]; rfl, Ext.refl _⟩
  · refine W_false (congrArg Value.bool (decide_eq_false (by omega))) <| W_skip <| thn_n <| W_seq <| W_reg <| L_op (.plain rfl) rfl (ltb rfl) (X_move (v := v) rfl) <| L_op (.plain rfl) rfl (ltb rfl) (X_assign (v := v) rfl) <| L_op (.plain rfl) rfl (ltb rfl) (X_assign rfl) <| L_nil <| thn_n <| W_ret <| fin_r ?_
    exact ⟨_, rfl, by simp only [fitV, fitC, hc, if_false]; rfl, Ext.refl _⟩

/-! impl.Squash -/
theorem impl_Squash.walk {w : World} {a0 : List Rec} {a1 : List Rec} (gv : GV 0 w) {v_a0 : Value} (f_a0 : Rd 5 encRec w v_a0 a0) {v_a1 : Value} (f_a1 : Rd 5 encRec w v_a1 a1) {r : List Rec × Int} (H : impl_Squash.sh a0 a1 = some r) :
    Calls Tryz.prog 42 #[v_a0, v_a1] w (Rt (RT 78 5 encRec w r.1 (.int .i64 r.2))) := by
  unfold impl_Squash.sh at H
  refine calls_of_W Tryz.func42 rfl (Nat.le_of_ble_eq_true rfl) Tryz.ntmps42 rfl ?_
  refine W_seq <| W_reg <| L_op (.plain rfl) rfl (ltb rfl) (X_assign (v := (.slice none 0 0)) rfl) <| L_op (.plain rfl) rfl (ltb rfl) (X_assign (v := (.int .i64 0)) rfl) <| L_nil <| thn_n <| W_seq <| W_seq <| W_reg <| L_op (.plain rfl) rfl (ltb rfl) (X_move (v := v_a0) rfl) <| L_op (.plain rfl) rfl (ltb rfl) (X_move (v := v_a1) rfl) ?_
  obtain ⟨c1, H⟩ := bif_some H
  obtain ⟨c2, H⟩ := bif_some H
  obtain ⟨c3, H⟩ := bif_some H
  obtain ⟨c4, H⟩ := bif_some H
  refine L_callP (.plain rfl) rfl (ltb rfl) rfl Tryz.call87 (impl_pairCode.calls (w := w) (a0 := a0) (a1 := a1) gv f_a0 f_a1 (of_decide_eq_true c1) (of_decide_eq_true c2) (of_decide_eq_true c3) (of_decide_eq_true c4)) rfl <| fun w5 e6 => L_op (.plain rfl) rfl (ltb rfl) (X_assign (v := (.int .i64 (pairCode a0 a1))) rfl) <| L_nil <| thn_n <| W_seq <| W_reg <| L_op (.plain rfl) rfl (ltb rfl) (X_move (v := (.int .i64 (pairCode a0 a1))) rfl) <| L_op (.plain rfl) rfl (ltb rfl) (X_neq rfl rfl) <| L_nil <| thn_n ?_
  rcases bif_two H with ⟨q7, H⟩ | ⟨q7, H⟩
  · refine W_true (congrArg Value.bool q7) <| W_seq <| W_reg <| L_op (.plain rfl) rfl (ltb rfl) (X_move (v := (.int .i64 (pairCode a0 a1))) rfl) <| L_op (.plain rfl) rfl (ltb rfl) (X_assign (v := (.slice none 0 0)) rfl) <| L_op (.plain rfl) rfl (ltb rfl) (X_assign (v := (.int .i64 (pairCode a0 a1))) rfl) <| L_nil <| thn_n <| W_ret <| thn_r <| fin_r ?_
    obtain rfl := Option.some.inj H
    exact fin2o rfl rfl e6 (Ow.zero (base := w.heap.size)) (Nat.le_refl _)
  · refine W_false (congrArg Value.bool q7) <| W_skip <| thn_n <| W_seq <| W_reg <| L_op (.plain rfl) rfl (ltb rfl) (X_move (v := v_a0) rfl) <| L_op (.plain rfl) rfl (ltb rfl) (X_move (v := v_a1) rfl) ?_
    obtain ⟨c8, H⟩ := bif_some H
    obtain ⟨c9, H⟩ := bif_some H
    obtain ⟨c10, H⟩ := bif_some H
    obtain ⟨c11, H⟩ := bif_some H
    refine L_callO (.plain rfl) rfl (ltb rfl) rfl Tryz.call89 (impl_squash.calls (w := w5) (a0 := a0) (a1 := a1) (GV.ext gv e6) (Rd.ext f_a0 e6) (Rd.ext f_a1 e6) (of_decide_eq_true c8) (of_decide_eq_true c9) (of_decide_eq_true c10) (of_decide_eq_true c11)) rfl <| fun v14 w12 e13 o15 => L_callA (.plain rfl) rfl (ltb rfl) rfl Tryz.call88 (impl_fitting.calls (w := w12) (Ow.rd o15)) rfl <| fun _ w16 hA9 => ?_
    obtain ⟨rfl, e17⟩ := hA9
    refine L_op (.plain rfl) rfl (ltb rfl) (X_extract (v := (fitV v14 (squashL a0 a1))) rfl rfl) <| L_op (.plain rfl) rfl (ltb rfl) (X_extract (v := (.int .i64 (fitC (squashL a0 a1)))) rfl rfl) <| L_op (.plain rfl) rfl (ltb rfl) (X_assign (v := (fitV v14 (squashL a0 a1))) rfl) <| L_op (.plain rfl) rfl (ltb rfl) (X_assign (v := (.int .i64 (fitC (squashL a0 a1)))) rfl) <| L_nil <| thn_n <| W_ret <| fin_r ?_
    obtain rfl := Option.some.inj H
    exact fin2o rfl rfl (Ext.trans (Ext.trans e6 e13) e17) (Ow.fit (Ow.ext o15 e17)) (e6).size
theorem impl_Squash.calls {w : World} {a0 : List Rec} {a1 : List Rec} (gv : GV 0 w) {v_a0 : Value} (f_a0 : Rd 5 encRec w v_a0 a0) {v_a1 : Value} (f_a1 : Rd 5 encRec w v_a1 a1) (h0 : a0.length ≤ 1048576) (h1 : a1.length ≤ 1048576) (h2 : ∀ x ∈ a0, x.path.length ≤ 1048576) (h3 : ∀ x ∈ a1, x.path.length ≤ 1048576) :
    Calls Tryz.prog 42 #[v_a0, v_a1] w (Rt (RT 78 5 encRec w ((squashOf a0 a1).1) (.int .i64 ((squashOf a0 a1).2)))) := impl_Squash.walk gv f_a0 f_a1 (impl_Squash.eq a0 a1 h0 h1 h2 h3)
/-! laws.FnExactSquash -/
abbrev law_Squash.e1 (a0 : List Rec) (a1 : List Rec) := (!(decide (((squashOf a0 a1).1) = ((squashOf a0 a1).1))))
theorem law_Squash.walk {w : World} {a0 : List Rec} {a1 : List Rec} (gv : GV 0 w) {v_a0 : Value} (f_a0 : Rd 5 encRec w v_a0 a0) {v_a1 : Value} (f_a1 : Rd 5 encRec w v_a1 a1) {r : Bool} (H : law_Squash.sh a0 a1 = some r) :
    Calls Tryz.prog 8 #[v_a0, v_a1] w (Rt (RP w (.bool r))) := by
  unfold law_Squash.sh at H
  refine calls_of_W Tryz.func8 rfl (Nat.le_of_ble_eq_true rfl) Tryz.ntmps8 rfl ?_
  refine W_seq <| W_reg <| L_op (.plain rfl) rfl (ltb rfl) (X_assign (v := (.bool false)) rfl) <| L_nil <| thn_n <| W_seq <| W_reg <| L_op (.plain rfl) rfl (ltb rfl) (X_assign (v := (.int .i64 1048576)) rfl) <| L_nil <| thn_n <| W_seq <| W_reg <| L_op (.plain rfl) rfl (ltb rfl) (X_move (v := v_a0) rfl) <| L_op (.plain rfl) rfl (ltb rfl) (X_move (v := (.int .i64 1048576)) rfl) ?_
  obtain ⟨c1, H⟩ := bif_some H
  obtain ⟨c2, H⟩ := bif_some H
  obtain ⟨c3, H⟩ := bif_some H
  obtain ⟨c4, H⟩ := bif_some H
  refine L_callP (.plain rfl) rfl (ltb rfl) rfl Tryz.call15 (laws_szRecordS.calls (w := w) (a0 := a0) (a1 := 1048576) f_a0 (of_decide_eq_true c1) (of_decide_eq_true c2) (of_decide_eq_true c3) (of_decide_eq_true c4)) rfl <| fun w5 e6 => L_op (.plain rfl) rfl (ltb rfl) (X_assign (v := (.int .i64 (szRecS a0 1048576))) rfl) <| L_nil <| thn_n <| W_seq <| W_seq <| W_reg <| L_op (.plain rfl) rfl (ltb rfl) (X_move (v := (.int .i64 (szRecS a0 1048576))) rfl) <| L_op (.plain rfl) rfl (ltb rfl) (X_lss rfl rfl) <| L_nil <| thn_n ?_
  rcases bif_two H with ⟨q7, H⟩ | ⟨q7, H⟩
  · refine W_true (congrArg Value.bool q7) <| W_seq <| W_reg <| L_op (.plain rfl) rfl (ltb rfl) (X_assign (v := (.bool true)) rfl) <| L_nil <| thn_n <| W_ret <| thn_r <| fin_r ?_
    obtain rfl := Option.some.inj H
    exact fin1 rfl e6
  · refine W_false (congrArg Value.bool q7) <| W_skip <| thn_n <| W_seq <| W_reg <| L_op (.plain rfl) rfl (ltb rfl) (X_move (v := v_a1) rfl) <| L_op (.plain rfl) rfl (ltb rfl) (X_move (v := (.int .i64 (szRecS a0 1048576))) rfl) ?_
    obtain ⟨c8, H⟩ := bif_some H
    obtain ⟨c9, H⟩ := bif_some H
    obtain ⟨c10, H⟩ := bif_some H
    obtain ⟨c11, H⟩ := bif_some H
    refine L_callP (.plain rfl) rfl (ltb rfl) rfl Tryz.call15 (laws_szRecordS.calls (w := w5) (a0 := a1) (a1 := (szRecS a0 1048576)) (Rd.ext f_a1 e6) (of_decide_eq_true c8) (of_decide_eq_true c9) (of_decide_eq_true c10) (of_decide_eq_true c11)) rfl <| fun w12 e13 => L_op (.plain rfl) rfl (ltb rfl) (X_assign (v := (.int .i64 (szRecS a1 (szRecS a0 1048576)))) rfl) <| L_nil <| thn_n <| W_seq <| W_seq <| W_reg <| L_op (.plain rfl) rfl (ltb rfl) (X_move (v := (.int .i64 (szRecS a1 (szRecS a0 1048576)))) rfl) <| L_op (.plain rfl) rfl (ltb rfl) (X_lss rfl rfl) <| L_nil <| thn_n ?_
    rcases bif_two H with ⟨q14, H⟩ | ⟨q14, H⟩
    · refine W_true (congrArg Value.bool q14) <| W_seq <| W_reg <| L_op (.plain rfl) rfl (ltb rfl) (X_assign (v := (.bool true)) rfl) <| L_nil <| thn_n <| W_ret <| thn_r <| fin_r ?_
      obtain rfl := Option.some.inj H
      exact fin1 rfl (Ext.trans e6 e13)
    · refine W_false (congrArg Value.bool q14) <| W_skip <| thn_n <| W_seq <| W_reg <| L_op (.plain rfl) rfl (ltb rfl) (X_move (v := v_a0) rfl) ?_
      obtain ⟨c15, H⟩ := bif_some H
      refine L_callO (.plain rfl) rfl (ltb rfl) rfl Tryz.call18 (laws_toRecordS.calls (w := w12) (a0 := a0) (Rd.ext f_a0 (Ext.trans e6 e13)) (of_decide_eq_true c15)) rfl <| fun v18 w16 e17 o19 => L_op (.plain rfl) rfl (ltb rfl) (X_move (v := v_a1) rfl) ?_
      obtain ⟨c20, H⟩ := bif_some H
      refine L_callO (.plain rfl) rfl (ltb rfl) rfl Tryz.call18 (laws_toRecordS.calls (w := w16) (a0 := a1) (Rd.ext f_a1 (Ext.trans (Ext.trans e6 e13) e17)) (of_decide_eq_true c20)) rfl <| fun v23 w21 e22 o24 => ?_
      obtain ⟨c25, H⟩ := bif_some H
      obtain ⟨c26, H⟩ := bif_some H
      obtain ⟨c27, H⟩ := bif_some H
      obtain ⟨c28, H⟩ := bif_some H
      refine L_callT (.plain rfl) rfl (ltb rfl) rfl Tryz.call41 (spec_Squash.calls (w := w21) (a0 := a0) (a1 := a1) (Ow.rd (Ow.ext o19 e22)) (Ow.rd o24) (of_decide_eq_true c25) (of_decide_eq_true c26) (of_decide_eq_true c27) (of_decide_eq_true c28)) rfl <| fun v31 w29 e30 o32 => L_op (.plain rfl) rfl (ltb rfl) (X_move (v := (.tuple #[v31, (.int .i64 ((squashOf a0 a1).2))])) rfl) <| L_op (.plain rfl) rfl (ltb rfl) (X_extract (v := v31) rfl rfl) <| L_op (.plain rfl) rfl (ltb rfl) (X_extract (v := (.int .i64 ((squashOf a0 a1).2))) rfl rfl) <| L_op (.plain rfl) rfl (ltb rfl) (X_assign (v := v31) rfl) <| L_op (.plain rfl) rfl (ltb rfl) (X_assign (v := (.int .i64 ((squashOf a0 a1).2))) rfl) <| L_nil <| thn_n <| W_seq <| W_reg <| L_op (.plain rfl) rfl (ltb rfl) (X_move (v := v_a0) rfl) ?_
      obtain ⟨c33, H⟩ := bif_some H
      refine L_callO (.plain rfl) rfl (ltb rfl) rfl Tryz.call18 (laws_toRecordS.calls (w := w29) (a0 := a0) (Rd.ext f_a0 (Ext.trans (Ext.trans (Ext.trans (Ext.trans e6 e13) e17) e22) e30)) (of_decide_eq_true c33)) rfl <| fun v36 w34 e35 o37 => L_op (.plain rfl) rfl (ltb rfl) (X_assign (v := v36) rfl) <| L_nil <| thn_n <| W_seq <| W_reg <| L_op (.plain rfl) rfl (ltb rfl) (X_move (v := v_a1) rfl) ?_
      obtain ⟨c38, H⟩ := bif_some H
      refine L_callO (.plain rfl) rfl (ltb rfl) rfl Tryz.call18 (laws_toRecordS.calls (w := w34) (a0 := a1) (Rd.ext f_a1 (Ext.trans (Ext.trans (Ext.trans (Ext.trans (Ext.trans e6 e13) e17) e22) e30) e35)) (of_decide_eq_true c38)) rfl <| fun v41 w39 e40 o42 => L_op (.plain rfl) rfl (ltb rfl) (X_assign (v := v41) rfl) <| L_nil <| thn_n <| W_seq <| W_reg <| L_op (.plain rfl) rfl (ltb rfl) (X_move (v := v36) rfl) <| L_op (.plain rfl) rfl (ltb rfl) (X_move (v := v41) rfl) ?_
      obtain ⟨c43, H⟩ := bif_some H
      obtain ⟨c44, H⟩ := bif_some H
      obtain ⟨c45, H⟩ := bif_some H
      obtain ⟨c46, H⟩ := bif_some H
      refine L_callT (.plain rfl) rfl (ltb rfl) rfl Tryz.call42 (impl_Squash.calls (w := w39) (a0 := a0) (a1 := a1) (GV.ext gv (Ext.trans (Ext.trans (Ext.trans (Ext.trans (Ext.trans (Ext.trans e6 e13) e17) e22) e30) e35) e40)) (Ow.rd (Ow.ext o37 e40)) (Ow.rd o42) (of_decide_eq_true c43) (of_decide_eq_true c44) (of_decide_eq_true c45) (of_decide_eq_true c46)) rfl <| fun v49 w47 e48 o50 => L_op (.plain rfl) rfl (ltb rfl) (X_move (v := (.tuple #[v49, (.int .i64 ((squashOf a0 a1).2))])) rfl) <| L_op (.plain rfl) rfl (ltb rfl) (X_extract (v := v49) rfl rfl) <| L_op (.plain rfl) rfl (ltb rfl) (X_extract (v := (.int .i64 ((squashOf a0 a1).2))) rfl rfl) <| L_op (.plain rfl) rfl (ltb rfl) (X_assign (v := v49) rfl) <| L_op (.plain rfl) rfl (ltb rfl) (X_assign (v := (.int .i64 ((squashOf a0 a1).2))) rfl) <| L_nil <| thn_n <| W_seq <| W_seq <| W_reg <| L_op (.plain rfl) rfl (ltb rfl) (X_move (v := v49) rfl) <| L_op (.plain rfl) rfl (ltb rfl) (X_move (v := v31) rfl) ?_
      obtain ⟨c51, H⟩ := bif_some H
      refine L_callP (.plain rfl) rfl (ltb rfl) rfl Tryz.call21 (laws_eqRecordS.calls (w := w47) (a0 := (squashOf a0 a1).1) (a1 := (squashOf a0 a1).1) (Ow.rd o50) (Ow.rd (Ow.ext o32 (Ext.trans (Ext.trans e35 e40) e48))) (of_decide_eq_true c51)) rfl <| fun w52 e53 => L_op (.plain rfl) rfl (ltb rfl) (X_not rfl) <| L_op (.plain rfl) rfl (ltb rfl) (X_move (v := (.bool (law_Squash.e1 a0 a1))) rfl) <| L_grp 4 [(50, 54)] 53 (.bool ((law_Squash.e1 a0 a1) || (!decide (((squashOf a0 a1).2) = ((squashOf a0 a1).2))))) ?_ ?_
      · rcases bool_two (law_Squash.e1 a0 a1) with b53_ | b53_
        · exact L_skip rfl rfl (ltb rfl) (congrArg Value.bool b53_) rfl rfl (ltb rfl) <| L_skip rfl rfl (ltb rfl) (congrArg Value.bool b53_) rfl rfl (ltb rfl) <| L_skip rfl rfl (ltb rfl) (congrArg Value.bool b53_) rfl rfl (ltb rfl) <| L_op (.plain rfl) rfl (ltb rfl) (X_pick (b := true) (v := (.bool true)) (congrArg Value.bool b53_) rfl) <| L_nil <| thn_n ⟨(Kp.upd (Kp.upd (Kp.upd (Kp.upd (Kp.refl _ _) rfl) rfl) rfl) rfl), (or_t b53_), (Ext.refl w52)⟩
        · exact L_op (.guard 4 false 49 rfl rfl (ltb rfl) (congrArg Value.bool b53_)) rfl (ltb rfl) (X_move (v := (.int .i64 ((squashOf a0 a1).2))) rfl) <| L_op (.guard 4 false 49 rfl rfl (ltb rfl) (congrArg Value.bool b53_)) rfl (ltb rfl) (X_move (v := (.int .i64 ((squashOf a0 a1).2))) rfl) <| L_op (.guard 4 false 49 rfl rfl (ltb rfl) (congrArg Value.bool b53_)) rfl (ltb rfl) (X_neq rfl rfl) <| L_op (.plain rfl) rfl (ltb rfl) (X_pick (b := false) (v := (.bool (!decide (((squashOf a0 a1).2) = ((squashOf a0 a1).2))))) (congrArg Value.bool b53_) rfl) <| L_nil <| thn_n ⟨(Kp.upd (Kp.upd (Kp.upd (Kp.upd (Kp.refl _ _) rfl) rfl) rfl) rfl), (or_f b53_), (Ext.refl w52)⟩
      intro s59 w55 K56 h57 e58
      refine L_nil <| thn_n ?_
      rcases bif_two H with ⟨q60, H⟩ | ⟨q60, H⟩
      · refine W_true (h57.trans (congrArg Value.bool q60)) <| W_seq <| W_reg <| L_op (.plain rfl) rfl (ltb rfl) (X_assign (v := (.bool false)) rfl) <| L_nil <| thn_n <| W_ret <| thn_r <| fin_r ?_
        obtain rfl := Option.some.inj H
        exact fin1 rfl (Ext.trans (Ext.trans (Ext.trans (Ext.trans (Ext.trans (Ext.trans (Ext.trans (Ext.trans (Ext.trans e6 e13) e17) e22) e30) e35) e40) e48) e53) e58)
      · refine W_false (h57.trans (congrArg Value.bool q60)) <| W_skip <| thn_n <| W_seq <| W_seq <| W_reg <| L_op (.plain rfl) rfl (ltb rfl) (X_move (v := v36) (K56 8 rfl)) <| L_op (.plain rfl) rfl (ltb rfl) (X_move (v := v_a0) (K56 0 rfl)) ?_
        obtain ⟨c61, H⟩ := bif_some H
        refine L_callO (.plain rfl) rfl (ltb rfl) rfl Tryz.call18 (laws_toRecordS.calls (w := w55) (a0 := a0) (Rd.ext f_a0 (Ext.trans (Ext.trans (Ext.trans (Ext.trans (Ext.trans (Ext.trans (Ext.trans (Ext.trans (Ext.trans e6 e13) e17) e22) e30) e35) e40) e48) e53) e58)) (of_decide_eq_true c61)) rfl <| fun v64 w62 e63 o65 => ?_
        obtain ⟨c66, H⟩ := bif_some H
        refine L_callP (.plain rfl) rfl (ltb rfl) rfl Tryz.call21 (laws_eqRecordS.calls (w := w62) (a0 := a0) (a1 := a0) (Ow.rd (Ow.ext o37 (Ext.trans (Ext.trans (Ext.trans (Ext.trans e40 e48) e53) e58) e63))) (Ow.rd o65) (of_decide_eq_true c66)) rfl <| fun w67 e68 => L_op (.plain rfl) rfl (ltb rfl) (X_not rfl) <| L_nil <| thn_n ?_
        rcases bif_two H with ⟨q69, H⟩ | ⟨q69, H⟩
        · refine W_true (congrArg Value.bool q69) <| W_seq <| W_reg <| L_op (.plain rfl) rfl (ltb rfl) (X_assign (v := (.bool false)) rfl) <| L_nil <| thn_n <| W_ret <| thn_r <| fin_r ?_
          obtain rfl := Option.some.inj H
          exact fin1 rfl (Ext.trans (Ext.trans (Ext.trans (Ext.trans (Ext.trans (Ext.trans (Ext.trans (Ext.trans (Ext.trans (Ext.trans (Ext.trans e6 e13) e17) e22) e30) e35) e40) e48) e53) e58) e63) e68)
        · refine W_false (congrArg Value.bool q69) <| W_skip <| thn_n <| W_seq <| W_seq <| W_reg <| L_op (.plain rfl) rfl (ltb rfl) (X_move (v := v41) (K56 9 rfl)) <| L_op (.plain rfl) rfl (ltb rfl) (X_move (v := v_a1) (K56 1 rfl)) ?_
          obtain ⟨c70, H⟩ := bif_some H
          refine L_callO (.plain rfl) rfl (ltb rfl) rfl Tryz.call18 (laws_toRecordS.calls (w := w67) (a0 := a1) (Rd.ext f_a1 (Ext.trans (Ext.trans (Ext.trans (Ext.trans (Ext.trans (Ext.trans (Ext.trans (Ext.trans (Ext.trans (Ext.trans (Ext.trans e6 e13) e17) e22) e30) e35) e40) e48) e53) e58) e63) e68)) (of_decide_eq_true c70)) rfl <| fun v73 w71 e72 o74 => ?_
          obtain ⟨c75, H⟩ := bif_some H
          refine L_callP (.plain rfl) rfl (ltb rfl) rfl Tryz.call21 (laws_eqRecordS.calls (w := w71) (a0 := a1) (a1 := a1) (Ow.rd (Ow.ext o42 (Ext.trans (Ext.trans (Ext.trans (Ext.trans (Ext.trans e48 e53) e58) e63) e68) e72))) (Ow.rd o74) (of_decide_eq_true c75)) rfl <| fun w76 e77 => L_op (.plain rfl) rfl (ltb rfl) (X_not rfl) <| L_nil <| thn_n ?_
          rcases bif_two H with ⟨q78, H⟩ | ⟨q78, H⟩
          · refine W_true (congrArg Value.bool q78) <| W_seq <| W_reg <| L_op (.plain rfl) rfl (ltb rfl) (X_assign (v := (.bool false)) rfl) <| L_nil <| thn_n <| W_ret <| thn_r <| fin_r ?_
            obtain rfl := Option.some.inj H
            exact fin1 rfl (Ext.trans (Ext.trans (Ext.trans (Ext.trans (Ext.trans (Ext.trans (Ext.trans (Ext.trans (Ext.trans (Ext.trans (Ext.trans (Ext.trans (Ext.trans e6 e13) e17) e22) e30) e35) e40) e48) e53) e58) e63) e68) e72) e77)
          · refine W_false (congrArg Value.bool q78) <| W_skip <| thn_n <| W_seq <| W_reg <| L_op (.plain rfl) rfl (ltb rfl) (X_assign (v := (.int .i64 1)) rfl) <| L_nil <| thn_n <| W_seq <| W_reg <| L_op (.plain rfl) rfl (ltb rfl) (X_move (v := v36) (K56 8 rfl)) <| L_op (.plain rfl) rfl (ltb rfl) (X_move (v := (.int .i64 1)) rfl) ?_
            obtain ⟨c79, H⟩ := bif_some H
            obtain ⟨c80, H⟩ := bif_some H
            obtain ⟨c81, H⟩ := bif_some H
            refine L_callM (.plain rfl) rfl (ltb rfl) rfl Tryz.call33 (laws_markRecordS.calls (w := w76) (a0 := a0) (a1 := 1) (Ow.ext o37 (Ext.trans (Ext.trans (Ext.trans (Ext.trans (Ext.trans (Ext.trans (Ext.trans e40 e48) e53) e58) e63) e68) e72) e77)) (Ow.hb o37) (of_decide_eq_true c79) (of_decide_eq_true c80) (of_decide_eq_true c81)) rfl <| fun w82 e83 o84 => L_op (.plain rfl) rfl (ltb rfl) (X_assign (v := (.int .i64 (1 + 5 * (a0.length : Int)))) rfl) <| L_nil <| thn_n <| W_seq <| W_reg <| L_op (.plain rfl) rfl (ltb rfl) (X_move (v := v41) (K56 9 rfl)) <| L_op (.plain rfl) rfl (ltb rfl) (X_move (v := (.int .i64 (1 + 5 * (a0.length : Int)))) rfl) ?_
            obtain ⟨c85, H⟩ := bif_some H
            obtain ⟨c86, H⟩ := bif_some H
            obtain ⟨c87, H⟩ := bif_some H
            refine L_callM (.plain rfl) rfl (ltb rfl) rfl Tryz.call33 (laws_markRecordS.calls (w := w82) (a0 := a1) (a1 := (1 + 5 * (a0.length : Int))) (Ow.later (Ow.ext o42 (Ext.trans (Ext.trans (Ext.trans (Ext.trans (Ext.trans (Ext.trans e48 e53) e58) e63) e68) e72) e77)) e83 (Ext.refl w34).size) (Ow.hb o42) (of_decide_eq_true c85) (of_decide_eq_true c86) (of_decide_eq_true c87)) rfl <| fun w88 e89 o90 => L_op (.plain rfl) rfl (ltb rfl) (X_assign (v := (.int .i64 ((1 + 5 * (a0.length : Int)) + 5 * (a1.length : Int)))) rfl) <| L_nil <| thn_n <| W_seq <| W_seq <| W_reg <| L_op (.plain rfl) rfl (ltb rfl) (X_move (v := (.int .i64 ((1 + 5 * (a0.length : Int)) + 5 * (a1.length : Int)))) rfl) <| L_op (.plain rfl) rfl (ltb rfl) (X_lss rfl rfl) <| L_op (.plain rfl) rfl (ltb rfl) (X_move rfl) ?_
            obtain ⟨z92, x93, H⟩ := bind_some H
            refine L_grpE 5 [(73, 78)] 77 (fun q => q = z92) ?_ ?_
            · rcases bif_two x93 with ⟨b90_, H⟩ | ⟨b90_, H⟩
              · refine L_skip rfl rfl (ltb rfl) (congrArg Value.bool b90_) rfl rfl (ltb rfl) <| L_skip rfl rfl (ltb rfl) (congrArg Value.bool b90_) rfl rfl (ltb rfl) <| L_skip rfl rfl (ltb rfl) (congrArg Value.bool b90_) rfl rfl (ltb rfl) <| L_skip rfl rfl (ltb rfl) (congrArg Value.bool b90_) rfl rfl (ltb rfl) <| L_op (.plain rfl) rfl (ltb rfl) (X_pick (b := true) (v := (.bool true)) (congrArg Value.bool b90_) rfl) ?_
                obtain rfl := Option.some.inj H
                exact L_nil <| thn_n ⟨(Kp.upd (Kp.upd (Kp.upd (Kp.upd (Kp.upd (Kp.refl _ _) rfl) rfl) rfl) rfl) rfl), ⟨_, rfl, rfl⟩, (Ext.refl w88)⟩
              · refine L_op (.guard 2 false 72 rfl rfl (ltb rfl) (congrArg Value.bool b90_)) rfl (ltb rfl) (X_move (v := v49) (K56 10 rfl)) <| L_op (.guard 2 false 72 rfl rfl (ltb rfl) (congrArg Value.bool b90_)) rfl (ltb rfl) (X_move (v := v31) (K56 6 rfl)) ?_
                obtain ⟨c92, H⟩ := bif_some H
                refine L_callP (.guard 2 false 72 rfl rfl (ltb rfl) (congrArg Value.bool b90_)) rfl (ltb rfl) rfl Tryz.call21 (laws_eqRecordS.calls (w := w88) (a0 := (squashOf a0 a1).1) (a1 := (squashOf a0 a1).1) (Ow.rd (Ow.later (Ow.later (Ow.ext o50 (Ext.trans (Ext.trans (Ext.trans (Ext.trans (Ext.trans e53 e58) e63) e68) e72) e77)) e83 e40.size) e89 (Ext.refl w39).size)) (Ow.rd (Ow.ext o32 (Ext.gr (Ext.gr (Ext.trans (Ext.trans (Ext.trans (Ext.trans (Ext.trans (Ext.trans (Ext.trans (Ext.trans e35 e40) e48) e53) e58) e63) e68) e72) e77) e83 (Ext.refl w29).size) e89 e35.size))) (of_decide_eq_true c92)) rfl <| fun w93 e94 => L_op (.guard 2 false 72 rfl rfl (ltb rfl) (congrArg Value.bool b90_)) rfl (ltb rfl) (X_not rfl) <| L_op (.plain rfl) rfl (ltb rfl) (X_pick (b := false) (v := (.bool (law_Squash.e1 a0 a1))) (congrArg Value.bool b90_) rfl) ?_
                obtain rfl := Option.some.inj H
                exact L_nil <| thn_n ⟨(Kp.upd (Kp.upd (Kp.upd (Kp.upd (Kp.upd (Kp.refl _ _) rfl) rfl) rfl) rfl) rfl), ⟨_, rfl, rfl⟩, e94⟩
            intro s98 w94 z99 K95 hq h96 e97
            rw [hq] at h96; clear hq
            refine L_op (.plain rfl) rfl (ltb rfl) (X_move (v := (.bool z92)) h96) <| L_grp 4 [(79, 83)] 82 (.bool (z92 || (!decide (((squashOf a0 a1).2) = ((squashOf a0 a1).2))))) ?_ ?_
            · rcases bool_two z92 with b99_ | b99_
              · exact L_skip rfl rfl (ltb rfl) (congrArg Value.bool b99_) rfl rfl (ltb rfl) <| L_skip rfl rfl (ltb rfl) (congrArg Value.bool b99_) rfl rfl (ltb rfl) <| L_skip rfl rfl (ltb rfl) (congrArg Value.bool b99_) rfl rfl (ltb rfl) <| L_op (.plain rfl) rfl (ltb rfl) (X_pick (b := true) (v := (.bool true)) (congrArg Value.bool b99_) rfl) <| L_nil <| thn_n ⟨(Kp.upd (Kp.upd (Kp.upd (Kp.upd (Kp.refl _ _) rfl) rfl) rfl) rfl), (or_t b99_), (Ext.refl w94)⟩
              · exact L_op (.guard 8 false 78 rfl rfl (ltb rfl) (congrArg Value.bool b99_)) rfl (ltb rfl) (X_move (v := (.int .i64 ((squashOf a0 a1).2))) ((K95 11 rfl).trans (K56 11 rfl))) <| L_op (.guard 8 false 78 rfl rfl (ltb rfl) (congrArg Value.bool b99_)) rfl (ltb rfl) (X_move (v := (.int .i64 ((squashOf a0 a1).2))) ((K95 7 rfl).trans (K56 7 rfl))) <| L_op (.guard 8 false 78 rfl rfl (ltb rfl) (congrArg Value.bool b99_)) rfl (ltb rfl) (X_neq rfl rfl) <| L_op (.plain rfl) rfl (ltb rfl) (X_pick (b := false) (v := (.bool (!decide (((squashOf a0 a1).2) = ((squashOf a0 a1).2))))) (congrArg Value.bool b99_) rfl) <| L_nil <| thn_n ⟨(Kp.upd (Kp.upd (Kp.upd (Kp.upd (Kp.refl _ _) rfl) rfl) rfl) rfl), (or_f b99_), (Ext.refl w94)⟩
            intro s105 w101 K102 h103 e104
            refine L_nil <| thn_n ?_
            rcases bif_two H with ⟨q106, H⟩ | ⟨q106, H⟩
            · refine W_true (h103.trans (congrArg Value.bool q106)) <| W_seq <| W_reg <| L_op (.plain rfl) rfl (ltb rfl) (X_assign (v := (.bool false)) rfl) <| L_nil <| thn_n <| W_ret <| thn_r <| fin_r ?_
              obtain rfl := Option.some.inj H
              exact fin1 rfl (Ext.trans (Ext.trans (Ext.trans (Ext.trans (Ext.trans (Ext.trans (Ext.trans e6 e13) e17) e22) e30) (Ext.gr (Ext.gr (Ext.trans (Ext.trans (Ext.trans (Ext.trans (Ext.trans (Ext.trans (Ext.trans (Ext.trans e35 e40) e48) e53) e58) e63) e68) e72) e77) e83 (Ext.refl w29).size) e89 e35.size)) e97) e104)
            · refine W_false (h103.trans (congrArg Value.bool q106)) <| W_skip <| thn_n <| W_seq <| W_reg <| L_op (.plain rfl) rfl (ltb rfl) (X_assign (v := (.int .i64 1)) rfl) <| L_nil <| thn_n <| W_seq <| W_reg <| L_op (.plain rfl) rfl (ltb rfl) (X_move (v := v49) ((K102 10 rfl).trans ((K95 10 rfl).trans (K56 10 rfl)))) <| L_op (.plain rfl) rfl (ltb rfl) (X_move (v := (.int .i64 1)) rfl) ?_
              obtain ⟨c107, H⟩ := bif_some H
              obtain ⟨c108, H⟩ := bif_some H
              obtain ⟨c109, H⟩ := bif_some H
              refine L_callM (.plain rfl) rfl (ltb rfl) rfl Tryz.call33 (laws_markRecordS.calls (w := w101) (a0 := (squashOf a0 a1).1) (a1 := 1) (Ow.ext (Ow.later (Ow.later (Ow.ext o50 (Ext.trans (Ext.trans (Ext.trans (Ext.trans (Ext.trans e53 e58) e63) e68) e72) e77)) e83 e40.size) e89 (Ext.refl w39).size) (Ext.trans e97 e104)) (Ow.hb o50) (of_decide_eq_true c107) (of_decide_eq_true c108) (of_decide_eq_true c109)) rfl <| fun w110 e111 o112 => L_op (.plain rfl) rfl (ltb rfl) (X_assign (v := (.int .i64 (1 + 5 * (((squashOf a0 a1).1).length : Int)))) rfl) <| L_nil <| thn_n <| W_seq <| W_reg <| L_op (.plain rfl) rfl (ltb rfl) (X_assign (v := (.int .i64 1)) rfl) <| L_nil <| thn_n <| W_seq <| W_reg <| L_op (.plain rfl) rfl (ltb rfl) (X_move (v := v49) ((K102 10 rfl).trans ((K95 10 rfl).trans (K56 10 rfl)))) <| L_op (.plain rfl) rfl (ltb rfl) (X_move (v := (.int .i64 1)) rfl) ?_
              obtain ⟨c113, H⟩ := bif_some H
              obtain ⟨c114, H⟩ := bif_some H
              obtain ⟨c115, H⟩ := bif_some H
              refine L_callP (.plain rfl) rfl (ltb rfl) rfl Tryz.call43 (laws_heldRecordS.calls (w := w110) (a0 := (marksR ((squashOf a0 a1).1).length 1)) (a1 := 1) (Ow.rd o112) (of_decide_eq_true c113) (of_decide_eq_true c114) (of_decide_eq_true c115)) rfl <| fun w116 e117 => L_op (.plain rfl) rfl (ltb rfl) (X_assign (v := (.int .i64 (heldR (marksR ((squashOf a0 a1).1).length 1) 1))) rfl) <| L_nil <| thn_n <| W_seq <| W_seq <| W_reg <| L_op (.plain rfl) rfl (ltb rfl) (X_move (v := (.int .i64 (heldR (marksR ((squashOf a0 a1).1).length 1) 1))) rfl) <| L_op (.plain rfl) rfl (ltb rfl) (X_lss rfl rfl) <| L_nil <| thn_n ?_
              rcases bif_two H with ⟨q118, H⟩ | ⟨q118, H⟩
              · refine W_true (congrArg Value.bool q118) <| W_seq <| W_reg <| L_op (.plain rfl) rfl (ltb rfl) (X_assign (v := (.bool false)) rfl) <| L_nil <| thn_n <| W_ret <| thn_r <| fin_r ?_
                obtain rfl := Option.some.inj H
                exact fin1 rfl (Ext.trans (Ext.trans (Ext.trans (Ext.trans (Ext.trans (Ext.trans e6 e13) e17) e22) e30) (Ext.gr (Ext.trans (Ext.trans (Ext.gr (Ext.gr (Ext.trans (Ext.trans (Ext.trans (Ext.trans (Ext.trans (Ext.trans (Ext.trans (Ext.trans e35 e40) e48) e53) e58) e63) e68) e72) e77) e83 (Ext.refl w29).size) e89 e35.size) e97) e104) e111 (Ext.trans e35 e40).size)) e117)
              · refine W_false (congrArg Value.bool q118) <| W_skip <| thn_n <| W_seq <| W_seq <| W_reg <| L_op (.plain rfl) rfl (ltb rfl) (X_move (v := (.int .i64 (heldR (marksR ((squashOf a0 a1).1).length 1) 1))) rfl) <| L_op (.plain rfl) rfl (ltb rfl) (X_move (v := (.int .i64 (1 + 5 * (((squashOf a0 a1).1).length : Int)))) rfl) <| L_op (.plain rfl) rfl (ltb rfl) (X_neq rfl rfl) <| L_nil <| thn_n ?_
                rcases bif_two H with ⟨q119, H⟩ | ⟨q119, H⟩
                · refine W_true (congrArg Value.bool q119) <| W_seq <| W_reg <| L_op (.plain rfl) rfl (ltb rfl) (X_assign (v := (.bool false)) rfl) <| L_nil <| thn_n <| W_ret <| thn_r <| fin_r ?_
                  obtain rfl := Option.some.inj H
                  exact fin1 rfl (Ext.trans (Ext.trans (Ext.trans (Ext.trans (Ext.trans (Ext.trans e6 e13) e17) e22) e30) (Ext.gr (Ext.trans (Ext.trans (Ext.gr (Ext.gr (Ext.trans (Ext.trans (Ext.trans (Ext.trans (Ext.trans (Ext.trans (Ext.trans (Ext.trans e35 e40) e48) e53) e58) e63) e68) e72) e77) e83 (Ext.refl w29).size) e89 e35.size) e97) e104) e111 (Ext.trans e35 e40).size)) e117)
                · refine W_false (congrArg Value.bool q119) <| W_skip <| thn_n <| W_seq <| W_reg <| L_op (.plain rfl) rfl (ltb rfl) (X_move (v := v_a0) ((K102 0 rfl).trans ((K95 0 rfl).trans (K56 0 rfl)))) ?_
                  obtain ⟨c120, H⟩ := bif_some H
                  refine L_callO (.plain rfl) rfl (ltb rfl) rfl Tryz.call18 (laws_toRecordS.calls (w := w116) (a0 := a0) (Rd.ext f_a0 (Ext.trans (Ext.trans (Ext.trans (Ext.trans (Ext.trans (Ext.trans e6 e13) e17) e22) e30) (Ext.gr (Ext.trans (Ext.trans (Ext.gr (Ext.gr (Ext.trans (Ext.trans (Ext.trans (Ext.trans (Ext.trans (Ext.trans (Ext.trans (Ext.trans e35 e40) e48) e53) e58) e63) e68) e72) e77) e83 (Ext.refl w29).size) e89 e35.size) e97) e104) e111 (Ext.trans e35 e40).size)) e117)) (of_decide_eq_true c120)) rfl <| fun v123 w121 e122 o124 => L_op (.plain rfl) rfl (ltb rfl) (X_move (v := v_a1) ((K102 1 rfl).trans ((K95 1 rfl).trans (K56 1 rfl)))) ?_
                  obtain ⟨c125, H⟩ := bif_some H
                  refine L_callO (.plain rfl) rfl (ltb rfl) rfl Tryz.call18 (laws_toRecordS.calls (w := w121) (a0 := a1) (Rd.ext f_a1 (Ext.trans (Ext.trans (Ext.trans (Ext.trans (Ext.trans (Ext.trans (Ext.trans e6 e13) e17) e22) e30) (Ext.gr (Ext.trans (Ext.trans (Ext.gr (Ext.gr (Ext.trans (Ext.trans (Ext.trans (Ext.trans (Ext.trans (Ext.trans (Ext.trans (Ext.trans e35 e40) e48) e53) e58) e63) e68) e72) e77) e83 (Ext.refl w29).size) e89 e35.size) e97) e104) e111 (Ext.trans e35 e40).size)) e117) e122)) (of_decide_eq_true c125)) rfl <| fun v128 w126 e127 o129 => ?_
                  obtain ⟨c130, H⟩ := bif_some H
                  obtain ⟨c131, H⟩ := bif_some H
                  obtain ⟨c132, H⟩ := bif_some H
                  obtain ⟨c133, H⟩ := bif_some H
                  refine L_callT (.plain rfl) rfl (ltb rfl) rfl Tryz.call42 (impl_Squash.calls (w := w126) (a0 := a0) (a1 := a1) (GV.ext gv (Ext.trans (Ext.trans (Ext.trans (Ext.trans (Ext.trans (Ext.trans (Ext.trans (Ext.trans e6 e13) e17) e22) e30) (Ext.gr (Ext.trans (Ext.trans (Ext.gr (Ext.gr (Ext.trans (Ext.trans (Ext.trans (Ext.trans (Ext.trans (Ext.trans (Ext.trans (Ext.trans e35 e40) e48) e53) e58) e63) e68) e72) e77) e83 (Ext.refl w29).size) e89 e35.size) e97) e104) e111 (Ext.trans e35 e40).size)) e117) e122) e127)) (Ow.rd (Ow.ext o124 e127)) (Ow.rd o129) (of_decide_eq_true c130) (of_decide_eq_true c131) (of_decide_eq_true c132) (of_decide_eq_true c133)) rfl <| fun v136 w134 e135 o137 => L_op (.plain rfl) rfl (ltb rfl) (X_move (v := (.tuple #[v136, (.int .i64 ((squashOf a0 a1).2))])) rfl) <| L_op (.plain rfl) rfl (ltb rfl) (X_extract (v := v136) rfl rfl) <| L_op (.plain rfl) rfl (ltb rfl) (X_extract (v := (.int .i64 ((squashOf a0 a1).2))) rfl rfl) <| L_op (.plain rfl) rfl (ltb rfl) (X_assign (v := v136) rfl) <| L_op (.plain rfl) rfl (ltb rfl) (X_assign (v := (.int .i64 ((squashOf a0 a1).2))) rfl) <| L_nil <| thn_n <| W_seq <| W_seq <| W_reg <| L_op (.plain rfl) rfl (ltb rfl) (X_move (v := v136) rfl) <| L_op (.plain rfl) rfl (ltb rfl) (X_move (v := v31) ((K102 6 rfl).trans ((K95 6 rfl).trans (K56 6 rfl)))) ?_
                  obtain ⟨c138, H⟩ := bif_some H
                  refine L_callP (.plain rfl) rfl (ltb rfl) rfl Tryz.call21 (laws_eqRecordS.calls (w := w134) (a0 := (squashOf a0 a1).1) (a1 := (squashOf a0 a1).1) (Ow.rd o137) (Ow.rd (Ow.ext o32 (Ext.trans (Ext.trans (Ext.trans (Ext.trans (Ext.gr (Ext.trans (Ext.trans (Ext.gr (Ext.gr (Ext.trans (Ext.trans (Ext.trans (Ext.trans (Ext.trans (Ext.trans (Ext.trans (Ext.trans e35 e40) e48) e53) e58) e63) e68) e72) e77) e83 (Ext.refl w29).size) e89 e35.size) e97) e104) e111 (Ext.trans e35 e40).size) e117) e122) e127) e135))) (of_decide_eq_true c138)) rfl <| fun w139 e140 => L_op (.plain rfl) rfl (ltb rfl) (X_not rfl) <| L_op (.plain rfl) rfl (ltb rfl) (X_move (v := (.bool (law_Squash.e1 a0 a1))) rfl) <| L_grp 4 [(107, 111)] 110 (.bool ((law_Squash.e1 a0 a1) || (!decide (((squashOf a0 a1).2) = ((squashOf a0 a1).2))))) ?_ ?_
                  · rcases bool_two (law_Squash.e1 a0 a1) with b140_ | b140_
                    · exact L_skip rfl rfl (ltb rfl) (congrArg Value.bool b140_) rfl rfl (ltb rfl) <| L_skip rfl rfl (ltb rfl) (congrArg Value.bool b140_) rfl rfl (ltb rfl) <| L_skip rfl rfl (ltb rfl) (congrArg Value.bool b140_) rfl rfl (ltb rfl) <| L_op (.plain rfl) rfl (ltb rfl) (X_pick (b := true) (v := (.bool true)) (congrArg Value.bool b140_) rfl) <| L_nil <| thn_n ⟨(Kp.upd (Kp.upd (Kp.upd (Kp.upd (Kp.refl _ _) rfl) rfl) rfl) rfl), (or_t b140_), (Ext.refl w139)⟩
                    · exact L_op (.guard 4 false 106 rfl rfl (ltb rfl) (congrArg Value.bool b140_)) rfl (ltb rfl) (X_move (v := (.int .i64 ((squashOf a0 a1).2))) rfl) <| L_op (.guard 4 false 106 rfl rfl (ltb rfl) (congrArg Value.bool b140_)) rfl (ltb rfl) (X_move (v := (.int .i64 ((squashOf a0 a1).2))) ((K102 7 rfl).trans ((K95 7 rfl).trans (K56 7 rfl)))) <| L_op (.guard 4 false 106 rfl rfl (ltb rfl) (congrArg Value.bool b140_)) rfl (ltb rfl) (X_neq rfl rfl) <| L_op (.plain rfl) rfl (ltb rfl) (X_pick (b := false) (v := (.bool (!decide (((squashOf a0 a1).2) = ((squashOf a0 a1).2))))) (congrArg Value.bool b140_) rfl) <| L_nil <| thn_n ⟨(Kp.upd (Kp.upd (Kp.upd (Kp.upd (Kp.refl _ _) rfl) rfl) rfl) rfl), (or_f b140_), (Ext.refl w139)⟩
                  intro s146 w142 K143 h144 e145
                  refine L_nil <| thn_n ?_
                  rcases bif_two H with ⟨q147, H⟩ | ⟨q147, H⟩
                  · refine W_true (h144.trans (congrArg Value.bool q147)) <| W_seq <| W_reg <| L_op (.plain rfl) rfl (ltb rfl) (X_assign (v := (.bool false)) rfl) <| L_nil <| thn_n <| W_ret <| thn_r <| fin_r ?_
                    obtain rfl := Option.some.inj H
                    exact fin1 rfl (Ext.trans (Ext.trans (Ext.trans (Ext.trans (Ext.trans (Ext.trans (Ext.trans (Ext.trans (Ext.trans (Ext.trans (Ext.trans e6 e13) e17) e22) e30) (Ext.gr (Ext.trans (Ext.trans (Ext.gr (Ext.gr (Ext.trans (Ext.trans (Ext.trans (Ext.trans (Ext.trans (Ext.trans (Ext.trans (Ext.trans e35 e40) e48) e53) e58) e63) e68) e72) e77) e83 (Ext.refl w29).size) e89 e35.size) e97) e104) e111 (Ext.trans e35 e40).size)) e117) e122) e127) e135) e140) e145)
                  · refine W_false (h144.trans (congrArg Value.bool q147)) <| W_skip <| thn_n <| W_seq <| W_reg <| L_op (.plain rfl) rfl (ltb rfl) (X_assign (v := (.int .i64 1)) rfl) <| L_nil <| thn_n <| W_seq <| W_reg <| L_op (.plain rfl) rfl (ltb rfl) (X_move (v := v49) ((K143 10 rfl).trans ((K102 10 rfl).trans ((K95 10 rfl).trans (K56 10 rfl))))) <| L_op (.plain rfl) rfl (ltb rfl) (X_move (v := (.int .i64 1)) rfl) ?_
                    obtain ⟨c148, H⟩ := bif_some H
                    obtain ⟨c149, H⟩ := bif_some H
                    obtain ⟨c150, H⟩ := bif_some H
                    refine L_callP (.plain rfl) rfl (ltb rfl) rfl Tryz.call43 (laws_heldRecordS.calls (w := w142) (a0 := (marksR ((squashOf a0 a1).1).length 1)) (a1 := 1) (Ow.rd (Ow.ext o112 (Ext.trans (Ext.trans (Ext.trans (Ext.trans (Ext.trans e117 e122) e127) e135) e140) e145))) (of_decide_eq_true c148) (of_decide_eq_true c149) (of_decide_eq_true c150)) rfl <| fun w151 e152 => L_op (.plain rfl) rfl (ltb rfl) (X_assign (v := (.int .i64 (heldR (marksR ((squashOf a0 a1).1).length 1) 1))) rfl) <| L_nil <| thn_n <| W_seq <| W_seq <| W_reg <| L_op (.plain rfl) rfl (ltb rfl) (X_move (v := (.int .i64 (heldR (marksR ((squashOf a0 a1).1).length 1) 1))) rfl) <| L_op (.plain rfl) rfl (ltb rfl) (X_lss rfl rfl) <| L_nil <| thn_n ?_
                    rcases bif_two H with ⟨q153, H⟩ | ⟨q153, H⟩
                    · refine W_true (congrArg Value.bool q153) <| W_seq <| W_reg <| L_op (.plain rfl) rfl (ltb rfl) (X_assign (v := (.bool false)) rfl) <| L_nil <| thn_n <| W_ret <| thn_r <| fin_r ?_
                      obtain rfl := Option.some.inj H
                      exact fin1 rfl (Ext.trans (Ext.trans (Ext.trans (Ext.trans (Ext.trans (Ext.trans (Ext.trans (Ext.trans (Ext.trans (Ext.trans (Ext.trans (Ext.trans e6 e13) e17) e22) e30) (Ext.gr (Ext.trans (Ext.trans (Ext.gr (Ext.gr (Ext.trans (Ext.trans (Ext.trans (Ext.trans (Ext.trans (Ext.trans (Ext.trans (Ext.trans e35 e40) e48) e53) e58) e63) e68) e72) e77) e83 (Ext.refl w29).size) e89 e35.size) e97) e104) e111 (Ext.trans e35 e40).size)) e117) e122) e127) e135) e140) e145) e152)
                    · refine W_false (congrArg Value.bool q153) <| W_skip <| thn_n <| W_seq <| W_seq <| W_reg <| L_op (.plain rfl) rfl (ltb rfl) (X_move (v := (.int .i64 (heldR (marksR ((squashOf a0 a1).1).length 1) 1))) rfl) <| L_op (.plain rfl) rfl (ltb rfl) (X_move (v := (.int .i64 (1 + 5 * (((squashOf a0 a1).1).length : Int)))) (K143 13 rfl)) <| L_op (.plain rfl) rfl (ltb rfl) (X_neq rfl rfl) <| L_nil <| thn_n ?_
                      rcases bif_two H with ⟨q154, H⟩ | ⟨q154, H⟩
                      · refine W_true (congrArg Value.bool q154) <| W_seq <| W_reg <| L_op (.plain rfl) rfl (ltb rfl) (X_assign (v := (.bool false)) rfl) <| L_nil <| thn_n <| W_ret <| thn_r <| fin_r ?_
                        obtain rfl := Option.some.inj H
                        exact fin1 rfl (Ext.trans (Ext.trans (Ext.trans (Ext.trans (Ext.trans (Ext.trans (Ext.trans (Ext.trans (Ext.trans (Ext.trans (Ext.trans (Ext.trans e6 e13) e17) e22) e30) (Ext.gr (Ext.trans (Ext.trans (Ext.gr (Ext.gr (Ext.trans (Ext.trans (Ext.trans (Ext.trans (Ext.trans (Ext.trans (Ext.trans (Ext.trans e35 e40) e48) e53) e58) e63) e68) e72) e77) e83 (Ext.refl w29).size) e89 e35.size) e97) e104) e111 (Ext.trans e35 e40).size)) e117) e122) e127) e135) e140) e145) e152)
                      · refine W_false (congrArg Value.bool q154) <| W_skip <| thn_n <| W_seq <| W_reg <| L_op (.plain rfl) rfl (ltb rfl) (X_assign (v := (.bool true)) rfl) <| L_nil <| thn_n <| W_ret <| fin_r ?_
                        obtain rfl := Option.some.inj H
                        exact fin1 rfl (Ext.trans (Ext.trans (Ext.trans (Ext.trans (Ext.trans (Ext.trans (Ext.trans (Ext.trans (Ext.trans (Ext.trans (Ext.trans (Ext.trans e6 e13) e17) e22) e30) (Ext.gr (Ext.trans (Ext.trans (Ext.gr (Ext.gr (Ext.trans (Ext.trans (Ext.trans (Ext.trans (Ext.trans (Ext.trans (Ext.trans (Ext.trans e35 e40) e48) e53) e58) e63) e68) e72) e77) e83 (Ext.refl w29).size) e89 e35.size) e97) e104) e111 (Ext.trans e35 e40).size)) e117) e122) e127) e135) e140) e145) e152)
theorem law_Squash.calls {w : World} {a0 : List Rec} {a1 : List Rec} (gv : GV 0 w) {v_a0 : Value} (f_a0 : Rd 5 encRec w v_a0 a0) {v_a1 : Value} (f_a1 : Rd 5 encRec w v_a1 a1) (h0 : ∀ x ∈ a0, okRec x) (h1 : a0.length ≤ 9223372036854775807) (h2 : ∀ x ∈ a1, okRec x) (h3 : a1.length ≤ 9223372036854775807) :
    Calls Tryz.prog 8 #[v_a0, v_a1] w (Rt (RP w (.bool true))) := law_Squash.walk gv f_a0 f_a1 (law_Squash.eq a0 a1 h0 h1 h2 h3)
end Go.Proofs.YthpjkenkbfkdhaaGreatDoor
